/- Contracts: the answer's rows of edges; whether a number is there. -/
import Derived.Orders
import Derived.Still
import Derived.Below
import Derived.Calls
import Derived.WalkKit
import Derived.WalkSpells
import Derived.WalkLawsBesides
import Derived.BigQuiet
import Derived.Deep.RegionWith
import Derived.Test.YtgplpgldhoelcaaGreatRows
import Derived.ProofKit
import Derived.OpenShut
import Derived.ShutString
import Derived.ChangeOld
import Derived.Lib.SmallJoins
import Derived.Deep.Slices
import Derived.Maps.Own
import Derived.Maps.OwnOps
import Derived.Maps.OwnSet
import Derived.Maps.Views
import Derived.Laws.OwnMore
import Derived.Deep.DeepCutAuto
import Derived.OwnWalk
import Derived.StillTail
import Derived.Lib.SliceRun
import Derived.RangeFuncRecord
import Derived.Lib.AppendZeros
import Derived.Deep.OwnRows
import Derived.Shelf.Bits.Mul64
import Derived.Ground.Names2Prog
import Derived.Shelf.Slices.Clone
import Derived.Ground.SlgnProg
import Derived.Shelf.SlicesE.Clone
import Derived.Test.YtgplpgldhoelcaaGreatProg
import Derived.RangeFuncSeq
import Derived.RangeFuncLeaves
import Derived.RangeFuncCalls
import Derived.WalkMore
import Derived.Maps.AppendAt
import Derived.OrdersIn
import Derived.TacticsIn
import Derived.RangeFuncNested
import Derived.RangeFuncBound
import Derived.Shelf.Abstract
import Derived.Shelf.RegionOpen
import Derived.OwnWalkIn
import Derived.TacticsInMore
import Derived.LoopNIn
import Derived.LoopIn
import Derived.Laws.CopyOwn
import Derived.Deep.RegionLaw
import Derived.Deep.Strs
import Derived.ScopeJumps
import Derived.Shelf.Slices.CompactI
import Derived.Laws.IdiomCopy
import Derived.Shelf.Spec.SlicesInsertGrow
import Derived.Test.YtgplpgldhoelcaaGreatQYenWays00
import Derived.Test.YtgplpgldhoelcaaGreatQYenWays01
import Derived.Test.YtgplpgldhoelcaaGreatQYenWays02
import Derived.Test.YtgplpgldhoelcaaGreatQYenWays03
import Derived.Test.YtgplpgldhoelcaaGreatQYenWays04
import Derived.Test.YtgplpgldhoelcaaGreatQYenWays05
import Derived.Test.YtgplpgldhoelcaaGreatQYenWays06
import Derived.Test.YtgplpgldhoelcaaGreatQYenWays07
import Derived.Test.YtgplpgldhoelcaaGreatQYenWays08
import Derived.Test.YtgplpgldhoelcaaGreatQYenWays09
import Derived.Test.YtgplpgldhoelcaaGreatQYenWays10
import Derived.Test.YtgplpgldhoelcaaGreatQYenWays11
import Derived.Test.YtgplpgldhoelcaaGreatQYenWays12
import Derived.Test.YtgplpgldhoelcaaGreatQYenWays13
import Derived.Test.YtgplpgldhoelcaaGreatQYenWays14
import Derived.Test.YtgplpgldhoelcaaGreatQYenWays15
import Derived.Test.YtgplpgldhoelcaaGreatQYenWays16
import Derived.Test.YtgplpgldhoelcaaGreatQYenWays17
import Derived.Test.YtgplpgldhoelcaaGreatQYenWays18
import Derived.Test.YtgplpgldhoelcaaGreatQYenWays19
import Derived.Test.YtgplpgldhoelcaaGreatQYenWays20
import Derived.Test.YtgplpgldhoelcaaGreatQYenWays21
import Derived.Test.YtgplpgldhoelcaaGreatQYenWays22
import Derived.Test.YtgplpgldhoelcaaGreatQYenWays23
import Derived.Test.YtgplpgldhoelcaaGreatQYenWays24
namespace Go.Proofs.YtgplpgldhoelcaaGreat
open Go Go.RowKit
theorem anyI_false {l : List Int} {p : Int → Bool} {n : Nat} (hl : l.length = n) (h : ∀ j, j < n → p (gi l j) = false) : l.any p = false := by
  rw [List.any_eq_false]
  intro e he
  obtain ⟨j, hj, rfl⟩ := mem_gi he
  rw [h j (by omega)]
  simp
theorem anyI_true {l : List Int} {p : Int → Bool} {j : Nat} (hj : j < l.length) (h : p (gi l j) = true) : l.any p = true := by
  rw [List.any_eq_true]
  exact ⟨gi l j, gi_mem hj, h⟩

set_option maxHeartbeats 2000000 in
theorem r8edges (N : Int) (A : Option Addr) (m c : Nat) (E : List Edg) (B : Option Addr) (n d : Nat) (l : List Int) (w : World) (h : Rd w A 3 m (esCells E)) (hm : m ≤ 1000000) (h' : Rd w B 1 n (l.map (.int .i64))) (hn : n ≤ 1000000) :
    Calls Tryz.prog 85 #[.agg #[.int .i64 N, .slice A m c], .slice B n d] w fun e w' => e = .returned (.bool (edgesB N E l)) ∧ Grows w w' := by
  have HL := hide h.elen
  have HL' := hide (show l.length = n by simpa using h'.len)
  have HR := hide h
  have HS := hide (h'.new (.cells #[.int .i64 N, .slice A m c] 35))
  clear h h'
  have C1 := fun (W : World) (g : Grows w W) => r5Right N A m c E W (HR.out.grows g) hm
  by_cases h0 : rightF N E = 0
  · have HW : Hid (edgesB N E l = !l.any fun e => !edgeB m e) := by unfold edgesB; rw [HL.out, decide_eq_true h0]; rfl
    rw [h0] at C1
    have H1 := hide C1
    clear C1 h0
    go_enter Tryz.func85, Tryz.ntmps85
    go_wp2_with (first | (go_at_call 81; refine (H1.out _ GG).mono ?_; rintro e w' ⟨rfl, hg⟩; (first | obtain ⟨x, rfl⟩ := Grows.later2 hg | obtain ⟨x, rfl⟩ := Grows.later hg); clear hg))
    go_loopw [5] (fun i wr => ∃ k : Nat, k ≤ n ∧ i = .int .i64 (k : Int) ∧ (∃ x : Later (w.alloc (.cells #[.int .i64 N, .slice A m c] 35)), wr = x.now) ∧ ∀ j, j < k → (!edgeB m (gi l j)) = false) (fun i _ => n - (intOf i).toNat)
    case atStart => exact ⟨0, by omega, by go_num, ⟨_, rfl⟩, fun j h1 => by omega⟩
    case round =>
      obtain ⟨q, hq, rfl, ⟨y, rfl⟩, hall⟩ := hrel
      have HA := hide hall
      clear hall
      by_cases hend : n ≤ q
      · go_wp2
        go_ret
        refine ⟨ret_bool ?_, GG⟩
        rw [HW.out, anyI_false (p := fun e => !edgeB m e) HL'.out fun j hj => HA.out j (by omega)]
        rfl
      · obtain ⟨b, off, rfl, hc⟩ := HS.out.ints (by omega)
        have hc1 := hc q (by omega)
        clear hc
        cases hp : edgeB m (gi l q) with
        | true =>
          have HP : Hid ((!edgeB m (gi l q)) = false) := by rw [show Hid ((!edgeB m (gi l q)) = false) = ((!edgeB m (gi l q)) = false) from rfl, hp]; rfl
          have hp' : 0 ≤ gi l q ∧ gi l q < m := by simpa [edgeB] using hp
          obtain ⟨hp1, hp2⟩ := hp'
          clear hp
          go_wp2_with fail
          ((first | refine wp_region_gen2 (by kernel_rfl) (by kernel_rfl) ?_ | refine wp_region_gen (by kernel_rfl) (by kernel_rfl) ?_); (repeat' (first | (refine gLex_val0 rfl (by kernel_rfl) (fun K hK => ?_); (go_simp; (try (simp only [↓IntWalk.iteOmega]; try go_simp)); (try simp (disch := omega) only [IntWalk.i64_in]); (try simp (disch := omega) only [IntWalk.u64_in]); first | (refine hK _ ?_; clear hK K) | (apply Exists.intro; refine ⟨fun x => ?_, hK _ ?_⟩; (first | fail); clear hK K))) | (refine gLex_undef rfl rfl rfl (by kernel_rfl) (fun K hK => ?_); go_simp; refine hK _ ?_; clear hK K) | (refine gLex_ask rfl rfl rfl ?_; first | (apply gAsk_yes; kernel_rfl; intro K hK; (go_simp; (try (simp only [↓IntWalk.iteOmega]; try go_simp)); (try simp (disch := omega) only [IntWalk.i64_in]); (try simp (disch := omega) only [IntWalk.u64_in]); first | (refine hK _ ?_; clear hK K) | (apply Exists.intro; refine ⟨fun x => ?_, hK _ ?_⟩; (first | fail); clear hK K))) | ((first | apply gAsk_no1 | apply gAsk_no2); kernel_rfl; intro K hK; simp [go_sem]; refine hK _ ?_; clear hK K) | (apply gAsk_part; kernel_rfl; all_goals (intro h K hK; (try simp only [Bool.not_true] at h); (try simp only [Bool.not_false] at h); (try simp only [decide_eq_true_eq] at h); (try simp only [decide_eq_false_iff_not] at h); first | (exfalso; first | contradiction | omega) | (go_simp; (try (simp only [↓IntWalk.iteOmega]; try go_simp)); (try simp (disch := omega) only [IntWalk.i64_in]); (try simp (disch := omega) only [IntWalk.u64_in]); first | (refine hK _ ?_; clear hK K) | (apply Exists.intro; refine ⟨fun x => ?_, hK _ ?_⟩; (first | fail); clear hK K))))))); all_goals ((apply gLex_end); intro x))
          go_wp2
          go_roundw
          case measure => simp [intOf]; omega
          case rel =>
            refine ⟨q + 1, by omega, by go_num, ⟨_, rfl⟩, fun j h1 => ?_⟩
            by_cases hj : j = q
            · rw [hj]; exact HP.out
            · exact HA.out j (by omega)
        | false =>
          have HW2 : Hid (edgesB N E l = false) := by
            rw [show Hid (edgesB N E l = false) = (edgesB N E l = false) from rfl, HW.out, anyI_true (p := fun e => !edgeB m e) (l := l) (j := q) (by have := HL'.out; omega) (by simp [hp])]; rfl
          have hp' : gi l q < 0 ∨ (m : Int) ≤ gi l q := by
            have : ¬ (0 ≤ gi l q ∧ gi l q < m) := by simpa [edgeB] using hp
            omega
          clear hp HW
          rcases hp' with hp | hp
          all_goals
            go_wp2_with fail
            ((first | refine wp_region_gen2 (by kernel_rfl) (by kernel_rfl) ?_ | refine wp_region_gen (by kernel_rfl) (by kernel_rfl) ?_); (repeat' (first | (refine gLex_val0 rfl (by kernel_rfl) (fun K hK => ?_); (go_simp; (try (simp only [↓IntWalk.iteOmega]; try go_simp)); (try simp (disch := omega) only [IntWalk.i64_in]); (try simp (disch := omega) only [IntWalk.u64_in]); first | (refine hK _ ?_; clear hK K) | (apply Exists.intro; refine ⟨fun x => ?_, hK _ ?_⟩; (first | fail); clear hK K))) | (refine gLex_undef rfl rfl rfl (by kernel_rfl) (fun K hK => ?_); go_simp; refine hK _ ?_; clear hK K) | (refine gLex_ask rfl rfl rfl ?_; first | (apply gAsk_yes; kernel_rfl; intro K hK; (go_simp; (try (simp only [↓IntWalk.iteOmega]; try go_simp)); (try simp (disch := omega) only [IntWalk.i64_in]); (try simp (disch := omega) only [IntWalk.u64_in]); first | (refine hK _ ?_; clear hK K) | (apply Exists.intro; refine ⟨fun x => ?_, hK _ ?_⟩; (first | fail); clear hK K))) | ((first | apply gAsk_no1 | apply gAsk_no2); kernel_rfl; intro K hK; simp [go_sem]; refine hK _ ?_; clear hK K) | (apply gAsk_part; kernel_rfl; all_goals (intro h K hK; (try simp only [Bool.not_true] at h); (try simp only [Bool.not_false] at h); (try simp only [decide_eq_true_eq] at h); (try simp only [decide_eq_false_iff_not] at h); first | (exfalso; first | contradiction | omega) | (go_simp; (try (simp only [↓IntWalk.iteOmega]; try go_simp)); (try simp (disch := omega) only [IntWalk.i64_in]); (try simp (disch := omega) only [IntWalk.u64_in]); first | (refine hK _ ?_; clear hK K) | (apply Exists.intro; refine ⟨fun x => ?_, hK _ ?_⟩; (first | fail); clear hK K))))))); all_goals ((apply gLex_end); intro x))
            go_wp2
            go_ret
            exact ⟨ret_bool HW2.out.symm, GG⟩
  · have HW : Hid (edgesB N E l = false) := by unfold edgesB; rw [decide_eq_false h0]; rfl
    have hd : (rightF N E != 0) = true := by simpa using h0
    have H1 := hide C1
    clear C1 h0
    go_enter Tryz.func85, Tryz.ntmps85
    go_wp2_with (first | (go_at_call 81; refine (H1.out _ GG).mono ?_; rintro e w' ⟨rfl, hg⟩; (first | obtain ⟨x, rfl⟩ := Grows.later2 hg | obtain ⟨x, rfl⟩ := Grows.later hg); clear hg))
    go_ret
    exact ⟨ret_bool HW.out.symm, GG⟩

end Go.Proofs.YtgplpgldhoelcaaGreat

namespace Go.Proofs.YtgplpgldhoelcaaGreat
open Go Go.RowKit
theorem lkB_mono {E : List Edg} {s : Int} {l : List Int} {j : Nat} (h : lkB E s l j = false) : ∀ k, lkB E s l (j + k) = false
  | 0 => h
  | k + 1 => by show (lkB E s l (j + k) && _) = false; rw [lkB_mono h k]; rfl
theorem ndL_succ (E : List Edg) (s : Int) (l : List Int) (k : Nat) : ndL E s l (k + 1) = ndL E s l k ++ [ndI E s l k] := by unfold ndL; rw [List.range_succ, List.map_append]; rfl
def GiveIB (w : World) (l : List Int) (b : Bool) (e : Ending) (w' : World) : Prop := ∃ A c, e = .returned (.tuple #[.slice A l.length c, .bool b]) ∧ Rd w' A 1 l.length (l.map (.int .i64)) ∧ Grows w w'
def GiveIBc (w : World) (l : List Int) (b : Bool) (e : Ending) (w' : World) : Prop := ∃ A c, e = .returned (.tuple #[.slice A l.length c, .bool b]) ∧ l.length ≤ c ∧ Rd w' A 1 l.length (l.map (.int .i64)) ∧ Grows w w'
theorem edges_in {N : Int} {E : List Edg} {l : List Int} (h : edgesB N E l = true) {k : Nat} (hk : k < l.length) : 0 ≤ gi l k ∧ (gi l k).toNat < E.length := by
  unfold edgesB at h
  simp only [Bool.and_eq_true, Bool.not_eq_true', List.any_eq_false] at h
  have := h.2 _ (gi_mem hk)
  unfold edgeB at this
  simp at this
  omega
set_option maxRecDepth 20000 in
set_option maxHeartbeats 2000000 in
theorem r8NodesC (N : Int) (A : Option Addr) (m c : Nat) (E : List Edg) (s : Int) (B : Option Addr) (n d : Nat) (l : List Int) (w : World) (h : Rd w A 3 m (esCells E)) (hm : m ≤ 1000000) (h' : Rd w B 1 n (l.map (.int .i64))) (hn : n ≤ 1000000) :
    Calls Tryz.prog 74 #[.agg #[.int .i64 N, .slice A m c], .int .i64 s, .slice B n d] w (GiveIBc w (nodesL N E s l) (isB N E s l)) := by
  have HL := hide (show l.length = n by simpa using h'.len)
  have HE := hide h.elen
  have C1 := fun (W : World) (g : Grows w W) => r8edges N A m c E B n d l W (h.grows g) hm (h'.grows g) hn
  have HR := hide h
  have HS := hide h'
  clear h h'
  cases he : edgesB N E l with
  | false =>
    have e1 : isB N E s l = false := by unfold isB; rw [he]; rfl
    have HV : Hid (nodesL N E s l = []) := by unfold nodesL; rw [e1]; rfl
    rw [HV.out, e1]
    rw [he] at C1
    have H1 := hide C1
    clear C1 he e1
    go_enter Tryz.func74, Tryz.ntmps74
    go_wp2_with (first | (go_at_call 85; refine (H1.out _ GG).mono ?_; rintro e w' ⟨rfl, hg⟩; (first | obtain ⟨x, rfl⟩ := Grows.later2 hg | obtain ⟨x, rfl⟩ := Grows.later hg); clear hg))
    go_ret2
    exact ⟨none, 0, rfl, Nat.le_refl _, ⟨rfl, fun h => absurd h (by simp)⟩, GG⟩
  | true =>
  rw [he] at C1
  have H1 := hide C1
  cases hs : nodeB N s with
  | false =>
    have e1 : isB N E s l = false := by unfold isB; rw [he, hs]; rfl
    have HV : Hid (nodesL N E s l = []) := by unfold nodesL; rw [e1]; rfl
    rw [HV.out, e1]
    have hs2 : ¬ (0 ≤ s ∧ s < N) := by unfold nodeB at hs; simpa using hs
    clear C1 he e1 hs
    go_enter Tryz.func74, Tryz.ntmps74
    go_wp2_with (first | (go_at_call 85; refine (H1.out _ GG).mono ?_; rintro e w' ⟨rfl, hg⟩; (first | obtain ⟨x, rfl⟩ := Grows.later2 hg | obtain ⟨x, rfl⟩ := Grows.later hg); clear hg))
    all_goals first | (exfalso; omega) | skip
    all_goals go_ret2
    all_goals exact ⟨none, 0, rfl, Nat.le_refl _, ⟨rfl, fun h => absurd h (by simp)⟩, GG⟩
  | true =>
  have HV : Hid (isB N E s l = lkB E s l n) := by unfold isB; rw [he, hs, HL.out]; exact rfl
  have HI := hide (fun k (hk : k < n) => edges_in he (k := k) (by rw [HL.out]; exact hk))
  obtain ⟨hs1, hs2⟩ : 0 ≤ s ∧ s < N := by unfold nodeB at hs; simpa using hs
  clear C1 he hs
  go_enter Tryz.func74, Tryz.ntmps74
  go_wp2_with (first | (go_at_call 85; refine (H1.out _ GG).mono ?_; rintro e w' ⟨rfl, hg⟩; (first | obtain ⟨x, rfl⟩ := Grows.later2 hg | obtain ⟨x, rfl⟩ := Grows.later hg); clear hg))
  all_goals first | (exfalso; omega) | skip
  go_loopw [9, 8] (fun i u wr => ∃ k : Nat, k ≤ n ∧ i = .int .i64 (k : Int) ∧ lkB E s l k = true ∧ ∃ y : Later (w.alloc (.cells #[.int .i64 N, .slice A m c] 35)), wr = y.now ∧
    ∃ A' c', u = .slice A' (k + 1) c' ∧ Own y.now (w.alloc (.cells #[.int .i64 N, .slice A m c] 35)).heap.size 3 1 A' (k + 1) c' ((ndL E s l (k + 1)).map (.int .i64))) (fun i _ _ => n - (intOf i).toNat)
  case atStart =>
    refine ⟨0, by omega, by go_num, rfl, ⟨_, x.grows.new _⟩, rfl, _, _, rfl, ?_⟩
    exact Own.build x.now 3 [.int .i64 s] _ x.size (by simp)
  case round =>
    obtain ⟨k, hk, rfl, hlk, y, rfl, A', c', rfl, hown⟩ := hrel
    have HO := hide hown
    have HK := hide hlk
    clear hown hlk
    by_cases hend : n ≤ k
    · have hkm : k = n := by omega
      subst hkm
      go_wp2
      go_ret2
      have e1 : isB N E s l = true := HV.out.trans HK.out
      have e2 : nodesL N E s l = ndL E s l (k + 1) := by unfold nodesL; rw [e1, HL.out]; rfl
      rw [e1, e2]
      refine ⟨A', c', by rw [ndL_len]; rfl, by rw [ndL_len]; exact HO.out.cap, ?_, GG⟩
      rw [ndL_len]
      exact HO.out.rd
    · obtain ⟨b, off, rfl, hc⟩ := HS.out.intsH (by omega)
      have c1 := hc k (by omega)
      obtain ⟨i1, i2⟩ := HI.out k (by omega)
      rw [HE.out] at i2
      obtain ⟨b2, off2, rfl, hc2⟩ := HR.out.edgesH (by omega)
      obtain ⟨c2, c3, c4⟩ := hc2 (gi l k).toNat i2
      obtain ⟨g, rfl, hg, hcs⟩ := HO.out.at (by omega)
      have c5 := hcs k _ (by rw [List.getElem?_map, ndL_succ, List.getElem?_append_right (by rw [ndL_len]; omega), ndL_len, Nat.sub_self]; rfl)
      clear hcs
      clear hc hc2
      by_cases hf : (ge E (gi l k).toNat).f = ndI E s l k
      · have hlk2 : Hid (lkB E s l (k + 1) = true) := by show (lkB E s l k && decide _) = true; rw [HK.out, decide_eq_true hf]; rfl
        have HN : Hid (ndI E s l (k + 1) = (ge E (gi l k).toNat).t) := rfl
        have HL2 := hide (ndL_succ E s l (k + 1))
        have hne : ((ge E (gi l k).toNat).f == ndI E s l k) = true := by simpa using hf
        clear hf
        generalize (ge E (gi l k).toNat).t = t at *
        generalize (ge E (gi l k).toNat).f = f at *
        generalize hq : gi l k = q at *
        obtain ⟨q, rfl⟩ := Int.eq_ofNat_of_zero_le i1
        simp only [Int.toNat_natCast] at i2 c2 c3 c4
        generalize (ge E q).w = w3 at *
        go_wp2_with fail
        go_region
        go_wp2_with fail
        go_region
        go_wp2_with (at_builtin; refine wp_app1 elemInt rfl _ _ rfl _ GG (k + 1) c' _ _ rfl (HO.out.grows GG) _ _ _ rfl inferInstance rfl (by omega) ?_; intro A3 c3 y3 hown3; have HO3 := hide hown3; clear hown3)
        refine ⟨⟨k + 1, by omega, by go_num, hlk2.out, y3, rfl, A3, c3, rfl, ?_⟩, by simp [intOf]; omega⟩
        rw [HL2.out, HN.out, List.map_append]
        exact HO3.out
      · have e1 : isB N E s l = false := by
          have : lkB E s l (k + 1) = false := by show (lkB E s l k && decide _) = false; rw [decide_eq_false hf, Bool.and_false]
          have := lkB_mono this (n - (k + 1))
          rw [show k + 1 + (n - (k + 1)) = n by omega] at this
          exact HV.out.trans this
        have hne : ((ge E (gi l k).toNat).f == ndI E s l k) = false := by simpa using hf
        have HW : Hid (nodesL N E s l = []) := by unfold nodesL; rw [e1]; rfl
        rw [HW.out, e1]
        clear hf e1
        generalize (ge E (gi l k).toNat).t = t at *
        generalize (ge E (gi l k).toNat).f = f at *
        generalize hq : gi l k = q at *
        obtain ⟨q, rfl⟩ := Int.eq_ofNat_of_zero_le i1
        simp only [Int.toNat_natCast] at i2 c2 c3 c4
        generalize (ge E q).w = w3 at *
        go_wp2_with fail
        go_region
        go_wp2_with fail
        go_region
        go_wp2
        go_ret2
        exact ⟨none, 0, rfl, Nat.le_refl _, ⟨rfl, fun h => absurd h (by simp)⟩, GG⟩
theorem r8Nodes (N : Int) (A : Option Addr) (m c : Nat) (E : List Edg) (s : Int) (B : Option Addr) (n d : Nat) (l : List Int) (w : World) (h : Rd w A 3 m (esCells E)) (hm : m ≤ 1000000) (h' : Rd w B 1 n (l.map (.int .i64))) (hn : n ≤ 1000000) :
    Calls Tryz.prog 74 #[.agg #[.int .i64 N, .slice A m c], .int .i64 s, .slice B n d] w (GiveIB w (nodesL N E s l) (isB N E s l)) :=
  (r8NodesC N A m c E s B n d l w h hm h' hn).mono fun _ _ ⟨A, c, h1, _, h2⟩ => ⟨A, c, h1, h2⟩
end Go.Proofs.YtgplpgldhoelcaaGreat

namespace Go.Proofs.YtgplpgldhoelcaaGreat
open Go Go.RowKit
set_option maxRecDepth 20000 in
set_option maxHeartbeats 2000000 in
theorem r8Simple (N : Int) (A : Option Addr) (m c : Nat) (E : List Edg) (s : Int) (B : Option Addr) (n d : Nat) (l : List Int) (w : World) (h : Rd w A 3 m (esCells E)) (hm : m ≤ 1000000) (h' : Rd w B 1 n (l.map (.int .i64))) (hn : n ≤ 100000) :
    Calls Tryz.prog 23 #[.agg #[.int .i64 N, .slice A m c], .int .i64 s, .slice B n d] w fun e w' => e = .returned (.bool (simB N E s l)) ∧ Grows w w' := by
  have HV : Hid (simB N E s l = (isB N E s l && oneB (nodesL N E s l) (nodesL N E s l).length)) := rfl
  have hlen : (nodesL N E s l).length ≤ 100001 := by
    have : l.length = n := by simpa using h'.len
    unfold nodesL
    split
    · rw [ndL_len]; omega
    · simp
  have C1 := hide (fun (W : World) (g : Grows w W) => r8NodesC N A m c E s B n d l W (h.grows g) hm (h'.grows g) (by omega))
  clear h h'
  generalize nodesL N E s l = nl at *
  generalize isB N E s l = bb at *
  go_enter Tryz.func23, Tryz.ntmps23
  go_wp2_with (go_at_call 74; refine (C1.out _ GG).mono ?_; rintro e w' ⟨A1, c1, rfl, hc1, hr1, hg⟩; obtain ⟨x1, rfl⟩ := hg.later; have HR := hide hr1; have HC := hide hc1; clear hg hr1 hc1)
  go_loopw [9] (fun i wr => ∃ k : Nat, k ≤ nl.length ∧ i = .int .i64 (k : Int) ∧ (∃ y : Later x1.now, wr = y.now) ∧ Hid (∀ j, j < k → gi nl j ∉ nl.take j)) (fun i _ => nl.length - (intOf i).toNat)
  case atStart => exact ⟨0, by omega, by go_num, ⟨⟨_, Grows.refl _⟩, rfl⟩, fun j h => by omega⟩
  case round =>
    obtain ⟨k, hk, rfl, ⟨y, rfl⟩, HA⟩ := hrel
    by_cases hend : nl.length ≤ k
    · have HW : Hid (oneB nl nl.length = true) := decide_eq_true (fun j hj => HA.out j (by omega))
      go_wp2
      go_ret
      exact ⟨ret_bool (by rw [HV.out, HW.out, Bool.and_true]), GG⟩
    · obtain ⟨b, off, rfl, hc⟩ := HR.out.intsH (by omega)
      have c1' := hc k (by omega)
      clear hc
      have hcap : k ≤ c1 := by have := HC.out; omega
      have D1 := fun (W : World) (g : Grows x1.now W) => calls_same (r1Has (some ⟨b, off, none⟩) k c1 (nl.take k) (gi nl k) W (Rd.take (HR.out.grows g) (by omega)) (by omega))
      cases hin : decide (gi nl k ∈ nl.take k) with
      | true =>
        have HW : Hid (oneB nl nl.length = false) := decide_eq_false (fun h => h k (by omega) (of_decide_eq_true hin))
        rw [hin] at D1
        have K1 := hide D1
        clear D1 hin
        go_wp2_with fail
        ((first | refine wp_region_gen (by kernel_rfl) (by kernel_rfl) ?_); (repeat' (first | (refine gLex_val0 rfl (by kernel_rfl) (fun K hK => ?_); (go_simp; (try (simp only [↓IntWalk.iteOmega]; try go_simp)); (try simp (disch := omega) only [IntWalk.i64_in]); (try simp (disch := omega) only [IntWalk.u64_in]); first | (refine hK _ ?_; clear hK K) | (apply Exists.intro; refine ⟨fun x => ?_, hK _ ?_⟩; (first | (go_at_call 57; exact K1.out _ GG)); clear hK K))) | (refine gLex_undef rfl rfl rfl (by kernel_rfl) (fun K hK => ?_); go_simp; refine hK _ ?_; clear hK K) | (refine gLex_ask rfl rfl rfl ?_; first | (apply gAsk_yes; kernel_rfl; intro K hK; (go_simp; (try (simp only [↓IntWalk.iteOmega]; try go_simp)); (try simp (disch := omega) only [IntWalk.i64_in]); (try simp (disch := omega) only [IntWalk.u64_in]); first | (refine hK _ ?_; clear hK K) | (apply Exists.intro; refine ⟨fun x => ?_, hK _ ?_⟩; (first | (go_at_call 57; exact K1.out _ GG)); clear hK K))) | ((first | apply gAsk_no1 | apply gAsk_no2); kernel_rfl; intro K hK; simp [go_sem]; refine hK _ ?_; clear hK K) | (apply gAsk_part; kernel_rfl; all_goals (intro h K hK; (try simp only [Bool.not_true] at h); (try simp only [Bool.not_false] at h); (try simp only [decide_eq_true_eq] at h); (try simp only [decide_eq_false_iff_not] at h); first | (exfalso; first | contradiction | omega) | (go_simp; (try (simp only [↓IntWalk.iteOmega]; try go_simp)); (try simp (disch := omega) only [IntWalk.i64_in]); (try simp (disch := omega) only [IntWalk.u64_in]); first | (refine hK _ ?_; clear hK K) | (apply Exists.intro; refine ⟨fun x => ?_, hK _ ?_⟩; (first | (go_at_call 57; exact K1.out _ GG)); clear hK K))))))); all_goals ((apply gLex_end); intro x))
        go_wp2
        go_ret
        exact ⟨ret_bool (by rw [HV.out, HW.out, Bool.and_false]), GG⟩
      | false =>
        have HN : Hid (∀ j, j < k + 1 → gi nl j ∉ nl.take j) := fun j hj => by
          by_cases e : j = k
          · rw [e]; exact of_decide_eq_false hin
          · exact HA.out j (by omega)
        rw [hin] at D1
        have K1 := hide D1
        clear D1 hin
        go_wp2_with fail
        ((first | refine wp_region_gen (by kernel_rfl) (by kernel_rfl) ?_); (repeat' (first | (refine gLex_val0 rfl (by kernel_rfl) (fun K hK => ?_); (go_simp; (try (simp only [↓IntWalk.iteOmega]; try go_simp)); (try simp (disch := omega) only [IntWalk.i64_in]); (try simp (disch := omega) only [IntWalk.u64_in]); first | (refine hK _ ?_; clear hK K) | (apply Exists.intro; refine ⟨fun x => ?_, hK _ ?_⟩; (first | (go_at_call 57; exact K1.out _ GG)); clear hK K))) | (refine gLex_undef rfl rfl rfl (by kernel_rfl) (fun K hK => ?_); go_simp; refine hK _ ?_; clear hK K) | (refine gLex_ask rfl rfl rfl ?_; first | (apply gAsk_yes; kernel_rfl; intro K hK; (go_simp; (try (simp only [↓IntWalk.iteOmega]; try go_simp)); (try simp (disch := omega) only [IntWalk.i64_in]); (try simp (disch := omega) only [IntWalk.u64_in]); first | (refine hK _ ?_; clear hK K) | (apply Exists.intro; refine ⟨fun x => ?_, hK _ ?_⟩; (first | (go_at_call 57; exact K1.out _ GG)); clear hK K))) | ((first | apply gAsk_no1 | apply gAsk_no2); kernel_rfl; intro K hK; simp [go_sem]; refine hK _ ?_; clear hK K) | (apply gAsk_part; kernel_rfl; all_goals (intro h K hK; (try simp only [Bool.not_true] at h); (try simp only [Bool.not_false] at h); (try simp only [decide_eq_true_eq] at h); (try simp only [decide_eq_false_iff_not] at h); first | (exfalso; first | contradiction | omega) | (go_simp; (try (simp only [↓IntWalk.iteOmega]; try go_simp)); (try simp (disch := omega) only [IntWalk.i64_in]); (try simp (disch := omega) only [IntWalk.u64_in]); first | (refine hK _ ?_; clear hK K) | (apply Exists.intro; refine ⟨fun x => ?_, hK _ ?_⟩; (first | (go_at_call 57; exact K1.out _ GG)); clear hK K))))))); all_goals ((apply gLex_end); intro x))
        go_wp2
        exact ⟨⟨k + 1, by omega, by go_num, Grows.later GG, HN⟩, by simp [intOf]; omega⟩
end Go.Proofs.YtgplpgldhoelcaaGreat

namespace Go.Proofs.YtgplpgldhoelcaaGreat
open Go Go.RowKit
set_option maxRecDepth 20000 in
set_option maxHeartbeats 2000000 in
theorem r8Weight (N : Int) (A : Option Addr) (m c : Nat) (E : List Edg) (B : Option Addr) (n d : Nat) (l : List Int) (w : World) (h : Rd w A 3 m (esCells E)) (hm : m ≤ 1000000) (h' : Rd w B 1 n (l.map (.int .i64))) (hn : n ≤ 1000000) :
    Calls Tryz.prog 32 #[.agg #[.int .i64 N, .slice A m c], .slice B n d] w fun e w' => e = .returned (.tuple #[.int .u64 (if edgesB N E l then wtK E l l.length else 0), .bool (edgesB N E l)]) ∧ Grows w w' := by
  have HL := hide (show l.length = n by simpa using h'.len)
  have HE := hide h.elen
  have C1 := fun (W : World) (g : Grows w W) => r8edges N A m c E B n d l W (h.grows g) hm (h'.grows g) hn
  have HR := hide h
  have HS := hide h'
  clear h h'
  cases he : edgesB N E l with
  | false =>
    rw [he] at C1
    have H1 := hide C1
    clear C1 he
    go_enter Tryz.func32, Tryz.ntmps32
    go_wp2_with (first | (go_at_call 85; refine (H1.out _ GG).mono ?_; rintro e w' ⟨rfl, hg⟩; (first | obtain ⟨x, rfl⟩ := Grows.later2 hg | obtain ⟨x, rfl⟩ := Grows.later hg); clear hg))
    go_ret2
    exact ⟨rfl, GG⟩
  | true =>
    have HI := hide (fun k (hk : k < n) => edges_in2 he (k := k) (by rw [HL.out]; exact hk))
    have HB := hide (fun k (hk : k ≤ n) => wtK_bd he k (by rw [HL.out]; exact hk))
    rw [he] at C1
    have H1 := hide C1
    clear C1 he
    go_enter Tryz.func32, Tryz.ntmps32
    go_wp2_with (first | (go_at_call 85; refine (H1.out _ GG).mono ?_; rintro e w' ⟨rfl, hg⟩; (first | obtain ⟨x, rfl⟩ := Grows.later2 hg | obtain ⟨x, rfl⟩ := Grows.later hg); clear hg))
    go_loopw [7, 6] (fun i u wr => ∃ k : Nat, k ≤ n ∧ i = .int .i64 (k : Int) ∧ u = .int .u64 (wtK E l k) ∧ ∃ y : Later x.now, wr = y.now) (fun i _ _ => n - (intOf i).toNat)
    case atStart => exact ⟨0, by omega, by go_num, rfl, ⟨_, Grows.refl _⟩, rfl⟩
    case round =>
      obtain ⟨k, hk, rfl, rfl, y, rfl⟩ := hrel
      by_cases hend : n ≤ k
      · have hkm : k = n := by omega
        subst hkm
        go_wp2
        go_ret2
        exact ⟨by rw [HL.out]; rfl, GG⟩
      · obtain ⟨b, off, rfl, hc⟩ := HS.out.intsH (by omega)
        have c1 := hc k (by omega)
        obtain ⟨i0, i1, i2⟩ := HI.out k (by omega)
        have hw := right_weight i0 i2
        rw [HE.out] at i2
        obtain ⟨b2, off2, rfl, hc2⟩ := HR.out.edgesH (by omega)
        obtain ⟨c2, c3, c4⟩ := hc2 (gi l k).toNat i2
        obtain ⟨b0, b1⟩ := HB.out k (by omega)
        have HN := hide (wtK_succ E l k)
        clear hc hc2 i0
        generalize wtK E l k = a at *
        generalize (ge E (gi l k).toNat).w = v at *
        generalize hq : gi l k = q at *
        obtain ⟨q, rfl⟩ := Int.eq_ofNat_of_zero_le i1
        simp only [Int.toNat_natCast] at i2 c2 c3 c4
        go_wp2_with fail
        ((first | refine wp_region_gen (by kernel_rfl) (by kernel_rfl) ?_); (repeat' (first | (refine gLex_val0 rfl (by kernel_rfl) (fun K hK => ?_); (go_simp; (try (simp only [↓IntWalk.iteOmega]; try go_simp)); (try simp (disch := omega) only [IntWalk.i64_in]); (try simp (disch := omega) only [IntWalk.u64_in]); first | (refine hK _ ?_; clear hK K) | (apply Exists.intro; refine ⟨fun x => ?_, hK _ ?_⟩; (first | fail); clear hK K))) | (refine gLex_undef rfl rfl rfl (by kernel_rfl) (fun K hK => ?_); go_simp; refine hK _ ?_; clear hK K) | (refine gLex_ask rfl rfl rfl ?_; first | (apply gAsk_yes; kernel_rfl; intro K hK; (go_simp; (try (simp only [↓IntWalk.iteOmega]; try go_simp)); (try simp (disch := omega) only [IntWalk.i64_in]); (try simp (disch := omega) only [IntWalk.u64_in]); first | (refine hK _ ?_; clear hK K) | (apply Exists.intro; refine ⟨fun x => ?_, hK _ ?_⟩; (first | fail); clear hK K))) | ((first | apply gAsk_no1 | apply gAsk_no2); kernel_rfl; intro K hK; simp [go_sem]; refine hK _ ?_; clear hK K) | (apply gAsk_part; kernel_rfl; all_goals (intro h K hK; (try simp only [Bool.not_true] at h); (try simp only [Bool.not_false] at h); (try simp only [decide_eq_true_eq] at h); (try simp only [decide_eq_false_iff_not] at h); first | (exfalso; first | contradiction | omega) | (go_simp; (try (simp only [↓IntWalk.iteOmega]; try go_simp)); (try simp (disch := omega) only [IntWalk.i64_in]); (try simp (disch := omega) only [IntWalk.u64_in]); first | (refine hK _ ?_; clear hK K) | (apply Exists.intro; refine ⟨fun x => ?_, hK _ ?_⟩; (first | fail); clear hK K))))))); all_goals ((apply gLex_end); intro x))
        go_wp2
        exact ⟨⟨k + 1, by omega, by go_num, by rw [HN.out], Grows.later GG⟩, by simp [intOf]; omega⟩
end Go.Proofs.YtgplpgldhoelcaaGreat

namespace Go.Proofs.YtgplpgldhoelcaaGreat
open Go Go.RowKit
attribute [local go_sem] Oper.semAt_some
theorem isW.nds {N : Nat} {E : List Edg} {t v : Nat} {l : List Nat} (h : isW E t v l) (hr : rightF (N : Int) E = 0) : ndL E (v : Int) (ciL l) (l.length + 1) = ciL (ndsN E v l) := by
  obtain ⟨_, _, _, r4, _⟩ := right_in hr
  rw [Int.toNat_natCast] at r4
  refine List.ext_getElem (by simp [ndL_len, ciL, ndsN]) fun k h1 h2 => ?_
  have hk : k ≤ l.length := by rw [ndL_len] at h1; omega
  have e := ndI_is r4 (v := v) h.edges k hk
  simp only [ndL, List.getElem_map, List.getElem_range, ciL]
  exact e
theorem SP.sim {N : Nat} {E : List Edg} {s t : Nat} {l : List Nat} (h : SP E s t l) (hr : rightF (N : Int) E = 0) (hs : s < N) : simB (N : Int) E (s : Int) (ciL l) = true := by
  have e : nodesL (N : Int) E (s : Int) (ciL l) = ciL (ndsN E s l) := by
    unfold nodesL
    rw [if_pos (h.1.is hr hs), ciL_len, h.1.nds hr]
  unfold simB
  rw [h.1.is hr hs, e, Bool.true_and]
  exact oneB_is h.2
end Go.Proofs.YtgplpgldhoelcaaGreat

namespace Go.Proofs.YtgplpgldhoelcaaGreat
open Go Go.RowKit
attribute [local go_sem] Oper.semAt_some
theorem yeTold (b N : Nat) (E : List Edg) (s t : Nat) (Ag : Option Addr) (cg : Nat) (At : Option Addr) (ct : Nat) (rsT : List Rt) (T : List (List Nat)) (Aw : Option Addr) (cw : Nat) (rsW : List Rt) (W : List (List Nat)) (w : World) (h : YnAt w b N E s t Ag cg At ct rsT T Aw cw rsW W) :
    Calls Tryz.prog 30 #[.pointer (some ⟨b, 0, none⟩)] w fun e w' => e = .returned (.int .i64 (T.length : Int)) ∧ Grows w w' := by
  have hl : rsT.length = T.length := by rw [h.told.len]; simp [rtW]
  have hb := h.box
  rw [hl] at hb
  clear h hl
  generalize T.length = nT at *
  go_enter Tryz.func30, Tryz.ntmps30
  go_wp2_with fail
  go_ret
  exact ⟨rfl, GG⟩
end Go.Proofs.YtgplpgldhoelcaaGreat

namespace Go.Proofs.YtgplpgldhoelcaaGreat
open Go Go.RowKit
attribute [local go_sem] Oper.semAt_some
structure WtC where
  g : Nat
  a1 : Option Addr
  c1 : Nat
  a2 : Option Addr
  c2 : Nat
set_option maxRecDepth 20000 in
set_option maxHeartbeats 8000000 in
theorem yeWaits (b N : Nat) (E : List Edg) (s t : Nat) (Ag : Option Addr) (cg : Nat) (At : Option Addr) (ct : Nat) (rsT : List Rt) (T : List (List Nat)) (Aw : Option Addr) (cw : Nat) (rsW : List Rt) (W0 : List (List Nat)) (w : World) (h : YnAt w b N E s t Ag cg At ct rsT T Aw cw rsW W0) (hn : W0.length ≤ 100000) (hlen : ∀ p ∈ W0, p.length ≤ 1000000) :
    Calls Tryz.prog 31 #[.pointer (some ⟨b, 0, none⟩)] w fun e w' => ∃ A' c' rs', e = .returned (.slice A' rs'.length c') ∧ RtsAt w' w.heap.size A' c' rs' (rtW E W0) ∧ Grows w w' := by
  have hl : rsW.length = W0.length := by rw [h.waits.len]; simp [rtW]
  have H := hide h.waits
  have hb := h.box
  have hcap := h.waits.own.capN
  have HLEN := hide hlen
  have HL := hide hl
  rw [hl] at hb hcap
  clear h hlen hl
  generalize hnW : W0.length = nW at *
  have HNW := hide hnW
  clear hnW
  go_enter Tryz.func31, Tryz.ntmps31
  go_wp2_with fail
  go_loopw [2, 12] (fun out tk wr => ∃ (i : Nat) (A8 : Option Addr) (c8 : Nat) (rs8 : List Rt), i ≤ nW ∧ tk = .int .i64 (i : Int) ∧ out = .slice A8 i c8 ∧ ∃ y : Later w, wr = y.now ∧ Hid (rs8.length = i) ∧ Hid (RtsAt y.now w.heap.size A8 c8 rs8 (rtW E (W0.take i)))) (fun _ tk _ => nW - (Go.RowKit.intOf tk).toNat)
  case atStart => exact ⟨0, none, 0, [], by omega, by go_num, rfl, ⟨w, Grows.refl w⟩, rfl, hide rfl, hide (RtsAt.nil _ _)⟩
  case round =>
    obtain ⟨i, A8, c8, rs8, hi, rfl, rfl, y, rfl, HR8, HO8⟩ := hrel
    by_cases hlt : i < nW
    · have hWi : i < W0.length := by have := HNW.out; omega
      obtain ⟨g0, A2, c2, e0, hr0, m1, m2, o2⟩ := H.out.way hWi
      subst e0
      obtain ⟨x, hx⟩ : ∃ x, x = gL W0 i := ⟨_, rfl⟩
      rw [← hx] at hr0 m1 m2 o2
      have hxl : x.length ≤ 1000000 := by rw [hx, gL_at hWi]; exact HLEN.out _ (List.getElem_mem hWi)
      have HTK := hide (show W0.take (i + 1) = W0.take i ++ [x] from by rw [List.take_succ_eq_append_getElem hWi, hx, gL_at hWi])
      have HST := hide (fun (A1 A5 : Option Addr) (d1 d5 : Nat) (w1 w2 : World) (hg : Grows y.now w1) (o1 : Own w1 0 3 1 A1 x.length d1 (nv x)) (o5 : Own w2 w.heap.size 53 2 A5 (i + 1) d5 (rs8.flatMap rtC ++ [.slice A1 x.length d1, .int .u64 (wE E x : Int)])) (ht : Touch (fun k => ∃ p, A8 = some p ∧ p.block = k) w1 w2) =>
        show RtsAt w2 w.heap.size A5 d5 (rs8 ++ [(A1, d1, x, wE E x)]) (rtW E (W0.take (i + 1))) ∧ Grows w w2 from
        ⟨by rw [HTK.out]; exact HO8.out.one (wB := w) hg o1 (by rw [HR8.out]; exact o5) ht, ht.later (y.grows.trans hg) (fun k ⟨p, hp, e⟩ => by have := (HO8.out.own.ty p hp).1; omega)⟩)
      have CL := hide (fun (X : World) (g : Grows y.now X) => cloneNy A2 x.length c2 x X ((o2.rd.grows y.grows).grows g) hxl)
      clear hx hr0 o2
      generalize hnx : x.length = nx at *
      generalize wE E x = fx at *
      clear hnx
      go_upto_region 6 with fail
      go_wp2_with fail
      obtain ⟨W, hW⟩ : ∃ W, W = y.now.alloc (.cells #[.slice A2 nx c2, .int .u64 (fx : Int)] 53) := ⟨_, rfl⟩
      have hgW : Grows y.now W := by rw [hW]; exact (Grows.refl _).new _
      have aE : Arr W y.now.heap.size 53 [.slice A2 nx c2, .int .u64 (fx : Int)] := by rw [hW]; exact Arr.make _ _ _
      rw [← hW]
      clear hW
      obtain ⟨bx, hbx⟩ : ∃ b, b = y.now.heap.size := ⟨_, rfl⟩
      rw [← hbx] at aE ⊢
      clear hbx
      have CL := hide (fun (X : World) (g : Grows W X) => CL.out X (hgW.trans g))
      have HST := hide (fun (A1 A5 : Option Addr) (d1 d5 : Nat) (w1 w2 : World) (hg : Grows W w1) => HST.out A1 A5 d1 d5 w1 w2 (hgW.trans hg))
      obtain ⟨VV, hVV⟩ : ∃ V : WtC → Nat → Value, V = fun q j => ([.slice A8 i c8, .pointer (some ⟨bx, 0, none⟩), .slice A2 nx c2, .slice q.a1 nx q.c1, .pointer (some ⟨bx, 1, none⟩), .int .u64 (fx : Int), .agg #[.slice q.a1 nx q.c1, .int .u64 (fx : Int)], .slice (some ⟨q.g, 0, none⟩) 1 1, .slice q.a2 (i + 1) q.c2, .slice q.a2 (i + 1) q.c2] : List Value).getD j undef := ⟨_, rfl⟩
      refine wp_region_late (by kernel_rfl) (by kernel_rfl) (by kernel_rfl) (by kernel_rfl) (by kernel_rfl) VV
        (fun q D w1 => (D 8 = false → Grows W w1 ∧ (D 3 = true → Own w1 0 3 1 q.a1 nx q.c1 (nv x)) ∧ (D 7 = true → Arr w1 q.g 53 [.slice q.a1 nx q.c1, .int .u64 (fx : Int)])) ∧ (D 8 = true → RtsAt w1 w.heap.size q.a2 q.c2 (rs8 ++ [(q.a1, q.c1, x, fx)]) (rtW E (W0.take (i + 1))) ∧ Grows w w1))
        ⟨0, none, 0, none, 0⟩ ⟨fun _ => ⟨(Grows.refl _).drew, fun h => absurd h (by simp), fun h => absurd h (by simp)⟩, fun h => absurd h (by simp)⟩ ?hs ?he
      case hs =>
        subst hVV
        intro q a D hV hO i9 oo' ho hcl hD hpre w1 hM
        obtain ⟨h1, h2⟩ := hM
        match i9, ho, hD, hpre with
        | 0, ho, hD, hpre =>
          cases (show some _ = some oo' from ho)
          have n9 : D 9 = false := by
            cases hd : D 9 with
            | false => rfl
            | true => exact absurd (hcl 8 0 (hcl 9 8 hd (by kernel_rfl)) (by kernel_rfl)) (by rw [hD]; exact Bool.false_ne_true)
          have e2 := ev_nfK ((hO 2 (lateDst (k := 9) (by kernel_rfl) rfl n9)).trans rfl)
          have n8 : D 8 = false := by
            cases hd : D 8 with
            | false => rfl
            | true => exact absurd (hcl 8 0 hd (by kernel_rfl)) (by rw [hD]; exact Bool.false_ne_true)
          obtain ⟨j1, j2, j3⟩ := h1 n8
          have zE := aE.grow j1
          refine runsTo_monoY (Q := fun uu w2 => w2 = w1 ∧ uu = (.slice A8 i c8 : Value)) ?_ (fun uu w2 hq => ⟨q, ?_, fun _ _ _ => rfl, .inr hq.2⟩)
          · clear h1 h2 j1 j2 j3
            go_simp
            all_goals exact ⟨rfl, rfl⟩
          · obtain ⟨rfl, _⟩ := hq
            exact ⟨fun _ => ⟨j1, fun h => j2 (by simpa using h), fun h => j3 (by simpa using h)⟩, fun hd => absurd (show D 8 = true by simpa using hd) (by rw [n8]; exact Bool.false_ne_true)⟩
        | 1, ho, hD, hpre =>
          cases (show some _ = some oo' from ho)
          have e4 := ev_nfK ((hO 4 (notDstL (by kernel_rfl))).trans rfl)
          have n8 : D 8 = false := by
            cases hd : D 8 with
            | false => rfl
            | true => exact absurd (hcl 2 1 (hcl 3 2 (hcl 6 3 (hcl 7 6 (hcl 8 7 hd (by kernel_rfl)) (by kernel_rfl)) (by kernel_rfl)) (by kernel_rfl)) (by kernel_rfl)) (by rw [hD]; exact Bool.false_ne_true)
          obtain ⟨j1, j2, j3⟩ := h1 n8
          have zE := aE.grow j1
          refine runsTo_monoY (Q := fun uu w2 => w2 = w1 ∧ uu = (.pointer (some ⟨bx, 0, none⟩) : Value)) ?_ (fun uu w2 hq => ⟨q, ?_, fun _ _ _ => rfl, .inr hq.2⟩)
          · clear h1 h2 j1 j2 j3
            go_simp
            all_goals exact ⟨rfl, rfl⟩
          · obtain ⟨rfl, _⟩ := hq
            exact ⟨fun _ => ⟨j1, fun h => j2 (by simpa using h), fun h => j3 (by simpa using h)⟩, fun hd => absurd (show D 8 = true by simpa using hd) (by rw [n8]; exact Bool.false_ne_true)⟩
        | 2, ho, hD, hpre =>
          cases (show some _ = some oo' from ho)
          have e17 := ev_nfK (hV 1 17 rfl (hpre 1 (by kernel_rfl)))
          have n8 : D 8 = false := by
            cases hd : D 8 with
            | false => rfl
            | true => exact absurd (hcl 3 2 (hcl 6 3 (hcl 7 6 (hcl 8 7 hd (by kernel_rfl)) (by kernel_rfl)) (by kernel_rfl)) (by kernel_rfl)) (by rw [hD]; exact Bool.false_ne_true)
          obtain ⟨j1, j2, j3⟩ := h1 n8
          have zE := aE.grow j1
          refine runsTo_monoY (Q := fun uu w2 => w2 = w1 ∧ uu = (.slice A2 nx c2 : Value)) ?_ (fun uu w2 hq => ⟨q, ?_, fun _ _ _ => rfl, .inr hq.2⟩)
          · clear h1 h2 j1 j2 j3
            go_simp
            all_goals exact ⟨rfl, rfl⟩
          · obtain ⟨rfl, _⟩ := hq
            exact ⟨fun _ => ⟨j1, fun h => j2 (by simpa using h), fun h => j3 (by simpa using h)⟩, fun hd => absurd (show D 8 = true by simpa using hd) (by rw [n8]; exact Bool.false_ne_true)⟩
        | 3, ho, hD, hpre =>
          cases (show some _ = some oo' from ho)
          have e18 := ev_nfK (hV 2 18 rfl (hpre 2 (by kernel_rfl)))
          have n8 : D 8 = false := by
            cases hd : D 8 with
            | false => rfl
            | true => exact absurd (hcl 6 3 (hcl 7 6 (hcl 8 7 hd (by kernel_rfl)) (by kernel_rfl)) (by kernel_rfl)) (by rw [hD]; exact Bool.false_ne_true)
          obtain ⟨j1, j2, j3⟩ := h1 n8
          have n6 : D 6 = false := by
            cases hd : D 6 with
            | false => rfl
            | true => exact absurd (hcl 6 3 hd (by kernel_rfl)) (by rw [hD]; exact Bool.false_ne_true)
          have n7 : D 7 = false := by
            cases hd : D 7 with
            | false => rfl
            | true => exact absurd (hcl 6 3 (hcl 7 6 hd (by kernel_rfl)) (by kernel_rfl)) (by rw [hD]; exact Bool.false_ne_true)
          have CC := hide (CL.out w1 j1)
          refine runsTo_monoY (Q := fun uu w2 => ∃ a1 c1, uu = .slice a1 nx c1 ∧ Own w2 0 3 1 a1 nx c1 (nv x) ∧ Grows w1 w2) ?_ (fun uu w2 hq => ?_)
          · clear h1 h2 j1 j2 j3
            go_simp
            refine CC.out.mono ?_
            rintro e w2 ⟨A5, c5, rfl, ho5, hg5⟩
            exact ⟨_, rfl, A5, c5, rfl, ho5.base (Nat.zero_le _), hg5⟩
          · obtain ⟨A5, c5, hu, ho5, hg5⟩ := hq
            refine ⟨{ q with a1 := A5, c1 := c5 }, ⟨fun _ => ⟨j1.trans hg5, fun _ => ho5, fun h => absurd (show D 7 = true by simpa using h) (by rw [n7]; exact Bool.false_ne_true)⟩, fun hd => absurd (show D 8 = true by simpa using hd) (by rw [n8]; exact Bool.false_ne_true)⟩, fun j _ hDj => ?_, .inr hu⟩
            · match j, hDj with
              | 0, _ => rfl
              | 1, _ => rfl
              | 2, _ => rfl
              | 3, hDj => exact absurd hDj (by rw [hD]; exact Bool.false_ne_true)
              | 4, _ => rfl
              | 5, _ => rfl
              | 6, hDj => exact absurd hDj (by rw [n6]; exact Bool.false_ne_true)
              | 7, _ => rfl
              | 8, _ => rfl
              | 9, _ => rfl
              | n + 10, _ => rfl
        | 4, ho, hD, hpre =>
          cases (show some _ = some oo' from ho)
          have e4 := ev_nfK ((hO 4 (notDstL (by kernel_rfl))).trans rfl)
          have n8 : D 8 = false := by
            cases hd : D 8 with
            | false => rfl
            | true => exact absurd (hcl 5 4 (hcl 6 5 (hcl 7 6 (hcl 8 7 hd (by kernel_rfl)) (by kernel_rfl)) (by kernel_rfl)) (by kernel_rfl)) (by rw [hD]; exact Bool.false_ne_true)
          obtain ⟨j1, j2, j3⟩ := h1 n8
          have zE := aE.grow j1
          refine runsTo_monoY (Q := fun uu w2 => w2 = w1 ∧ uu = (.pointer (some ⟨bx, 1, none⟩) : Value)) ?_ (fun uu w2 hq => ⟨q, ?_, fun _ _ _ => rfl, .inr hq.2⟩)
          · clear h1 h2 j1 j2 j3
            go_simp
            all_goals exact ⟨rfl, rfl⟩
          · obtain ⟨rfl, _⟩ := hq
            exact ⟨fun _ => ⟨j1, fun h => j2 (by simpa using h), fun h => j3 (by simpa using h)⟩, fun hd => absurd (show D 8 = true by simpa using hd) (by rw [n8]; exact Bool.false_ne_true)⟩
        | 5, ho, hD, hpre =>
          cases (show some _ = some oo' from ho)
          have e20 := ev_nfK (hV 4 20 rfl (hpre 4 (by kernel_rfl)))
          have n8 : D 8 = false := by
            cases hd : D 8 with
            | false => rfl
            | true => exact absurd (hcl 6 5 (hcl 7 6 (hcl 8 7 hd (by kernel_rfl)) (by kernel_rfl)) (by kernel_rfl)) (by rw [hD]; exact Bool.false_ne_true)
          obtain ⟨j1, j2, j3⟩ := h1 n8
          have zE := aE.grow j1
          refine runsTo_monoY (Q := fun uu w2 => w2 = w1 ∧ uu = (.int .u64 (fx : Int) : Value)) ?_ (fun uu w2 hq => ⟨q, ?_, fun _ _ _ => rfl, .inr hq.2⟩)
          · clear h1 h2 j1 j2 j3
            go_simp
            all_goals exact ⟨rfl, rfl⟩
          · obtain ⟨rfl, _⟩ := hq
            exact ⟨fun _ => ⟨j1, fun h => j2 (by simpa using h), fun h => j3 (by simpa using h)⟩, fun hd => absurd (show D 8 = true by simpa using hd) (by rw [n8]; exact Bool.false_ne_true)⟩
        | 6, ho, hD, hpre =>
          cases (show some _ = some oo' from ho)
          have e19 := ev_nfK (hV 3 19 rfl (hpre 3 (by kernel_rfl)))
          have e21 := ev_nfK (hV 5 21 rfl (hpre 5 (by kernel_rfl)))
          have n8 : D 8 = false := by
            cases hd : D 8 with
            | false => rfl
            | true => exact absurd (hcl 7 6 (hcl 8 7 hd (by kernel_rfl)) (by kernel_rfl)) (by rw [hD]; exact Bool.false_ne_true)
          obtain ⟨j1, j2, j3⟩ := h1 n8
          have zE := aE.grow j1
          refine runsTo_monoY (Q := fun uu w2 => w2 = w1 ∧ uu = (.agg #[.slice q.a1 nx q.c1, .int .u64 (fx : Int)] : Value)) ?_ (fun uu w2 hq => ⟨q, ?_, fun _ _ _ => rfl, .inr hq.2⟩)
          · clear h1 h2 j1 j2 j3
            go_simp
            all_goals exact ⟨rfl, rfl⟩
          · obtain ⟨rfl, _⟩ := hq
            exact ⟨fun _ => ⟨j1, fun h => j2 (by simpa using h), fun h => j3 (by simpa using h)⟩, fun hd => absurd (show D 8 = true by simpa using hd) (by rw [n8]; exact Bool.false_ne_true)⟩
        | 7, ho, hD, hpre =>
          cases (show some _ = some oo' from ho)
          have e22 := ev_nfK (hV 6 22 rfl (hpre 6 (by kernel_rfl)))
          have n8 : D 8 = false := by
            cases hd : D 8 with
            | false => rfl
            | true => exact absurd (hcl 8 7 hd (by kernel_rfl)) (by rw [hD]; exact Bool.false_ne_true)
          obtain ⟨j1, j2, j3⟩ := h1 n8
          have y3 : D 3 = true := hcl 6 3 (hpre 6 (by kernel_rfl)) (by kernel_rfl)
          refine runsTo_monoY (Q := fun uu w2 => w2 = w1.alloc (.cells #[.slice q.a1 nx q.c1, .int .u64 (fx : Int)] 53) ∧ uu = (.slice (some ⟨w1.heap.size, 0, none⟩) 1 1 : Value)) ?_ (fun uu w2 hq => ?_)
          · clear h1 h2 j1 j2 j3
            go_simp
            all_goals exact ⟨rfl, rfl⟩
          · obtain ⟨rfl, hu⟩ := hq
            have hg5 : Grows w1 (w1.alloc (.cells #[.slice q.a1 nx q.c1, .int .u64 (fx : Int)] 53)) := (Grows.refl _).new _
            refine ⟨{ q with g := w1.heap.size }, ⟨fun _ => ⟨j1.trans hg5, fun _ => (j2 y3).grows hg5, fun _ => Arr.make w1 _ _⟩, fun hd => absurd (show D 8 = true by simpa using hd) (by rw [n8]; exact Bool.false_ne_true)⟩, fun j _ hDj => ?_, .inr hu⟩
            · match j, hDj with
              | 0, _ => rfl
              | 1, _ => rfl
              | 2, _ => rfl
              | 3, _ => rfl
              | 4, _ => rfl
              | 5, _ => rfl
              | 6, _ => rfl
              | 7, hDj => exact absurd hDj (by rw [hD]; exact Bool.false_ne_true)
              | 8, _ => rfl
              | 9, _ => rfl
              | n + 10, _ => rfl
        | 8, ho, hD, hpre =>
          cases (show some _ = some oo' from ho)
          have e16 := ev_nfK (hV 0 16 rfl (hpre 0 (by kernel_rfl)))
          have e23 := ev_nfK (hV 7 23 rfl (hpre 7 (by kernel_rfl)))
          have n8 : D 8 = false := hD
          obtain ⟨j1, j2, j3⟩ := h1 n8
          have y7 : D 7 = true := hpre 7 (by kernel_rfl)
          have y3 : D 3 = true := hcl 6 3 (hcl 7 6 y7 (by kernel_rfl)) (by kernel_rfl)
          have n9 : D 9 = false := by
            cases hd : D 9 with
            | false => rfl
            | true => exact absurd (hcl 9 8 hd (by kernel_rfl)) (by rw [hD]; exact Bool.false_ne_true)
          refine runsTo_monoY (runs_appY elemRoute (s := .tmp 16) (x := .tmp 23) rfl w.heap.size i c8 A8 (rs8.flatMap rtC) (Nat.le_trans y.size (Nat.le_trans hgW.size j1.size)) ((hV 0 16 rfl (hpre 0 (by kernel_rfl))).trans rfl) (by have h5 := (HO8.out.grows (hgW.trans j1)).own; rw [HR8.out] at h5; exact h5) q.g 1 [.slice q.a1 nx q.c1, .int .u64 (fx : Int)] ((hV 7 23 rfl y7).trans rfl) rfl (fun j u hu => by rw [(j3 y7).cell]; exact hu) (fun u hu => by simp at hu; rcases hu with rfl | rfl <;> rfl) (by omega)) (fun uu w2 hq => ?_)
          obtain ⟨A5, c5, hu, ho5, ht5, hA5⟩ := hq
          refine ⟨{ q with a2 := A5, c2 := c5 }, ⟨fun hd => absurd hd (by simp), fun _ => HST.out q.a1 A5 q.c1 c5 w1 w2 j1 (j2 y3) ho5 ht5⟩, fun j _ hDj => ?_, .inr hu⟩
          · match j, hDj with
            | 0, _ => rfl
            | 1, _ => rfl
            | 2, _ => rfl
            | 3, _ => rfl
            | 4, _ => rfl
            | 5, _ => rfl
            | 6, _ => rfl
            | 7, _ => rfl
            | 8, hDj => exact absurd hDj (by rw [hD]; exact Bool.false_ne_true)
            | 9, hDj => exact absurd hDj (by rw [n9]; exact Bool.false_ne_true)
            | n + 10, _ => rfl
        | 9, ho, hD, hpre =>
          cases (show some _ = some oo' from ho)
          have e24 := ev_nfK (hV 8 24 rfl (hpre 8 (by kernel_rfl)))
          have y8 : D 8 = true := hpre 8 (by kernel_rfl)
          have h5 := h2 y8
          refine runsTo_monoY (Q := fun uu w2 => w2 = w1 ∧ uu = (.slice q.a2 (i + 1) q.c2 : Value)) ?_ (fun uu w2 hq => ⟨q, ?_, fun _ _ _ => rfl, .inr hq.2⟩)
          · clear h1 h2 h5
            go_simp
            all_goals exact ⟨rfl, rfl⟩
          · obtain ⟨rfl, _⟩ := hq
            exact ⟨fun hd => absurd (show D 8 = false by simpa using hd) (by rw [y8]; exact Bool.noConfusion), fun _ => h5⟩
        | n + 10, ho, hD, hpre => cases ho
      case he =>
        subst hVV
        intro q w1 hM
        obtain ⟨h5, h6⟩ := hM.2 rfl
        simp only [putAll, dstOf, List.length_cons, List.length_nil, Nat.reduceAdd, List.getElem?_cons_zero, List.getElem?_cons_succ, Option.bind_some, List.getD_cons_zero, List.getD_cons_succ, Act.put, List.setIfInBounds_toArray, List.set_cons_zero, List.set_cons_succ]
        have HG5 := hide h5
        clear h5 HO8
        obtain ⟨y5, rfl⟩ := h6.later
        clear h6
        go_wp2_with fail
        go_roundw
        case measure => simp [Go.RowKit.intOf]; omega
        case rel => exact ⟨i + 1, q.a2, q.c2, _, by omega, by go_num, rfl, y5, rfl, hide (by rw [List.length_append, List.length_singleton, HR8.out]), HG5⟩
    · go_wp2_with fail
      go_ret
      exact ⟨A8, c8, rs8, by rw [HR8.out]; rfl, by have h1 := HO8.out; rw [List.take_of_length_le (show W0.length ≤ i by have := HNW.out; omega)] at h1; exact h1, GG⟩
end Go.Proofs.YtgplpgldhoelcaaGreat

namespace Go.Proofs.YtgplpgldhoelcaaGreat
open Go Go.RowKit
set_option maxRecDepth 20000 in
set_option maxHeartbeats 2000000 in
theorem r8Is (N : Int) (A : Option Addr) (m c : Nat) (E : List Edg) (s t : Int) (B : Option Addr) (n d : Nat) (l : List Int) (w : World) (h : Rd w A 3 m (esCells E)) (hm : m ≤ 1000000) (h' : Rd w B 1 n (l.map (.int .i64))) (hn : n ≤ 100000) :
    Calls Tryz.prog 22 #[.agg #[.int .i64 N, .slice A m c], .int .i64 s, .int .i64 t, .slice B n d] w fun e w' => e = .returned (.bool (isB N E s l && decide (gi (nodesL N E s l) l.length = t))) ∧ Grows w w' := by
  have C := hide (fun (W : World) (g : Grows w W) => r8Nodes N A m c E s B n d l W (h.grows g) hm (h'.grows g) (by omega))
  have hl : l.length = n := by simpa using h'.len
  clear h h'
  subst hl
  cases hq : isB N E s l with
  | false =>
    rw [hq] at C
    rw [Bool.false_and]
    clear hq
    go_enter Tryz.func22, Tryz.ntmps22
    go_wp2_with (go_at_call 74; refine (C.out _ GG).mono ?_; rintro e w' ⟨A7, c7, rfl, _, hg⟩; obtain ⟨x1, rfl⟩ := hg.later; clear hg)
    go_ret
    exact ⟨rfl, GG⟩
  | true =>
    have hk : (nodesL N E s l).length = l.length + 1 := by unfold nodesL; rw [if_pos hq, ndL_len]
    rw [hq] at C
    unfold GiveIB at C
    rw [hk] at C
    rw [Bool.true_and]
    clear hq
    generalize nodesL N E s l = L at *
    generalize l.length = k at *
    by_cases ht : gi L k = t
    · have hb : (gi L k == t) = true := by simpa using ht
      rw [decide_eq_true ht]
      clear ht
      go_enter Tryz.func22, Tryz.ntmps22
      go_wp2_with fail
      refine (C.out _ GG).mono ?_; rintro e w' ⟨A7, c7, rfl, hr, hg⟩
      obtain ⟨b, off, rfl, hc⟩ := hr.ints (by omega)
      have k1 : Holds w' ⟨b, off + k, none⟩ (.int .i64 (gi L k)) := ⟨hc k (by omega)⟩
      obtain ⟨x1, rfl⟩ := hg.later
      clear hg hr hc
      try simp only [Int.natCast_add, Int.natCast_one]
      go_wp2_with fail
      go_ret
      exact ⟨rfl, GG⟩
    · have hb : (gi L k == t) = false := beq_eq_false_iff_ne.2 ht
      rw [decide_eq_false ht]
      clear ht
      go_enter Tryz.func22, Tryz.ntmps22
      go_wp2_with fail
      refine (C.out _ GG).mono ?_; rintro e w' ⟨A7, c7, rfl, hr, hg⟩
      obtain ⟨b, off, rfl, hc⟩ := hr.ints (by omega)
      have k1 : Holds w' ⟨b, off + k, none⟩ (.int .i64 (gi L k)) := ⟨hc k (by omega)⟩
      obtain ⟨x1, rfl⟩ := hg.later
      clear hg hr hc
      try simp only [Int.natCast_add, Int.natCast_one]
      go_wp2_with fail
      go_ret
      exact ⟨rfl, GG⟩
end Go.Proofs.YtgplpgldhoelcaaGreat

namespace Go.Proofs.YtgplpgldhoelcaaGreat
open Go Go.RowKit
theorem SP.isE {N : Nat} {E : List Edg} {s t : Nat} {l : List Nat} (h : SP E s t l) (hr : rightF (N : Int) E = 0) (hs : s < N) : (isB (N : Int) E (s : Int) (ciL l) && decide (gi (nodesL (N : Int) E (s : Int) (ciL l)) (ciL l).length = (t : Int))) = true := by
  have h1 := h.1.is hr hs
  rw [h1, Bool.true_and, decide_eq_true_eq]
  unfold nodesL
  rw [if_pos h1, ciL_len, h.1.nds hr, ciL_gn (by rw [ndsN_len]; omega)]
  show ((ndAt E s l l.length : Nat) : Int) = t
  rw [h.1.last]
end Go.Proofs.YtgplpgldhoelcaaGreat

