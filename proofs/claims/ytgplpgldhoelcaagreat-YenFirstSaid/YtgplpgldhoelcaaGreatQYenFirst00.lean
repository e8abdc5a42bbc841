/- The law YenFirst: for every input it returns true, and each argument reads as before. No condition. -/
import Derived.Orders
import Derived.Still
import Derived.Below
import Derived.Calls
import Derived.WalkKit
import Derived.WalkSpells
import Derived.WalkLawsBesides
import Derived.BigQuiet
import Derived.Deep.RegionWith
import Derived.Test.YtgplpgldhoelcaaGreatRows
import Derived.ProofKit
import Derived.OpenShut
import Derived.ShutString
import Derived.ChangeOld
import Derived.Lib.SmallJoins
import Derived.Deep.Slices
import Derived.Maps.Own
import Derived.Maps.OwnOps
import Derived.Maps.OwnSet
import Derived.Maps.Views
import Derived.Laws.OwnMore
import Derived.Deep.DeepCutAuto
import Derived.RangeFuncRecord
import Derived.OwnWalk
import Derived.Lib.AppendZeros
import Derived.Deep.OwnRows
import Derived.StillTail
import Derived.Shelf.Bits.Mul64
import Derived.Ground.Names2Prog
import Derived.Shelf.Slices.Clone
import Derived.Ground.SlgnProg
import Derived.Shelf.SlicesE.Clone
import Derived.Test.YtgplpgldhoelcaaGreatProg
import Derived.RangeFuncSeq
import Derived.RangeFuncLeaves
import Derived.RangeFuncCalls
import Derived.WalkMore
import Derived.Maps.AppendAt
import Derived.Lib.SliceRun
import Derived.OrdersIn
import Derived.TacticsIn
import Derived.RangeFuncNested
import Derived.RangeFuncBound
import Derived.Shelf.Abstract
import Derived.Shelf.RegionOpen
import Derived.OwnWalkIn
import Derived.TacticsInMore
import Derived.LoopNIn
import Derived.LoopIn
import Derived.Laws.CopyOwn
import Derived.Deep.RegionLaw
import Derived.Deep.Strs
import Derived.ScopeJumps
import Derived.Shelf.Slices.CompactI
import Derived.Laws.IdiomCopy
import Derived.Shelf.Spec.SlicesInsertGrow
import Derived.Test.YtgplpgldhoelcaaGreatQYenWays00
import Derived.Test.YtgplpgldhoelcaaGreatQYenWays01
import Derived.Test.YtgplpgldhoelcaaGreatQYenWays02
import Derived.Test.YtgplpgldhoelcaaGreatQYenWays03
import Derived.Test.YtgplpgldhoelcaaGreatQYenWays04
import Derived.Test.YtgplpgldhoelcaaGreatQYenWays05
import Derived.Test.YtgplpgldhoelcaaGreatQYenWays06
import Derived.Test.YtgplpgldhoelcaaGreatQYenWays07
import Derived.Test.YtgplpgldhoelcaaGreatQYenWays08
import Derived.Test.YtgplpgldhoelcaaGreatQYenWays09
import Derived.Test.YtgplpgldhoelcaaGreatQYenWays10
import Derived.Test.YtgplpgldhoelcaaGreatQYenWays11
import Derived.Test.YtgplpgldhoelcaaGreatQYenWays12
import Derived.Test.YtgplpgldhoelcaaGreatQYenWays13
import Derived.Test.YtgplpgldhoelcaaGreatQYenWays14
import Derived.Test.YtgplpgldhoelcaaGreatQYenWays15
import Derived.Test.YtgplpgldhoelcaaGreatQYenWays16
import Derived.Test.YtgplpgldhoelcaaGreatQYenWays17
import Derived.Test.YtgplpgldhoelcaaGreatQYenWays18
import Derived.Test.YtgplpgldhoelcaaGreatQYenWays19
import Derived.Test.YtgplpgldhoelcaaGreatQYenWays20
import Derived.Test.YtgplpgldhoelcaaGreatQYenWays21
import Derived.Test.YtgplpgldhoelcaaGreatQYenWays22
import Derived.Test.YtgplpgldhoelcaaGreatQYenWays23
import Derived.Test.YtgplpgldhoelcaaGreatQYenWays24
namespace Go.Proofs.YtgplpgldhoelcaaGreat
open Go Go.RowKit
theorem anyI_false {l : List Int} {p : Int → Bool} {n : Nat} (hl : l.length = n) (h : ∀ j, j < n → p (gi l j) = false) : l.any p = false := by
  rw [List.any_eq_false]
  intro e he
  obtain ⟨j, hj, rfl⟩ := mem_gi he
  rw [h j (by omega)]
  simp
theorem anyI_true {l : List Int} {p : Int → Bool} {j : Nat} (hj : j < l.length) (h : p (gi l j) = true) : l.any p = true := by
  rw [List.any_eq_true]
  exact ⟨gi l j, gi_mem hj, h⟩

set_option maxHeartbeats 2000000 in
theorem r8edges (N : Int) (A : Option Addr) (m c : Nat) (E : List Edg) (B : Option Addr) (n d : Nat) (l : List Int) (w : World) (h : Rd w A 3 m (esCells E)) (hm : m ≤ 1000000) (h' : Rd w B 1 n (l.map (.int .i64))) (hn : n ≤ 1000000) :
    Calls Tryz.prog 85 #[.agg #[.int .i64 N, .slice A m c], .slice B n d] w fun e w' => e = .returned (.bool (edgesB N E l)) ∧ Grows w w' := by
  have HL := hide h.elen
  have HL' := hide (show l.length = n by simpa using h'.len)
  have HR := hide h
  have HS := hide (h'.new (.cells #[.int .i64 N, .slice A m c] 35))
  clear h h'
  have C1 := fun (W : World) (g : Grows w W) => r5Right N A m c E W (HR.out.grows g) hm
  by_cases h0 : rightF N E = 0
  · have HW : Hid (edgesB N E l = !l.any fun e => !edgeB m e) := by unfold edgesB; rw [HL.out, decide_eq_true h0]; rfl
    rw [h0] at C1
    have H1 := hide C1
    clear C1 h0
    go_enter Tryz.func85, Tryz.ntmps85
    go_wp2_with (first | (go_at_call 81; refine (H1.out _ GG).mono ?_; rintro e w' ⟨rfl, hg⟩; (first | obtain ⟨x, rfl⟩ := Grows.later2 hg | obtain ⟨x, rfl⟩ := Grows.later hg); clear hg))
    go_loopw [5] (fun i wr => ∃ k : Nat, k ≤ n ∧ i = .int .i64 (k : Int) ∧ (∃ x : Later (w.alloc (.cells #[.int .i64 N, .slice A m c] 35)), wr = x.now) ∧ ∀ j, j < k → (!edgeB m (gi l j)) = false) (fun i _ => n - (intOf i).toNat)
    case atStart => exact ⟨0, by omega, by go_num, ⟨_, rfl⟩, fun j h1 => by omega⟩
    case round =>
      obtain ⟨q, hq, rfl, ⟨y, rfl⟩, hall⟩ := hrel
      have HA := hide hall
      clear hall
      by_cases hend : n ≤ q
      · go_wp2
        go_ret
        refine ⟨ret_bool ?_, GG⟩
        rw [HW.out, anyI_false (p := fun e => !edgeB m e) HL'.out fun j hj => HA.out j (by omega)]
        rfl
      · obtain ⟨b, off, rfl, hc⟩ := HS.out.ints (by omega)
        have hc1 := hc q (by omega)
        clear hc
        cases hp : edgeB m (gi l q) with
        | true =>
          have HP : Hid ((!edgeB m (gi l q)) = false) := by rw [show Hid ((!edgeB m (gi l q)) = false) = ((!edgeB m (gi l q)) = false) from rfl, hp]; rfl
          have hp' : 0 ≤ gi l q ∧ gi l q < m := by simpa [edgeB] using hp
          obtain ⟨hp1, hp2⟩ := hp'
          clear hp
          go_wp2_with fail
          ((first | refine wp_region_gen2 (by kernel_rfl) (by kernel_rfl) ?_ | refine wp_region_gen (by kernel_rfl) (by kernel_rfl) ?_); (repeat' (first | (refine gLex_val0 rfl (by kernel_rfl) (fun K hK => ?_); (go_simp; (try (simp only [↓IntWalk.iteOmega]; try go_simp)); (try simp (disch := omega) only [IntWalk.i64_in]); (try simp (disch := omega) only [IntWalk.u64_in]); first | (refine hK _ ?_; clear hK K) | (apply Exists.intro; refine ⟨fun x => ?_, hK _ ?_⟩; (first | fail); clear hK K))) | (refine gLex_undef rfl rfl rfl (by kernel_rfl) (fun K hK => ?_); go_simp; refine hK _ ?_; clear hK K) | (refine gLex_ask rfl rfl rfl ?_; first | (apply gAsk_yes; kernel_rfl; intro K hK; (go_simp; (try (simp only [↓IntWalk.iteOmega]; try go_simp)); (try simp (disch := omega) only [IntWalk.i64_in]); (try simp (disch := omega) only [IntWalk.u64_in]); first | (refine hK _ ?_; clear hK K) | (apply Exists.intro; refine ⟨fun x => ?_, hK _ ?_⟩; (first | fail); clear hK K))) | ((first | apply gAsk_no1 | apply gAsk_no2); kernel_rfl; intro K hK; simp [go_sem]; refine hK _ ?_; clear hK K) | (apply gAsk_part; kernel_rfl; all_goals (intro h K hK; (try simp only [Bool.not_true] at h); (try simp only [Bool.not_false] at h); (try simp only [decide_eq_true_eq] at h); (try simp only [decide_eq_false_iff_not] at h); first | (exfalso; first | contradiction | omega) | (go_simp; (try (simp only [↓IntWalk.iteOmega]; try go_simp)); (try simp (disch := omega) only [IntWalk.i64_in]); (try simp (disch := omega) only [IntWalk.u64_in]); first | (refine hK _ ?_; clear hK K) | (apply Exists.intro; refine ⟨fun x => ?_, hK _ ?_⟩; (first | fail); clear hK K))))))); all_goals ((apply gLex_end); intro x))
          go_wp2
          go_roundw
          case measure => simp [intOf]; omega
          case rel =>
            refine ⟨q + 1, by omega, by go_num, ⟨_, rfl⟩, fun j h1 => ?_⟩
            by_cases hj : j = q
            · rw [hj]; exact HP.out
            · exact HA.out j (by omega)
        | false =>
          have HW2 : Hid (edgesB N E l = false) := by
            rw [show Hid (edgesB N E l = false) = (edgesB N E l = false) from rfl, HW.out, anyI_true (p := fun e => !edgeB m e) (l := l) (j := q) (by have := HL'.out; omega) (by simp [hp])]; rfl
          have hp' : gi l q < 0 ∨ (m : Int) ≤ gi l q := by
            have : ¬ (0 ≤ gi l q ∧ gi l q < m) := by simpa [edgeB] using hp
            omega
          clear hp HW
          rcases hp' with hp | hp
          all_goals
            go_wp2_with fail
            ((first | refine wp_region_gen2 (by kernel_rfl) (by kernel_rfl) ?_ | refine wp_region_gen (by kernel_rfl) (by kernel_rfl) ?_); (repeat' (first | (refine gLex_val0 rfl (by kernel_rfl) (fun K hK => ?_); (go_simp; (try (simp only [↓IntWalk.iteOmega]; try go_simp)); (try simp (disch := omega) only [IntWalk.i64_in]); (try simp (disch := omega) only [IntWalk.u64_in]); first | (refine hK _ ?_; clear hK K) | (apply Exists.intro; refine ⟨fun x => ?_, hK _ ?_⟩; (first | fail); clear hK K))) | (refine gLex_undef rfl rfl rfl (by kernel_rfl) (fun K hK => ?_); go_simp; refine hK _ ?_; clear hK K) | (refine gLex_ask rfl rfl rfl ?_; first | (apply gAsk_yes; kernel_rfl; intro K hK; (go_simp; (try (simp only [↓IntWalk.iteOmega]; try go_simp)); (try simp (disch := omega) only [IntWalk.i64_in]); (try simp (disch := omega) only [IntWalk.u64_in]); first | (refine hK _ ?_; clear hK K) | (apply Exists.intro; refine ⟨fun x => ?_, hK _ ?_⟩; (first | fail); clear hK K))) | ((first | apply gAsk_no1 | apply gAsk_no2); kernel_rfl; intro K hK; simp [go_sem]; refine hK _ ?_; clear hK K) | (apply gAsk_part; kernel_rfl; all_goals (intro h K hK; (try simp only [Bool.not_true] at h); (try simp only [Bool.not_false] at h); (try simp only [decide_eq_true_eq] at h); (try simp only [decide_eq_false_iff_not] at h); first | (exfalso; first | contradiction | omega) | (go_simp; (try (simp only [↓IntWalk.iteOmega]; try go_simp)); (try simp (disch := omega) only [IntWalk.i64_in]); (try simp (disch := omega) only [IntWalk.u64_in]); first | (refine hK _ ?_; clear hK K) | (apply Exists.intro; refine ⟨fun x => ?_, hK _ ?_⟩; (first | fail); clear hK K))))))); all_goals ((apply gLex_end); intro x))
            go_wp2
            go_ret
            exact ⟨ret_bool HW2.out.symm, GG⟩
  · have HW : Hid (edgesB N E l = false) := by unfold edgesB; rw [decide_eq_false h0]; rfl
    have hd : (rightF N E != 0) = true := by simpa using h0
    have H1 := hide C1
    clear C1 h0
    go_enter Tryz.func85, Tryz.ntmps85
    go_wp2_with (first | (go_at_call 81; refine (H1.out _ GG).mono ?_; rintro e w' ⟨rfl, hg⟩; (first | obtain ⟨x, rfl⟩ := Grows.later2 hg | obtain ⟨x, rfl⟩ := Grows.later hg); clear hg))
    go_ret
    exact ⟨ret_bool HW.out.symm, GG⟩

end Go.Proofs.YtgplpgldhoelcaaGreat

namespace Go.Proofs.YtgplpgldhoelcaaGreat
open Go Go.RowKit
theorem lkB_mono {E : List Edg} {s : Int} {l : List Int} {j : Nat} (h : lkB E s l j = false) : ∀ k, lkB E s l (j + k) = false
  | 0 => h
  | k + 1 => by show (lkB E s l (j + k) && _) = false; rw [lkB_mono h k]; rfl
theorem ndL_succ (E : List Edg) (s : Int) (l : List Int) (k : Nat) : ndL E s l (k + 1) = ndL E s l k ++ [ndI E s l k] := by unfold ndL; rw [List.range_succ, List.map_append]; rfl
def GiveIB (w : World) (l : List Int) (b : Bool) (e : Ending) (w' : World) : Prop := ∃ A c, e = .returned (.tuple #[.slice A l.length c, .bool b]) ∧ Rd w' A 1 l.length (l.map (.int .i64)) ∧ Grows w w'
def GiveIBc (w : World) (l : List Int) (b : Bool) (e : Ending) (w' : World) : Prop := ∃ A c, e = .returned (.tuple #[.slice A l.length c, .bool b]) ∧ l.length ≤ c ∧ Rd w' A 1 l.length (l.map (.int .i64)) ∧ Grows w w'
theorem edges_in {N : Int} {E : List Edg} {l : List Int} (h : edgesB N E l = true) {k : Nat} (hk : k < l.length) : 0 ≤ gi l k ∧ (gi l k).toNat < E.length := by
  unfold edgesB at h
  simp only [Bool.and_eq_true, Bool.not_eq_true', List.any_eq_false] at h
  have := h.2 _ (gi_mem hk)
  unfold edgeB at this
  simp at this
  omega
set_option maxRecDepth 20000 in
set_option maxHeartbeats 2000000 in
theorem r8NodesC (N : Int) (A : Option Addr) (m c : Nat) (E : List Edg) (s : Int) (B : Option Addr) (n d : Nat) (l : List Int) (w : World) (h : Rd w A 3 m (esCells E)) (hm : m ≤ 1000000) (h' : Rd w B 1 n (l.map (.int .i64))) (hn : n ≤ 1000000) :
    Calls Tryz.prog 74 #[.agg #[.int .i64 N, .slice A m c], .int .i64 s, .slice B n d] w (GiveIBc w (nodesL N E s l) (isB N E s l)) := by
  have HL := hide (show l.length = n by simpa using h'.len)
  have HE := hide h.elen
  have C1 := fun (W : World) (g : Grows w W) => r8edges N A m c E B n d l W (h.grows g) hm (h'.grows g) hn
  have HR := hide h
  have HS := hide h'
  clear h h'
  cases he : edgesB N E l with
  | false =>
    have e1 : isB N E s l = false := by unfold isB; rw [he]; rfl
    have HV : Hid (nodesL N E s l = []) := by unfold nodesL; rw [e1]; rfl
    rw [HV.out, e1]
    rw [he] at C1
    have H1 := hide C1
    clear C1 he e1
    go_enter Tryz.func74, Tryz.ntmps74
    go_wp2_with (first | (go_at_call 85; refine (H1.out _ GG).mono ?_; rintro e w' ⟨rfl, hg⟩; (first | obtain ⟨x, rfl⟩ := Grows.later2 hg | obtain ⟨x, rfl⟩ := Grows.later hg); clear hg))
    go_ret2
    exact ⟨none, 0, rfl, Nat.le_refl _, ⟨rfl, fun h => absurd h (by simp)⟩, GG⟩
  | true =>
  rw [he] at C1
  have H1 := hide C1
  cases hs : nodeB N s with
  | false =>
    have e1 : isB N E s l = false := by unfold isB; rw [he, hs]; rfl
    have HV : Hid (nodesL N E s l = []) := by unfold nodesL; rw [e1]; rfl
    rw [HV.out, e1]
    have hs2 : ¬ (0 ≤ s ∧ s < N) := by unfold nodeB at hs; simpa using hs
    clear C1 he e1 hs
    go_enter Tryz.func74, Tryz.ntmps74
    go_wp2_with (first | (go_at_call 85; refine (H1.out _ GG).mono ?_; rintro e w' ⟨rfl, hg⟩; (first | obtain ⟨x, rfl⟩ := Grows.later2 hg | obtain ⟨x, rfl⟩ := Grows.later hg); clear hg))
    all_goals first | (exfalso; omega) | skip
    all_goals go_ret2
    all_goals exact ⟨none, 0, rfl, Nat.le_refl _, ⟨rfl, fun h => absurd h (by simp)⟩, GG⟩
  | true =>
  have HV : Hid (isB N E s l = lkB E s l n) := by unfold isB; rw [he, hs, HL.out]; exact rfl
  have HI := hide (fun k (hk : k < n) => edges_in he (k := k) (by rw [HL.out]; exact hk))
  obtain ⟨hs1, hs2⟩ : 0 ≤ s ∧ s < N := by unfold nodeB at hs; simpa using hs
  clear C1 he hs
  go_enter Tryz.func74, Tryz.ntmps74
  go_wp2_with (first | (go_at_call 85; refine (H1.out _ GG).mono ?_; rintro e w' ⟨rfl, hg⟩; (first | obtain ⟨x, rfl⟩ := Grows.later2 hg | obtain ⟨x, rfl⟩ := Grows.later hg); clear hg))
  all_goals first | (exfalso; omega) | skip
  go_loopw [9, 8] (fun i u wr => ∃ k : Nat, k ≤ n ∧ i = .int .i64 (k : Int) ∧ lkB E s l k = true ∧ ∃ y : Later (w.alloc (.cells #[.int .i64 N, .slice A m c] 35)), wr = y.now ∧
    ∃ A' c', u = .slice A' (k + 1) c' ∧ Own y.now (w.alloc (.cells #[.int .i64 N, .slice A m c] 35)).heap.size 3 1 A' (k + 1) c' ((ndL E s l (k + 1)).map (.int .i64))) (fun i _ _ => n - (intOf i).toNat)
  case atStart =>
    refine ⟨0, by omega, by go_num, rfl, ⟨_, x.grows.new _⟩, rfl, _, _, rfl, ?_⟩
    exact Own.build x.now 3 [.int .i64 s] _ x.size (by simp)
  case round =>
    obtain ⟨k, hk, rfl, hlk, y, rfl, A', c', rfl, hown⟩ := hrel
    have HO := hide hown
    have HK := hide hlk
    clear hown hlk
    by_cases hend : n ≤ k
    · have hkm : k = n := by omega
      subst hkm
      go_wp2
      go_ret2
      have e1 : isB N E s l = true := HV.out.trans HK.out
      have e2 : nodesL N E s l = ndL E s l (k + 1) := by unfold nodesL; rw [e1, HL.out]; rfl
      rw [e1, e2]
      refine ⟨A', c', by rw [ndL_len]; rfl, by rw [ndL_len]; exact HO.out.cap, ?_, GG⟩
      rw [ndL_len]
      exact HO.out.rd
    · obtain ⟨b, off, rfl, hc⟩ := HS.out.intsH (by omega)
      have c1 := hc k (by omega)
      obtain ⟨i1, i2⟩ := HI.out k (by omega)
      rw [HE.out] at i2
      obtain ⟨b2, off2, rfl, hc2⟩ := HR.out.edgesH (by omega)
      obtain ⟨c2, c3, c4⟩ := hc2 (gi l k).toNat i2
      obtain ⟨g, rfl, hg, hcs⟩ := HO.out.at (by omega)
      have c5 := hcs k _ (by rw [List.getElem?_map, ndL_succ, List.getElem?_append_right (by rw [ndL_len]; omega), ndL_len, Nat.sub_self]; rfl)
      clear hcs
      clear hc hc2
      by_cases hf : (ge E (gi l k).toNat).f = ndI E s l k
      · have hlk2 : Hid (lkB E s l (k + 1) = true) := by show (lkB E s l k && decide _) = true; rw [HK.out, decide_eq_true hf]; rfl
        have HN : Hid (ndI E s l (k + 1) = (ge E (gi l k).toNat).t) := rfl
        have HL2 := hide (ndL_succ E s l (k + 1))
        have hne : ((ge E (gi l k).toNat).f == ndI E s l k) = true := by simpa using hf
        clear hf
        generalize (ge E (gi l k).toNat).t = t at *
        generalize (ge E (gi l k).toNat).f = f at *
        generalize hq : gi l k = q at *
        obtain ⟨q, rfl⟩ := Int.eq_ofNat_of_zero_le i1
        simp only [Int.toNat_natCast] at i2 c2 c3 c4
        generalize (ge E q).w = w3 at *
        go_wp2_with fail
        go_region
        go_wp2_with fail
        go_region
        go_wp2_with (at_builtin; refine wp_app1 elemInt rfl _ _ rfl _ GG (k + 1) c' _ _ rfl (HO.out.grows GG) _ _ _ rfl inferInstance rfl (by omega) ?_; intro A3 c3 y3 hown3; have HO3 := hide hown3; clear hown3)
        refine ⟨⟨k + 1, by omega, by go_num, hlk2.out, y3, rfl, A3, c3, rfl, ?_⟩, by simp [intOf]; omega⟩
        rw [HL2.out, HN.out, List.map_append]
        exact HO3.out
      · have e1 : isB N E s l = false := by
          have : lkB E s l (k + 1) = false := by show (lkB E s l k && decide _) = false; rw [decide_eq_false hf, Bool.and_false]
          have := lkB_mono this (n - (k + 1))
          rw [show k + 1 + (n - (k + 1)) = n by omega] at this
          exact HV.out.trans this
        have hne : ((ge E (gi l k).toNat).f == ndI E s l k) = false := by simpa using hf
        have HW : Hid (nodesL N E s l = []) := by unfold nodesL; rw [e1]; rfl
        rw [HW.out, e1]
        clear hf e1
        generalize (ge E (gi l k).toNat).t = t at *
        generalize (ge E (gi l k).toNat).f = f at *
        generalize hq : gi l k = q at *
        obtain ⟨q, rfl⟩ := Int.eq_ofNat_of_zero_le i1
        simp only [Int.toNat_natCast] at i2 c2 c3 c4
        generalize (ge E q).w = w3 at *
        go_wp2_with fail
        go_region
        go_wp2_with fail
        go_region
        go_wp2
        go_ret2
        exact ⟨none, 0, rfl, Nat.le_refl _, ⟨rfl, fun h => absurd h (by simp)⟩, GG⟩
theorem r8Nodes (N : Int) (A : Option Addr) (m c : Nat) (E : List Edg) (s : Int) (B : Option Addr) (n d : Nat) (l : List Int) (w : World) (h : Rd w A 3 m (esCells E)) (hm : m ≤ 1000000) (h' : Rd w B 1 n (l.map (.int .i64))) (hn : n ≤ 1000000) :
    Calls Tryz.prog 74 #[.agg #[.int .i64 N, .slice A m c], .int .i64 s, .slice B n d] w (GiveIB w (nodesL N E s l) (isB N E s l)) :=
  (r8NodesC N A m c E s B n d l w h hm h' hn).mono fun _ _ ⟨A, c, h1, _, h2⟩ => ⟨A, c, h1, h2⟩
end Go.Proofs.YtgplpgldhoelcaaGreat

namespace Go.Proofs.YtgplpgldhoelcaaGreat
open Go Go.RowKit
set_option maxRecDepth 20000 in
set_option maxHeartbeats 2000000 in
theorem r8Simple (N : Int) (A : Option Addr) (m c : Nat) (E : List Edg) (s : Int) (B : Option Addr) (n d : Nat) (l : List Int) (w : World) (h : Rd w A 3 m (esCells E)) (hm : m ≤ 1000000) (h' : Rd w B 1 n (l.map (.int .i64))) (hn : n ≤ 100000) :
    Calls Tryz.prog 23 #[.agg #[.int .i64 N, .slice A m c], .int .i64 s, .slice B n d] w fun e w' => e = .returned (.bool (simB N E s l)) ∧ Grows w w' := by
  have HV : Hid (simB N E s l = (isB N E s l && oneB (nodesL N E s l) (nodesL N E s l).length)) := rfl
  have hlen : (nodesL N E s l).length ≤ 100001 := by
    have : l.length = n := by simpa using h'.len
    unfold nodesL
    split
    · rw [ndL_len]; omega
    · simp
  have C1 := hide (fun (W : World) (g : Grows w W) => r8NodesC N A m c E s B n d l W (h.grows g) hm (h'.grows g) (by omega))
  clear h h'
  generalize nodesL N E s l = nl at *
  generalize isB N E s l = bb at *
  go_enter Tryz.func23, Tryz.ntmps23
  go_wp2_with (go_at_call 74; refine (C1.out _ GG).mono ?_; rintro e w' ⟨A1, c1, rfl, hc1, hr1, hg⟩; obtain ⟨x1, rfl⟩ := hg.later; have HR := hide hr1; have HC := hide hc1; clear hg hr1 hc1)
  go_loopw [9] (fun i wr => ∃ k : Nat, k ≤ nl.length ∧ i = .int .i64 (k : Int) ∧ (∃ y : Later x1.now, wr = y.now) ∧ Hid (∀ j, j < k → gi nl j ∉ nl.take j)) (fun i _ => nl.length - (intOf i).toNat)
  case atStart => exact ⟨0, by omega, by go_num, ⟨⟨_, Grows.refl _⟩, rfl⟩, fun j h => by omega⟩
  case round =>
    obtain ⟨k, hk, rfl, ⟨y, rfl⟩, HA⟩ := hrel
    by_cases hend : nl.length ≤ k
    · have HW : Hid (oneB nl nl.length = true) := decide_eq_true (fun j hj => HA.out j (by omega))
      go_wp2
      go_ret
      exact ⟨ret_bool (by rw [HV.out, HW.out, Bool.and_true]), GG⟩
    · obtain ⟨b, off, rfl, hc⟩ := HR.out.intsH (by omega)
      have c1' := hc k (by omega)
      clear hc
      have hcap : k ≤ c1 := by have := HC.out; omega
      have D1 := fun (W : World) (g : Grows x1.now W) => calls_same (r1Has (some ⟨b, off, none⟩) k c1 (nl.take k) (gi nl k) W (Rd.take (HR.out.grows g) (by omega)) (by omega))
      cases hin : decide (gi nl k ∈ nl.take k) with
      | true =>
        have HW : Hid (oneB nl nl.length = false) := decide_eq_false (fun h => h k (by omega) (of_decide_eq_true hin))
        rw [hin] at D1
        have K1 := hide D1
        clear D1 hin
        go_wp2_with fail
        ((first | refine wp_region_gen (by kernel_rfl) (by kernel_rfl) ?_); (repeat' (first | (refine gLex_val0 rfl (by kernel_rfl) (fun K hK => ?_); (go_simp; (try (simp only [↓IntWalk.iteOmega]; try go_simp)); (try simp (disch := omega) only [IntWalk.i64_in]); (try simp (disch := omega) only [IntWalk.u64_in]); first | (refine hK _ ?_; clear hK K) | (apply Exists.intro; refine ⟨fun x => ?_, hK _ ?_⟩; (first | (go_at_call 57; exact K1.out _ GG)); clear hK K))) | (refine gLex_undef rfl rfl rfl (by kernel_rfl) (fun K hK => ?_); go_simp; refine hK _ ?_; clear hK K) | (refine gLex_ask rfl rfl rfl ?_; first | (apply gAsk_yes; kernel_rfl; intro K hK; (go_simp; (try (simp only [↓IntWalk.iteOmega]; try go_simp)); (try simp (disch := omega) only [IntWalk.i64_in]); (try simp (disch := omega) only [IntWalk.u64_in]); first | (refine hK _ ?_; clear hK K) | (apply Exists.intro; refine ⟨fun x => ?_, hK _ ?_⟩; (first | (go_at_call 57; exact K1.out _ GG)); clear hK K))) | ((first | apply gAsk_no1 | apply gAsk_no2); kernel_rfl; intro K hK; simp [go_sem]; refine hK _ ?_; clear hK K) | (apply gAsk_part; kernel_rfl; all_goals (intro h K hK; (try simp only [Bool.not_true] at h); (try simp only [Bool.not_false] at h); (try simp only [decide_eq_true_eq] at h); (try simp only [decide_eq_false_iff_not] at h); first | (exfalso; first | contradiction | omega) | (go_simp; (try (simp only [↓IntWalk.iteOmega]; try go_simp)); (try simp (disch := omega) only [IntWalk.i64_in]); (try simp (disch := omega) only [IntWalk.u64_in]); first | (refine hK _ ?_; clear hK K) | (apply Exists.intro; refine ⟨fun x => ?_, hK _ ?_⟩; (first | (go_at_call 57; exact K1.out _ GG)); clear hK K))))))); all_goals ((apply gLex_end); intro x))
        go_wp2
        go_ret
        exact ⟨ret_bool (by rw [HV.out, HW.out, Bool.and_false]), GG⟩
      | false =>
        have HN : Hid (∀ j, j < k + 1 → gi nl j ∉ nl.take j) := fun j hj => by
          by_cases e : j = k
          · rw [e]; exact of_decide_eq_false hin
          · exact HA.out j (by omega)
        rw [hin] at D1
        have K1 := hide D1
        clear D1 hin
        go_wp2_with fail
        ((first | refine wp_region_gen (by kernel_rfl) (by kernel_rfl) ?_); (repeat' (first | (refine gLex_val0 rfl (by kernel_rfl) (fun K hK => ?_); (go_simp; (try (simp only [↓IntWalk.iteOmega]; try go_simp)); (try simp (disch := omega) only [IntWalk.i64_in]); (try simp (disch := omega) only [IntWalk.u64_in]); first | (refine hK _ ?_; clear hK K) | (apply Exists.intro; refine ⟨fun x => ?_, hK _ ?_⟩; (first | (go_at_call 57; exact K1.out _ GG)); clear hK K))) | (refine gLex_undef rfl rfl rfl (by kernel_rfl) (fun K hK => ?_); go_simp; refine hK _ ?_; clear hK K) | (refine gLex_ask rfl rfl rfl ?_; first | (apply gAsk_yes; kernel_rfl; intro K hK; (go_simp; (try (simp only [↓IntWalk.iteOmega]; try go_simp)); (try simp (disch := omega) only [IntWalk.i64_in]); (try simp (disch := omega) only [IntWalk.u64_in]); first | (refine hK _ ?_; clear hK K) | (apply Exists.intro; refine ⟨fun x => ?_, hK _ ?_⟩; (first | (go_at_call 57; exact K1.out _ GG)); clear hK K))) | ((first | apply gAsk_no1 | apply gAsk_no2); kernel_rfl; intro K hK; simp [go_sem]; refine hK _ ?_; clear hK K) | (apply gAsk_part; kernel_rfl; all_goals (intro h K hK; (try simp only [Bool.not_true] at h); (try simp only [Bool.not_false] at h); (try simp only [decide_eq_true_eq] at h); (try simp only [decide_eq_false_iff_not] at h); first | (exfalso; first | contradiction | omega) | (go_simp; (try (simp only [↓IntWalk.iteOmega]; try go_simp)); (try simp (disch := omega) only [IntWalk.i64_in]); (try simp (disch := omega) only [IntWalk.u64_in]); first | (refine hK _ ?_; clear hK K) | (apply Exists.intro; refine ⟨fun x => ?_, hK _ ?_⟩; (first | (go_at_call 57; exact K1.out _ GG)); clear hK K))))))); all_goals ((apply gLex_end); intro x))
        go_wp2
        exact ⟨⟨k + 1, by omega, by go_num, Grows.later GG, HN⟩, by simp [intOf]; omega⟩
end Go.Proofs.YtgplpgldhoelcaaGreat

namespace Go.Proofs.YtgplpgldhoelcaaGreat
open Go Go.RowKit
attribute [local go_sem] Oper.semAt_some
theorem isW.nds {N : Nat} {E : List Edg} {t v : Nat} {l : List Nat} (h : isW E t v l) (hr : rightF (N : Int) E = 0) : ndL E (v : Int) (ciL l) (l.length + 1) = ciL (ndsN E v l) := by
  obtain ⟨_, _, _, r4, _⟩ := right_in hr
  rw [Int.toNat_natCast] at r4
  refine List.ext_getElem (by simp [ndL_len, ciL, ndsN]) fun k h1 h2 => ?_
  have hk : k ≤ l.length := by rw [ndL_len] at h1; omega
  have e := ndI_is r4 (v := v) h.edges k hk
  simp only [ndL, List.getElem_map, List.getElem_range, ciL]
  exact e
theorem SP.sim {N : Nat} {E : List Edg} {s t : Nat} {l : List Nat} (h : SP E s t l) (hr : rightF (N : Int) E = 0) (hs : s < N) : simB (N : Int) E (s : Int) (ciL l) = true := by
  have e : nodesL (N : Int) E (s : Int) (ciL l) = ciL (ndsN E s l) := by
    unfold nodesL
    rw [if_pos (h.1.is hr hs), ciL_len, h.1.nds hr]
  unfold simB
  rw [h.1.is hr hs, e, Bool.true_and]
  exact oneB_is h.2
end Go.Proofs.YtgplpgldhoelcaaGreat

namespace Go.Proofs.YtgplpgldhoelcaaGreat
open Go Go.RowKit
set_option maxRecDepth 20000 in
set_option maxHeartbeats 2000000 in
theorem r8Is (N : Int) (A : Option Addr) (m c : Nat) (E : List Edg) (s t : Int) (B : Option Addr) (n d : Nat) (l : List Int) (w : World) (h : Rd w A 3 m (esCells E)) (hm : m ≤ 1000000) (h' : Rd w B 1 n (l.map (.int .i64))) (hn : n ≤ 100000) :
    Calls Tryz.prog 22 #[.agg #[.int .i64 N, .slice A m c], .int .i64 s, .int .i64 t, .slice B n d] w fun e w' => e = .returned (.bool (isB N E s l && decide (gi (nodesL N E s l) l.length = t))) ∧ Grows w w' := by
  have C := hide (fun (W : World) (g : Grows w W) => r8Nodes N A m c E s B n d l W (h.grows g) hm (h'.grows g) (by omega))
  have hl : l.length = n := by simpa using h'.len
  clear h h'
  subst hl
  cases hq : isB N E s l with
  | false =>
    rw [hq] at C
    rw [Bool.false_and]
    clear hq
    go_enter Tryz.func22, Tryz.ntmps22
    go_wp2_with (go_at_call 74; refine (C.out _ GG).mono ?_; rintro e w' ⟨A7, c7, rfl, _, hg⟩; obtain ⟨x1, rfl⟩ := hg.later; clear hg)
    go_ret
    exact ⟨rfl, GG⟩
  | true =>
    have hk : (nodesL N E s l).length = l.length + 1 := by unfold nodesL; rw [if_pos hq, ndL_len]
    rw [hq] at C
    unfold GiveIB at C
    rw [hk] at C
    rw [Bool.true_and]
    clear hq
    generalize nodesL N E s l = L at *
    generalize l.length = k at *
    by_cases ht : gi L k = t
    · have hb : (gi L k == t) = true := by simpa using ht
      rw [decide_eq_true ht]
      clear ht
      go_enter Tryz.func22, Tryz.ntmps22
      go_wp2_with fail
      refine (C.out _ GG).mono ?_; rintro e w' ⟨A7, c7, rfl, hr, hg⟩
      obtain ⟨b, off, rfl, hc⟩ := hr.ints (by omega)
      have k1 : Holds w' ⟨b, off + k, none⟩ (.int .i64 (gi L k)) := ⟨hc k (by omega)⟩
      obtain ⟨x1, rfl⟩ := hg.later
      clear hg hr hc
      try simp only [Int.natCast_add, Int.natCast_one]
      go_wp2_with fail
      go_ret
      exact ⟨rfl, GG⟩
    · have hb : (gi L k == t) = false := beq_eq_false_iff_ne.2 ht
      rw [decide_eq_false ht]
      clear ht
      go_enter Tryz.func22, Tryz.ntmps22
      go_wp2_with fail
      refine (C.out _ GG).mono ?_; rintro e w' ⟨A7, c7, rfl, hr, hg⟩
      obtain ⟨b, off, rfl, hc⟩ := hr.ints (by omega)
      have k1 : Holds w' ⟨b, off + k, none⟩ (.int .i64 (gi L k)) := ⟨hc k (by omega)⟩
      obtain ⟨x1, rfl⟩ := hg.later
      clear hg hr hc
      try simp only [Int.natCast_add, Int.natCast_one]
      go_wp2_with fail
      go_ret
      exact ⟨rfl, GG⟩
end Go.Proofs.YtgplpgldhoelcaaGreat

namespace Go.Proofs.YtgplpgldhoelcaaGreat
open Go Go.RowKit
theorem SP.isE {N : Nat} {E : List Edg} {s t : Nat} {l : List Nat} (h : SP E s t l) (hr : rightF (N : Int) E = 0) (hs : s < N) : (isB (N : Int) E (s : Int) (ciL l) && decide (gi (nodesL (N : Int) E (s : Int) (ciL l)) (ciL l).length = (t : Int))) = true := by
  have h1 := h.1.is hr hs
  rw [h1, Bool.true_and, decide_eq_true_eq]
  unfold nodesL
  rw [if_pos h1, ciL_len, h.1.nds hr, ciL_gn (by rw [ndsN_len]; omega)]
  show ((ndAt E s l l.length : Nat) : Int) = t
  rw [h.1.last]
end Go.Proofs.YtgplpgldhoelcaaGreat

namespace Go.Proofs.YtgplpgldhoelcaaGreat
open Go Go.RowKit
attribute [local go_sem] Oper.semAt_some
set_option maxRecDepth 20000 in
set_option maxHeartbeats 16000000 in
theorem yenFirstW (N : Int) (A : Option Addr) (n c : Nat) (E : List Edg) (s t k more : Int) (w : World) (_ : I64 N) (_ : n ≤ c) (h : Rd w A 3 n (esCells E)) (_ : ∀ k, k < n → edgOk (ge E k)) (_ : I64 s) (_ : I64 t) (_ : I64 k) (_ : I64 more) :
    Calls Tryz.prog 5 #[.agg #[.int .i64 N, .slice A n c], .int .i64 s, .int .i64 t, .int .i64 k, .int .i64 more] w fun e w' => e = .returned (.bool true) ∧ Grows w w' := by
  have C5 := hide (fun (W : World) => alive31 W)
  have C6 := hide (fun (W : World) => lLight30 N A n c W)
  obtain rfl : E.length = n := h.elen
  cases hl : lightY N E.length with
  | false =>
    rw [hl] at C6
    generalize E.length = n at *
    clear h hl
    go_enter Tryz.func5, Tryz.ntmps5
    go_wp2_with (first | (go_at_call 17; refine (C6.out _).mono ?_; rintro e w' ⟨rfl, hg⟩; (first | obtain ⟨x, rfl⟩ := Grows.later2 hg | obtain ⟨x, rfl⟩ := Grows.later hg); clear hg) | (go_at_call 18; refine (C5.out _).mono ?_; rintro e w' ⟨rfl, hg⟩; (first | obtain ⟨x, rfl⟩ := Grows.later2 hg | obtain ⟨x, rfl⟩ := Grows.later hg); clear hg))
    go_ret
    exact ⟨rfl, GG⟩
  | true =>
    rw [hl] at C6
    have hlt := lightY_of hl
    clear hl
    by_cases hkm : 1 ≤ k ∧ k ≤ 40 ∧ 0 ≤ more ∧ more ≤ 40
    · obtain ⟨hk1, hk2, hm1, hm2⟩ := hkm
      obtain ⟨kN, rfl⟩ : ∃ kN : Nat, k = (kN : Int) := ⟨k.toNat, by omega⟩
      obtain ⟨mN, rfl⟩ : ∃ mN : Nat, more = (mN : Int) := ⟨more.toNat, by omega⟩
      have hb1 : decide ((kN : Int) < 1) = false := decide_eq_false (by omega)
      have hb2 : decide ((40 : Int) < (kN : Int)) = false := decide_eq_false (by omega)
      have hb3 : decide ((mN : Int) < 0) = false := decide_eq_false (by omega)
      have hb4 : decide ((40 : Int) < (mN : Int)) = false := decide_eq_false (by omega)
      by_cases hbad : yeF N E s t ≠ 0
      · have C1 := hide (fun (X : World) (g : Grows w X) (j : Int) => yeWaysBad N A E.length c E s t j X (h.grows g) (by omega) hbad)
        have C3 := hide (fun (W : World) => show Calls Tryz.prog 21 #[.slice none 0 0, .slice none 0 0] W fun e w' => e = .returned (.bool true) ∧ Grows W w' from r8RoutesEq 0 0 none none 0 0 [] [] [] W (RtsAt.nil _ _) (RtsAt.nil _ _) (by simp) (by simp))
        generalize E.length = n at *
        generalize yeF N E s t = f at *
        clear h hbad hlt
        go_enter Tryz.func5, Tryz.ntmps5
        go_wp2_with (first | (go_at_call 17; refine (C6.out _).mono ?_; rintro e w' ⟨rfl, hg⟩; (first | obtain ⟨x, rfl⟩ := Grows.later2 hg | obtain ⟨x, rfl⟩ := Grows.later hg); clear hg) | (go_at_call 19; refine (C1.out _ GG _).mono ?_; rintro e w' ⟨rfl, hg⟩; (first | obtain ⟨x, rfl⟩ := Grows.later2 hg | obtain ⟨x, rfl⟩ := Grows.later hg); clear hg) | (go_at_call 21; refine (C3.out _).mono ?_; rintro e w' ⟨rfl, hg⟩; (first | obtain ⟨x, rfl⟩ := Grows.later2 hg | obtain ⟨x, rfl⟩ := Grows.later hg); clear hg))
        go_loopw [15] (fun i wr => i = .int .i64 0 ∧ ∃ z : Later w, wr = z.now) (fun _ _ => 0)
        case atStart => exact ⟨by go_num, ⟨_, GG⟩, rfl⟩
        case round =>
          obtain ⟨rfl, z, rfl⟩ := hrel
          go_wp2_with (first | (go_at_call 18; refine (C5.out _).mono ?_; rintro e w' ⟨rfl, hg⟩; (first | obtain ⟨x, rfl⟩ := Grows.later2 hg | obtain ⟨x, rfl⟩ := Grows.later hg); clear hg))
          go_ret
          exact ⟨rfl, GG⟩
      · have hok : yeF N E s t = 0 := by omega
        obtain ⟨hr, NN, sN, tN', rfl, rfl, rfl, hs, ht⟩ := yeF_ok hok
        have hin := (right_in hr).2.2.2.1
        have hN4 := (right_in hr).2.1
        rw [Int.toNat_natCast] at hin
        have hall := srt_is (t := tN') hin hs
        have hfew := rows_few (N := NN) (s := sN) (t := tN') hlt.2
        have halen : (srtL E (rowsL E NN sN tN')).length ≤ 3200 := by
          have := srtL_len E (rowsL E NN sN tN') _ (Nat.le_refl _)
          rw [List.take_length] at this
          omega
        generalize srtL E (rowsL E NN sN tN') = all at *
        obtain ⟨M, hM⟩ : ∃ M, M = all.take (kN + mN) := ⟨_, rfl⟩
        have hMl : M.length ≤ 3200 := by rw [hM, List.length_take]; omega
        have hMsp : ∀ p ∈ M, SP E sN tN' p := fun p hp => (hall.mem p).1 (by rw [hM] at hp; exact List.mem_of_mem_take hp)
        have hMs : M.Pairwise (rLt E) := by rw [hM]; exact hall.sort.sublist (List.take_sublist _ _)
        have hML : all.take kN = M.take (all.take kN).length := by
          rw [hM, List.take_take, List.length_take]
          rcases Nat.lt_or_ge kN all.length with h1 | h1
          · rw [Nat.min_eq_left (by omega), Nat.min_eq_left (by omega)]
          · rw [List.take_of_length_le h1, List.take_of_length_le (by omega)]
        obtain ⟨n1, hn1⟩ : ∃ n1, n1 = (all.take kN).length := ⟨_, rfl⟩
        obtain ⟨n2, hn2⟩ : ∃ n2, n2 = M.length := ⟨_, rfl⟩
        have hn12 : n1 ≤ n2 := by rw [hn1, hn2, hM, List.length_take, List.length_take]; omega
        have hn1k : n1 ≤ kN := by rw [hn1, List.length_take]; omega
        have hcc : (n1 < kN ∧ n2 ≤ n1) ∨ ¬ n1 < kN := by
          rcases Nat.lt_or_ge n1 kN with h1 | h1
          · left
            refine ⟨h1, ?_⟩
            rw [hn1, List.length_take] at h1 ⊢
            rw [hn2, hM, List.length_take]
            omega
          · right; omega
        rw [← hn1] at hML
        have hn2s : n2 ≤ 3200 := by omega
        have C1 := hide (fun (X : World) (g : Grows w X) => show Calls Tryz.prog 19 #[.agg #[.int .i64 (NN : Int), .slice A E.length c], .int .i64 (sN : Int), .int .i64 (tN' : Int), .int .i64 (kN : Int)] X fun e w' => ∃ A' c' rs, e = .returned (.tuple #[.slice A' n1 c', .int .i64 0]) ∧ Hid (rs.length = n1) ∧ RtsAt w' 0 A' c' rs (rtW E (M.take n1)) ∧ Grows X w' from by
          refine (yeWays NN A E.length c E sN tN' kN _ X (h.grows g) (by omega) hr (by omega) hs ht hall (by omega) (by omega) (by omega)).mono ?_
          rintro e w' ⟨A', c', rs, rfl, h2, hg⟩
          have hl := h2.len
          rw [show (rtW E (all.take kN)).length = n1 by rw [hn1]; simp [rtW]] at hl
          rw [hML] at h2
          exact ⟨A', c', rs, by rw [hl], hide hl, ⟨h2.own.base (Nat.zero_le _), h2.rows, h2.eqs⟩, hg⟩)
        have C2 := hide (fun (X : World) (g : Grows w X) => show Calls Tryz.prog 19 #[.agg #[.int .i64 (NN : Int), .slice A E.length c], .int .i64 (sN : Int), .int .i64 (tN' : Int), .int .i64 ((kN : Int) + (mN : Int))] X fun e w' => ∃ A' c' rs, e = .returned (.tuple #[.slice A' n2 c', .int .i64 0]) ∧ Hid (rs.length = n2) ∧ RtsAt w' 0 A' c' rs (rtW E M) ∧ n2 ≤ c' ∧ ((A' = none ∧ n2 = 0 ∧ c' = 0) ∨ ∃ g, A' = some ⟨g, 0, none⟩) ∧ Grows X w' from by
          have hq := yeWays NN A E.length c E sN tN' (kN + mN) _ X (h.grows g) (by omega) hr (by omega) hs ht hall (by omega) (by omega) (by omega)
          rw [Int.natCast_add] at hq
          refine hq.mono ?_
          rintro e w' ⟨A', c', rs, rfl, h2, hg⟩
          have hl := h2.len
          rw [show (rtW E (all.take (kN + mN))).length = n2 by rw [hn2, hM]; simp [rtW]] at hl
          rw [← hM] at h2
          have hc := h2.own.capN
          have hf := h2.form
          rw [hl] at hc hf
          exact ⟨A', c', rs, by rw [hl], hide hl, ⟨h2.own.base (Nat.zero_le _), h2.rows, h2.eqs⟩, hc, hf, hg⟩)
        have hMshort : ∀ p ∈ M, p.length ≤ 60 := fun p hp => by
          have := (hMsp p hp).short hr hs
          omega
        have C3 := hide (fun (W : World) (A1 A2 : Option Addr) (c1 c2 : Nat) (rs1 rs2 : List Rt) (l1 : rs1.length = n1) (l2 : rs2.length = n2) (h1 : RtsAt W 0 A1 c1 rs1 (rtW E (M.take n1))) (h2 : RtsAt W 0 A2 c2 rs2 (rtW E M)) => show Calls Tryz.prog 21 #[.slice A1 n1 c1, .slice A2 n1 c2] W fun e w' => e = .returned (.bool true) ∧ Grows W w' from by
          have h3 := h2.cut (k := n1) (by omega)
          rw [show (rtW E M).take n1 = rtW E (M.take n1) by simp [rtW, List.map_take]] at h3
          have hq := r8RoutesEq 0 0 A1 A2 c1 c2 rs1 (rs2.take n1) _ W h1 h3 (by simp [rtW]; omega) (fun p hp => by
            obtain ⟨q, hq, rfl⟩ := List.mem_map.1 hp
            have := hMshort q (List.mem_of_mem_take hq)
            show q.length ≤ 1000000
            omega)
          rw [l1, show (rs2.take n1).length = n1 by rw [List.length_take]; omega] at hq
          exact hq)
        have hEl : E.length ≤ 1000000 := by omega
        have CI := hide (fun (X : World) (g : Grows w X) (j : Nat) (hj : j < M.length) (A3 : Option Addr) (c3 : Nat) (o3 : Own X 0 3 1 A3 (gL M j).length c3 (nv (gL M j))) => show Calls Tryz.prog 22 #[.agg #[.int .i64 (NN : Int), .slice A E.length c], .int .i64 (sN : Int), .int .i64 (tN' : Int), .slice A3 (gL M j).length c3] X fun e w' => e = .returned (.bool true) ∧ Grows X w' from by
          have hm : gL M j ∈ M := by rw [gL_at hj]; exact List.getElem_mem _
          have hq := r8Is (NN : Int) A E.length c E (sN : Int) (tN' : Int) A3 (gL M j).length c3 (ciL (gL M j)) X (h.grows g) hEl (by rw [← nv_ci]; exact o3.rd) (by have := hMshort _ hm; omega)
          rw [(hMsp _ hm).isE hr hs] at hq
          exact hq)
        have CS := hide (fun (X : World) (g : Grows w X) (j : Nat) (hj : j < M.length) (A3 : Option Addr) (c3 : Nat) (o3 : Own X 0 3 1 A3 (gL M j).length c3 (nv (gL M j))) => show Calls Tryz.prog 23 #[.agg #[.int .i64 (NN : Int), .slice A E.length c], .int .i64 (sN : Int), .slice A3 (gL M j).length c3] X fun e w' => e = .returned (.bool true) ∧ Grows X w' from by
          have hm : gL M j ∈ M := by rw [gL_at hj]; exact List.getElem_mem _
          have hq := r8Simple (NN : Int) A E.length c E (sN : Int) A3 (gL M j).length c3 (ciL (gL M j)) X (h.grows g) hEl (by rw [← nv_ci]; exact o3.rd) (by have := hMshort _ hm; omega)
          rw [(hMsp _ hm).sim hr hs] at hq
          exact hq)
        have CC := hide (fun (X : World) (j i : Nat) (hj : j < i) (hi : i < M.length) (A3 A4 : Option Addr) (c3 c4 : Nat) (o3 : Own X 0 3 1 A3 (gL M j).length c3 (nv (gL M j))) (o4 : Own X 0 3 1 A4 (gL M i).length c4 (nv (gL M i))) => show Calls Tryz.prog 24 #[.agg #[.slice A3 (gL M j).length c3, .int .u64 (wE E (gL M j) : Int)], .agg #[.slice A4 (gL M i).length c4, .int .u64 (wE E (gL M i) : Int)]] X fun e w' => e = .returned (.int .i64 (-1)) ∧ Grows X w' from by
          have hm : gL M j ∈ M := by rw [gL_at (Nat.lt_trans hj hi)]; exact List.getElem_mem _
          have hm2 : gL M i ∈ M := by rw [gL_at hi]; exact List.getElem_mem _
          have hq := r8CmpG A3 (gL M j).length c3 (wE E (gL M j)) (gL M j) A4 (gL M i).length c4 (wE E (gL M i)) (gL M i) X o3.rd (by have := hMshort _ hm; omega) o4.rd (by have := hMshort _ hm2; omega)
          have hlt : rLt E (gL M j) (gL M i) := by
            rw [gL_at (Nat.lt_trans hj hi), gL_at hi]
            exact List.pairwise_iff_getElem.1 hMs j i (Nat.lt_trans hj hi) hi hj
          rw [cmpV_is rfl rfl, show cmpR E (gL M j) (gL M i) = -1 from hlt] at hq
          unfold rVal at hq
          exact hq)
        have HN2 := hide hn2
        clear hok hr hbad hin hN4 hall hfew halen hlt hML hM hMsp hMs hMshort hn1 hn2 hMl
        generalize E.length = n at *
        clear h
        go_enter Tryz.func5, Tryz.ntmps5
        go_upto_region 4 with (first
          | (go_at_call 17; refine (C6.out _).mono ?_; rintro e w' ⟨rfl, hg⟩; obtain ⟨x1, rfl⟩ := hg.later; clear hg)
          | (go_at_call 19; refine (C1.out _ GG).mono ?_; rintro e w' ⟨A1, c1, rs1, rfl, hl1, ho1, hg⟩; obtain ⟨x2, rfl⟩ := hg.later; have HO1 := hide ho1; clear hg ho1))
        go_upto_region 5 with (go_at_call 19; refine (C2.out _ GG).mono ?_; rintro e w' ⟨A2, c2, rs2, rfl, hl2, ho2, hc2, hform, hg⟩; obtain ⟨x3, rfl⟩ := hg.later; have HO2 := hide ho2; clear hg ho2)
        have HO1 := hide (HO1.out.grows (show Grows x2.now x3.now from GG))
        have hd1 : decide (n2 < n1) = false := decide_eq_false (by omega)
        have hd2 : decide (kN < n1) = false := decide_eq_false (by omega)
        replace hcc : (decide (n1 < kN) = true ∧ decide (n1 < n2) = false) ∨ decide (n1 < kN) = false := hcc.imp (fun e => ⟨decide_eq_true e.1, decide_eq_false (by omega)⟩) (fun e => decide_eq_false e)
        rcases hform with ⟨rfl, h20, rfl⟩ | ⟨g8, rfl⟩
        · subst h20
          obtain rfl : n1 = 0 := by omega
          have hk0 : (0 : Int) < (kN : Int) := by omega
          go_wp2_with (go_at_call 21; refine (C3.out _ A1 _ c1 0 rs1 rs2 hl1.out hl2.out (HO1.out.grows GG) (HO2.out.grows GG)).mono ?_; rintro e w' ⟨rfl, hg⟩; obtain ⟨x4, rfl⟩ := hg.later; clear hg)
          go_loopw [15] (fun i wr => i = .int .i64 0 ∧ ∃ z : Later w, wr = z.now) (fun _ _ => 0)
          case atStart => exact ⟨by go_num, ⟨_, GG⟩, rfl⟩
          case round =>
            obtain ⟨rfl, z, rfl⟩ := hrel
            go_wp2_with (first | (go_at_call 18; refine (C5.out _).mono ?_; rintro e w' ⟨rfl, hg⟩; (first | obtain ⟨x, rfl⟩ := Grows.later2 hg | obtain ⟨x, rfl⟩ := Grows.later hg); clear hg))
            go_ret
            exact ⟨rfl, GG⟩
        · rcases hcc with ⟨hc1, hc3⟩ | hc1
          all_goals
            go_wp2_with (go_at_call 21; refine (C3.out _ A1 _ c1 c2 rs1 rs2 hl1.out hl2.out (HO1.out.grows GG) (HO2.out.grows GG)).mono ?_; rintro e w' ⟨rfl, hg⟩; obtain ⟨x4, rfl⟩ := hg.later; clear hg)
            go_loopw [15] (fun i wr => ∃ j : Nat, j ≤ n2 ∧ i = .int .i64 (j : Int) ∧ ∃ z : Later x3.now, wr = z.now) (fun i _ => n2 - (Go.RowKit.intOf i).toNat)
            case atStart => exact ⟨0, by omega, by go_num, ⟨_, GG⟩, rfl⟩
            case round =>
              obtain ⟨j, hj, rfl, z, rfl⟩ := hrel
              have hgz : Grows w z.now := (show Grows w x3.now from GG).trans z.grows
              by_cases hlt : j < n2
              · have hjM : j < M.length := by have := HN2.out; omega
                have HZ := hide (HO2.out.grows z.grows)
                obtain ⟨g3, A3, c3, e3, _, k1, k2, o3⟩ := HZ.out.way hjM
                injection e3 with e3
                injection e3 with e3
                subst e3
                have CI2 := hide (fun (X : World) (g : Grows z.now X) => CI.out X (hgz.trans g) j hjM A3 c3 (o3.grows g))
                have CS2 := hide (fun (X : World) (g : Grows z.now X) => CS.out X (hgz.trans g) j hjM A3 c3 (o3.grows g))
                rcases Nat.eq_zero_or_pos j with h0 | h0
                · have h00 : ¬ (0 : Int) < (j : Int) := by omega
                  generalize (gL M j).length = n3 at *
                  generalize wE E (gL M j) = f3 at *
                  clear h0 o3 hjM CI CS CC C1 C2 C3
                  go_wp2_with fail
                  ((first | refine wp_region_gen (by kernel_rfl) (by kernel_rfl) ?_); (repeat' (first | (refine gLex_val0 rfl (by kernel_rfl) (fun K hK => ?_); (go_simp; (try (simp only [↓IntWalk.iteOmega]; try go_simp)); (try simp (disch := omega) only [IntWalk.i64_in]); (try simp (disch := omega) only [IntWalk.u64_in]); first | (refine hK _ ?_; clear hK K) | (apply Exists.intro; refine ⟨fun x => ?_, hK _ ?_⟩; (first | (go_at_call 22; exact CI2.out _ GG) | (go_at_call 23; exact CS2.out _ GG)); clear hK K))) | (refine gLex_undef rfl rfl rfl (by kernel_rfl) (fun K hK => ?_); go_simp; refine hK _ ?_; clear hK K) | (refine gLex_ask rfl rfl rfl ?_; first | (apply gAsk_yes; kernel_rfl; intro K hK; (go_simp; (try (simp only [↓IntWalk.iteOmega]; try go_simp)); (try simp (disch := omega) only [IntWalk.i64_in]); (try simp (disch := omega) only [IntWalk.u64_in]); first | (refine hK _ ?_; clear hK K) | (apply Exists.intro; refine ⟨fun x => ?_, hK _ ?_⟩; (first | (go_at_call 22; exact CI2.out _ GG) | (go_at_call 23; exact CS2.out _ GG)); clear hK K))) | ((first | apply gAsk_no1 | apply gAsk_no2); kernel_rfl; intro K hK; simp [go_sem]; refine hK _ ?_; clear hK K) | (apply gAsk_part; kernel_rfl; all_goals (intro h K hK; (try simp only [Bool.not_true] at h); (try simp only [Bool.not_false] at h); (try simp only [decide_eq_true_eq] at h); (try simp only [decide_eq_false_iff_not] at h); first | (exfalso; first | contradiction | omega) | (go_simp; (try (simp only [↓IntWalk.iteOmega]; try go_simp)); (try simp (disch := omega) only [IntWalk.i64_in]); (try simp (disch := omega) only [IntWalk.u64_in]); first | (refine hK _ ?_; clear hK K) | (apply Exists.intro; refine ⟨fun x => ?_, hK _ ?_⟩; (first | (go_at_call 22; exact CI2.out _ GG) | (go_at_call 23; exact CS2.out _ GG)); clear hK K))))))); all_goals ((apply gLex_end); intro z1))
                  go_wp2_with fail
                  go_roundw
                  case measure => simp [Go.RowKit.intOf]; omega
                  case rel => exact ⟨j + 1, by omega, by go_num, ⟨_, GG⟩, rfl⟩
                · obtain ⟨j', rfl⟩ : ∃ j', j = j' + 1 := ⟨j - 1, by omega⟩
                  obtain ⟨g4, A4, c4, e4, _, m1, m2, o4⟩ := HZ.out.way (i := j') (by omega)
                  injection e4 with e4
                  injection e4 with e4
                  subst e4
                  have CC2 := hide (fun (X : World) (g : Grows z.now X) => CC.out X j' (j' + 1) (by omega) hjM A4 A3 c4 c3 (o4.grows g) (o3.grows g))
                  have hi1 : ((j' : Int) + 1).toNat = j' + 1 := by omega
                  have h00 : (0 : Int) < (j' : Int) + 1 := by omega
                  generalize (gL M (j' + 1)).length = n3 at *
                  generalize wE E (gL M (j' + 1)) = f3 at *
                  generalize (gL M j').length = n4 at *
                  generalize wE E (gL M j') = f4 at *
                  simp only [Int.natCast_add, Int.natCast_one]
                  clear h0 o3 o4 hjM CI CS CC C1 C2 C3
                  go_wp2_with fail
                  ((first | refine wp_region_gen (by kernel_rfl) (by kernel_rfl) ?_); (repeat' (first | (refine gLex_val0 rfl (by kernel_rfl) (fun K hK => ?_); (go_simp; (try (simp only [↓IntWalk.iteOmega]; try go_simp)); (try simp (disch := omega) only [IntWalk.i64_in]); (try simp (disch := omega) only [IntWalk.u64_in]); first | (refine hK _ ?_; clear hK K) | (apply Exists.intro; refine ⟨fun x => ?_, hK _ ?_⟩; (first | (go_at_call 22; exact CI2.out _ GG) | (go_at_call 23; exact CS2.out _ GG) | (go_at_call 24; exact CC2.out _ GG)); clear hK K))) | (refine gLex_undef rfl rfl rfl (by kernel_rfl) (fun K hK => ?_); go_simp; refine hK _ ?_; clear hK K) | (refine gLex_ask rfl rfl rfl ?_; first | (apply gAsk_yes; kernel_rfl; intro K hK; (go_simp; (try (simp only [↓IntWalk.iteOmega]; try go_simp)); (try simp (disch := omega) only [IntWalk.i64_in]); (try simp (disch := omega) only [IntWalk.u64_in]); first | (refine hK _ ?_; clear hK K) | (apply Exists.intro; refine ⟨fun x => ?_, hK _ ?_⟩; (first | (go_at_call 22; exact CI2.out _ GG) | (go_at_call 23; exact CS2.out _ GG) | (go_at_call 24; exact CC2.out _ GG)); clear hK K))) | ((first | apply gAsk_no1 | apply gAsk_no2); kernel_rfl; intro K hK; simp [go_sem]; refine hK _ ?_; clear hK K) | (apply gAsk_part; kernel_rfl; all_goals (intro h K hK; (try simp only [Bool.not_true] at h); (try simp only [Bool.not_false] at h); (try simp only [decide_eq_true_eq] at h); (try simp only [decide_eq_false_iff_not] at h); first | (exfalso; first | contradiction | omega) | (go_simp; (try (simp only [↓IntWalk.iteOmega]; try go_simp)); (try simp (disch := omega) only [IntWalk.i64_in]); (try simp (disch := omega) only [IntWalk.u64_in]); first | (refine hK _ ?_; clear hK K) | (apply Exists.intro; refine ⟨fun x => ?_, hK _ ?_⟩; (first | (go_at_call 22; exact CI2.out _ GG) | (go_at_call 23; exact CS2.out _ GG) | (go_at_call 24; exact CC2.out _ GG)); clear hK K))))))); all_goals ((apply gLex_end); intro z1))
                  go_wp2_with fail
                  go_roundw
                  case measure => simp [Go.RowKit.intOf]; omega
                  case rel => exact ⟨j' + 1 + 1, by omega, by go_num, ⟨_, GG⟩, rfl⟩
              · obtain rfl : n2 = j := by omega
                go_wp2_with (go_at_call 18; refine (C5.out _).mono ?_; rintro e w' ⟨rfl, hg⟩; obtain ⟨x5, rfl⟩ := hg.later; clear hg)
                go_ret
                exact ⟨rfl, hgz.trans GG⟩
    · have hcs : k < 1 ∨ (1 ≤ k ∧ 40 < k) ∨ (1 ≤ k ∧ k ≤ 40 ∧ more < 0) ∨ (1 ≤ k ∧ k ≤ 40 ∧ 0 ≤ more ∧ 40 < more) := by omega
      generalize E.length = n at *
      clear h hlt hkm
      rcases hcs with h1 | ⟨h1, h2⟩ | ⟨h1, h2, h3⟩ | ⟨h1, h2, h3, h4⟩
      all_goals
        go_enter Tryz.func5, Tryz.ntmps5
        go_wp2_with (first | (go_at_call 17; refine (C6.out _).mono ?_; rintro e w' ⟨rfl, hg⟩; (first | obtain ⟨x, rfl⟩ := Grows.later2 hg | obtain ⟨x, rfl⟩ := Grows.later hg); clear hg) | (go_at_call 18; refine (C5.out _).mono ?_; rintro e w' ⟨rfl, hg⟩; (first | obtain ⟨x, rfl⟩ := Grows.later2 hg | obtain ⟨x, rfl⟩ := Grows.later hg); clear hg))
        go_ret
        exact ⟨rfl, GG⟩
end Go.Proofs.YtgplpgldhoelcaaGreat

namespace Go.Proofs.YtgplpgldhoelcaaGreat.lawYenFirst
open Go Go.ChangeShapes Go.WideShapes Go.ChangeAt Go.RowKit Go.Proofs.YtgplpgldhoelcaaGreat

theorem own : ownKnob Tryz.prog.godebug = none := by kernel_rfl
theorem laidOut : laidOutB Tryz.prog = true := by kernel_rfl

set_option maxRecDepth 100000 in
theorem lifted (os : Os) (started : os.Started) (H : Type) (enc : TypeId × Value → H) :
    ReturnsInHanded {} Tryz.checked os 5 .any (Rows.yenFirstSpec.pre6 enc Tryz.prog Tryz.f5 Rows.yenFirstRow.domain false) (Rows.yenFirstSpec.post enc Tryz.prog Tryz.f5 false true false false) := by
  refine returnsInHanded_of_change (C := Tryz.checked) own started (by kernel_rfl) Tryz.func5
    (ChangeSpec.witness6 (enc := enc) (C := Tryz.checked) false ⟨#[], #[.agg #[.int .i64 0, .slice none 0 0], .int .i64 0, .int .i64 0, .int .i64 0, .int .i64 0], []⟩ 8 (by kernel_rfl) (by kernel_rfl) (by kernel_rfl) (by kernel_rfl)) ?_
  intro W base args ds gs before hval0 hW hcnd _
  have hval : ∀ (j : Nat) t v, Tryz.f5.params[j]? = some t → args[j]? = some v → Value.okWide Tryz.prog W .any base t v := hval0
  have hW' := hW
  obtain ⟨p, q, hA0, hV, rfl, hfz, hnd⟩ := hW
  have hA : DataW.TrodAll enc Tryz.prog W 0 (fun _ => true) true Tryz.f5.params.toList args.toList ds p := hA0
  rw [Tryz.params5] at hA hval
  obtain ⟨v0, vs0, d0, ds0, p0, q0, hargs, rfl, rfl, h0, r0⟩ := trodAll_cons hA
  obtain ⟨v1, vs1, d1, ds1, p1, q1, rfl, rfl, rfl, h1, r1⟩ := trodAll_cons r0
  obtain ⟨v2, vs2, d2, ds2, p2, q2, rfl, rfl, rfl, h2, r2⟩ := trodAll_cons r1
  obtain ⟨v3, vs3, d3, ds3, p3, q3, rfl, rfl, rfl, h3, r3⟩ := trodAll_cons r2
  obtain ⟨v4, vs4, d4, ds4, p4, q4, rfl, rfl, rfl, h4, r4⟩ := trodAll_cons r3
  obtain ⟨rfl, rfl, rfl⟩ := trodAll_nil r4
  obtain rfl : args = #[v0, v1, v2, v3, v4] := by cases args; simp_all
  obtain ⟨rfl, rfl⟩ := trodVars_none hV
  have k0 := h0
  have lt0 : ∀ x ∈ p0, x.block < W.heap.size := by obtain ⟨m, hm⟩ := k0; exact DataW.trod_lt m _ _ _ hm
  obtain ⟨a0, A0, n0, c0, z0, rfl, x0, l0, w0, u0⟩ := open_graph Tryz.underlying35 Tryz.underlying3 Tryz.underlying33 Tryz.underlying84 Tryz.underlying3 Tryz.underlying3 Tryz.underlying41 ⟨rfl, rfl, rfl⟩ ⟨by kernel_rfl, by kernel_rfl, by kernel_rfl⟩ (by kernel_rfl) (by kernel_rfl) (by kernel_rfl) (hval 0 35 v0 rfl rfl) h0
  have k1 := h1
  have lt1 : ∀ x ∈ p1, x.block < W.heap.size := by obtain ⟨m, hm⟩ := k1; exact DataW.trod_lt m _ _ _ hm
  obtain ⟨a1, rfl, w1⟩ := open_i64 Tryz.underlying3 (hval 1 3 v1 rfl rfl) h1
  have k2 := h2
  have lt2 : ∀ x ∈ p2, x.block < W.heap.size := by obtain ⟨m, hm⟩ := k2; exact DataW.trod_lt m _ _ _ hm
  obtain ⟨a2, rfl, w2⟩ := open_i64 Tryz.underlying3 (hval 2 3 v2 rfl rfl) h2
  have k3 := h3
  have lt3 : ∀ x ∈ p3, x.block < W.heap.size := by obtain ⟨m, hm⟩ := k3; exact DataW.trod_lt m _ _ _ hm
  obtain ⟨a3, rfl, w3⟩ := open_i64 Tryz.underlying3 (hval 3 3 v3 rfl rfl) h3
  have k4 := h4
  have lt4 : ∀ x ∈ p4, x.block < W.heap.size := by obtain ⟨m, hm⟩ := k4; exact DataW.trod_lt m _ _ _ hm
  obtain ⟨a4, rfl, w4⟩ := open_i64 Tryz.underlying3 (hval 4 3 v4 rfl rfl) h4
  clear hA0 hval0
  refine (yenFirstW a0 A0 n0 c0 z0 a1 a2 a3 a4 W x0 l0 w0 u0 w1 w2 w3 w4).mono fun e W' ⟨he, bel⟩ => ?_
  subst he
  exact ⟨_, rfl, _, _, _, [], _, [], hW', trodAll_mk1 (shut_bool Tryz.underlying4 _), (trodAll_cons_mk (Below.trod laidOut (by kernel_rfl) (of_decide_eq_true (by kernel_rfl)) k0 bel lt0) (trodAll_cons_mk (Below.trod laidOut (by kernel_rfl) (of_decide_eq_true (by kernel_rfl)) k1 bel lt1) (trodAll_cons_mk (Below.trod laidOut (by kernel_rfl) (of_decide_eq_true (by kernel_rfl)) k2 bel lt2) (trodAll_cons_mk (Below.trod laidOut (by kernel_rfl) (of_decide_eq_true (by kernel_rfl)) k3 bel lt3) (trodAll_cons_mk (Below.trod laidOut (by kernel_rfl) (of_decide_eq_true (by kernel_rfl)) k4 bel lt4) trodAll_mk0))))), rfl, Below.frame bel _, fun h => by cases h⟩

theorem over : Rows.yenFirstRow.holds Tryz.pinned (OpenSpec.ofChange Rows.yenFirstSpec) :=
  OpenClaim.holds_of_wide 5 Tryz.f5 rfl rfl rfl rfl rfl rfl rfl ⟨rfl, rfl, rfl, rfl, rfl⟩ rfl rfl rfl rfl rfl (by kernel_rfl) Tryz.func5 (by kernel_rfl)
    (of_decide_eq_true (by kernel_rfl)) (by unfold Func.isWrapper; first | (rw [if_pos (by decide +kernel)]; kernel_rfl) | (rw [if_neg (by decide +kernel)]; exact ⟨rfl, rfl⟩))
    (fun os started H enc _ => lifted os started H enc)

end Go.Proofs.YtgplpgldhoelcaaGreat.lawYenFirst
namespace Go.Proofs.YtgplpgldhoelcaaGreat
theorem yenFirst_proved : Rows.YenFirstSaid := lawYenFirst.over
#print axioms yenFirst_proved
end Go.Proofs.YtgplpgldhoelcaaGreat

