/- How far one node is; and the law DijkAll, walked: how far all nodes are, with whatever counts, or why that is not told. -/
import Derived.Test.YthjcbboignmknaaQCanonAll01
import Derived.Test.YthjcbboignmknaaQCanonAll06
import Derived.Test.YthjcbboignmknaaQCanonAll13
import Derived.Deep.DeepCutAuto
import Derived.Test.YthjcbboignmknaaQCanonAll15
import Derived.Test.YthjcbboignmknaaQCanonAll14
/- Contracts: the nodes of a row of edges. -/
namespace Go.Proofs.Ythjcbboignmknaa
open Go Go.RowKit
/-- The node behind k edges. -/
def ndI (E : List Edg) (s : Int) (l : List Int) : Nat → Int
  | 0 => s
  | k + 1 => (ge E (gi l k).toNat).t
/-- Does each of the first k edges begin where the one ahead of it ends? -/
def lkB (E : List Edg) (s : Int) (l : List Int) : Nat → Bool
  | 0 => true
  | k + 1 => lkB E s l k && decide ((ge E (gi l k).toNat).f = ndI E s l k)
theorem lkB_mono {E : List Edg} {s : Int} {l : List Int} {j : Nat} (h : lkB E s l j = false) : ∀ k, lkB E s l (j + k) = false
  | 0 => h
  | k + 1 => by show (lkB E s l (j + k) && _) = false; rw [lkB_mono h k]; rfl
def ndL (E : List Edg) (s : Int) (l : List Int) (k : Nat) : List Int := (List.range k).map (ndI E s l)
theorem ndL_succ (E : List Edg) (s : Int) (l : List Int) (k : Nat) : ndL E s l (k + 1) = ndL E s l k ++ [ndI E s l k] := by unfold ndL; rw [List.range_succ, List.map_append]; rfl
theorem ndL_len (E : List Edg) (s : Int) (l : List Int) (k : Nat) : (ndL E s l k).length = k := by simp [ndL]
theorem ndL_at (E : List Edg) (s : Int) (l : List Int) (k j : Nat) (h : j < k) : gi (ndL E s l k) j = ndI E s l j := by simp [gi, ndL, h]
/-- Is it a row of edges from s on? -/
def isB (N : Int) (E : List Edg) (s : Int) (l : List Int) : Bool := edgesB N E l && (nodeB N s && lkB E s l l.length)
def nodesL (N : Int) (E : List Edg) (s : Int) (l : List Int) : List Int := if isB N E s l then ndL E s l (l.length + 1) else []
/-- A slice of numbers, and whether it is one. -/
def GiveIB (w : World) (l : List Int) (b : Bool) (e : Ending) (w' : World) : Prop := ∃ A c, e = .returned (.tuple #[.slice A l.length c, .bool b]) ∧ Rd w' A 1 l.length (l.map (.int .i64)) ∧ Grows w w'
/-- The same, and the room that the slice has. -/
def GiveIBc (w : World) (l : List Int) (b : Bool) (e : Ending) (w' : World) : Prop := ∃ A c, e = .returned (.tuple #[.slice A l.length c, .bool b]) ∧ l.length ≤ c ∧ Rd w' A 1 l.length (l.map (.int .i64)) ∧ Grows w w'
theorem Own.cap {w : World} {B n c size : Nat} {e : TypeId} {A : Option Addr} {xs : List Value} (h : Own w B e size A n c xs) : n ≤ c := by
  rcases Nat.eq_zero_or_pos n with h0 | h0
  · omega
  · obtain ⟨_, _, _, _, _, h1, _⟩ := h.at_ h0
    exact h1
theorem edges_in {N : Int} {E : List Edg} {l : List Int} (h : edgesB N E l = true) {k : Nat} (hk : k < l.length) : 0 ≤ gi l k ∧ (gi l k).toNat < E.length := by
  unfold edgesB at h
  simp only [Bool.and_eq_true, Bool.not_eq_true', List.any_eq_false] at h
  have := h.2 _ (gi_mem hk)
  unfold edgeB at this
  simp at this
  omega
set_option maxRecDepth 20000 in
set_option maxHeartbeats 2000000 in
theorem r8NodesC (N : Int) (A : Option Addr) (m c : Nat) (E : List Edg) (s : Int) (B : Option Addr) (n d : Nat) (l : List Int) (w : World) (h : Rd w A 3 m (esCells E)) (hm : m ≤ 1000000) (h' : Rd w B 1 n (l.map (.int .i64))) (hn : n ≤ 1000000) :
    Calls Try.prog 89 #[.agg #[.int .i64 N, .slice A m c], .int .i64 s, .slice B n d] w (GiveIBc w (nodesL N E s l) (isB N E s l)) := by
  have HL := hide (show l.length = n by simpa using h'.len)
  have HE := hide h.elen
  have C1 := fun (W : World) (g : Grows w W) => r8edges N A m c E B n d l W (h.grows g) hm (h'.grows g) hn
  have HR := hide h
  have HS := hide h'
  clear h h'
  cases he : edgesB N E l with
  | false =>
    have e1 : isB N E s l = false := by unfold isB; rw [he]; rfl
    have HV : Hid (nodesL N E s l = []) := by unfold nodesL; rw [e1]; rfl
    rw [HV.out, e1]
    rw [he] at C1
    have H1 := hide C1
    clear C1 he e1
    go_enter Try.func89, Try.ntmps89
    go_wp2_with (first | (go_at_call 149; refine (H1.out _ (by repeat (first | exact Grows.refl _ | refine Grows.now ?_ _ | refine Grows.new ?_ _ | refine Grows.drewN ?_ _ | refine Grows.drew ?_ | assumption | (refine Grows.set ?_ (by first | omega | (simp; done) | (simp; omega)) _)))).mono ?_; rintro e w' ⟨rfl, hg⟩; (first | obtain ⟨x, rfl⟩ := Grows.later2 hg | obtain ⟨x, rfl⟩ := Grows.later hg); clear hg))
    go_ret2
    exact ⟨none, 0, rfl, Nat.le_refl _, ⟨rfl, fun h => absurd h (by simp)⟩, (by repeat (first | exact Grows.refl _ | refine Grows.now ?_ _ | refine Grows.new ?_ _ | refine Grows.drewN ?_ _ | refine Grows.drew ?_ | assumption | (refine Grows.set ?_ (by first | omega | (simp; done) | (simp; omega)) _)))⟩
  | true =>
  rw [he] at C1
  have H1 := hide C1
  cases hs : nodeB N s with
  | false =>
    have e1 : isB N E s l = false := by unfold isB; rw [he, hs]; rfl
    have HV : Hid (nodesL N E s l = []) := by unfold nodesL; rw [e1]; rfl
    rw [HV.out, e1]
    have hs2 : ¬ (0 ≤ s ∧ s < N) := by unfold nodeB at hs; simpa using hs
    clear C1 he e1 hs
    go_enter Try.func89, Try.ntmps89
    go_wp2_with (first | (go_at_call 149; refine (H1.out _ (by repeat (first | exact Grows.refl _ | refine Grows.now ?_ _ | refine Grows.new ?_ _ | refine Grows.drewN ?_ _ | refine Grows.drew ?_ | assumption | (refine Grows.set ?_ (by first | omega | (simp; done) | (simp; omega)) _)))).mono ?_; rintro e w' ⟨rfl, hg⟩; (first | obtain ⟨x, rfl⟩ := Grows.later2 hg | obtain ⟨x, rfl⟩ := Grows.later hg); clear hg))
    all_goals first | (exfalso; omega) | skip
    all_goals go_ret2
    all_goals exact ⟨none, 0, rfl, Nat.le_refl _, ⟨rfl, fun h => absurd h (by simp)⟩, (by repeat (first | exact Grows.refl _ | refine Grows.now ?_ _ | refine Grows.new ?_ _ | refine Grows.drewN ?_ _ | refine Grows.drew ?_ | assumption | (refine Grows.set ?_ (by first | omega | (simp; done) | (simp; omega)) _)))⟩
  | true =>
  have HV : Hid (isB N E s l = lkB E s l n) := by unfold isB; rw [he, hs, HL.out]; exact rfl
  have HI := hide (fun k (hk : k < n) => edges_in he (k := k) (by rw [HL.out]; exact hk))
  obtain ⟨hs1, hs2⟩ : 0 ≤ s ∧ s < N := by unfold nodeB at hs; simpa using hs
  clear C1 he hs
  go_enter Try.func89, Try.ntmps89
  go_wp2_with (first | (go_at_call 149; refine (H1.out _ (by repeat (first | exact Grows.refl _ | refine Grows.now ?_ _ | refine Grows.new ?_ _ | refine Grows.drewN ?_ _ | refine Grows.drew ?_ | assumption | (refine Grows.set ?_ (by first | omega | (simp; done) | (simp; omega)) _)))).mono ?_; rintro e w' ⟨rfl, hg⟩; (first | obtain ⟨x, rfl⟩ := Grows.later2 hg | obtain ⟨x, rfl⟩ := Grows.later hg); clear hg))
  all_goals first | (exfalso; omega) | skip
  go_loopw [9, 8] (fun i u wr => ∃ k : Nat, k ≤ n ∧ i = .int .i64 (k : Int) ∧ lkB E s l k = true ∧ ∃ y : Later (w.alloc (.cells #[.int .i64 N, .slice A m c] 24)), wr = y.now ∧
    ∃ A' c', u = .slice A' (k + 1) c' ∧ Own y.now (w.alloc (.cells #[.int .i64 N, .slice A m c] 24)).heap.size 3 1 A' (k + 1) c' ((ndL E s l (k + 1)).map (.int .i64))) (fun i _ _ => n - (intOf i).toNat)
  case atStart =>
    refine ⟨0, by omega, by go_num, rfl, ⟨_, x.grows.new _⟩, rfl, _, _, rfl, ?_⟩
    exact Own.build x.now 3 [.int .i64 s] _ x.size (by simp)
  case round =>
    obtain ⟨k, hk, rfl, hlk, y, rfl, A', c', rfl, hown⟩ := hrel
    have HO := hide hown
    have HK := hide hlk
    clear hown hlk
    by_cases hend : n ≤ k
    · have hkm : k = n := by omega
      subst hkm
      go_wp2
      go_ret2
      have e1 : isB N E s l = true := HV.out.trans HK.out
      have e2 : nodesL N E s l = ndL E s l (k + 1) := by unfold nodesL; rw [e1, HL.out]; rfl
      rw [e1, e2]
      refine ⟨A', c', by rw [ndL_len]; rfl, by rw [ndL_len]; exact HO.out.cap, ?_, (by repeat (first | exact Grows.refl _ | refine Grows.now ?_ _ | refine Grows.new ?_ _ | refine Grows.drewN ?_ _ | refine Grows.drew ?_ | assumption | (refine Grows.set ?_ (by first | omega | (simp; done) | (simp; omega)) _)))⟩
      rw [ndL_len]
      exact HO.out.rd
    · obtain ⟨b, off, rfl, hc⟩ := HS.out.intsH (by omega)
      have c1 := hc k (by omega)
      obtain ⟨i1, i2⟩ := HI.out k (by omega)
      rw [HE.out] at i2
      obtain ⟨b2, off2, rfl, hc2⟩ := HR.out.edgesH (by omega)
      obtain ⟨c2, c3, c4⟩ := hc2 (gi l k).toNat i2
      obtain ⟨g, rfl, hg, hcs⟩ := HO.out.at (by omega)
      have c5 := hcs k _ (by rw [List.getElem?_map, ndL_succ, List.getElem?_append_right (by rw [ndL_len]; omega), ndL_len, Nat.sub_self]; rfl)
      clear hcs
      clear hc hc2
      by_cases hf : (ge E (gi l k).toNat).f = ndI E s l k
      · have hlk2 : Hid (lkB E s l (k + 1) = true) := by show (lkB E s l k && decide _) = true; rw [HK.out, decide_eq_true hf]; rfl
        have HN : Hid (ndI E s l (k + 1) = (ge E (gi l k).toNat).t) := rfl
        have HL2 := hide (ndL_succ E s l (k + 1))
        have hne : ((ge E (gi l k).toNat).f == ndI E s l k) = true := by simpa using hf
        clear hf
        generalize (ge E (gi l k).toNat).t = t at *
        generalize (ge E (gi l k).toNat).f = f at *
        generalize hq : gi l k = q at *
        obtain ⟨q, rfl⟩ := Int.eq_ofNat_of_zero_le i1
        simp only [Int.toNat_natCast] at i2 c2 c3 c4
        generalize (ge E q).w = w3 at *
        go_wp2_with fail
        go_region
        go_wp2_with fail
        go_region
        go_wp2_with (at_builtin; refine wp_app1 elemInt rfl _ _ rfl _ (by repeat (first | exact Grows.refl _ | refine Grows.now ?_ _ | refine Grows.new ?_ _ | refine Grows.drewN ?_ _ | refine Grows.drew ?_ | assumption | (refine Grows.set ?_ (by first | omega | (simp; done) | (simp; omega)) _))) (k + 1) c' _ _ rfl (HO.out.grows (by repeat (first | exact Grows.refl _ | refine Grows.now ?_ _ | refine Grows.new ?_ _ | refine Grows.drewN ?_ _ | refine Grows.drew ?_ | assumption | (refine Grows.set ?_ (by first | omega | (simp; done) | (simp; omega)) _)))) _ _ _ rfl inferInstance rfl (by omega) ?_; intro A3 c3 y3 hown3; have HO3 := hide hown3; clear hown3)
        refine ⟨⟨k + 1, by omega, by go_num, hlk2.out, y3, rfl, A3, c3, rfl, ?_⟩, by simp [intOf]; omega⟩
        rw [HL2.out, HN.out, List.map_append]
        exact HO3.out
      · have e1 : isB N E s l = false := by
          have : lkB E s l (k + 1) = false := by show (lkB E s l k && decide _) = false; rw [decide_eq_false hf, Bool.and_false]
          have := lkB_mono this (n - (k + 1))
          rw [show k + 1 + (n - (k + 1)) = n by omega] at this
          exact HV.out.trans this
        have hne : ((ge E (gi l k).toNat).f == ndI E s l k) = false := by simpa using hf
        have HW : Hid (nodesL N E s l = []) := by unfold nodesL; rw [e1]; rfl
        rw [HW.out, e1]
        clear hf e1
        generalize (ge E (gi l k).toNat).t = t at *
        generalize (ge E (gi l k).toNat).f = f at *
        generalize hq : gi l k = q at *
        obtain ⟨q, rfl⟩ := Int.eq_ofNat_of_zero_le i1
        simp only [Int.toNat_natCast] at i2 c2 c3 c4
        generalize (ge E q).w = w3 at *
        go_wp2_with fail
        go_region
        go_wp2_with fail
        go_region
        go_wp2
        go_ret2
        exact ⟨none, 0, rfl, Nat.le_refl _, ⟨rfl, fun h => absurd h (by simp)⟩, (by repeat (first | exact Grows.refl _ | refine Grows.now ?_ _ | refine Grows.new ?_ _ | refine Grows.drewN ?_ _ | refine Grows.drew ?_ | assumption | (refine Grows.set ?_ (by first | omega | (simp; done) | (simp; omega)) _)))⟩
theorem r8Nodes (N : Int) (A : Option Addr) (m c : Nat) (E : List Edg) (s : Int) (B : Option Addr) (n d : Nat) (l : List Int) (w : World) (h : Rd w A 3 m (esCells E)) (hm : m ≤ 1000000) (h' : Rd w B 1 n (l.map (.int .i64))) (hn : n ≤ 1000000) :
    Calls Try.prog 89 #[.agg #[.int .i64 N, .slice A m c], .int .i64 s, .slice B n d] w (GiveIB w (nodesL N E s l) (isB N E s l)) :=
  (r8NodesC N A m c E s B n d l w h hm h' hn).mono fun _ _ ⟨A, c, h1, _, h2⟩ => ⟨A, c, h1, h2⟩
end Go.Proofs.Ythjcbboignmknaa

/- Contract: is a row of edges a way on which no node comes twice? -/
namespace Go.Proofs.Ythjcbboignmknaa
open Go Go.RowKit
/-- No number of the first k stands twice. -/
def oneB (l : List Int) (k : Nat) : Bool := decide (∀ j, j < k → gi l j ∉ l.take j)
def simB (N : Int) (E : List Edg) (s : Int) (l : List Int) : Bool := isB N E s l && oneB (nodesL N E s l) (nodesL N E s l).length
set_option maxRecDepth 20000 in
set_option maxHeartbeats 2000000 in
theorem r8Simple (N : Int) (A : Option Addr) (m c : Nat) (E : List Edg) (s : Int) (B : Option Addr) (n d : Nat) (l : List Int) (w : World) (h : Rd w A 3 m (esCells E)) (hm : m ≤ 1000000) (h' : Rd w B 1 n (l.map (.int .i64))) (hn : n ≤ 100000) :
    Calls Try.prog 33 #[.agg #[.int .i64 N, .slice A m c], .int .i64 s, .slice B n d] w fun e w' => e = .returned (.bool (simB N E s l)) ∧ Grows w w' := by
  have HV : Hid (simB N E s l = (isB N E s l && oneB (nodesL N E s l) (nodesL N E s l).length)) := rfl
  have hlen : (nodesL N E s l).length ≤ 100001 := by
    have : l.length = n := by simpa using h'.len
    unfold nodesL
    split
    · rw [ndL_len]; omega
    · simp
  have C1 := hide (fun (W : World) (g : Grows w W) => r8NodesC N A m c E s B n d l W (h.grows g) hm (h'.grows g) (by omega))
  clear h h'
  generalize nodesL N E s l = nl at *
  generalize isB N E s l = bb at *
  go_enter Try.func33, Try.ntmps33
  go_wp2_with (go_at_call 89; refine (C1.out _ (by repeat (first | exact Grows.refl _ | refine Grows.now ?_ _ | refine Grows.new ?_ _ | refine Grows.drewN ?_ _ | refine Grows.drew ?_ | assumption | (refine Grows.set ?_ (by first | omega | (simp; done) | (simp; omega)) _)))).mono ?_; rintro e w' ⟨A1, c1, rfl, hc1, hr1, hg⟩; obtain ⟨x1, rfl⟩ := hg.later; have HR := hide hr1; have HC := hide hc1; clear hg hr1 hc1)
  go_loopw [9] (fun i wr => ∃ k : Nat, k ≤ nl.length ∧ i = .int .i64 (k : Int) ∧ (∃ y : Later x1.now, wr = y.now) ∧ Hid (∀ j, j < k → gi nl j ∉ nl.take j)) (fun i _ => nl.length - (intOf i).toNat)
  case atStart => exact ⟨0, by omega, by go_num, ⟨⟨_, Grows.refl _⟩, rfl⟩, fun j h => by omega⟩
  case round =>
    obtain ⟨k, hk, rfl, ⟨y, rfl⟩, HA⟩ := hrel
    by_cases hend : nl.length ≤ k
    · have HW : Hid (oneB nl nl.length = true) := decide_eq_true (fun j hj => HA.out j (by omega))
      go_wp2
      go_ret
      exact ⟨ret_bool (by rw [HV.out, HW.out, Bool.and_true]), (by repeat (first | exact Grows.refl _ | refine Grows.now ?_ _ | refine Grows.new ?_ _ | refine Grows.drewN ?_ _ | refine Grows.drew ?_ | assumption | (refine Grows.set ?_ (by first | omega | (simp; done) | (simp; omega)) _)))⟩
    · obtain ⟨b, off, rfl, hc⟩ := HR.out.intsH (by omega)
      have c1' := hc k (by omega)
      clear hc
      have hcap : k ≤ c1 := by have := HC.out; omega
      have D1 := fun (W : World) (g : Grows x1.now W) => calls_same (r1Has (some ⟨b, off, none⟩) k c1 (nl.take k) (gi nl k) W (Rd.take (HR.out.grows g) (by omega)) (by omega))
      cases hin : decide (gi nl k ∈ nl.take k) with
      | true =>
        have HW : Hid (oneB nl nl.length = false) := decide_eq_false (fun h => h k (by omega) (of_decide_eq_true hin))
        rw [hin] at D1
        have K1 := hide D1
        clear D1 hin
        go_wp2_with fail
        ((first | refine wp_region_gen (by kernel_rfl) (by kernel_rfl) ?_); (repeat' (first | (refine gLex_val0 rfl (by kernel_rfl) (fun K hK => ?_); (go_simp; (try (simp only [↓IntWalk.iteOmega]; try go_simp)); (try simp (disch := omega) only [IntWalk.i64_in]); (try simp (disch := omega) only [IntWalk.u64_in]); first | (refine hK _ ?_; clear hK K) | (apply Exists.intro; refine ⟨fun x => ?_, hK _ ?_⟩; (first | (go_at_call 81; exact K1.out _ (by repeat (first | exact Grows.refl _ | refine Grows.now ?_ _ | refine Grows.new ?_ _ | refine Grows.drewN ?_ _ | refine Grows.drew ?_ | assumption | (refine Grows.set ?_ (by first | omega | (simp; done) | (simp; omega)) _))))); clear hK K))) | (refine gLex_undef rfl rfl rfl (by kernel_rfl) (fun K hK => ?_); go_simp; refine hK _ ?_; clear hK K) | (refine gLex_ask rfl rfl rfl ?_; first | (apply gAsk_yes; kernel_rfl; intro K hK; (go_simp; (try (simp only [↓IntWalk.iteOmega]; try go_simp)); (try simp (disch := omega) only [IntWalk.i64_in]); (try simp (disch := omega) only [IntWalk.u64_in]); first | (refine hK _ ?_; clear hK K) | (apply Exists.intro; refine ⟨fun x => ?_, hK _ ?_⟩; (first | (go_at_call 81; exact K1.out _ (by repeat (first | exact Grows.refl _ | refine Grows.now ?_ _ | refine Grows.new ?_ _ | refine Grows.drewN ?_ _ | refine Grows.drew ?_ | assumption | (refine Grows.set ?_ (by first | omega | (simp; done) | (simp; omega)) _))))); clear hK K))) | ((first | apply gAsk_no1 | apply gAsk_no2); kernel_rfl; intro K hK; simp [go_sem]; refine hK _ ?_; clear hK K) | (apply gAsk_part; kernel_rfl; all_goals (intro h K hK; (try simp only [Bool.not_true] at h); (try simp only [Bool.not_false] at h); (try simp only [decide_eq_true_eq] at h); (try simp only [decide_eq_false_iff_not] at h); first | (exfalso; first | contradiction | omega) | (go_simp; (try (simp only [↓IntWalk.iteOmega]; try go_simp)); (try simp (disch := omega) only [IntWalk.i64_in]); (try simp (disch := omega) only [IntWalk.u64_in]); first | (refine hK _ ?_; clear hK K) | (apply Exists.intro; refine ⟨fun x => ?_, hK _ ?_⟩; (first | (go_at_call 81; exact K1.out _ (by repeat (first | exact Grows.refl _ | refine Grows.now ?_ _ | refine Grows.new ?_ _ | refine Grows.drewN ?_ _ | refine Grows.drew ?_ | assumption | (refine Grows.set ?_ (by first | omega | (simp; done) | (simp; omega)) _))))); clear hK K))))))); all_goals ((apply gLex_end); intro x))
        go_wp2
        go_ret
        exact ⟨ret_bool (by rw [HV.out, HW.out, Bool.and_false]), (by repeat (first | exact Grows.refl _ | refine Grows.now ?_ _ | refine Grows.new ?_ _ | refine Grows.drewN ?_ _ | refine Grows.drew ?_ | assumption | (refine Grows.set ?_ (by first | omega | (simp; done) | (simp; omega)) _)))⟩
      | false =>
        have HN : Hid (∀ j, j < k + 1 → gi nl j ∉ nl.take j) := fun j hj => by
          by_cases e : j = k
          · rw [e]; exact of_decide_eq_false hin
          · exact HA.out j (by omega)
        rw [hin] at D1
        have K1 := hide D1
        clear D1 hin
        go_wp2_with fail
        ((first | refine wp_region_gen (by kernel_rfl) (by kernel_rfl) ?_); (repeat' (first | (refine gLex_val0 rfl (by kernel_rfl) (fun K hK => ?_); (go_simp; (try (simp only [↓IntWalk.iteOmega]; try go_simp)); (try simp (disch := omega) only [IntWalk.i64_in]); (try simp (disch := omega) only [IntWalk.u64_in]); first | (refine hK _ ?_; clear hK K) | (apply Exists.intro; refine ⟨fun x => ?_, hK _ ?_⟩; (first | (go_at_call 81; exact K1.out _ (by repeat (first | exact Grows.refl _ | refine Grows.now ?_ _ | refine Grows.new ?_ _ | refine Grows.drewN ?_ _ | refine Grows.drew ?_ | assumption | (refine Grows.set ?_ (by first | omega | (simp; done) | (simp; omega)) _))))); clear hK K))) | (refine gLex_undef rfl rfl rfl (by kernel_rfl) (fun K hK => ?_); go_simp; refine hK _ ?_; clear hK K) | (refine gLex_ask rfl rfl rfl ?_; first | (apply gAsk_yes; kernel_rfl; intro K hK; (go_simp; (try (simp only [↓IntWalk.iteOmega]; try go_simp)); (try simp (disch := omega) only [IntWalk.i64_in]); (try simp (disch := omega) only [IntWalk.u64_in]); first | (refine hK _ ?_; clear hK K) | (apply Exists.intro; refine ⟨fun x => ?_, hK _ ?_⟩; (first | (go_at_call 81; exact K1.out _ (by repeat (first | exact Grows.refl _ | refine Grows.now ?_ _ | refine Grows.new ?_ _ | refine Grows.drewN ?_ _ | refine Grows.drew ?_ | assumption | (refine Grows.set ?_ (by first | omega | (simp; done) | (simp; omega)) _))))); clear hK K))) | ((first | apply gAsk_no1 | apply gAsk_no2); kernel_rfl; intro K hK; simp [go_sem]; refine hK _ ?_; clear hK K) | (apply gAsk_part; kernel_rfl; all_goals (intro h K hK; (try simp only [Bool.not_true] at h); (try simp only [Bool.not_false] at h); (try simp only [decide_eq_true_eq] at h); (try simp only [decide_eq_false_iff_not] at h); first | (exfalso; first | contradiction | omega) | (go_simp; (try (simp only [↓IntWalk.iteOmega]; try go_simp)); (try simp (disch := omega) only [IntWalk.i64_in]); (try simp (disch := omega) only [IntWalk.u64_in]); first | (refine hK _ ?_; clear hK K) | (apply Exists.intro; refine ⟨fun x => ?_, hK _ ?_⟩; (first | (go_at_call 81; exact K1.out _ (by repeat (first | exact Grows.refl _ | refine Grows.now ?_ _ | refine Grows.new ?_ _ | refine Grows.drewN ?_ _ | refine Grows.drew ?_ | assumption | (refine Grows.set ?_ (by first | omega | (simp; done) | (simp; omega)) _))))); clear hK K))))))); all_goals ((apply gLex_end); intro x))
        go_wp2
        exact ⟨⟨k + 1, by omega, by go_num, Grows.later (by repeat (first | exact Grows.refl _ | refine Grows.now ?_ _ | refine Grows.new ?_ _ | refine Grows.drewN ?_ _ | refine Grows.drew ?_ | assumption | (refine Grows.set ?_ (by first | omega | (simp; done) | (simp; omega)) _))), HN⟩, by simp [intOf]; omega⟩
end Go.Proofs.Ythjcbboignmknaa

/- Plain law: the way that is followed is a simple way to its end. -/
namespace Go.Proofs.Ythjcbboignmknaa
open Go Go.RowKit
/-- A row of edges, as numbers. -/
def ciL (l : List Nat) : List Int := l.map fun (i : Nat) => (i : Int)
theorem ciL_len (l : List Nat) : (ciL l).length = l.length := by simp [ciL]
theorem ciL_gi {l : List Nat} {k : Nat} (h : k < l.length) : gi (ciL l) k = (l[k] : Int) := by simp [ciL, gi, h]
/-- The nodes that a way comes to. -/
def ndsN (E : List Edg) (v : Nat) (l : List Nat) : List Nat := v :: l.map (tN E)
theorem Fol.link {x : Srch} {d : List Nat} {t v : Nat} {l : List Nat} (h : Fol x d t v l) : ∀ k (hk : k < l.length), fN x.E l[k] = (ndsN x.E v l)[k]'(by simp [ndsN]; omega) := by
  induction h with
  | here => intro k hk; simp at hk
  | @step v i l hne hi hfi hb hl hfol ih =>
    intro k hk
    match k, hk with
    | 0, _ => simpa [ndsN] using hfi
    | k + 1, hk =>
      have := ih k (by simpa using hk)
      simpa [ndsN] using this
theorem Fol.last {x : Srch} {d : List Nat} {t v : Nat} {l : List Nat} (h : Fol x d t v l) : (ndsN x.E v l)[l.length]'(by simp [ndsN]) = t := by
  induction h with
  | here => rfl
  | @step v i l hne hi hfi hb hl hfol ih => simpa [ndsN] using ih
theorem ndI_is {N : Nat} {E : List Edg} (hE : InN N E) {v : Nat} {l : List Nat} (hl : ∀ i ∈ l, i < E.length) : ∀ k (hk : k ≤ l.length), ndI E (v : Int) (ciL l) k = ((ndsN E v l)[k]'(by simp [ndsN]; omega) : Int)
  | 0, _ => rfl
  | k + 1, hk => by
    have hk' : k < l.length := by omega
    show (ge E (gi (ciL l) k).toNat).t = _
    rw [ciL_gi hk', Int.toNat_natCast, (hE.t _ (hl _ (List.getElem_mem hk'))).2]
    simp [ndsN]
theorem lkB_is {N : Nat} {x : Srch} {d : List Nat} {t v : Nat} {l : List Nat} (hE : InN N x.E) (h : Fol x d t v l) : ∀ k, k ≤ l.length → lkB x.E (v : Int) (ciL l) k = true
  | 0, _ => rfl
  | k + 1, hk => by
    have hk' : k < l.length := by omega
    show (lkB x.E (v : Int) (ciL l) k && decide ((ge x.E (gi (ciL l) k).toNat).f = ndI x.E v (ciL l) k)) = true
    rw [lkB_is hE h k (by omega), ndI_is hE h.edges k (by omega), ciL_gi hk', Int.toNat_natCast, (hE.f _ (h.edges _ (List.getElem_mem hk'))).2, h.link k hk']
    simp
theorem Fol.isB {N : Nat} {x : Srch} {d : List Nat} {t v : Nat} {l : List Nat} (hE : InN N x.E) (h : Fol x d t v l) (hr : rightF N x.E = 0) (hv : v < N) : isB N x.E (v : Int) (ciL l) = true := by
  unfold Go.Proofs.Ythjcbboignmknaa.isB edgesB
  rw [ciL_len, lkB_is hE h _ (Nat.le_refl _), decide_eq_true hr, show nodeB (N : Int) (v : Int) = true from decide_eq_true ⟨by omega, by omega⟩]
  have : (ciL l).any (fun e => !edgeB x.E.length e) = false := by
    rw [List.any_eq_false]
    intro e he
    obtain ⟨i, hi, rfl⟩ := List.mem_map.1 he
    have := h.edges i hi
    unfold edgeB
    simp
    omega
  rw [this]
  rfl
theorem Fol.nodesL {N : Nat} {x : Srch} {d : List Nat} {t v : Nat} {l : List Nat} (hE : InN N x.E) (h : Fol x d t v l) (hr : rightF N x.E = 0) (hv : v < N) : nodesL N x.E (v : Int) (ciL l) = ciL (ndsN x.E v l) := by
  unfold Go.Proofs.Ythjcbboignmknaa.nodesL
  rw [if_pos (h.isB hE hr hv), ciL_len]
  refine List.ext_getElem (by simp [ndL_len, ciL, ndsN]) fun k h1 h2 => ?_
  have hk : k ≤ l.length := by rw [ndL_len] at h1; omega
  have e := ndI_is hE (v := v) h.edges k hk
  simp only [ndL, List.getElem_map, List.getElem_range, ciL]
  exact e
theorem oneB_is {L : List Nat} (h : L.Nodup) : oneB (ciL L) (ciL L).length = true := by
  refine decide_eq_true fun j hj hm => ?_
  rw [ciL_len] at hj
  rw [ciL_gi hj] at hm
  have e : (ciL L).take j = ciL (L.take j) := by simp [ciL, List.map_take]
  rw [e] at hm
  obtain ⟨i, hi, he⟩ := List.mem_map.1 hm
  have he : i = L[j] := by omega
  subst he
  obtain ⟨k, hk, hke⟩ := List.getElem_of_mem hi
  simp at hk
  rw [List.getElem_take] at hke
  exact List.pairwise_iff_getElem.1 h k j (by omega) hj (by omega) hke
theorem Fol.simple {N : Nat} {x : Srch} {d : List Nat} {t v : Nat} {l : List Nat} (hn : Near x d t) (hE : InN N x.E) (h : Fol x d t v l) (hr : rightF N x.E = 0) (hv : v < N) (hv2 : v < x.N) : simB N x.E (v : Int) (ciL l) = true := by
  unfold simB
  rw [h.isB hE hr hv, h.nodesL hE hr hv, Bool.true_and]
  exact oneB_is (h.nodup hn hv2)
end Go.Proofs.Ythjcbboignmknaa

/- Plain law: how far the end is from any node, by the search from there and by the one turned round. -/
namespace Go.Proofs.Ythjcbboignmknaa
open Go Go.RowKit
/-- What counts: all, with these weights. -/
def freeO (W : List Nat) : DOpt := ⟨false, [], [], W, 0⟩
theorem one_turned {NN sN tN u : Nat} {E : List Edg} {W : List Nat} {ys : List (Nat × Nat)} (hx : PathOk NN sN tN E (freeO W) ys) (hu : u < NN) :
    ∃ xs, WalkOk NN u E (freeO W) ∧ dcF NN u E W = 0 ∧ (if (u : Int) ∈ (freeO W).nn then xs = [] else Trace (srchOf NN E (freeO W)) (reachS (freeO W).most (st0 NN) u 0) xs) ∧ (xs.map Prod.fst).Nodup ∧
      (∀ f, (tN, f) ∈ xs → f = gn (outL NN ys) u ∧ f < farV) ∧ (tN ∉ xs.map Prod.fst → gn (outL NN ys) u = farV) := by
  have hb := hx.bound.1
  have ht := hx.ok.node
  have hdu : dcF NN u E W = 0 := dc_node hx.dcs ⟨by omega, by omega⟩
  have hok : WalkOk NN u E (freeO W) := ⟨hx.ok.right, hu, hx.ok.wts, by show (0 : Nat) < _; omega, by show 0 ≤ _; omega, by show 0 ≤ _; omega⟩
  obtain ⟨xs, h1, h2, h3⟩ := walk_is hok hx.wb (Nat.le_refl _) (by simp [freeO])
  have hf := hx.far (by simp [freeO])
  have hc : ∀ i, cntE (srchOf NN E (freeO W)) i = true := fun i => by simp [cntE, srchOf, freeO]
  have hc2 : ∀ i, cntE (turnX (srchOf NN E (freeO W))) i = true := fun i => by simp [cntE, srchOf, freeO, turnX]
  have e := h2.turned (t := tN) (ys := ys) hf hb rfl (fun i _ => hc2 i) (fun i _ => hc i) hu ht
  have e : gn (outL NN ys) u = gn (outL NN xs) tN := e
  refine ⟨xs, hok, hdu, h1, h2.nodup, fun f hfx => ?_, fun hn => ?_⟩
  · have e2 := outL_at (N := NN) h2.nodup ht hfx
    have h5 : f ≤ NN * 17592186044416 := (h2.way _ _ hfx).2.2.2
    exact ⟨by rw [e, e2], by omega⟩
  · rw [e]
    exact outL_no ht hn
end Go.Proofs.Ythjcbboignmknaa

/- Contract: the answer's test whether a row of edges is a way between two nodes. -/
namespace Go.Proofs.Ythjcbboignmknaa
open Go Go.RowKit
set_option maxRecDepth 20000 in
set_option maxHeartbeats 2000000 in
theorem r8Is (N : Int) (A : Option Addr) (m c : Nat) (E : List Edg) (s t : Int) (B : Option Addr) (n d : Nat) (l : List Int) (w : World) (h : Rd w A 3 m (esCells E)) (hm : m ≤ 1000000) (h' : Rd w B 1 n (l.map (.int .i64))) (hn : n ≤ 100000) :
    Calls Try.prog 32 #[.agg #[.int .i64 N, .slice A m c], .int .i64 s, .int .i64 t, .slice B n d] w fun e w' => e = .returned (.bool (isB N E s l && decide (gi (nodesL N E s l) l.length = t))) ∧ Grows w w' := by
  have C := hide (fun (W : World) (g : Grows w W) => r8Nodes N A m c E s B n d l W (h.grows g) hm (h'.grows g) (by omega))
  have hl : l.length = n := by simpa using h'.len
  clear h h'
  subst hl
  cases hq : isB N E s l with
  | false =>
    rw [hq] at C
    rw [Bool.false_and]
    clear hq
    go_enter Try.func32, Try.ntmps32
    go_wp2_with (go_at_call 89; refine (C.out _ (by repeat (first | exact Grows.refl _ | refine Grows.now ?_ _ | refine Grows.new ?_ _ | refine Grows.drewN ?_ _ | refine Grows.drew ?_ | assumption | (refine Grows.set ?_ (by first | omega | (simp; done) | (simp; omega)) _)))).mono ?_; rintro e w' ⟨A7, c7, rfl, _, hg⟩; obtain ⟨x1, rfl⟩ := hg.later; clear hg)
    go_ret
    exact ⟨rfl, (by repeat (first | exact Grows.refl _ | refine Grows.now ?_ _ | refine Grows.new ?_ _ | refine Grows.drewN ?_ _ | refine Grows.drew ?_ | assumption | (refine Grows.set ?_ (by first | omega | (simp; done) | (simp; omega)) _)))⟩
  | true =>
    have hk : (nodesL N E s l).length = l.length + 1 := by unfold nodesL; rw [if_pos hq, ndL_len]
    rw [hq] at C
    unfold GiveIB at C
    rw [hk] at C
    rw [Bool.true_and]
    clear hq
    generalize nodesL N E s l = L at *
    generalize l.length = k at *
    by_cases ht : gi L k = t
    · have hb : (gi L k == t) = true := by simpa using ht
      rw [decide_eq_true ht]
      clear ht
      go_enter Try.func32, Try.ntmps32
      go_wp2_with fail
      refine (C.out _ (by repeat (first | exact Grows.refl _ | refine Grows.now ?_ _ | refine Grows.new ?_ _ | refine Grows.drewN ?_ _ | refine Grows.drew ?_ | assumption | (refine Grows.set ?_ (by first | omega | (simp; done) | (simp; omega)) _)))).mono ?_; rintro e w' ⟨A7, c7, rfl, hr, hg⟩
      obtain ⟨b, off, rfl, hc⟩ := hr.ints (by omega)
      have k1 : Holds w' ⟨b, off + k, none⟩ (.int .i64 (gi L k)) := ⟨hc k (by omega)⟩
      obtain ⟨x1, rfl⟩ := hg.later
      clear hg hr hc
      try simp only [Int.natCast_add, Int.natCast_one]
      go_wp2_with fail
      go_ret
      exact ⟨rfl, (by repeat (first | exact Grows.refl _ | refine Grows.now ?_ _ | refine Grows.new ?_ _ | refine Grows.drewN ?_ _ | refine Grows.drew ?_ | assumption | (refine Grows.set ?_ (by first | omega | (simp; done) | (simp; omega)) _)))⟩
    · have hb : (gi L k == t) = false := beq_eq_false_iff_ne.2 ht
      rw [decide_eq_false ht]
      clear ht
      go_enter Try.func32, Try.ntmps32
      go_wp2_with fail
      refine (C.out _ (by repeat (first | exact Grows.refl _ | refine Grows.now ?_ _ | refine Grows.new ?_ _ | refine Grows.drewN ?_ _ | refine Grows.drew ?_ | assumption | (refine Grows.set ?_ (by first | omega | (simp; done) | (simp; omega)) _)))).mono ?_; rintro e w' ⟨A7, c7, rfl, hr, hg⟩
      obtain ⟨b, off, rfl, hc⟩ := hr.ints (by omega)
      have k1 : Holds w' ⟨b, off + k, none⟩ (.int .i64 (gi L k)) := ⟨hc k (by omega)⟩
      obtain ⟨x1, rfl⟩ := hg.later
      clear hg hr hc
      try simp only [Int.natCast_add, Int.natCast_one]
      go_wp2_with fail
      go_ret
      exact ⟨rfl, (by repeat (first | exact Grows.refl _ | refine Grows.now ?_ _ | refine Grows.new ?_ _ | refine Grows.drewN ?_ _ | refine Grows.drew ?_ | assumption | (refine Grows.set ?_ (by first | omega | (simp; done) | (simp; omega)) _)))⟩
end Go.Proofs.Ythjcbboignmknaa

/- How far one node is; and the law DijkAll, walked: how far all nodes are, with whatever counts, or why that is not told. -/
namespace Go.Proofs.Ythjcbboignmknaa
open Go Go.RowKit
attribute [local go_sem] Oper.semAt_some
/-- Between two nodes: the one that is sought has not come. -/
def OneI (w : World) (lo b6 b8 b9 t : Nat) (z8 z9 : Value) (p : List (Nat × Nat)) (Mi : Nat → Prop) (W : World) : Prop :=
  (∃ y : Later w, W = y.now) ∧ (Arr W b6 3 [.int .i64 (t : Int)] ∧ Arr W b8 37 [z8] ∧ Arr W b9 42 [z9]) ∧ (t ∉ p.map Prod.fst) ∧ (∀ k, Mi k → lo ≤ k ∧ k < W.heap.size) ∧ lo ≤ W.heap.size
theorem OneI.yields {w : World} {lo b6 b8 b9 t : Nat} {z8 z9 : Value} (h1 : b6 < lo) (h2 : b8 < lo) (h3 : b9 < lo) (hlo : w.heap.size ≤ lo) : Yields' (OneI w lo b6 b8 b9 t z8 z9) := by
  rintro p Mi W Mi' W' ⟨⟨y, rfl⟩, ⟨a1, a2, a3⟩, a4, a5, a6⟩ ht hM'
  have nb : ∀ k, k < lo → ¬ Mi k := fun k hk e => by have := (a5 _ e).1; omega
  refine ⟨⟨⟨W', ht.later y.grows (fun k hk => Nat.le_trans hlo (a5 k hk).1)⟩, rfl⟩, ⟨a1.touch ht (nb _ h1), a2.touch ht (nb _ h2), a3.touch ht (nb _ h3)⟩, a4, fun k hk => ?_, Nat.le_trans a6 ht.size⟩
  obtain ⟨h | h, h'⟩ := hM' k hk
  · exact ⟨(a5 k h).1, h'⟩
  · exact ⟨by omega, h'⟩
/-- It has come. -/
def OneX (w : World) (lo b6 b8 b9 t : Nat) (xs : List (Nat × Nat)) (c : Code) (p : List (Nat × Nat)) (Mi : Nat → Prop) (W : World) : Prop :=
  c = .ret ∧ ∃ f, (t, f) ∈ xs ∧ (∃ y : Later w, W = y.now) ∧ (Arr W b8 37 [.int .u64 (f : Int)] ∧ Arr W b9 42 [.int .i64 0]) ∧ (∀ k, Mi k → lo ≤ k ∧ k < W.heap.size) ∧ lo ≤ W.heap.size
theorem OneX.yields {w : World} {lo b6 b8 b9 t : Nat} {xs : List (Nat × Nat)} (h2 : b8 < lo) (h3 : b9 < lo) (hlo : w.heap.size ≤ lo) (c : Code) : Yields' (OneX w lo b6 b8 b9 t xs c) := by
  rintro p Mi W Mi' W' ⟨e, f, a0, ⟨y, rfl⟩, ⟨a2, a3⟩, a5, a6⟩ ht hM'
  have nb : ∀ k, k < lo → ¬ Mi k := fun k hk e => by have := (a5 _ e).1; omega
  refine ⟨e, f, a0, ⟨⟨W', ht.later y.grows (fun k hk => Nat.le_trans hlo (a5 k hk).1)⟩, rfl⟩, ⟨a2.touch ht (nb _ h2), a3.touch ht (nb _ h3)⟩, fun k hk => ?_, Nat.le_trans a6 ht.size⟩
  obtain ⟨h | h, h'⟩ := hM' k hk
  · exact ⟨(a5 k h).1, h'⟩
  · exact ⟨by omega, h'⟩
def FrameOne (b6 b8 b9 v far : Nat) (a' : Act) : Prop := ∃ u0 u1 u2 u3 u4 u5 u7 u10 u13 u14 u15 u16 u17 u18 u19 u20 u21 u22 u23 u24 u25 u26 u27 u28 u29 u30 u31 u32 u33 : Value, a' = { tmps := #[u0, u1, u2, u3, u4, u5, .pointer (some ⟨b6, 0, none⟩), u7, .pointer (some ⟨b8, 0, none⟩), .pointer (some ⟨b9, 0, none⟩), u10, .int .i64 (v : Int), .int .u64 (far : Int), u13, u14, u15, u16, u17, u18, u19, u20, u21, u22, u23, u24, u25, u26, u27, u28, u29, u30, u31, u32, u33], defers := [] }
def OneB (w : World) (lo b6 b8 b9 t : Nat) (z8 z9 : Value) (x : Nat × Nat) (a' : Act) (p : List (Nat × Nat)) (Mi : Nat → Prop) (W : World) : Prop := FrameOne b6 b8 b9 x.1 x.2 a' ∧ OneI w lo b6 b8 b9 t z8 z9 p Mi W
/-- What comes of it: the number, or that there is no way. -/
def OneP (w : World) (xs : List (Nat × Nat)) (t : Nat) (e : Ending) (w' : World) : Prop :=
  ((∃ f, (t, f) ∈ xs ∧ e = .returned (.tuple #[.int .u64 (f : Int), .int .i64 0])) ∨ (t ∉ xs.map Prod.fst ∧ e = .returned (.tuple #[.int .u64 0, .int .i64 9]))) ∧ Grows w w'
set_option maxRecDepth 40000 in
set_option maxHeartbeats 8000000 in
theorem djOne (N s t : Nat) (A : Option Addr) (c : Nat) (E : List Edg) (o : DOpt) (An Ae Aw : Option Addr) (cn ce cw : Nat) (xs : List (Nat × Nat)) (w : World) (h : Rd w A 3 E.length (esCells E)) (h2 : Rd w An 1 o.nn.length (o.nn.map (.int .i64))) (h3 : Rd w Ae 1 o.ne.length (o.ne.map (.int .i64))) (h4 : Rd w Aw 1 o.W.length (wv o.W))
    (hok : WalkOk N s E o) (hd : dcF N s E o.W = 0) (hxs : if (s : Int) ∈ o.nn then xs = [] else Trace (srchOf N E o) (reachS o.most (st0 N) s 0) xs) (ht : t < N) :
    Calls Try.prog 31 #[.agg #[.int .i64 (N : Int), .slice A E.length c], .int .i64 (s : Int), .int .i64 (t : Int), oVal o.back (.slice An o.nn.length cn) (.slice Ae o.ne.length ce) Aw o.W.length cw o.most] w (OneP w xs t) := by
  unfold oVal
  obtain ⟨r1, r2, r3, r4, r5⟩ := right_in hok.right
  have C1 := hide (fun (W : World) (g : Grows w W) => djCheck (N : Int) s A E.length c E o.back (.slice An o.nn.length cn) (.slice Ae o.ne.length ce) Aw o.W.length cw o.most o.W W (h.grows g) (h4.grows g) (by omega) (by have := hok.wts; omega))
  rw [hd] at C1
  unfold oVal at C1
  have C2 := hide (fun (W : World) => gNode (N : Int) (t : Int) (.slice A E.length c) W)
  have hb : nodeB (N : Int) (t : Int) = true := decide_eq_true ⟨by omega, by omega⟩
  rw [hb] at C2
  have C3 := hide (fun (W : World) => djWalk (.agg #[.int .i64 (N : Int), .slice A E.length c]) (.int .i64 (s : Int)) (.agg #[.bool o.back, .slice An o.nn.length cn, .slice Ae o.ne.length ce, .slice Aw o.W.length cw, .int .u64 (o.most : Int)]) (N : Int) (.slice A E.length c) rfl (s : Int) rfl _ _ _ _ _ rfl W)
  have HM := hide (And.intro h (And.intro h2 (And.intro h3 h4)))
  have HOK := hide hok
  have HXS := hide hxs
  clear h h2 h3 h4 hok hxs hd r1 r2 r3 r4 r5 hb
  refine calls_of_marks Try.func31 rfl ?_
  simp only [Try.ntmps31, List.size_toArray, List.length_cons, List.length_nil, Nat.reduceAdd, Nat.reduceSub, Array.replicate_succ, Array.replicate_zero, List.push_toArray, List.append_toArray, List.nil_append, List.cons_append]
  go_wp2_with fail
  refine (C1.out _ (by repeat (first | exact Grows.refl _ | refine Grows.now ?_ _ | refine Grows.new ?_ _ | refine Grows.drewN ?_ _ | refine Grows.drew ?_ | assumption | (refine Grows.set ?_ (by first | omega | (simp; done) | (simp; omega)) _)))).mono ?_; rintro e w' ⟨rfl, hg⟩; obtain ⟨x1, rfl⟩ := hg.later; clear hg
  go_wp2_with fail
  refine (C2.out _).mono ?_; rintro e w' ⟨rfl, hg⟩; obtain ⟨x2, rfl⟩ := Grows.later2 hg; clear hg
  go_wp2_with fail
  refine (C3.out _).mono ?_; rintro e W0 ⟨b, rfl, hb, z1, z2, z3, hg⟩
  have hx2 := x2.size
  have hs5 : w.heap.size + 1 + 1 + 1 + 1 < b := by rw [← hb]; simp at hx2; omega
  have q6 : Arr W0 (w.heap.size + 1) 3 [.int .i64 (t : Int)] := Arr.grow ⟨by simp [heap_push, Array.getElem_push, Array.getElem?_push, eq_add2]⟩ (x2.grows.trans hg)
  have q8 : Arr W0 (w.heap.size + 1 + 1 + 1) 37 [.int .u64 0] := Arr.grow ⟨by simp [heap_push, Array.getElem_push, Array.getElem?_push, eq_add2]⟩ (x2.grows.trans hg)
  have q9 : Arr W0 (w.heap.size + 1 + 1 + 1 + 1) 42 [.int .i64 0] := Arr.grow ⟨by simp [heap_push, Array.getElem_push, Array.getElem?_push, eq_add2]⟩ (x2.grows.trans hg)
  have hgw : Grows w W0 := Grows.trans (by show Grows w x2.now; exact (by repeat (first | exact Grows.refl _ | refine Grows.now ?_ _ | refine Grows.new ?_ _ | refine Grows.drewN ?_ _ | refine Grows.drew ?_ | assumption | (refine Grows.set ?_ (by first | omega | (simp; done) | (simp; omega)) _)))) hg
  have hW0 := z3.lt
  have hsz0 := hgw.size
  have g6 : w.heap.size ≤ w.heap.size + 1 := by omega
  have g8 : w.heap.size ≤ w.heap.size + 1 + 1 + 1 := by omega
  have g9 : w.heap.size ≤ w.heap.size + 1 + 1 + 1 + 1 := by omega
  have n89 : w.heap.size + 1 + 1 + 1 ≠ w.heap.size + 1 + 1 + 1 + 1 := by omega
  have l6 : w.heap.size + 1 < b := by omega
  have l8 : w.heap.size + 1 + 1 + 1 < b := by omega
  have l9 : w.heap.size + 1 + 1 + 1 + 1 < b := hs5
  clear hb hg C1 C2 C3 hx2 hs5
  generalize w.heap.size + 1 + 1 + 1 + 1 = b9 at *
  generalize w.heap.size + 1 + 1 + 1 = b8 at *
  generalize w.heap.size + 1 + 1 = b7 at *
  generalize w.heap.size + 1 = b6 at *
  have hwalk : WalkAt (fun k => k < w.heap.size ∨ (b ≤ k ∧ k ≤ b + 1 + 1)) W0 b (b + 1 + 1) (b + 1) N s E o := by
    obtain ⟨h1, h2, h3, h4⟩ := HM.out
    exact ⟨A, c, An, cn, Ae, ce, Aw, cw, z1, z3, z2, h1.grows hgw, h2.grows hgw, h3.grows hgw, h4.grows hgw, .inr ⟨by omega, by omega⟩, .inr ⟨by omega, by omega⟩, .inr ⟨by omega, by omega⟩, fun h p hp => .inl (h1.block_lt (by omega) h p hp), fun h p hp => .inl (h2.block_lt (by omega) h p hp), fun h p hp => .inl (h3.block_lt (by omega) h p hp), fun h p hp => .inl (h4.block_lt (by omega) h p hp)⟩
  have hBW : ∀ k, (k < w.heap.size ∨ (b ≤ k ∧ k ≤ b + 1 + 1)) → k < W0.heap.size := fun k hk => by rcases hk with hk | hk <;> omega
  have hGV := djWalk1 (fun k => k < w.heap.size ∨ (b ≤ k ∧ k ≤ b + 1 + 1)) (fun k => k < w.heap.size ∨ (b ≤ k ∧ k ≤ b + 1 + 1)) (fun _ => False) b (b + 1 + 1) (b + 1) N s E o xs W0 hwalk (fun k hk => .inl hk) (fun k hk => hk.elim) hBW HOK.out HXS.out
  have h0 : OneI w W0.heap.size b6 b8 b9 t (.int .u64 0) (.int .i64 0) [] (fun _ => False) W0 := ⟨⟨⟨W0, hgw⟩, rfl⟩, ⟨q6, q8, q9⟩, by simp, fun k hk => hk.elim, Nat.le_refl _⟩
  have hIy := OneI.yields (w := w) (lo := W0.heap.size) (b6 := b6) (b8 := b8) (b9 := b9) (t := t) (z8 := .int .u64 0) (z9 := .int .i64 0) (by omega) (by omega) (by omega) hsz0
  have hXy := OneX.yields (w := w) (lo := W0.heap.size) (b6 := b6) (b8 := b8) (b9 := b9) (t := t) (xs := xs) (by omega) (by omega) hsz0
  have HGV := hide hGV
  have H0 := hide h0
  clear hGV h0 hwalk q6 q8 q9 z1 z2 z3 HM HXS HOK
  go_wp2_with fail
  refine (wpIn_wide (n := 0)).1 ?_
  have hGV := HGV.out
  have h0 := H0.out
  clear HGV H0
  refine wp_rangeG (w0 := W0) (gf := 142) rfl (enters_of Try.func142 (by kernel_rfl) rfl) hGV (Keeps.refl _ _ _) hBW (fun k hk => hk.elim) (fun _ => rfl)
    (OneI w W0.heap.size b6 b8 b9 t (.int .u64 0) (.int .i64 0)) (OneX w W0.heap.size b6 b8 b9 t xs) hIy hXy h0 (OneB w W0.heap.size b6 b8 b9 t (.int .u64 0) (.int .i64 0)) ?hIb ?assign ?body ?done ?stop
  case hIb =>
    rintro x a' p Mi W1 Mi' W' ⟨hf, hI⟩ ht hM'
    exact ⟨hf, hIy p Mi W1 Mi' W' hI ht hM'⟩
  case assign =>
    intro l2 p x rest Mi W1 hsp hI
    have HI := hide hI
    clear hI
    unfold encD
    gi_wp2
    refine ⟨⟨?_, HI.out⟩, Keeps.refl _ _ _⟩
    unfold FrameOne
    (repeat apply Exists.intro)
    rfl
  case body =>
    rintro l2 p ⟨v, far⟩ rest Mi a' W1 hsp hl2 hMl hrec ⟨⟨u0, u1, u2, u3, u4, u5, u7, u10, u13, u14, u15, u16, u17, u18, u19, u20, u21, u22, u23, u24, u25, u26, u27, u28, u29, u30, u31, u32, u33, rfl⟩, ⟨⟨y, rfl⟩, ⟨q6, q8, q9⟩, hnt, hm, hlo⟩⟩
    have HMEM := hide (show (v, far) ∈ xs from by rw [hsp]; simp)
    have HMM := hide hm
    have HNT := hide hnt
    clear hsp hl2 hMl hrec hm h0 hIy hXy hGV hnt
    simp only
    have HKN : ∀ k, (k = b8 ∨ k = b9) → ¬ ((k < w.heap.size ∨ (b ≤ k ∧ k ≤ b + 1 + 1)) ∨ Mi k) := fun k hk e => by
      rcases e with (e | e) | e
      · rcases hk with rfl | rfl <;> omega
      · rcases hk with rfl | rfl <;> omega
      · have := (HMM.out _ e).1
        rcases hk with rfl | rfl <;> omega
    have HKN2 := hide HKN
    clear HKN
    by_cases hvt : v = t
    · subst hvt
      gi_wp2
      have e8 : Arr ((y.now.setCell ⟨b8, 0, none⟩ (.int .u64 (far : Int))).setCell ⟨b9, 0, none⟩ (.int .i64 0)) b8 37 [.int .u64 (far : Int)] := (q8.set 0 _).other (Ne.symm n89) _
      have e9 : Arr ((y.now.setCell ⟨b8, 0, none⟩ (.int .u64 (far : Int))).setCell ⟨b9, 0, none⟩ (.int .i64 0)) b9 42 [.int .i64 0] := (q9.other n89 _).set 0 _
      refine ⟨((Touch.refl _ _).set (.inl (HKN2.out _ (.inl rfl))) _).set (.inl (HKN2.out _ (.inr rfl))) _, rfl, far, HMEM.out, ⟨⟨_, (y.grows.set g8 _).set g9 _⟩, rfl⟩, ⟨e8, e9⟩, fun k hk => ?_, ?_⟩
      · rw [size_setCell, size_setCell]; exact HMM.out k hk
      · rw [size_setCell, size_setCell]; exact hlo
    · have hb1 : ((v : Int) == (t : Int)) = false := beq_eq_false_iff_ne.2 (by omega)
      have HVT := hide hvt
      clear hvt
      gi_wp2
      refine ⟨Keeps.refl _ _ _, ⟨y, rfl⟩, ⟨q6, q8, q9⟩, ?_, HMM.out, hlo⟩
      rw [List.map_append, List.mem_append]
      rintro (h | h)
      · exact HNT.out h
      · have h : t = v := by simpa using h
        exact HVT.out h.symm
  case done =>
    intro D Mi W1 hlD hMD hI hDW
    obtain ⟨⟨y, rfl⟩, ⟨q6, q8, q9⟩, hnt, hm, hlo⟩ := hI
    have HMM := hide hm
    have HNT := hide hnt
    have HDW := hide hDW
    clear hm hDW hIy hXy h0 hGV hnt
    gi_wp2
    go_wp2_with fail
    have e8 : Arr ((y.now.setCell ⟨b8, 0, none⟩ (.int .u64 0)).setCell ⟨b9, 0, none⟩ (.int .i64 9)) b8 37 [.int .u64 0] := (q8.set 0 _).other (Ne.symm n89) _
    have e9 : Arr ((y.now.setCell ⟨b8, 0, none⟩ (.int .u64 0)).setCell ⟨b9, 0, none⟩ (.int .i64 9)) b9 42 [.int .i64 9] := (q9.other n89 _).set 0 _
    have hDl : w.heap.size ≤ D ∧ b8 ≠ D ∧ b9 ≠ D := by omega
    have hyg : Grows w ((y.now.setCell ⟨b8, 0, none⟩ (.int .u64 0)).setCell ⟨b9, 0, none⟩ (.int .i64 9)) := (y.grows.set g8 _).set g9 _
    have hD3 : ((y.now.setCell ⟨b8, 0, none⟩ (.int .u64 0)).setCell ⟨b9, 0, none⟩ (.int .i64 9)).heap[D]? = some (.deferred (some [])) := by
      rw [heap_setCell _ _ _ _ (Ne.symm hDl.2.2), heap_setCell _ _ _ _ (Ne.symm hDl.2.1)]
      exact HDW.out
    refine marks_ret [D] rfl ((Marks.nil _).cons hD3 (by simp)) (fun W' htt => ?_)
    have k8 := (e8.touch htt (fun e => hDl.2.1 (List.mem_singleton.1 e))).cell 0
    have k9 := (e9.touch htt (fun e => hDl.2.2 (List.mem_singleton.1 e))).cell 0
    refine ⟨.tuple #[.int .u64 0, .int .i64 9], by simp (maxDischargeDepth := 6) [results, Try.results31, go_sem, k8, k9], .inr ⟨HNT.out, rfl⟩, htt.later hyg (fun k hk => by rw [List.mem_singleton.1 hk]; exact hDl.1)⟩
  case stop =>
    intro D c' p i rest Mi W1 hlD hMD _ hX hDW
    obtain ⟨rfl, f, hf, ⟨y, rfl⟩, ⟨q8, q9⟩, hm, hlo⟩ := hX
    have HF := hide hf
    have HDW := hide hDW
    clear hf hDW hIy hXy h0 hGV hm
    gi_wp2
    have hDl : w.heap.size ≤ D ∧ b8 ≠ D ∧ b9 ≠ D := by omega
    refine marks_ret [D] rfl ((Marks.nil _).cons HDW.out (by simp)) (fun W' htt => ?_)
    have k8 := (q8.touch htt (fun e => hDl.2.1 (List.mem_singleton.1 e))).cell 0
    have k9 := (q9.touch htt (fun e => hDl.2.2 (List.mem_singleton.1 e))).cell 0
    refine ⟨.tuple #[.int .u64 (f : Int), .int .i64 0], by simp (maxDischargeDepth := 6) [results, Try.results31, go_sem, k8, k9], .inl ⟨f, HF.out, rfl⟩, htt.later y.grows (fun k hk => by rw [List.mem_singleton.1 hk]; exact hDl.1)⟩
section
theorem nodup_fst {x : Srch} {s mw : Nat} {xs : List (Nat × Nat)} (h : Far x s mw xs) : (xs.map Prod.fst).Nodup := h.nodup
/-- A search that may be, and the answer's reckoning of it. -/
theorem walk_ref {N s : Nat} {E : List Edg} {o : DOpt} (hok : WalkOk N s E o) (hw : ∀ i, i < E.length → 1 ≤ gn (wtF N E o.W) i ∧ gn (wtF N E o.W) i ≤ 17592186044416) :
    ∃ xs, (if (s : Int) ∈ o.nn then xs = [] else Trace (srchOf N E o) (reachS o.most (st0 N) s 0) xs) ∧ (∀ p, p ∈ xs → p.1 < N) ∧ (xs.map Prod.fst).Nodup ∧ refL (srchOf N E o) s = outL N xs ∧ (∀ v f, (v, f) ∈ xs → f < farV) := by
  obtain ⟨r1, r2, r3, r4, r5⟩ := right_in hok.right
  rw [Int.toNat_natCast] at r4
  have hb : N * 17592186044416 < farV := by
    have : N * 17592186044416 ≤ 4096 * 17592186044416 := Nat.mul_le_mul_right _ (by omega)
    unfold farV; omega
  by_cases hnn : (s : Int) ∈ o.nn
  · refine ⟨[], by rw [if_pos hnn], fun p hp => (by cases hp), by simp, ?_, fun v f h => by cases h⟩
    unfold refL
    rw [if_pos (show (srchOf N E o).nn s = true from decide_eq_true hnn)]
    rfl
  · obtain ⟨xs, h1, h2, h3⟩ := walk_is hok hw (Nat.le_refl _) hnn
    have hs := hok.srch
    have hin : SrchIn (srchOf N E o) 17592186044416 := ⟨fun i hi => by
      have h1 := hs.ends.f i hi
      have h2 := hs.ends.t i hi
      unfold toE
      split
      · exact h1.1
      · exact h2.1, fun i hi => (hw i hi).1, fun i hi => (hw i hi).2⟩
    obtain ⟨ys, h4, h5⟩ := trace_whole (x := freeX (srchOf N E o)) (s := s) (mw := 17592186044416) ⟨hin.ends, hin.low, hin.high⟩ hs.nodes hok.node (by omega)
    refine ⟨xs, h1, h3, h2.nodup, refL_is h2 h5 hin hb hok.node (decide_eq_false hnn) (fun i hi => ?_), fun v f hf => by have h9 := (h2.way v f hf).2.2.2; have h10 : f ≤ N * 17592186044416 := h9; omega⟩
    have h1 := hs.ends.f i hi
    have h2 := hs.ends.t i hi
    unfold nN
    split
    · exact h2.1
    · exact h1.1
set_option maxRecDepth 20000 in
set_option maxHeartbeats 8000000 in
theorem djOneNo (N s t : Int) (A : Option Addr) (n c : Nat) (E : List Edg) (back : Bool) (nn ne : Value) (Aw : Option Addr) (nw cw most : Nat) (W : List Nat) (w : World) (h : Rd w A 3 n (esCells E)) (hW : Rd w Aw 1 nw (wv W)) (hn : n ≤ 1000000) (hnw : nw ≤ 1000000) (hd : dcF N s E W ≠ 0) :
    Calls Try.prog 31 #[.agg #[.int .i64 N, .slice A n c], .int .i64 s, .int .i64 t, oVal back nn ne Aw nw cw most] w fun e w' => e = .returned (.tuple #[.int .u64 0, .int .i64 (dcF N s E W)]) ∧ Grows w w' := by
  unfold oVal
  have C1 := hide (fun (W1 : World) (g : Grows w W1) => djCheck N s A n c E back nn ne Aw nw cw most W W1 (h.grows g) (hW.grows g) hn hnw)
  unfold oVal at C1
  have hr2 : (dcF N s E W == 0) = false := beq_eq_false_iff_ne.2 hd
  clear h hW
  generalize dcF N s E W = r at *
  go_enter Try.func31, Try.ntmps31
  go_wp2_with (go_at_call 82; refine (C1.out _ (by repeat (first | exact Grows.refl _ | refine Grows.now ?_ _ | refine Grows.new ?_ _ | refine Grows.drewN ?_ _ | refine Grows.drew ?_ | assumption | (refine Grows.set ?_ (by first | omega | (simp; done) | (simp; omega)) _)))).mono ?_; rintro e w' ⟨rfl, hg⟩; obtain ⟨x1, rfl⟩ := hg.later; clear hg)
  refine bodyPost_ret (v := .tuple #[.int .u64 0, .int .i64 r]) (by simp (maxDischargeDepth := 6) [results, Try.results31, go_sem, *]) rfl ?_
  exact ⟨rfl, (by repeat (first | exact Grows.refl _ | refine Grows.now ?_ _ | refine Grows.new ?_ _ | refine Grows.drewN ?_ _ | refine Grows.drew ?_ | assumption | (refine Grows.set ?_ (by first | omega | (simp; done) | (simp; omega)) _)))⟩
set_option maxRecDepth 20000 in
set_option maxHeartbeats 8000000 in
theorem djOneOut (N s t : Int) (A : Option Addr) (n c : Nat) (E : List Edg) (back : Bool) (nn ne : Value) (Aw : Option Addr) (nw cw most : Nat) (W : List Nat) (w : World) (h : Rd w A 3 n (esCells E)) (hW : Rd w Aw 1 nw (wv W)) (hn : n ≤ 1000000) (hnw : nw ≤ 1000000) (hd : dcF N s E W = 0) (ht : ¬ (0 ≤ t ∧ t < N)) :
    Calls Try.prog 31 #[.agg #[.int .i64 N, .slice A n c], .int .i64 s, .int .i64 t, oVal back nn ne Aw nw cw most] w fun e w' => e = .returned (.tuple #[.int .u64 0, .int .i64 7]) ∧ Grows w w' := by
  unfold oVal
  have C1 := hide (fun (W1 : World) (g : Grows w W1) => djCheck N s A n c E back nn ne Aw nw cw most W W1 (h.grows g) (hW.grows g) hn hnw)
  unfold oVal at C1
  rw [hd] at C1
  have C2 := hide (fun (W : World) => gNode N t (.slice A n c) W)
  have hb : nodeB N t = false := decide_eq_false ht
  rw [hb] at C2
  clear h hW hd hb ht
  go_enter Try.func31, Try.ntmps31
  go_wp2_with fail
  refine (C1.out _ (by repeat (first | exact Grows.refl _ | refine Grows.now ?_ _ | refine Grows.new ?_ _ | refine Grows.drewN ?_ _ | refine Grows.drew ?_ | assumption | (refine Grows.set ?_ (by first | omega | (simp; done) | (simp; omega)) _)))).mono ?_; rintro e w' ⟨rfl, hg⟩; obtain ⟨x1, rfl⟩ := hg.later; clear hg
  go_wp2_with fail
  refine (C2.out _).mono ?_; rintro e w' ⟨rfl, hg⟩; obtain ⟨x2, rfl⟩ := Grows.later2 hg; clear hg
  go_wp2_with fail
  refine bodyPost_ret (v := .tuple #[.int .u64 0, .int .i64 7]) (by simp (maxDischargeDepth := 6) [results, Try.results31, go_sem, *]) rfl ?_
  exact ⟨rfl, (by repeat (first | exact Grows.refl _ | refine Grows.now ?_ _ | refine Grows.new ?_ _ | refine Grows.drewN ?_ _ | refine Grows.drew ?_ | assumption | (refine Grows.set ?_ (by first | omega | (simp; done) | (simp; omega)) _)))⟩
theorem gLex_propG {P : Program} {w0 : World} {ops : Array Oper} {Q : Act → Env → Prop} {a : Act} {G : Env} {o : Oper} {rest : List Oper} {t : Tmp} (hw : Region.wanted o (yielded ops a.tmps) = true) (hp : plainB ops o G = true) (hd : o.dst = some t) (hlt : t < a.tmps.size)
    (p : Pr) (hl : Lasts p) (hr : ∀ x : Later w0, runsTo P (fun u w' => Grows x.now w' ∧ p u w') ((execOp a.eval o).run P x.now))
    (h : gLex P ops w0 Q rest a (G.upd t p)) : gLex P ops w0 Q (o :: rest) a G := by
  obtain ⟨h1, h2, h3, h4⟩ := plain_spec hp
  refine ⟨.inr p, ⟨h1, h2, .inl ⟨hw, hl, ⟨t, hd, hlt⟩, fun w hw a' ha' => ?_⟩⟩, ?_⟩
  · rw [exec_same h4 h3 ha']
    exact hr ⟨w, hw⟩
  · rw [hd]
    exact h
end
end Go.Proofs.Ythjcbboignmknaa
