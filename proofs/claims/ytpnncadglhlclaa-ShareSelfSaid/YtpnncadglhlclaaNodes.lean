/- Contracts: the nodes of a row of edges. -/
import Derived.Test.YtpnncadglhlclaaOwn2
import Derived.Test.YtpnncadglhlclaaPath
import Derived.Test.YtpnncadglhlclaaRef08
import Derived.Deep.DeepCutAuto
namespace Go.Proofs.Ytpnncadglhlclaa
open Go Go.RowKit
/-- The node behind k edges. -/
def ndI (E : List Edg) (s : Int) (l : List Int) : Nat → Int
  | 0 => s
  | k + 1 => (ge E (gi l k).toNat).t
/-- Does each of the first k edges begin where the one ahead of it ends? -/
def lkB (E : List Edg) (s : Int) (l : List Int) : Nat → Bool
  | 0 => true
  | k + 1 => lkB E s l k && decide ((ge E (gi l k).toNat).f = ndI E s l k)
theorem lkB_mono {E : List Edg} {s : Int} {l : List Int} {j : Nat} (h : lkB E s l j = false) : ∀ k, lkB E s l (j + k) = false
  | 0 => h
  | k + 1 => by show (lkB E s l (j + k) && _) = false; rw [lkB_mono h k]; rfl
def ndL (E : List Edg) (s : Int) (l : List Int) (k : Nat) : List Int := (List.range k).map (ndI E s l)
theorem ndL_succ (E : List Edg) (s : Int) (l : List Int) (k : Nat) : ndL E s l (k + 1) = ndL E s l k ++ [ndI E s l k] := by unfold ndL; rw [List.range_succ, List.map_append]; rfl
theorem ndL_len (E : List Edg) (s : Int) (l : List Int) (k : Nat) : (ndL E s l k).length = k := by simp [ndL]
theorem ndL_at (E : List Edg) (s : Int) (l : List Int) (k j : Nat) (h : j < k) : gi (ndL E s l k) j = ndI E s l j := by simp [gi, ndL, h]
/-- Is it a row of edges from s on? -/
def isB (N : Int) (E : List Edg) (s : Int) (l : List Int) : Bool := edgesB N E l && (nodeB N s && lkB E s l l.length)
def nodesL (N : Int) (E : List Edg) (s : Int) (l : List Int) : List Int := if isB N E s l then ndL E s l (l.length + 1) else []
/-- A slice of numbers, and whether it is one. -/
def GiveIB (w : World) (l : List Int) (b : Bool) (e : Ending) (w' : World) : Prop := ∃ A c, e = .returned (.tuple #[.slice A l.length c, .bool b]) ∧ Rd w' A 1 l.length (l.map (.int .i64)) ∧ Grows w w'
/-- The same, and the room that the slice has. -/
def GiveIBc (w : World) (l : List Int) (b : Bool) (e : Ending) (w' : World) : Prop := ∃ A c, e = .returned (.tuple #[.slice A l.length c, .bool b]) ∧ l.length ≤ c ∧ Rd w' A 1 l.length (l.map (.int .i64)) ∧ Grows w w'
theorem Own.cap {w : World} {B n c size : Nat} {e : TypeId} {A : Option Addr} {xs : List Value} (h : Own w B e size A n c xs) : n ≤ c := by
  rcases Nat.eq_zero_or_pos n with h0 | h0
  · omega
  · obtain ⟨_, _, _, _, _, h1, _⟩ := h.at_ h0
    exact h1
theorem edges_in {N : Int} {E : List Edg} {l : List Int} (h : edgesB N E l = true) {k : Nat} (hk : k < l.length) : 0 ≤ gi l k ∧ (gi l k).toNat < E.length := by
  unfold edgesB at h
  simp only [Bool.and_eq_true, Bool.not_eq_true', List.any_eq_false] at h
  have := h.2 _ (gi_mem hk)
  unfold edgeB at this
  simp at this
  omega
set_option maxRecDepth 20000 in
set_option maxHeartbeats 2000000 in
theorem r8NodesC (N : Int) (A : Option Addr) (m c : Nat) (E : List Edg) (s : Int) (B : Option Addr) (n d : Nat) (l : List Int) (w : World) (h : Rd w A 3 m (esCells E)) (hm : m ≤ 1000000) (h' : Rd w B 1 n (l.map (.int .i64))) (hn : n ≤ 1000000) :
    Calls Try.prog 91 #[.agg #[.int .i64 N, .slice A m c], .int .i64 s, .slice B n d] w (GiveIBc w (nodesL N E s l) (isB N E s l)) := by
  have HL := hide (show l.length = n by simpa using h'.len)
  have HE := hide h.elen
  have C1 := fun (W : World) (g : Grows w W) => r8edges N A m c E B n d l W (h.grows g) hm (h'.grows g) hn
  have HR := hide h
  have HS := hide h'
  clear h h'
  cases he : edgesB N E l with
  | false =>
    have e1 : isB N E s l = false := by unfold isB; rw [he]; rfl
    have HV : Hid (nodesL N E s l = []) := by unfold nodesL; rw [e1]; rfl
    rw [HV.out, e1]
    rw [he] at C1
    have H1 := hide C1
    clear C1 he e1
    go_enter Try.func91, Try.ntmps91
    go_wp2_with (first | (go_at_call 98; refine (H1.out _ (by repeat (first | exact Grows.refl _ | refine Grows.now ?_ _ | refine Grows.new ?_ _ | refine Grows.drewN ?_ _ | refine Grows.drew ?_ | assumption | (refine Grows.set ?_ (by first | omega | (simp; done) | (simp; omega)) _)))).mono ?_; rintro e w' ⟨rfl, hg⟩; (first | obtain ⟨x, rfl⟩ := Grows.later2 hg | obtain ⟨x, rfl⟩ := Grows.later hg); clear hg))
    go_ret2
    exact ⟨none, 0, rfl, Nat.le_refl _, ⟨rfl, fun h => absurd h (by simp)⟩, (by repeat (first | exact Grows.refl _ | refine Grows.now ?_ _ | refine Grows.new ?_ _ | refine Grows.drewN ?_ _ | refine Grows.drew ?_ | assumption | (refine Grows.set ?_ (by first | omega | (simp; done) | (simp; omega)) _)))⟩
  | true =>
  rw [he] at C1
  have H1 := hide C1
  cases hs : nodeB N s with
  | false =>
    have e1 : isB N E s l = false := by unfold isB; rw [he, hs]; rfl
    have HV : Hid (nodesL N E s l = []) := by unfold nodesL; rw [e1]; rfl
    rw [HV.out, e1]
    have hs2 : ¬ (0 ≤ s ∧ s < N) := by unfold nodeB at hs; simpa using hs
    clear C1 he e1 hs
    go_enter Try.func91, Try.ntmps91
    go_wp2_with (first | (go_at_call 98; refine (H1.out _ (by repeat (first | exact Grows.refl _ | refine Grows.now ?_ _ | refine Grows.new ?_ _ | refine Grows.drewN ?_ _ | refine Grows.drew ?_ | assumption | (refine Grows.set ?_ (by first | omega | (simp; done) | (simp; omega)) _)))).mono ?_; rintro e w' ⟨rfl, hg⟩; (first | obtain ⟨x, rfl⟩ := Grows.later2 hg | obtain ⟨x, rfl⟩ := Grows.later hg); clear hg))
    all_goals first | (exfalso; omega) | skip
    all_goals go_ret2
    all_goals exact ⟨none, 0, rfl, Nat.le_refl _, ⟨rfl, fun h => absurd h (by simp)⟩, (by repeat (first | exact Grows.refl _ | refine Grows.now ?_ _ | refine Grows.new ?_ _ | refine Grows.drewN ?_ _ | refine Grows.drew ?_ | assumption | (refine Grows.set ?_ (by first | omega | (simp; done) | (simp; omega)) _)))⟩
  | true =>
  have HV : Hid (isB N E s l = lkB E s l n) := by unfold isB; rw [he, hs, HL.out]; exact rfl
  have HI := hide (fun k (hk : k < n) => edges_in he (k := k) (by rw [HL.out]; exact hk))
  obtain ⟨hs1, hs2⟩ : 0 ≤ s ∧ s < N := by unfold nodeB at hs; simpa using hs
  clear C1 he hs
  go_enter Try.func91, Try.ntmps91
  go_wp2_with (first | (go_at_call 98; refine (H1.out _ (by repeat (first | exact Grows.refl _ | refine Grows.now ?_ _ | refine Grows.new ?_ _ | refine Grows.drewN ?_ _ | refine Grows.drew ?_ | assumption | (refine Grows.set ?_ (by first | omega | (simp; done) | (simp; omega)) _)))).mono ?_; rintro e w' ⟨rfl, hg⟩; (first | obtain ⟨x, rfl⟩ := Grows.later2 hg | obtain ⟨x, rfl⟩ := Grows.later hg); clear hg))
  all_goals first | (exfalso; omega) | skip
  go_loopw [9, 8] (fun i u wr => ∃ k : Nat, k ≤ n ∧ i = .int .i64 (k : Int) ∧ lkB E s l k = true ∧ ∃ y : Later (w.alloc (.cells #[.int .i64 N, .slice A m c] 24)), wr = y.now ∧
    ∃ A' c', u = .slice A' (k + 1) c' ∧ Own y.now (w.alloc (.cells #[.int .i64 N, .slice A m c] 24)).heap.size 3 1 A' (k + 1) c' ((ndL E s l (k + 1)).map (.int .i64))) (fun i _ _ => n - (intOf i).toNat)
  case atStart =>
    refine ⟨0, by omega, by go_num, rfl, ⟨_, x.grows.new _⟩, rfl, _, _, rfl, ?_⟩
    exact Own.build x.now 3 [.int .i64 s] _ x.size (by simp)
  case round =>
    obtain ⟨k, hk, rfl, hlk, y, rfl, A', c', rfl, hown⟩ := hrel
    have HO := hide hown
    have HK := hide hlk
    clear hown hlk
    by_cases hend : n ≤ k
    · have hkm : k = n := by omega
      subst hkm
      go_wp2
      go_ret2
      have e1 : isB N E s l = true := HV.out.trans HK.out
      have e2 : nodesL N E s l = ndL E s l (k + 1) := by unfold nodesL; rw [e1, HL.out]; rfl
      rw [e1, e2]
      refine ⟨A', c', by rw [ndL_len]; rfl, by rw [ndL_len]; exact HO.out.cap, ?_, (by repeat (first | exact Grows.refl _ | refine Grows.now ?_ _ | refine Grows.new ?_ _ | refine Grows.drewN ?_ _ | refine Grows.drew ?_ | assumption | (refine Grows.set ?_ (by first | omega | (simp; done) | (simp; omega)) _)))⟩
      rw [ndL_len]
      exact HO.out.rd
    · obtain ⟨b, off, rfl, hc⟩ := HS.out.intsH (by omega)
      have c1 := hc k (by omega)
      obtain ⟨i1, i2⟩ := HI.out k (by omega)
      rw [HE.out] at i2
      obtain ⟨b2, off2, rfl, hc2⟩ := HR.out.edgesH (by omega)
      obtain ⟨c2, c3, c4⟩ := hc2 (gi l k).toNat i2
      obtain ⟨g, rfl, hg, hcs⟩ := HO.out.at (by omega)
      have c5 := hcs k _ (by rw [List.getElem?_map, ndL_succ, List.getElem?_append_right (by rw [ndL_len]; omega), ndL_len, Nat.sub_self]; rfl)
      clear hcs
      clear hc hc2
      by_cases hf : (ge E (gi l k).toNat).f = ndI E s l k
      · have hlk2 : Hid (lkB E s l (k + 1) = true) := by show (lkB E s l k && decide _) = true; rw [HK.out, decide_eq_true hf]; rfl
        have HN : Hid (ndI E s l (k + 1) = (ge E (gi l k).toNat).t) := rfl
        have HL2 := hide (ndL_succ E s l (k + 1))
        have hne : ((ge E (gi l k).toNat).f == ndI E s l k) = true := by simpa using hf
        clear hf
        generalize (ge E (gi l k).toNat).t = t at *
        generalize (ge E (gi l k).toNat).f = f at *
        generalize hq : gi l k = q at *
        obtain ⟨q, rfl⟩ := Int.eq_ofNat_of_zero_le i1
        simp only [Int.toNat_natCast] at i2 c2 c3 c4
        generalize (ge E q).w = w3 at *
        go_wp2_with fail
        go_region
        go_wp2_with fail
        go_region
        go_wp2_with (at_builtin; refine wp_app1 elemInt rfl _ _ rfl _ (by repeat (first | exact Grows.refl _ | refine Grows.now ?_ _ | refine Grows.new ?_ _ | refine Grows.drewN ?_ _ | refine Grows.drew ?_ | assumption | (refine Grows.set ?_ (by first | omega | (simp; done) | (simp; omega)) _))) (k + 1) c' _ _ rfl (HO.out.grows (by repeat (first | exact Grows.refl _ | refine Grows.now ?_ _ | refine Grows.new ?_ _ | refine Grows.drewN ?_ _ | refine Grows.drew ?_ | assumption | (refine Grows.set ?_ (by first | omega | (simp; done) | (simp; omega)) _)))) _ _ _ rfl inferInstance rfl (by omega) ?_; intro A3 c3 y3 hown3; have HO3 := hide hown3; clear hown3)
        refine ⟨⟨k + 1, by omega, by go_num, hlk2.out, y3, rfl, A3, c3, rfl, ?_⟩, by simp [intOf]; omega⟩
        rw [HL2.out, HN.out, List.map_append]
        exact HO3.out
      · have e1 : isB N E s l = false := by
          have : lkB E s l (k + 1) = false := by show (lkB E s l k && decide _) = false; rw [decide_eq_false hf, Bool.and_false]
          have := lkB_mono this (n - (k + 1))
          rw [show k + 1 + (n - (k + 1)) = n by omega] at this
          exact HV.out.trans this
        have hne : ((ge E (gi l k).toNat).f == ndI E s l k) = false := by simpa using hf
        have HW : Hid (nodesL N E s l = []) := by unfold nodesL; rw [e1]; rfl
        rw [HW.out, e1]
        clear hf e1
        generalize (ge E (gi l k).toNat).t = t at *
        generalize (ge E (gi l k).toNat).f = f at *
        generalize hq : gi l k = q at *
        obtain ⟨q, rfl⟩ := Int.eq_ofNat_of_zero_le i1
        simp only [Int.toNat_natCast] at i2 c2 c3 c4
        generalize (ge E q).w = w3 at *
        go_wp2_with fail
        go_region
        go_wp2_with fail
        go_region
        go_wp2
        go_ret2
        exact ⟨none, 0, rfl, Nat.le_refl _, ⟨rfl, fun h => absurd h (by simp)⟩, (by repeat (first | exact Grows.refl _ | refine Grows.now ?_ _ | refine Grows.new ?_ _ | refine Grows.drewN ?_ _ | refine Grows.drew ?_ | assumption | (refine Grows.set ?_ (by first | omega | (simp; done) | (simp; omega)) _)))⟩
theorem r8Nodes (N : Int) (A : Option Addr) (m c : Nat) (E : List Edg) (s : Int) (B : Option Addr) (n d : Nat) (l : List Int) (w : World) (h : Rd w A 3 m (esCells E)) (hm : m ≤ 1000000) (h' : Rd w B 1 n (l.map (.int .i64))) (hn : n ≤ 1000000) :
    Calls Try.prog 91 #[.agg #[.int .i64 N, .slice A m c], .int .i64 s, .slice B n d] w (GiveIB w (nodesL N E s l) (isB N E s l)) :=
  (r8NodesC N A m c E s B n d l w h hm h' hn).mono fun _ _ ⟨A, c, h1, _, h2⟩ => ⟨A, c, h1, h2⟩
end Go.Proofs.Ytpnncadglhlclaa
