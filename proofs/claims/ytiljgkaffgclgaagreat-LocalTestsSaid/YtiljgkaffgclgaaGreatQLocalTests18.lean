/- Plain law: parts of a row of edges, and how far their ends lie apart; windows of one ratio and of a lesser one. -/
import Derived.Test.YtiljgkaffgclgaaGreatQLocalTests16
import Derived.Test.YtiljgkaffgclgaaGreatQLocalTests17
import Derived.Test.YtiljgkaffgclgaaGreatQLocalTests15
/- Plain law: parts of a row of edges, and how far their ends lie apart; windows of one ratio and of a lesser one. -/
namespace Go.Proofs.YtiljgkaffgclgaaGreat
open Go Go.RowKit
theorem dn_le (R : Nat → Bool) : ∀ m, dn R m ≤ m
  | 0 => Nat.le_refl _
  | m + 1 => by
    rw [dn_succ]
    split
    · exact Nat.le_refl _
    · have := dn_le R m; omega
theorem up_le (R : Nat → Bool) : ∀ d k, k ≤ up R d k ∧ up R d k ≤ k + d
  | 0, k => ⟨Nat.le_refl _, Nat.le_refl _⟩
  | d + 1, k => by
    unfold up
    split
    · omega
    · have := up_le R d (k + 1); omega
theorem dn_mono {R R' : Nat → Bool} (h : ∀ k, R k = true → R' k = true) : ∀ m, dn R m ≤ dn R' m
  | 0 => Nat.le_refl _
  | m + 1 => by
    rw [dn_succ, dn_succ]
    have ih := dn_mono h m
    have hl := dn_le R m
    by_cases e : R (m + 1) = true
    · rw [if_pos e, if_pos (h _ e)]; exact Nat.le_refl _
    · rw [if_neg e]
      split <;> omega
theorem up_mono {R R' : Nat → Bool} (h : ∀ k, R k = true → R' k = true) : ∀ d k, up R' d k ≤ up R d k
  | 0, _ => Nat.le_refl _
  | d + 1, k => by
    have ih := up_mono h d (k + 1)
    have hl := up_le R d (k + 1)
    unfold up
    by_cases e : R k = true
    · rw [if_pos e, if_pos (h _ e)]; exact Nat.le_refl _
    · rw [if_neg e]
      split <;> omega
/-- What is within the one ratio is within a lesser one. -/
theorem rc_less {n a b a' b' base : Int} (hb : 0 ≤ base) (h1 : rrB a b = true) (h2 : rrB a' b' = true) (hle : a' * b ≤ a * b') (h : rcB n a b base = true) : rcB n a' b' base = true := by
  unfold rcB wiB at *
  unfold rrB at *
  simp only [Bool.or_eq_true, Bool.and_eq_true, decide_eq_true_eq] at *
  by_cases e : a' = 0
  · exact .inl e
  · refine .inr ⟨by omega, ?_⟩
    have hp : 1 ≤ a' * b := by
      have : 1 * 1 ≤ a' * b := Int.mul_le_mul (by omega) (by omega) (by omega) (by omega)
      omega
    rcases h with h | ⟨_, h⟩
    · subst h; simp at hle; omega
    · have k1 : base * a * b' ≤ n * b * b' := Int.mul_le_mul_of_nonneg_right h (by omega)
      have k0 : n * b * b' = n * b' * b := by ac_rfl
      have k2 : base * (a' * b) ≤ base * (a * b') := Int.mul_le_mul_of_nonneg_left hle hb
      have k3 : base * a' * b ≤ n * b' * b := by
        rw [← k0, Int.mul_assoc]
        rw [Int.mul_assoc] at k1
        omega
      exact Int.le_of_mul_le_mul_right k3 (by omega)
/-- The nodes of a row of edges, by numbers. -/
def nk (E : List Edg) (s : Int) (l : List Int) (k : Nat) : Nat := (ndI E s l k).toNat
section
variable {NN : Nat} {E : List Edg} {F T : Nat → List Nat} {s : Int} {l : List Int}
theorem isB_right {N : Int} (h : isB N E s l = true) : rightF N E = 0 ∧ nodeB N s = true ∧ lkB E s l l.length = true ∧ edgesB N E l = true := by
  unfold isB at h
  simp only [Bool.and_eq_true] at h
  refine ⟨?_, h.2.1, h.2.2, h.1⟩
  have := h.1
  unfold edgesB at this
  simp only [Bool.and_eq_true, decide_eq_true_eq] at this
  exact this.1
theorem lkB_at (h : lkB E s l l.length = true) {k : Nat} (hk : k < l.length) : (ge E (gi l k).toNat).f = ndI E s l k := by
  have : lkB E s l (k + 1) = true := by
    cases hh : lkB E s l (k + 1) with
    | true => rfl
    | false =>
      have := lkB_mono hh (l.length - (k + 1))
      rw [show k + 1 + (l.length - (k + 1)) = l.length by omega, h] at this
      cases this
  simp only [lkB, Bool.and_eq_true, decide_eq_true_eq] at this
  exact this.2
theorem nk_in (his : isB (NN : Int) E s l = true) : ∀ k, k ≤ l.length → nk E s l k < NN ∧ ndI E s l k = (nk E s l k : Int)
  | 0, _ => by
    obtain ⟨_, h2, _⟩ := isB_right his
    unfold nodeB at h2
    simp at h2
    show s.toNat < NN ∧ s = (s.toNat : Int)
    omega
  | k + 1, hk => by
    obtain ⟨h1, _, _, h4⟩ := isB_right his
    have he := edges_in h4 (k := k) (by omega)
    have := ((right_in h1).2.2.2.1).t _ he.2
    rw [Int.toNat_natCast] at this
    exact this
theorem nk_hop (h : Mks NN E F T) (his : isB (NN : Int) E s l = true) {k : Nat} (hk : k < l.length) : gn (F (nk E s l k)) (nk E s l (k + 1)) < farV ∧ (gn (F (nk E s l k)) (nk E s l (k + 1)) : Int) ≤ wtK E l (k + 1) - wtK E l k := by
  obtain ⟨h1, _, h3, h4⟩ := isB_right his
  have he := edges_in h4 (k := k) hk
  obtain ⟨f1, f2, f3, f4⟩ := h.hop h1 he.2
  have e1 : fN E (gi l k).toNat = nk E s l k := by
    unfold fN nk
    rw [lkB_at h3 hk]
  have e2 : tN E (gi l k).toNat = nk E s l (k + 1) := rfl
  rw [e1, e2] at f3 f4
  refine ⟨f4, ?_⟩
  rw [wtK_succ]
  have hw := (right_in h1).2.2.2.2 _ he.2
  have e3 : gn (wtF (NN : Int) E []) (gi l k).toNat = (ge E (gi l k).toNat).w.toNat := by
    have : wtF (NN : Int) E [] = eW E := by
      unfold wtF
      rw [if_neg (by omega), if_neg (by simp), if_neg (by simp)]
    rw [this]
    simp [gn, eW, ge, he.2]
  rw [e3] at f3
  omega
/-- The ends of a part lie no farther apart than it weighs. -/
theorem part_le (h : Mks NN E F T) (his : isB (NN : Int) E s l = true) {i : Nat} : ∀ d, i + d ≤ l.length → gn (F (nk E s l i)) (nk E s l (i + d)) < farV ∧ (gn (F (nk E s l i)) (nk E s l (i + d)) : Int) ≤ wtK E l (i + d) - wtK E l i
  | 0, hd => by
    have hi := (nk_in his i (by omega)).1
    rw [Nat.add_zero, h.self hi]
    unfold farV
    omega
  | d + 1, hd => by
    obtain ⟨h1, _⟩ := isB_right his
    obtain ⟨h2, h3⟩ := part_le h his (i := i) d (by omega)
    obtain ⟨h4, h5⟩ := nk_hop h his (k := i + d) (show i + d < l.length by omega)
    have := h.tri h1 (nk_in his i (by omega)).1 (nk_in his (i + d) (by omega)).1 (nk_in his (i + (d + 1)) (by omega)).1 h2 h4
    rw [show i + (d + 1) = i + d + 1 by omega] at this ⊢
    omega
theorem part_le2 (h : Mks NN E F T) (his : isB (NN : Int) E s l = true) {i j : Nat} (hij : i ≤ j) (hj : j ≤ l.length) : gn (F (nk E s l i)) (nk E s l j) < farV ∧ (gn (F (nk E s l i)) (nk E s l j) : Int) ≤ wtK E l j - wtK E l i := by
  have := part_le h his (i := i) (j - i) (by omega)
  rwa [show i + (j - i) = j by omega] at this
/-- Is a part as short as any between its ends? -/
def exB (E : List Edg) (F : Nat → List Nat) (s : Int) (l : List Int) (i j : Nat) : Bool := decide ((gn (F (nk E s l i)) (nk E s l j) : Int) = wtK E l j - wtK E l i)
theorem ex_sub (h : Mks NN E F T) (his : isB (NN : Int) E s l = true) {i j i' j' : Nat} (h1 : i ≤ i') (h2 : i' ≤ j') (h3 : j' ≤ j) (h4 : j ≤ l.length) (hx : exB E F s l i j = true) : exB E F s l i' j' = true := by
  obtain ⟨hr, _⟩ := isB_right his
  unfold exB at *
  rw [decide_eq_true_eq] at *
  obtain ⟨a1, a2⟩ := part_le2 h his h1 (by omega)
  obtain ⟨b1, b2⟩ := part_le2 h his h2 (by omega)
  obtain ⟨c1, c2⟩ := part_le2 h his h3 h4
  have n1 := (nk_in his i (by omega)).1
  have n2 := (nk_in his i' (by omega)).1
  have n3 := (nk_in his j' (by omega)).1
  have n4 := (nk_in his j h4).1
  obtain ⟨t1, t2⟩ := h.tri hr n1 n2 n3 a1 b1
  have t3 := (h.tri hr n1 n3 n4 t2 c1).1
  omega
/-- Does a row pass at a place? -/
def tsB (N : Int) (E : List Edg) (F : Nat → List Nat) (s : Int) (l : List Int) (at_ a b base : Int) : Bool :=
  isB N E s l && (wgB at_ (l.length + 1) ((List.range (l.length + 1)).map (wtK E l)) a b && exB E F s l (winI at_ (l.length + 1) ((List.range (l.length + 1)).map (wtK E l)) a b base).toNat (winJ at_ (l.length + 1) ((List.range (l.length + 1)).map (wtK E l)) a b base).toNat)
theorem offs_at (E : List Edg) (l : List Int) {k : Nat} (hk : k ≤ l.length) : gi ((List.range (l.length + 1)).map (wtK E l)) k = wtK E l k := by
  simp [gi, show k < l.length + 1 by omega]
theorem offs_ok (his : isB (NN : Int) E s l = true) : offB ((List.range (l.length + 1)).map (wtK E l)) = true := by
  obtain ⟨h1, _, _, h4⟩ := isB_right his
  unfold offB
  rw [decide_eq_true_eq]
  intro i hi
  simp at hi
  split
  · rw [offs_at E l (by omega)]; rfl
  · obtain ⟨k, rfl⟩ : ∃ k, i = k + 1 := ⟨i - 1, by omega⟩
    rw [show k + 1 - 1 = k by omega, offs_at E l (by omega), offs_at E l (by omega), wtK_succ]
    have he := edges_in h4 (k := k) (by omega)
    have := (right_in h1).2.2.2.2 _ he.2
    omega
theorem win_in {at_ : Int} {n : Nat} {xs : List Int} {a b base : Int} (h : wgB at_ n xs a b = true) : (winI at_ n xs a b base).toNat ≤ at_.toNat ∧ at_.toNat ≤ (winJ at_ n xs a b base).toNat ∧ (winJ at_ n xs a b base).toNat < n ∧ 0 ≤ winI at_ n xs a b base ∧ 0 ≤ winJ at_ n xs a b base := by
  have hat : 0 ≤ at_ ∧ at_ < n := by
    unfold wgB at h
    simp only [Bool.and_eq_true, decide_eq_true_eq] at h
    exact h.1
  unfold winI winJ
  rw [if_pos h, if_pos h]
  have h1 := dn_le (wdn xs a b base at_.toNat) at_.toNat
  have h2 := up_le (wup xs a b base at_.toNat) (n - 1 - at_.toNat) at_.toNat
  omega
/-- A row that has no part that is not as short as any passes at each place. -/
theorem loc_all {at_ a b base : Int} (his : isB (NN : Int) E s l = true) (hat : 0 ≤ at_ ∧ at_ ≤ l.length) (hrr : rrB a b = true)
    (hall : ∀ i j, i ≤ j → j ≤ l.length → exB E F s l i j = true) : tsB (NN : Int) E F s l at_ a b base = true := by
  have hw : wgB at_ (l.length + 1) ((List.range (l.length + 1)).map (wtK E l)) a b = true := by
    unfold wgB
    rw [offs_ok his, hrr, decide_eq_true (by omega)]
    rfl
  obtain ⟨h1, h2, h3, _⟩ := win_in (base := base) hw
  unfold tsB
  rw [his, hw, hall _ _ (by omega) (by omega)]
  rfl
/-- Whoever passes with a ratio passes with a lesser one. -/
theorem loc_less {at_ a b a' b' base : Int} (h : Mks NN E F T) (hrr : rrB a b = true) (hrr' : rrB a' b' = true) (hb : 0 ≤ base) (hle : a' * b ≤ a * b')
    (ht : tsB (NN : Int) E F s l at_ a b base = true) : tsB (NN : Int) E F s l at_ a' b' base = true := by
  unfold tsB at ht
  simp only [Bool.and_eq_true] at ht
  obtain ⟨his, hw, hx⟩ := ht
  have hw' : wgB at_ (l.length + 1) ((List.range (l.length + 1)).map (wtK E l)) a' b' = true := by
    unfold wgB at hw ⊢
    simp only [Bool.and_eq_true] at hw ⊢
    exact ⟨hw.1, hw.2.1, hrr'⟩
  obtain ⟨h1, h2, h3, h4, h5⟩ := win_in (base := base) hw
  obtain ⟨k1, k2, k3, k4, k5⟩ := win_in (base := base) hw'
  have hI : (winI at_ (l.length + 1) ((List.range (l.length + 1)).map (wtK E l)) a b base).toNat ≤ (winI at_ (l.length + 1) ((List.range (l.length + 1)).map (wtK E l)) a' b' base).toNat := by
    unfold winI
    rw [if_pos hw, if_pos hw']
    have := dn_mono (R := wdn ((List.range (l.length + 1)).map (wtK E l)) a b base at_.toNat) (R' := wdn ((List.range (l.length + 1)).map (wtK E l)) a' b' base at_.toNat) (fun k hk => rc_less hb hrr hrr' hle hk) at_.toNat
    omega
  have hJ : (winJ at_ (l.length + 1) ((List.range (l.length + 1)).map (wtK E l)) a' b' base).toNat ≤ (winJ at_ (l.length + 1) ((List.range (l.length + 1)).map (wtK E l)) a b base).toNat := by
    unfold winJ
    rw [if_pos hw, if_pos hw']
    have := up_mono (R := wup ((List.range (l.length + 1)).map (wtK E l)) a b base at_.toNat) (R' := wup ((List.range (l.length + 1)).map (wtK E l)) a' b' base at_.toNat) (fun k hk => rc_less hb hrr hrr' hle hk) (l.length + 1 - 1 - at_.toNat) at_.toNat
    omega
  unfold tsB
  rw [his, hw', ex_sub h his hI (by omega) hJ (by omega) hx]
  rfl
end
end Go.Proofs.YtiljgkaffgclgaaGreat
