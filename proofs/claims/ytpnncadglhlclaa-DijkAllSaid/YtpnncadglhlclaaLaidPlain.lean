/- Plain law: edges laid by their nodes. -/
namespace Go.Proofs.Ytpnncadglhlclaa
/-- How many of the first j have node v. -/
def cntN (nd : Nat → Nat) (v j : Nat) : Nat := ((List.range j).filter fun i => nd i == v).length
/-- How many of m have a lesser node. -/
def begN (nd : Nat → Nat) (m v : Nat) : Nat := ((List.range m).filter fun i => decide (nd i < v)).length
/-- Those of node v, rising. -/
def rowN (nd : Nat → Nat) (m v : Nat) : List Nat := (List.range m).filter fun i => nd i == v
def posN (nd : Nat → Nat) (m i : Nat) : Nat := begN nd m (nd i) + cntN nd (nd i) i
theorem cntN_zero (nd : Nat → Nat) (v : Nat) : cntN nd v 0 = 0 := rfl
theorem cntN_succ (nd : Nat → Nat) (v j : Nat) : cntN nd v (j + 1) = cntN nd v j + if nd j = v then 1 else 0 := by
  unfold cntN
  rw [List.range_succ, List.filter_append, List.length_append]
  by_cases h : nd j = v <;> simp [h]
theorem cntN_mono (nd : Nat → Nat) (v : Nat) {i j : Nat} (h : i ≤ j) : cntN nd v i ≤ cntN nd v j := by
  induction j with
  | zero => rw [Nat.le_zero.1 h]; exact Nat.le_refl _
  | succ j ih =>
    rcases Nat.lt_or_ge i (j + 1) with h1 | h1
    · have := ih (by omega)
      rw [cntN_succ]; omega
    · rw [show i = j + 1 by omega]; exact Nat.le_refl _
theorem cntN_lt (nd : Nat → Nat) {i j : Nat} (h : i < j) : cntN nd (nd i) i < cntN nd (nd i) j := by
  have h1 := cntN_succ nd (nd i) i
  rw [if_pos rfl] at h1
  have h2 := cntN_mono nd (nd i) (show i + 1 ≤ j from h)
  omega
theorem begN_succ (nd : Nat → Nat) (m v : Nat) : begN nd m (v + 1) = begN nd m v + cntN nd v m := by
  unfold begN cntN
  induction m with
  | zero => rfl
  | succ m ih =>
    rw [List.range_succ, List.filter_append, List.filter_append, List.filter_append, List.length_append, List.length_append, List.length_append, ih]
    by_cases h : nd m = v
    · simp [h]; omega
    · by_cases h2 : nd m < v
      · have h3 : nd m < v + 1 := by omega
        simp [h, h2, h3]; omega
      · have h3 : ¬ nd m < v + 1 := by omega
        simp [h, h2, h3]
theorem begN_zero (nd : Nat → Nat) (m : Nat) : begN nd m 0 = 0 := by unfold begN; simp
theorem begN_le (nd : Nat → Nat) (m v : Nat) : begN nd m v ≤ m := by
  unfold begN
  exact Nat.le_trans (List.length_filter_le _ _) (by simp)
theorem begN_mono (nd : Nat → Nat) (m : Nat) {u v : Nat} (h : u ≤ v) : begN nd m u ≤ begN nd m v := by
  induction v with
  | zero => rw [Nat.le_zero.1 h]; exact Nat.le_refl _
  | succ v ih =>
    rcases Nat.lt_or_ge u (v + 1) with h1 | h1
    · have := ih (by omega)
      rw [begN_succ]; omega
    · rw [show u = v + 1 by omega]; exact Nat.le_refl _
theorem begN_all (nd : Nat → Nat) (m N : Nat) (h : ∀ i, i < m → nd i < N) : begN nd m N = m := by
  unfold begN
  rw [List.filter_eq_self.2 (fun i hi => by simpa using h i (List.mem_range.1 hi))]
  simp
theorem posN_lt (nd : Nat → Nat) (m i : Nat) (hi : i < m) : posN nd m i < begN nd m (nd i + 1) := by
  rw [begN_succ]
  have := cntN_lt nd hi
  unfold posN; omega
theorem posN_m (nd : Nat → Nat) (m i : Nat) (hi : i < m) : posN nd m i < m := Nat.lt_of_lt_of_le (posN_lt nd m i hi) (begN_le _ _ _)
theorem posN_ne (nd : Nat → Nat) (m : Nat) {i j : Nat} (h : i < j) (hj : j < m) : posN nd m i ≠ posN nd m j := by
  rcases Nat.lt_trichotomy (nd i) (nd j) with h1 | h1 | h1
  · have h2 := posN_lt nd m i (by omega)
    have h3 := begN_mono nd m (show nd i + 1 ≤ nd j from h1)
    have : begN nd m (nd j) ≤ posN nd m j := by unfold posN; omega
    omega
  · have := cntN_lt nd h
    unfold posN
    rw [h1] at this ⊢
    omega
  · have h2 := posN_lt nd m j hj
    have h3 := begN_mono nd m (show nd j + 1 ≤ nd i from h1)
    have : begN nd m (nd i) ≤ posN nd m i := by unfold posN; omega
    omega
theorem rowN_len (nd : Nat → Nat) (m v : Nat) : (rowN nd m v).length = cntN nd v m := rfl
/-- The k-th of node v has k of them ahead of it. -/
theorem rowN_at (nd : Nat → Nat) (v : Nat) : ∀ m k i, (rowN nd m v)[k]? = some i → i < m ∧ nd i = v ∧ cntN nd v i = k
  | 0, k, i, h => by simp [rowN] at h
  | m + 1, k, i, h => by
    have e : rowN nd (m + 1) v = rowN nd m v ++ (if nd m = v then [m] else []) := by
      unfold rowN
      rw [List.range_succ, List.filter_append]
      by_cases hv : nd m = v <;> simp [hv]
    rw [e] at h
    rcases Nat.lt_or_ge k (rowN nd m v).length with hk | hk
    · rw [List.getElem?_append_left hk] at h
      obtain ⟨h1, h2, h3⟩ := rowN_at nd v m k i h
      exact ⟨by omega, h2, h3⟩
    · rw [List.getElem?_append_right hk] at h
      by_cases hv : nd m = v
      · rw [if_pos hv] at h
        rcases Nat.eq_zero_or_pos (k - (rowN nd m v).length) with h0 | h0
        · rw [h0] at h
          simp at h
          subst h
          have := rowN_len nd m v
          exact ⟨by omega, hv, by omega⟩
        · rw [List.getElem?_eq_none (by simp; omega)] at h
          cases h
      · rw [if_neg hv] at h
        simp at h
theorem rowN_lt (nd : Nat → Nat) {m v k i : Nat} (h : (rowN nd m v)[k]? = some i) : i < m := (rowN_at nd v m k i h).1
/-- What is laid by node and by turn reads, from where v begins, as v's row. -/
theorem laid_row (nd : Nat → Nat) (m v : Nat) (xs : List Nat) (_ : xs.length = m) (h : ∀ i, i < m → xs[posN nd m i]? = some i) : (xs.drop (begN nd m v)).take (cntN nd v m) = rowN nd m v := by
  apply List.ext_getElem?
  intro k
  rcases Nat.lt_or_ge k (cntN nd v m) with hk | hk
  · rw [List.getElem?_take, if_pos hk, List.getElem?_drop]
    have hk' : k < (rowN nd m v).length := hk
    obtain ⟨i, hi⟩ : ∃ i, (rowN nd m v)[k]? = some i := ⟨_, List.getElem?_eq_getElem hk'⟩
    rw [hi]
    obtain ⟨h1, h2, h3⟩ := rowN_at nd v m k i hi
    have := h i h1
    unfold posN at this
    rw [h2, h3] at this
    exact this
  · rw [List.getElem?_eq_none (by rw [List.length_take]; omega), List.getElem?_eq_none (by rw [rowN_len]; exact hk)]
end Go.Proofs.Ytpnncadglhlclaa
