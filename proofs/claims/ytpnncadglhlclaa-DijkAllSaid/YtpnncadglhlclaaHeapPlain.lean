/- Plain law: items, each ahead of both below it; where each number is. -/
namespace Go.Proofs.Ytpnncadglhlclaa
abbrev Itm := Nat × Nat
def gi2 (L : List Itm) (i : Nat) : Itm := L.getD i (0, 0)
def gz (T : List Int) (v : Nat) : Int := T.getD v 0
/-- Does one come ahead of another one? -/
def ahead (a b : Itm) : Bool := decide (a.2 < b.2 ∨ a.2 = b.2 ∧ a.1 < b.1)
/-- Items, and where each number is. -/
structure HS where
  L : List Itm
  T : List Int
def HS.lay (s : HS) (i : Nat) (x : Itm) : HS := ⟨s.L.set i x, s.T.set x.1 (i : Int)⟩
theorem HS.lay_len (s : HS) (i : Nat) (x : Itm) : (s.lay i x).L.length = s.L.length ∧ (s.lay i x).T.length = s.T.length := by simp [HS.lay]
/-- From a place up, to where it belongs. -/
def HS.rise (s : HS) (i : Nat) (x : Itm) : HS :=
  if _h : 0 < i ∧ ahead x (gi2 s.L ((i - 1) / 2)) = true then HS.rise (s.lay i (gi2 s.L ((i - 1) / 2))) ((i - 1) / 2) x else s.lay i x
termination_by i
decreasing_by omega
/-- The lesser one of both below. -/
def HS.low (s : HS) (i : Nat) : Nat := if 2 * i + 1 + 1 < s.L.length ∧ ahead (gi2 s.L (2 * i + 1 + 1)) (gi2 s.L (2 * i + 1)) = true then 2 * i + 1 + 1 else 2 * i + 1
theorem HS.low_gt (s : HS) (i : Nat) : i < s.low i := by unfold HS.low; split <;> omega
def HS.sink (s : HS) (i : Nat) (x : Itm) : HS :=
  if _h : s.low i < s.L.length ∧ ahead (gi2 s.L (s.low i)) x = true then HS.sink (s.lay i (gi2 s.L (s.low i))) (s.low i) x else s.lay i x
termination_by s.L.length - i
decreasing_by
  have := HS.low_gt s i
  have := (HS.lay_len s i (gi2 s.L (s.low i))).1
  omega
/-- Behind 'put'; was it put? -/
def HS.put (s : HS) (v key : Nat) : HS × Bool :=
  if gz s.T v = -1 then (HS.rise ⟨s.L ++ [(v, key)], s.T⟩ s.L.length (v, key), true)
  else if (gi2 s.L (gz s.T v).toNat).2 ≤ key then (s, false) else (s.rise (gz s.T v).toNat (v, key), true)
/-- Behind 'drop' of what is there. -/
def HS.drop (s : HS) (v : Nat) : HS :=
  let i := (gz s.T v).toNat
  let last := s.L.length - 1
  let x := gi2 s.L last
  let s1 : HS := ⟨s.L.take last, s.T.set v (-1)⟩
  if i = last then s1 else
    let s2 := s1.sink i x
    if gz s2.T x.1 = (i : Int) then s2.rise i x else s2
/-- The numbers that items bear are less than N; so many places. -/
def HS.In (s : HS) (N : Nat) : Prop := s.T.length = N ∧ ∀ i, i < s.L.length → (gi2 s.L i).1 < N
theorem gi2_set (L : List Itm) (i j : Nat) (x : Itm) (hi : i < L.length) : gi2 (L.set i x) j = if j = i then x else gi2 L j := by
  unfold gi2
  by_cases h : j = i
  · subst h; simp [hi]
  · simp [h, Ne.symm h]
theorem HS.In.lay {s : HS} {N : Nat} (h : s.In N) (i : Nat) (x : Itm) (hx : x.1 < N) : (s.lay i x).In N := by
  refine ⟨by rw [(HS.lay_len s i x).2]; exact h.1, fun j hj => ?_⟩
  rw [(HS.lay_len s i x).1] at hj
  unfold HS.lay
  by_cases hi : i < s.L.length
  · rw [gi2_set _ _ _ _ hi]
    split
    · exact hx
    · exact h.2 j hj
  · have : s.L.set i x = s.L := List.set_eq_of_length_le (by omega)
    simp only [this]
    exact h.2 j hj
theorem HS.rise_len (s : HS) (i : Nat) (x : Itm) : (s.rise i x).L.length = s.L.length ∧ (s.rise i x).T.length = s.T.length := by
  induction i using Nat.strongRecOn generalizing s with
  | _ i ih =>
    rw [HS.rise]
    split
    · rename_i h
      have h1 := ih ((i - 1) / 2) (by omega) (s.lay i (gi2 s.L ((i - 1) / 2)))
      have h2 := HS.lay_len s i (gi2 s.L ((i - 1) / 2))
      omega
    · exact HS.lay_len s i x
theorem HS.rise_in {s : HS} {N : Nat} (h : s.In N) (i : Nat) (x : Itm) (hx : x.1 < N) (hi : i < s.L.length) : (s.rise i x).In N := by
  induction i using Nat.strongRecOn generalizing s with
  | _ i ih =>
    rw [HS.rise]
    split
    · rename_i hc
      exact ih ((i - 1) / 2) (by omega) (h.lay i _ (h.2 _ (by omega))) (by rw [(HS.lay_len _ _ _).1]; omega)
    · exact h.lay i x hx
end Go.Proofs.Ytpnncadglhlclaa
