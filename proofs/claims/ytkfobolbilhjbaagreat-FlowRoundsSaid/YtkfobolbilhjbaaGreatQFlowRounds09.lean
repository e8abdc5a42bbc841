/- Plain law: the heap's items stay linked and in order, its top is the least of them; and what a search takes, node by node, is each node's least way, rising. -/
import Derived.Test.YtkfobolbilhjbaaGreatQFlowRounds03
import Derived.Test.YtkfobolbilhjbaaGreatQFlowRounds07
namespace Go.Proofs.YtkfobolbilhjbaaGreat
theorem ahead_yes {a b : Itm} : ahead a b = true ↔ a.2 < b.2 ∨ a.2 = b.2 ∧ a.1 < b.1 := by unfold ahead; simp
theorem ahead_no {a b : Itm} : ahead a b = false ↔ b.2 < a.2 ∨ b.2 = a.2 ∧ b.1 ≤ a.1 := by
  have h : ahead a b = false ↔ ¬ ahead a b = true := by cases ahead a b <;> simp
  rw [h, ahead_yes]
  omega
theorem ahead_irr (a : Itm) : ahead a a = false := ahead_no.2 (.inr ⟨rfl, Nat.le_refl _⟩)
theorem ahead_asym {a b : Itm} (h : ahead a b = true) : ahead b a = false := by
  rw [ahead_yes] at h
  rw [ahead_no]
  omega
theorem ahead_trans {a b c : Itm} (h : ahead a b = false) (h2 : ahead b c = false) : ahead a c = false := by
  rw [ahead_no] at *
  omega
theorem gz_set (T : List Int) (v u : Nat) (z : Int) (h : v < T.length) : gz (T.set v z) u = if u = v then z else gz T u := by
  unfold gz
  by_cases e : u = v
  · subst e; simp [h]
  · simp [e, Ne.symm e]
structure HS.Lk (s : HS) (N : Nat) : Prop where
  len : s.T.length = N
  at_ : ∀ i, i < s.L.length → (gi2 s.L i).1 < N ∧ gz s.T (gi2 s.L i).1 = (i : Int)
  no : ∀ v, v < N → gz s.T v = -1 ∨ ∃ i, i < s.L.length ∧ gz s.T v = (i : Int) ∧ (gi2 s.L i).1 = v
def HS.Mem (s : HS) (p : Itm) : Prop := ∃ i, i < s.L.length ∧ gi2 s.L i = p
def HS.Or (s : HS) : Prop := ∀ j, 0 < j → j < s.L.length → ahead (gi2 s.L j) (gi2 s.L ((j - 1) / 2)) = false
theorem HS.Lk.inj {s : HS} {N i j : Nat} (h : s.Lk N) (hi : i < s.L.length) (hj : j < s.L.length) (e : (gi2 s.L i).1 = (gi2 s.L j).1) : i = j := by
  have h1 := (h.at_ i hi).2
  have h2 := (h.at_ j hj).2
  rw [e] at h1
  omega
theorem HS.Lk.small {s : HS} {N : Nat} (h : s.Lk N) : s.L.length ≤ N := by
  have h1 : ((List.range s.L.length).map fun i => (gi2 s.L i).1).length ≤ (List.range N).length := by
    refine List.Nodup.length_le_of_subset ?_ ?_
    · unfold List.Nodup
      rw [List.pairwise_map]
      refine List.Pairwise.imp_of_mem ?_ (List.nodup_range (n := s.L.length))
      intro a b ha hb hab e
      exact hab (h.inj (List.mem_range.1 ha) (List.mem_range.1 hb) e)
    · intro v hv
      obtain ⟨i, hi, rfl⟩ := List.mem_map.1 hv
      exact List.mem_range.2 (h.at_ i (List.mem_range.1 hi)).1
  simpa using h1
theorem HS.Lk.isIn {s : HS} {N : Nat} (h : s.Lk N) : s.In N := ⟨h.len, fun i hi => (h.at_ i hi).1⟩
theorem HS.Lk.gone {s : HS} {N : Nat} (h : s.Lk N) {v k : Nat} (hv : gz s.T v = -1) : ¬ s.Mem (v, k) := by
  rintro ⟨i, hi, e⟩
  have := (h.at_ i hi).2
  rw [e] at this
  simp only at this
  omega
theorem HS.Or.least {s : HS} (h : s.Or) : ∀ j, j < s.L.length → ahead (gi2 s.L j) (gi2 s.L 0) = false := by
  intro j
  induction j using Nat.strongRecOn with
  | _ j ih =>
    intro hj
    rcases Nat.eq_zero_or_pos j with rfl | h0
    · exact ahead_irr _
    · exact ahead_trans (h j h0 hj) (ih ((j - 1) / 2) (by omega) (by omega))
theorem HS.lay_L (s : HS) (i j : Nat) (x : Itm) (hi : i < s.L.length) : gi2 (s.lay i x).L j = if j = i then x else gi2 s.L j := gi2_set _ _ _ _ hi
theorem HS.lay_T (s : HS) (i u : Nat) (x : Itm) (hx : x.1 < s.T.length) : gz (s.lay i x).T u = if u = x.1 then (i : Int) else gz s.T u := gz_set _ _ _ _ hx
theorem HS.swap_lk {s : HS} {N i j : Nat} {x : Itm} (h : (s.lay i x).Lk N) (hi : i < s.L.length) (hj : j < s.L.length) (hij : j ≠ i) :
    ((s.lay i (gi2 s.L j)).lay j x).Lk N ∧ ∀ p, ((s.lay i (gi2 s.L j)).lay j x).Mem p ↔ (s.lay i x).Mem p := by
  obtain ⟨y, hy⟩ : ∃ y, y = gi2 s.L j := ⟨_, rfl⟩
  rw [← hy]
  have ll : (s.lay i x).L.length = s.L.length := (HS.lay_len s i x).1
  have lT : s.T.length = N := by have := h.len; rw [(HS.lay_len s i x).2] at this; exact this
  have VL := fun k => HS.lay_L s i k x hi
  have hx := h.at_ i (by omega)
  rw [VL, if_pos rfl] at hx
  have VT := fun u => HS.lay_T s i u x (by omega)
  have hyj := h.at_ j (by omega)
  rw [VL, if_neg hij, ← hy] at hyj
  have hne : y.1 ≠ x.1 := fun e => by rw [e, hx.2] at hyj; omega
  have l1 : (s.lay i y).L.length = s.L.length := (HS.lay_len s i y).1
  have l2 : ((s.lay i y).lay j x).L.length = s.L.length := by rw [(HS.lay_len _ j x).1, l1]
  have lT1 : (s.lay i y).T.length = N := by rw [(HS.lay_len s i y).2]; exact lT
  have lT2 : ((s.lay i y).lay j x).T.length = N := by rw [(HS.lay_len _ j x).2]; exact lT1
  have WL : ∀ k, gi2 ((s.lay i y).lay j x).L k = if k = j then x else if k = i then y else gi2 s.L k := fun k => by
    rw [HS.lay_L _ _ _ _ (by omega), HS.lay_L _ _ _ _ hi]
  have WT : ∀ u, gz ((s.lay i y).lay j x).T u = if u = x.1 then (j : Int) else if u = y.1 then (i : Int) else gz s.T u := fun u => by
    rw [HS.lay_T _ _ _ _ (by omega), HS.lay_T _ _ _ _ (by omega)]
  have yT : gz s.T y.1 = (j : Int) := by have := hyj.2; rw [VT, if_neg hne] at this; exact this
  refine ⟨⟨lT2, fun k hk => ?_, fun v hv => ?_⟩, fun p => ⟨?_, ?_⟩⟩
  · rw [l2] at hk
    rw [WL]
    by_cases e1 : k = j
    · subst e1
      rw [if_pos rfl]
      refine ⟨hx.1, ?_⟩
      rw [WT, if_pos rfl]
    · rw [if_neg e1]
      by_cases e2 : k = i
      · subst e2
        rw [if_pos rfl]
        refine ⟨hyj.1, ?_⟩
        rw [WT, if_neg hne, if_pos rfl]
      · rw [if_neg e2]
        have hz := h.at_ k (by omega)
        rw [VL, if_neg e2] at hz
        refine ⟨hz.1, ?_⟩
        have h3 : (gi2 s.L k).1 ≠ x.1 := fun e => by have := hz.2; rw [e, hx.2] at this; omega
        have h4 := hz.2
        rw [VT, if_neg h3] at h4
        have h5 : (gi2 s.L k).1 ≠ y.1 := fun e => by rw [e, yT] at h4; omega
        rw [WT, if_neg h3, if_neg h5]
        exact h4
  · rw [WT]
    by_cases e1 : v = x.1
    · rw [if_pos e1]
      exact .inr ⟨j, by omega, rfl, by rw [WL, if_pos rfl]; exact e1.symm⟩
    · rw [if_neg e1]
      by_cases e2 : v = y.1
      · rw [if_pos e2]
        exact .inr ⟨i, by omega, rfl, by rw [WL, if_neg (Ne.symm hij), if_pos rfl]; exact e2.symm⟩
      · rw [if_neg e2]
        rcases h.no v hv with h1 | ⟨k, hk, h1, h2⟩
        · rw [VT, if_neg e1] at h1
          exact .inl h1
        · rw [VT, if_neg e1] at h1
          rw [VL] at h2
          have k1 : k ≠ i := fun e => by rw [if_pos e] at h2; exact e1 h2.symm
          rw [if_neg k1] at h2
          have k2 : k ≠ j := fun e => by rw [e, ← hy] at h2; exact e2 h2.symm
          refine .inr ⟨k, by omega, h1, ?_⟩
          rw [WL, if_neg k2, if_neg k1]
          exact h2
  · rintro ⟨k, hk, rfl⟩
    rw [WL]
    by_cases e1 : k = j
    · exact ⟨i, by omega, by rw [VL, if_pos rfl, if_pos e1]⟩
    · by_cases e2 : k = i
      · exact ⟨j, by omega, by rw [VL, if_neg hij, if_neg e1, if_pos e2, hy]⟩
      · exact ⟨k, by omega, by rw [VL, if_neg e1, if_neg e2, if_neg e2]⟩
  · rintro ⟨k, hk, rfl⟩
    rw [VL]
    by_cases e2 : k = i
    · exact ⟨j, by omega, by rw [WL, if_pos rfl, if_pos e2]⟩
    · by_cases e1 : k = j
      · exact ⟨i, by omega, by rw [WL, if_neg (Ne.symm hij), if_pos rfl, if_neg e2, e1, hy]⟩
      · exact ⟨k, by omega, by rw [WL, if_neg e1, if_neg e2, if_neg e2]⟩
theorem HS.rise_ok (N : Nat) (x : Itm) (i : Nat) : ∀ s : HS, i < s.L.length → (s.lay i x).Lk N →
    (∀ j, 0 < j → j < s.L.length → j ≠ i → ahead (gi2 (s.lay i x).L j) (gi2 (s.lay i x).L ((j - 1) / 2)) = false) →
    (0 < i → ∀ j, 0 < j → j < s.L.length → (j - 1) / 2 = i → ahead (gi2 (s.lay i x).L j) (gi2 (s.lay i x).L ((i - 1) / 2)) = false) →
    (s.rise i x).Lk N ∧ (s.rise i x).Or ∧ ∀ p, (s.rise i x).Mem p ↔ (s.lay i x).Mem p := by
  induction i using Nat.strongRecOn with
  | _ i ih =>
    intro s hi hl h1 h2
    have VL := fun k => HS.lay_L s i k x hi
    rw [HS.rise]
    split
    · rename_i hc
      obtain ⟨hc0, hc1⟩ := hc
      have hu : (i - 1) / 2 < s.L.length := by omega
      have hui : (i - 1) / 2 ≠ i := by omega
      have hul : (i - 1) / 2 < i := by omega
      obtain ⟨a1, a2⟩ := HS.swap_lk hl hi hu hui
      have l1 : (s.lay i (gi2 s.L ((i - 1) / 2))).L.length = s.L.length := (HS.lay_len _ _ _).1
      have WL : ∀ k, gi2 ((s.lay i (gi2 s.L ((i - 1) / 2))).lay ((i - 1) / 2) x).L k = if k = (i - 1) / 2 then x else if k = i then gi2 s.L ((i - 1) / 2) else gi2 s.L k := fun k => by
        rw [HS.lay_L _ _ _ _ (by omega), HS.lay_L _ _ _ _ hi]
      have hup : gi2 (s.lay i x).L ((i - 1) / 2) = gi2 s.L ((i - 1) / 2) := by rw [VL, if_neg hui]
      generalize hueq : (i - 1) / 2 = u at *
      have := ih u hul (s.lay i (gi2 s.L u)) (by omega) a1 ?_ ?_
      · exact ⟨this.1, this.2.1, fun p => (this.2.2 p).trans (a2 p)⟩
      · intro j h0 hj hju
        rw [l1] at hj
        rw [WL, WL, if_neg hju]
        by_cases e : j = i
        · rw [if_pos e, e, hueq, if_pos rfl]
          exact ahead_asym hc1
        · rw [if_neg e]
          have h3 := h1 j h0 hj e
          rw [VL, if_neg e, VL] at h3
          by_cases e1 : (j - 1) / 2 = u
          · rw [if_pos e1]
            rw [if_neg (by omega), e1] at h3
            exact ahead_trans h3 (ahead_asym hc1)
          · rw [if_neg e1]
            by_cases e2 : (j - 1) / 2 = i
            · rw [if_pos e2]
              have h4 := h2 hc0 j h0 hj e2
              rw [VL, if_neg e, hup] at h4
              exact h4
            · rw [if_neg e2] at h3 ⊢
              exact h3
      · intro hu0 j h0 hj hju
        rw [l1] at hj
        rw [WL, WL, if_neg (show j ≠ u by omega), if_neg (show (u - 1) / 2 ≠ u by omega), if_neg (show (u - 1) / 2 ≠ i by omega)]
        have h4 := h1 u hu0 (by omega) hui
        rw [hup, VL, if_neg (show (u - 1) / 2 ≠ i by omega)] at h4
        by_cases e : j = i
        · rw [if_pos e]
          exact h4
        · rw [if_neg e]
          have h3 := h1 j h0 hj e
          rw [VL, if_neg e, VL, hju, if_neg hui] at h3
          exact ahead_trans h3 h4
    · rename_i hc
      refine ⟨hl, fun j h0 hj => ?_, fun p => Iff.rfl⟩
      rw [(HS.lay_len _ _ _).1] at hj
      by_cases e : j = i
      · have h3 : ahead x (gi2 s.L ((i - 1) / 2)) = false := by
          cases hq : ahead x (gi2 s.L ((i - 1) / 2)) with
          | false => rfl
          | true => exact absurd ⟨by omega, hq⟩ hc
        rw [e, VL, VL, if_pos rfl, if_neg (by omega)]
        exact h3
      · exact h1 j h0 hj e
theorem HS.sink_ok (N : Nat) (x : Itm) (n : Nat) : ∀ (i : Nat) (s : HS), s.L.length - i = n → i < s.L.length → (s.lay i x).Lk N →
    (∀ j, 0 < j → j < s.L.length → (j - 1) / 2 ≠ i → ahead (gi2 (s.lay i x).L j) (gi2 (s.lay i x).L ((j - 1) / 2)) = false) →
    (0 < i → ∀ j, 0 < j → j < s.L.length → (j - 1) / 2 = i → ahead (gi2 (s.lay i x).L j) (gi2 (s.lay i x).L ((i - 1) / 2)) = false) →
    (s.sink i x).Lk N ∧ (s.sink i x).Or ∧ (∀ p, (s.sink i x).Mem p ↔ (s.lay i x).Mem p) ∧ (s.sink i x).L.length = s.L.length := by
  induction n using Nat.strongRecOn with
  | _ n ih =>
    intro i s hn hi hl h1 h2
    have VL := fun k => HS.lay_L s i k x hi
    have hlow : s.low i = 2 * i + 1 + 1 ∧ 2 * i + 1 + 1 < s.L.length ∧ ahead (gi2 s.L (2 * i + 1 + 1)) (gi2 s.L (2 * i + 1)) = true ∨ s.low i = 2 * i + 1 ∧ (2 * i + 1 + 1 < s.L.length → ahead (gi2 s.L (2 * i + 1 + 1)) (gi2 s.L (2 * i + 1)) = false) := by
      unfold HS.low
      split
      · rename_i h
        exact .inl ⟨rfl, h.1, h.2⟩
      · rename_i h
        refine .inr ⟨rfl, fun h3 => ?_⟩
        cases hq : ahead (gi2 s.L (2 * i + 1 + 1)) (gi2 s.L (2 * i + 1)) with
        | false => rfl
        | true => exact absurd ⟨h3, hq⟩ h
    -- whichever child is not the lesser one
    have hkid : ∀ j, 0 < j → j < s.L.length → (j - 1) / 2 = i → ahead (gi2 s.L j) (gi2 s.L (s.low i)) = false := by
      intro j h0 hj hji
      rcases (by omega : j = 2 * i + 1 ∨ j = 2 * i + 1 + 1) with rfl | rfl
      · rcases hlow with ⟨e, h3, h4⟩ | ⟨e, h3⟩
        · rw [e]; exact ahead_asym h4
        · rw [e]; exact ahead_irr _
      · rcases hlow with ⟨e, h3, h4⟩ | ⟨e, h3⟩
        · rw [e]; exact ahead_irr _
        · rw [e]; exact h3 hj
    have hpar : (s.low i - 1) / 2 = i := by rcases hlow with ⟨e, _⟩ | ⟨e, _⟩ <;> omega
    have hgt := HS.low_gt s i
    rw [HS.sink]
    split
    · rename_i hc
      obtain ⟨hc0, hc1⟩ := hc
      have hui : s.low i ≠ i := by omega
      obtain ⟨a1, a2⟩ := HS.swap_lk hl hi hc0 hui
      have l1 : (s.lay i (gi2 s.L (s.low i))).L.length = s.L.length := (HS.lay_len _ _ _).1
      have WL : ∀ k, gi2 ((s.lay i (gi2 s.L (s.low i))).lay (s.low i) x).L k = if k = s.low i then x else if k = i then gi2 s.L (s.low i) else gi2 s.L k := fun k => by
        rw [HS.lay_L _ _ _ _ (by omega), HS.lay_L _ _ _ _ hi]
      generalize s.low i = c at *
      have := ih (s.L.length - c) (by omega) c (s.lay i (gi2 s.L c)) (by omega) (by omega) a1 ?_ ?_
      · exact ⟨this.1, this.2.1, fun p => (this.2.2.1 p).trans (a2 p), this.2.2.2.trans l1⟩
      · intro j h0 hj hjc
        rw [l1] at hj
        rw [WL, WL, if_neg hjc]
        by_cases e : j = c
        · rw [if_pos e, e, hpar, if_pos rfl]
          exact ahead_asym hc1
        · rw [if_neg e]
          by_cases e1 : j = i
          · rw [if_pos e1, if_neg (show (j - 1) / 2 ≠ i by omega)]
            have h3 := h2 (by omega) c (by omega) hc0 hpar
            rw [VL, VL, if_neg hui, if_neg (by omega)] at h3
            rw [e1]
            exact h3
          · rw [if_neg e1]
            by_cases e2 : (j - 1) / 2 = i
            · rw [if_pos e2]
              exact hkid j h0 hj e2
            · rw [if_neg e2]
              have h3 := h1 j h0 hj e2
              rw [VL, VL, if_neg e1, if_neg e2] at h3
              exact h3
      · intro _ j h0 hj hjc
        rw [l1] at hj
        rw [WL, WL, hpar, if_neg (show j ≠ c by omega), if_neg (show j ≠ i by omega), if_neg (Ne.symm hui), if_pos rfl]
        have h3 := h1 j h0 hj (by omega)
        rw [VL, VL, hjc, if_neg (by omega), if_neg hui] at h3
        exact h3
    · rename_i hc
      refine ⟨hl, fun j h0 hj => ?_, fun p => Iff.rfl, (HS.lay_len _ _ _).1⟩
      rw [(HS.lay_len _ _ _).1] at hj
      by_cases e : (j - 1) / 2 = i
      · rw [VL, VL, if_neg (by omega), if_pos e]
        have hlt : s.low i < s.L.length := by
          rcases hlow with ⟨e, h3, h4⟩ | ⟨e, h3⟩ <;> omega
        have h3 : ahead (gi2 s.L (s.low i)) x = false := by
          cases hq : ahead (gi2 s.L (s.low i)) x with
          | false => rfl
          | true => exact absurd ⟨hlt, hq⟩ hc
        exact ahead_trans (hkid j h0 hj e) h3
      · exact h1 j h0 hj e
theorem HS.put_ok {s : HS} {N v f : Nat} (hl : s.Lk N) (ho : s.Or) (hv : v < N) (hf : ∀ k, s.Mem (v, k) → f < k) :
    (s.put v f).1.Lk N ∧ (s.put v f).1.Or ∧ ∀ p, (s.put v f).1.Mem p ↔ (s.Mem p ∧ p.1 ≠ v) ∨ p = (v, f) := by
  unfold HS.put
  rcases hl.no v hv with h | ⟨i, hi, h1, h2⟩
  · rw [if_pos h]
    obtain ⟨t, ht⟩ : ∃ t : HS, t = ⟨s.L ++ [(v, f)], s.T⟩ := ⟨_, rfl⟩
    rw [← ht]
    have tl : t.L.length = s.L.length + 1 := by rw [ht]; simp
    have tT : t.T = s.T := by rw [ht]
    have tL : ∀ k, k < s.L.length → gi2 t.L k = gi2 s.L k := fun k hk => by rw [ht]; simp [gi2, List.getD_eq_getElem?_getD, List.getElem?_append_left hk]
    clear ht
    have VL := fun k => HS.lay_L t s.L.length k (v, f) (by omega)
    have VT := fun u => HS.lay_T t s.L.length u (v, f) (by rw [tT, hl.len]; exact hv)
    rw [tT] at VT
    have VN : (t.lay s.L.length (v, f)).L.length = s.L.length + 1 := by rw [(HS.lay_len _ _ _).1, tl]
    have hlk : (t.lay s.L.length (v, f)).Lk N := by
      refine ⟨by rw [(HS.lay_len _ _ _).2, tT]; exact hl.len, fun k hk => ?_, fun u hu => ?_⟩
      · rw [VL]
        by_cases e : k = s.L.length
        · rw [if_pos e]
          exact ⟨hv, by rw [VT, if_pos rfl, e]⟩
        · rw [if_neg e, tL k (by omega)]
          have h3 := hl.at_ k (by omega)
          refine ⟨h3.1, ?_⟩
          rw [VT, if_neg (fun e => by rw [e, h] at h3; omega)]
          exact h3.2
      · rw [VT]
        by_cases e : u = v
        · rw [if_pos e]
          exact .inr ⟨s.L.length, by omega, rfl, by rw [VL, if_pos rfl]; exact e.symm⟩
        · rw [if_neg e]
          rcases hl.no u hu with h3 | ⟨i, hi, h3, h4⟩
          · exact .inl h3
          · exact .inr ⟨i, by omega, h3, by rw [VL, if_neg (by omega), tL i hi]; exact h4⟩
    obtain ⟨r1, r2, r3⟩ := HS.rise_ok N (v, f) s.L.length t (by omega) hlk (fun j h0 hj hj2 => by
      rw [VL, VL, if_neg hj2, if_neg (by omega), tL j (by omega), tL _ (by omega)]
      exact ho j h0 (by omega)) (fun h0 j h1 hj hj2 => by omega)
    refine ⟨r1, r2, fun p => (r3 p).trans ⟨?_, ?_⟩⟩
    · rintro ⟨k, hk, rfl⟩
      rw [VL]
      by_cases e : k = s.L.length
      · rw [if_pos e]; exact .inr rfl
      · rw [if_neg e, tL k (by omega)]
        refine .inl ⟨⟨k, by omega, rfl⟩, fun e2 => ?_⟩
        have := (hl.at_ k (by omega)).2
        rw [e2, h] at this
        omega
    · rintro (⟨⟨k, hk, rfl⟩, _⟩ | rfl)
      · exact ⟨k, by omega, by rw [VL, if_neg (by omega), tL k hk]⟩
      · exact ⟨s.L.length, by omega, by rw [VL, if_pos rfl]⟩
  · have hlt : f < (gi2 s.L i).2 := hf _ ⟨i, hi, by rw [← h2]⟩
    rw [if_neg (by omega), h1, Int.toNat_natCast, if_neg (by omega)]
    have VL := fun k => HS.lay_L s i k (v, f) hi
    have VT := fun u => HS.lay_T s i u (v, f) (by rw [hl.len]; exact hv)
    have VN : (s.lay i (v, f)).L.length = s.L.length := (HS.lay_len _ _ _).1
    have hlk : (s.lay i (v, f)).Lk N := by
      refine ⟨by rw [(HS.lay_len _ _ _).2]; exact hl.len, fun k hk => ?_, fun u hu => ?_⟩
      · rw [VL]
        by_cases e : k = i
        · rw [if_pos e]
          exact ⟨hv, by rw [VT, if_pos rfl, e]⟩
        · rw [if_neg e]
          have h3 := hl.at_ k (by omega)
          refine ⟨h3.1, ?_⟩
          rw [VT, if_neg (fun e2 => e (hl.inj (by omega) hi (by rw [h2]; exact e2)))]
          exact h3.2
      · rw [VT]
        by_cases e : u = v
        · rw [if_pos e]
          exact .inr ⟨i, by omega, rfl, by rw [VL, if_pos rfl]; exact e.symm⟩
        · rw [if_neg e]
          rcases hl.no u hu with h3 | ⟨k, hk, h3, h4⟩
          · exact .inl h3
          · refine .inr ⟨k, by omega, h3, ?_⟩
            rw [VL, if_neg (fun e2 => by rw [e2, h2] at h4; exact e h4.symm)]
            exact h4
    have hdown : ahead (gi2 s.L i) (v, f) = false := ahead_no.2 (.inl hlt)
    obtain ⟨r1, r2, r3⟩ := HS.rise_ok N (v, f) i s hi hlk (fun j h0 hj hj2 => by
      rw [VL, VL, if_neg hj2]
      have h3 := ho j h0 hj
      split
      · rename_i e
        rw [e] at h3
        exact ahead_trans h3 hdown
      · exact h3) (fun h0 j h3 hj hj2 => by
      rw [VL, VL, if_neg (by omega), if_neg (by omega)]
      have h4 := ho j h3 hj
      rw [hj2] at h4
      exact ahead_trans h4 (ho i h0 hi))
    refine ⟨r1, r2, fun p => (r3 p).trans ⟨?_, ?_⟩⟩
    · rintro ⟨k, hk, rfl⟩
      rw [VL]
      by_cases e : k = i
      · rw [if_pos e]; exact .inr rfl
      · rw [if_neg e]
        exact .inl ⟨⟨k, by omega, rfl⟩, fun e2 => e (hl.inj (by omega) hi (by rw [h2]; exact e2))⟩
    · rintro (⟨⟨k, hk, rfl⟩, e⟩ | rfl)
      · exact ⟨k, by omega, by rw [VL, if_neg (fun e2 => by rw [e2, h2] at e; exact e rfl)]⟩
      · exact ⟨i, by omega, by rw [VL, if_pos rfl]⟩
theorem HS.drop_ok {s : HS} {N v f : Nat} (hl : s.Lk N) (ho : s.Or) (h0 : 0 < s.L.length) (ht : gi2 s.L 0 = (v, f)) :
    (s.drop v).Lk N ∧ (s.drop v).Or ∧ (∀ p, (s.drop v).Mem p ↔ s.Mem p ∧ p.1 ≠ v) := by
  have ha := hl.at_ 0 h0
  rw [ht] at ha
  obtain ⟨hv, hz⟩ := ha
  simp only at hv hz
  have hz : gz s.T v = 0 := hz
  obtain ⟨t, ht2⟩ : ∃ t : HS, t = ⟨s.L.take (s.L.length - 1), s.T.set v (-1)⟩ := ⟨_, rfl⟩
  have tl : t.L.length = s.L.length - 1 := by rw [ht2]; simp
  have tL : ∀ k, k < s.L.length - 1 → gi2 t.L k = gi2 s.L k := fun k hk => by
    have hk2 : k < s.L.length := by omega
    rw [ht2]; simp [gi2, List.getD_eq_getElem?_getD, hk, hk2]
  have tT : ∀ u, gz t.T u = if u = v then -1 else gz s.T u := fun u => by rw [ht2]; exact gz_set _ _ _ _ (by rw [hl.len]; exact hv)
  have tn : t.T.length = N := by rw [ht2]; simp [hl.len]
  unfold HS.drop
  rw [hz]
  simp only [Int.toNat_zero, ← ht2]
  have hinj : ∀ k, k < s.L.length → (gi2 s.L k).1 = v → k = 0 := fun k hk e => hl.inj hk h0 (by rw [e, ht])
  by_cases hlast : 0 = s.L.length - 1
  · rw [if_pos hlast]
    have hne : ∀ k, k < s.L.length → k = 0 := fun k hk => by omega
    refine ⟨⟨tn, fun i hi => by omega, fun u hu => ?_⟩, fun j h1 hj => by omega, fun p => ⟨fun ⟨i, hi, _⟩ => by omega, fun ⟨⟨i, hi, e⟩, e2⟩ => ?_⟩⟩
    · rw [tT]
      by_cases e : u = v
      · rw [if_pos e]; exact .inl rfl
      · rw [if_neg e]
        rcases hl.no u hu with h | ⟨i, hi, _, h⟩
        · exact .inl h
        · rw [hne i hi, ht] at h
          exact absurd h.symm e
    · rw [hne i hi, ht] at e
      rw [← e] at e2
      exact absurd rfl e2
  · rw [if_neg hlast]
    obtain ⟨x, hx⟩ : ∃ x, x = gi2 s.L (s.L.length - 1) := ⟨_, rfl⟩
    rw [← hx]
    have hxa := hl.at_ (s.L.length - 1) (by omega)
    rw [← hx] at hxa
    have hxv : x.1 ≠ v := fun e => by rw [e, hz] at hxa; omega
    have VL := fun k => HS.lay_L t 0 k x (by omega)
    have VT := fun u => HS.lay_T t 0 u x (by rw [tn]; exact hxa.1)
    have VN : (t.lay 0 x).L.length = s.L.length - 1 := by rw [(HS.lay_len _ _ _).1, tl]
    have hlk : (t.lay 0 x).Lk N := by
      refine ⟨by rw [(HS.lay_len _ _ _).2]; exact tn, fun k hk => ?_, fun u hu => ?_⟩
      · rw [VL]
        by_cases e : k = 0
        · rw [if_pos e]
          exact ⟨hxa.1, by rw [VT, if_pos rfl, e]⟩
        · rw [if_neg e, tL k (by omega)]
          have h3 := hl.at_ k (by omega)
          refine ⟨h3.1, ?_⟩
          rw [VT, if_neg (fun e2 => by rw [e2, hxa.2] at h3; omega), tT, if_neg (fun e2 => e (hinj k (by omega) e2))]
          exact h3.2
      · rw [VT]
        by_cases e : u = x.1
        · rw [if_pos e]
          exact .inr ⟨0, by omega, rfl, by rw [VL, if_pos rfl]; exact e.symm⟩
        · rw [if_neg e, tT]
          by_cases e1 : u = v
          · rw [if_pos e1]; exact .inl rfl
          · rw [if_neg e1]
            rcases hl.no u hu with h3 | ⟨k, hk, h3, h4⟩
            · exact .inl h3
            · have k0 : k ≠ 0 := fun e2 => by rw [e2, ht] at h4; exact e1 h4.symm
              have k1 : k ≠ s.L.length - 1 := fun e2 => by rw [e2, ← hx] at h4; exact e h4.symm
              exact .inr ⟨k, by omega, h3, by rw [VL, if_neg k0, tL k (by omega)]; exact h4⟩
    have hmem : ∀ p, (t.lay 0 x).Mem p ↔ s.Mem p ∧ p.1 ≠ v := by
      intro p
      constructor
      · rintro ⟨k, hk, rfl⟩
        rw [VL]
        by_cases e : k = 0
        · rw [if_pos e]
          exact ⟨⟨s.L.length - 1, by omega, hx.symm⟩, hxv⟩
        · rw [if_neg e, tL k (by omega)]
          exact ⟨⟨k, by omega, rfl⟩, fun e2 => e (hinj k (by omega) e2)⟩
      · rintro ⟨⟨k, hk, rfl⟩, e⟩
        have k0 : k ≠ 0 := fun e2 => by rw [e2, ht] at e; exact e rfl
        by_cases e1 : k = s.L.length - 1
        · exact ⟨0, by omega, by rw [VL, if_pos rfl, e1, hx]⟩
        · exact ⟨k, by omega, by rw [VL, if_neg k0, tL k (by omega)]⟩
    obtain ⟨r1, r2, r3, r4⟩ := HS.sink_ok N x _ 0 t rfl (by omega) hlk (fun j h1 hj hj2 => by
      rw [VL, VL, if_neg (by omega), if_neg hj2, tL j (by omega), tL _ (by omega)]
      exact ho j h1 (by omega)) (fun h => by omega)
    have hsame : gz (t.sink 0 x).T x.1 = ((0 : Nat) : Int) → (t.sink 0 x).rise 0 x = t.sink 0 x := by
      intro e
      rw [HS.rise, dif_neg (by omega)]
      have hm : (t.sink 0 x).Mem x := (r3 x).2 ⟨0, by omega, by rw [VL, if_pos rfl]⟩
      obtain ⟨k, hk, hkx⟩ := hm
      have hk2 := (r1.at_ k hk).2
      rw [hkx, e] at hk2
      have hk0 : k = 0 := by omega
      rw [hk0] at hkx
      have h5 : (t.sink 0 x).L.set 0 x = (t.sink 0 x).L := by
        apply List.ext_getElem?
        intro m
        by_cases hm : m = 0
        · subst hm
          rw [List.getElem?_set_self (by omega)]
          have : 0 < (t.sink 0 x).L.length := by omega
          have h7 : gi2 (t.sink 0 x).L 0 = (t.sink 0 x).L[0] := by simp [gi2, List.getD_eq_getElem?_getD, List.getElem?_eq_getElem this]
          rw [List.getElem?_eq_getElem this, ← h7, hkx]
        · rw [List.getElem?_set_ne (by omega)]
      have h6 : (t.sink 0 x).T.set x.1 ((0 : Nat) : Int) = (t.sink 0 x).T := by
        have hlen : x.1 < (t.sink 0 x).T.length := by rw [r1.len]; exact hxa.1
        apply List.ext_getElem?
        intro m
        by_cases hm : m = x.1
        · subst hm
          have h7 : gz (t.sink 0 x).T x.1 = (t.sink 0 x).T[x.1] := by simp [gz, List.getD_eq_getElem?_getD, List.getElem?_eq_getElem hlen]
          rw [List.getElem?_set_self hlen, List.getElem?_eq_getElem hlen, ← h7, e]
        · rw [List.getElem?_set_ne (by omega)]
      unfold HS.lay
      rw [h5, h6]
    have hres : (if gz (t.sink 0 x).T x.1 = ((0 : Nat) : Int) then (t.sink 0 x).rise 0 x else t.sink 0 x) = t.sink 0 x := by
      split
      · rename_i e
        exact hsame e
      · rfl
    rw [hres]
    exact ⟨r1, r2, fun p => (r3 p).trans (hmem p)⟩
open Go Go.RowKit
def cntE (x : Srch) (i : Nat) : Bool := !x.ne i && !x.nn (toE x i)
inductive Way (x : Srch) (s : Nat) : Nat → Nat → Prop
  | here : Way x s s 0
  | step {f i : Nat} : Way x s (nN x.E x.back i) f → i < x.E.length → cntE x i = true → Way x s (toE x i) (f + gn x.W i)
theorem stD_set (L : List (Nat × Nat)) (v u g : Nat) (h : v < L.length) : stD (L.set v (g, 1)) u = if u = v then some g else stD L u := by
  unfold stD
  rw [gp_set _ _ _ _ h]
  by_cases e : u = v <;> simp [e]
structure DInv (x : Srch) (s mw : Nat) (pre : List (Nat × Nat)) (C : Nat → Prop) (st : St) : Prop where
  lk : st.2.Lk x.N
  ord : st.2.Or
  len : st.1.length = x.N
  start : stD st.1 s = some 0
  heap : ∀ v k, st.2.Mem (v, k) → v < x.N ∧ stD st.1 v = some k ∧ ∀ g, (v, g) ∉ pre
  seen : ∀ v k, v < x.N → stD st.1 v = some k → (v, k) ∈ pre ∨ st.2.Mem (v, k)
  popped : ∀ v f, (v, f) ∈ pre → v < x.N ∧ stD st.1 v = some f
  way : ∀ v k, v < x.N → stD st.1 v = some k → Way x s v k ∧ (0 < x.most → k ≤ x.most) ∧ k ≤ pre.length * mw
  done : ∀ i, i < x.E.length → C i → cntE x i = true → ∀ f, (nN x.E x.back i, f) ∈ pre → (0 < x.most → f + gn x.W i ≤ x.most) → ∃ k, stD st.1 (toE x i) = some k ∧ k ≤ f + gn x.W i
  asc : ∀ p q, p ∈ pre → st.2.Mem q → ahead p q = true
  sorted : pre.Pairwise fun a b => ahead a b = true
structure SrchIn (x : Srch) (mw : Nat) : Prop where
  ends : ∀ i, i < x.E.length → toE x i < x.N
  low : ∀ i, i < x.E.length → 1 ≤ gn x.W i
  high : ∀ i, i < x.E.length → gn x.W i ≤ mw
theorem DInv.edge {x : Srch} {s mw v f i : Nat} {pre : List (Nat × Nat)} {C : Nat → Prop} {st : St} (hx : SrchIn x mw) (h : DInv x s mw pre C st) (hv : (v, f) ∈ pre) (hlast : ∀ p, p ∈ pre → ahead (v, f) p = false)
    (hb : f + mw ≤ pre.length * mw) (hi : i < x.E.length) (hn : nN x.E x.back i = v) : DInv x s mw pre (fun j => C j ∨ j = i) (stepE x f st i) := by
  have hto := hx.ends i hi
  have hlo := hx.low i hi
  have hhi := hx.high i hi
  have hpv := h.popped v f hv
  have same : (cntE x i = true → (0 < x.most → f + gn x.W i ≤ x.most) → ∃ k, stD st.1 (toE x i) = some k ∧ k ≤ f + gn x.W i) → DInv x s mw pre (fun j => C j ∨ j = i) st := by
    intro hd
    refine { h with done := fun j hj hC hc f' hf' hm => ?_ }
    rcases hC with hC | rfl
    · exact h.done j hj hC hc f' hf' hm
    · rw [hn] at hf'
      have := (h.popped v f' hf').2
      rw [hpv.2] at this
      obtain rfl : f = f' := Option.some.inj this
      exact hd hc hm
  unfold stepE
  by_cases hc : cntE x i = true
  · have hc2 : (!x.ne i && !x.nn (toE x i)) = true := hc
    rw [if_pos hc2]
    unfold reachS
    by_cases hm : 0 < x.most ∧ x.most < f + gn x.W i
    · rw [if_pos hm]
      exact same (fun _ h2 => by have := h2 hm.1; omega)
    · rw [if_neg hm]
      cases hl : lessB (stD st.1 (toE x i)) (f + gn x.W i) with
      | false =>
        rw [if_neg Bool.false_ne_true]
        refine same (fun _ _ => ?_)
        cases hd : stD st.1 (toE x i) with
        | none => rw [hd] at hl; cases hl
        | some k =>
          rw [hd] at hl
          have : ¬ f + gn x.W i < k := by simpa [lessB] using hl
          exact ⟨k, rfl, by omega⟩
      | true =>
        rw [if_pos rfl]
        generalize hg : f + gn x.W i = g at *
        have hlt : ∀ k, stD st.1 (toE x i) = some k → g < k := fun k hk => by
          rw [hk] at hl
          simpa [lessB] using hl
        have hle : ∀ p, p ∈ pre → p.2 ≤ f := fun p hp => by
          have := ahead_no.1 (hlast p hp)
          simp only at this
          omega
        have hnp : ∀ k, (toE x i, k) ∉ pre := fun k hk => by
          have h1 := hlt k (h.popped _ _ hk).2
          have h2 := hle _ hk
          simp only at h2
          omega
        have hns : s ≠ toE x i := fun e => by
          have := hlt 0 (by rw [← e]; exact h.start)
          omega
        obtain ⟨p1, p2, p3⟩ := HS.put_ok (v := toE x i) (f := g) h.lk h.ord hto (fun k hk => hlt k (h.heap _ _ hk).2.1)
        have sD := fun u => stD_set st.1 (toE x i) u g (by rw [h.len]; exact hto)
        refine ⟨p1, p2, by simp [h.len], ?_, ?_, ?_, ?_, ?_, ?_, ?_, h.sorted⟩
        · show stD (st.1.set (toE x i) (g, 1)) s = _
          rw [sD, if_neg hns]
          exact h.start
        · intro u k hk
          rcases (p3 (u, k)).1 hk with ⟨h1, h2⟩ | h1
          · have h3 := h.heap u k h1
            refine ⟨h3.1, ?_, h3.2.2⟩
            show stD (st.1.set (toE x i) (g, 1)) u = _
            rw [sD, if_neg h2]
            exact h3.2.1
          · obtain ⟨rfl, rfl⟩ := Prod.mk.inj h1
            refine ⟨hto, ?_, hnp⟩
            show stD (st.1.set (toE x i) (k, 1)) (toE x i) = _
            rw [sD, if_pos rfl]
        · intro u k hu hk
          have hk : stD (st.1.set (toE x i) (g, 1)) u = some k := hk
          rw [sD] at hk
          by_cases e : u = toE x i
          · rw [if_pos e] at hk
            obtain rfl := Option.some.inj hk
            exact .inr ((p3 _).2 (.inr (by rw [e])))
          · rw [if_neg e] at hk
            rcases h.seen u k hu hk with h1 | h1
            · exact .inl h1
            · exact .inr ((p3 _).2 (.inl ⟨h1, e⟩))
        · intro u k hk
          have h1 := h.popped u k hk
          refine ⟨h1.1, ?_⟩
          show stD (st.1.set (toE x i) (g, 1)) u = _
          rw [sD, if_neg (fun e => hnp k (by rw [← e]; exact hk))]
          exact h1.2
        · intro u k hu hk
          have hk : stD (st.1.set (toE x i) (g, 1)) u = some k := hk
          rw [sD] at hk
          by_cases e : u = toE x i
          · rw [if_pos e] at hk
            obtain rfl := Option.some.inj hk
            have h1 := h.way v f hpv.1 hpv.2
            refine ⟨?_, fun h2 => by omega, by omega⟩
            rw [e, ← hg]
            exact Way.step (by rw [hn]; exact h1.1) hi hc
          · rw [if_neg e] at hk
            exact h.way u k hu hk
        · intro j hj hC hcj f' hf' hmj
          show ∃ k, stD (st.1.set (toE x i) (g, 1)) (toE x j) = some k ∧ _
          rw [sD]
          rcases hC with hC | rfl
          · obtain ⟨k, h1, h2⟩ := h.done j hj hC hcj f' hf' hmj
            by_cases e : toE x j = toE x i
            · rw [if_pos e]
              rw [e] at h1
              exact ⟨g, rfl, by have := hlt k h1; omega⟩
            · rw [if_neg e]
              exact ⟨k, h1, h2⟩
          · rw [hn] at hf'
            have := (h.popped v f' hf').2
            rw [hpv.2] at this
            obtain rfl : f = f' := Option.some.inj this
            rw [if_pos rfl]
            exact ⟨g, rfl, by omega⟩
        · intro p q hp hq
          rcases (p3 q).1 hq with ⟨h1, h2⟩ | rfl
          · exact h.asc p q hp h1
          · have := hle p hp
            exact ahead_yes.2 (.inl (by show p.2 < g; omega))
  · have hc2 : ¬ (!x.ne i && !x.nn (toE x i)) = true := hc
    rw [if_neg hc2]
    exact same (fun h1 => absurd h1 hc)
theorem DInv.mono {x : Srch} {s mw : Nat} {pre : List (Nat × Nat)} {C C' : Nat → Prop} {st : St} (h : DInv x s mw pre C st) (hC : ∀ i, i < x.E.length → C' i → C i) : DInv x s mw pre C' st :=
  { h with done := fun i hi hc => h.done i hi (hC i hi hc) }
theorem DInv.edges {x : Srch} {s mw v f : Nat} {pre : List (Nat × Nat)} (hx : SrchIn x mw) (hv : (v, f) ∈ pre) (hlast : ∀ p, p ∈ pre → ahead (v, f) p = false) (hb : f + mw ≤ pre.length * mw) (l : List Nat) :
    ∀ (C : Nat → Prop) (st : St), DInv x s mw pre C st → (∀ i, i ∈ l → i < x.E.length ∧ nN x.E x.back i = v) → DInv x s mw pre (fun j => C j ∨ j ∈ l) (stepK x f st l) := by
  induction l with
  | nil => exact fun C st h _ => h.mono (fun i _ hi => by rcases hi with hi | hi; exact hi; cases hi)
  | cons i l ih =>
    intro C st h hl
    have h1 := h.edge hx hv hlast hb (hl i (by simp)).1 (hl i (by simp)).2
    exact (ih _ _ h1 (fun j hj => hl j (by simp [hj]))).mono (fun j _ hj => by
      rcases hj with hj | hj
      · exact .inl (.inl hj)
      · rcases List.mem_cons.1 hj with hj | hj
        · exact .inl (.inr hj)
        · exact .inr hj)
theorem DInv.pre_len {x : Srch} {s mw : Nat} {pre : List (Nat × Nat)} {C : Nat → Prop} {st : St} (h : DInv x s mw pre C st) : (pre.map Prod.fst).Nodup ∧ pre.length ≤ x.N := by
  have h0 : (pre.map Prod.fst).Nodup := by
    unfold List.Nodup
    rw [List.pairwise_map]
    refine List.Pairwise.imp_of_mem ?_ h.sorted
    intro a b ha hb hab e
    obtain ⟨a1, a2⟩ := a
    obtain ⟨b1, b2⟩ := b
    simp only at e
    subst e
    have h1 := (h.popped _ _ ha).2
    rw [(h.popped _ _ hb).2] at h1
    obtain rfl := Option.some.inj h1
    rw [ahead_irr] at hab
    cases hab
  refine ⟨h0, ?_⟩
  have h1 : (pre.map Prod.fst).length ≤ (List.range x.N).length := by
    refine List.Nodup.length_le_of_subset h0 ?_
    intro v hv
    obtain ⟨⟨u, f⟩, hp, rfl⟩ := List.mem_map.1 hv
    exact List.mem_range.2 (h.popped _ _ hp).1
  simpa using h1
theorem DInv.take {x : Srch} {s mw v f : Nat} {pre : List (Nat × Nat)} {C : Nat → Prop} {st : St} (h : DInv x s mw pre C st) (hC : ∀ i, i < x.E.length → C i → ∃ g, (nN x.E x.back i, g) ∈ pre) (h0 : 0 < st.2.L.length) (ht : gi2 st.2.L 0 = (v, f)) :
    DInv x s mw (pre ++ [(v, f)]) C (st.1, st.2.drop v) ∧ (∀ p, p ∈ pre ++ [(v, f)] → ahead (v, f) p = false) ∧ f ≤ pre.length * mw ∧ v < x.N := by
  obtain ⟨d1, d2, d3⟩ := HS.drop_ok h.lk h.ord h0 ht
  have hm : st.2.Mem (v, f) := ⟨0, h0, ht⟩
  have hvf := h.heap v f hm
  have hw := h.way v f hvf.1 hvf.2.1
  have hlast : ∀ p, p ∈ pre ++ [(v, f)] → ahead (v, f) p = false := by
    intro p hp
    rcases List.mem_append.1 hp with hp | hp
    · exact ahead_asym (h.asc p (v, f) hp hm)
    · rw [List.mem_singleton.1 hp]; exact ahead_irr _
  have hmul : (pre ++ [(v, f)]).length * mw = pre.length * mw + mw := by rw [List.length_append, List.length_singleton, Nat.add_mul, Nat.one_mul]
  refine ⟨⟨d1, d2, h.len, h.start, ?_, ?_, ?_, ?_, ?_, ?_, ?_⟩, hlast, hw.2.2, hvf.1⟩
  · intro u k hk
    obtain ⟨h1, h2⟩ := (d3 _).1 hk
    have h3 := h.heap u k h1
    refine ⟨h3.1, h3.2.1, fun g hg => ?_⟩
    rcases List.mem_append.1 hg with hg | hg
    · exact h3.2.2 g hg
    · exact h2 (Prod.mk.inj (List.mem_singleton.1 hg)).1
  · intro u k hu hk
    rcases h.seen u k hu hk with h1 | h1
    · exact .inl (List.mem_append.2 (.inl h1))
    · by_cases e : u = v
      · subst e
        have h2 : stD st.1 u = some k := hk
        rw [hvf.2.1] at h2
        obtain rfl := Option.some.inj h2
        exact .inl (by simp)
      · exact .inr ((d3 _).2 ⟨h1, e⟩)
  · intro u k hk
    rcases List.mem_append.1 hk with hk | hk
    · exact h.popped u k hk
    · obtain ⟨rfl, rfl⟩ := Prod.mk.inj (List.mem_singleton.1 hk)
      exact ⟨hvf.1, hvf.2.1⟩
  · intro u k hu hk
    have h1 := h.way u k hu hk
    exact ⟨h1.1, h1.2.1, by rw [hmul]; omega⟩
  · intro i hi hc hcn f' hf' hm'
    refine h.done i hi hc hcn f' ?_ hm'
    rcases List.mem_append.1 hf' with hk | hk
    · exact hk
    · obtain ⟨g, hg⟩ := hC i hi hc
      rw [(Prod.mk.inj (List.mem_singleton.1 hk)).1] at hg
      exact absurd hg (hvf.2.2 g)
  · intro p q hp hq
    obtain ⟨h1, h2⟩ := (d3 _).1 hq
    rcases List.mem_append.1 hp with hp | hp
    · exact h.asc p q hp h1
    · rw [List.mem_singleton.1 hp]
      obtain ⟨i, hi, rfl⟩ := h1
      have h3 := h.ord.least i hi
      rw [ht] at h3
      have h4 := ahead_no.1 h3
      refine ahead_yes.2 ?_
      simp only at h4 h2 ⊢
      omega
  · rw [List.pairwise_append]
    refine ⟨h.sorted, by simp, fun a ha b hb => ?_⟩
    rw [List.mem_singleton.1 hb]
    exact h.asc a _ ha hm
structure Far (x : Srch) (s mw : Nat) (tr : List (Nat × Nat)) : Prop where
  sorted : tr.Pairwise fun a b => ahead a b = true
  nodup : (tr.map Prod.fst).Nodup
  way : ∀ v f, (v, f) ∈ tr → v < x.N ∧ Way x s v f ∧ (0 < x.most → f ≤ x.most) ∧ f ≤ x.N * mw
  all : ∀ v f, Way x s v f → (0 < x.most → f ≤ x.most) → ∃ g, (v, g) ∈ tr ∧ g ≤ f
theorem DInv.end_ {x : Srch} {s mw : Nat} {pre : List (Nat × Nat)} {st : St} (hx : SrchIn x mw) (h : DInv x s mw pre (fun i => ∃ g, (nN x.E x.back i, g) ∈ pre) st) (h0 : st.2.L.length = 0) (hs : s < x.N) : Far x s mw pre := by
  have hno : ∀ p, ¬ st.2.Mem p := fun p ⟨i, hi, _⟩ => by omega
  obtain ⟨n1, n2⟩ := h.pre_len
  refine ⟨h.sorted, n1, fun v f hv => ?_, fun v f hw => ?_⟩
  · have h1 := h.popped v f hv
    have h2 := h.way v f h1.1 h1.2
    exact ⟨h1.1, h2.1, h2.2.1, Nat.le_trans h2.2.2 (Nat.mul_le_mul_right _ n2)⟩
  · induction hw with
    | here =>
      intro _
      rcases h.seen s 0 hs h.start with h1 | h1
      · exact ⟨0, h1, Nat.le_refl _⟩
      · exact absurd h1 (hno _)
    | @step f i hw hi hc ih =>
      intro hm
      obtain ⟨g, hg, hgf⟩ := ih (fun h1 => by have := hm h1; omega)
      obtain ⟨k, hk, hk2⟩ := h.done i hi ⟨g, hg⟩ hc g hg (fun h1 => by have := hm h1; omega)
      rcases h.seen _ k (hx.ends i hi) hk with h1 | h1
      · exact ⟨k, h1, by omega⟩
      · exact absurd h1 (hno _)
theorem Lk.hok {s : HS} {N : Nat} (h : s.Lk N) (hN : N ≤ 65536) : HOk s N := by
  refine ⟨fun v hv => ?_, by have := h.small; omega⟩
  rcases h.no v hv with h1 | ⟨i, hi, h1, _⟩
  · exact .inl h1
  · exact .inr (by omega)
theorem rowX_mem {x : Srch} {v i : Nat} : i ∈ rowX x v ↔ i < x.E.length ∧ nN x.E x.back i = v := by
  unfold rowX rowN
  simp [List.mem_filter]
theorem trace_is {x : Srch} {s mw : Nat} (hx : SrchIn x mw) (hN : x.N ≤ 65536) (hs : s < x.N) (hmw : mw ≤ 281474976710656 / 2) (n : Nat) :
    ∀ (pre : List (Nat × Nat)) (st : St), x.N - pre.length = n → DInv x s mw pre (fun i => ∃ g, (nN x.E x.back i, g) ∈ pre) st → ∃ xs, Trace x st xs ∧ Far x s mw (pre ++ xs) := by
  induction n with
  | zero =>
    intro pre st hn h
    rcases Nat.eq_zero_or_pos st.2.L.length with h0 | h0
    · exact ⟨[], .done h0, by rw [List.append_nil]; exact h.end_ hx h0 hs⟩
    · obtain ⟨⟨v, f⟩, ht⟩ : ∃ p, gi2 st.2.L 0 = p := ⟨_, rfl⟩
      have h1 := (h.take (fun i _ hc => hc) h0 ht).1.pre_len.2
      rw [List.length_append, List.length_singleton] at h1
      omega
  | succ n ih =>
    intro pre st hn h
    rcases Nat.eq_zero_or_pos st.2.L.length with h0 | h0
    · exact ⟨[], .done h0, by rw [List.append_nil]; exact h.end_ hx h0 hs⟩
    · obtain ⟨⟨v, f⟩, ht⟩ : ∃ p, gi2 st.2.L 0 = p := ⟨_, rfl⟩
      obtain ⟨t1, t2, t3, t4⟩ := h.take (fun i _ hc => hc) h0 ht
      have hmul : (pre ++ [(v, f)]).length * mw = pre.length * mw + mw := by rw [List.length_append, List.length_singleton, Nat.add_mul, Nat.one_mul]
      have hb : f + mw ≤ (pre ++ [(v, f)]).length * mw := by omega
      have hpl := h.pre_len.2
      have hrow : ∀ l, (∀ i, i ∈ l → i ∈ rowX x v) → DInv x s mw (pre ++ [(v, f)]) (fun j => (∃ g, (nN x.E x.back j, g) ∈ pre) ∨ j ∈ l) (stepK x f (st.1, st.2.drop v) l) := fun l hl =>
        t1.edges hx (by simp) t2 hb l (fun j => ∃ g, (nN x.E x.back j, g) ∈ pre) _ (fun i hi => rowX_mem.1 (hl i hi))
      have hfin := (hrow (rowX x v) (fun i hi => hi)).mono (C' := fun i => ∃ g, (nN x.E x.back i, g) ∈ pre ++ [(v, f)]) (fun i hi hc => by
        obtain ⟨g, hg⟩ := hc
        rcases List.mem_append.1 hg with hg | hg
        · exact .inl ⟨g, hg⟩
        · exact .inr (rowX_mem.2 ⟨hi, (Prod.mk.inj (List.mem_singleton.1 hg)).1⟩))
      obtain ⟨xs, hx1, hx2⟩ := ih (pre ++ [(v, f)]) _ (by rw [List.length_append, List.length_singleton]; omega) hfin
      refine ⟨(v, f) :: xs, .step ⟨ht, h0, ?_, ?_, ?_, ?_⟩ hx1, by simpa using hx2⟩
      · have := (h.lk.at_ 0 h0).2
        rw [ht] at this
        exact ⟨0, this, h0⟩
      · have := h.lk.small; omega
      · intro l r hr
        exact Lk.hok (hrow l (fun i hi => by rw [hr]; simp [hi])).lk hN
      · intro i hi
        have h1 := hx.high i hi
        have h2 : pre.length * mw ≤ 65536 * (281474976710656 / 2) := Nat.mul_le_mul (by omega) hmw
        omega
def st0 (N : Nat) : St := (List.replicate N (0, 0), ⟨[], List.replicate N (-1)⟩)
theorem st0_lk (N : Nat) : (st0 N).2.Lk N := ⟨by simp [st0], fun i hi => by simp [st0] at hi, fun v hv => .inl (by simp [st0, gz, List.getD_eq_getElem?_getD, hv])⟩
theorem st0_D (N v : Nat) : stD (st0 N).1 v = none := by
  unfold stD gp st0
  by_cases h : v < N <;> simp [List.getD_eq_getElem?_getD, h]
theorem trace_begins {x : Srch} {s mw : Nat} (hs : s < x.N) : DInv x s mw [] (fun i => ∃ g, (nN x.E x.back i, g) ∈ ([] : List (Nat × Nat))) (reachS x.most (st0 x.N) s 0) := by
  have hno : ∀ p, ¬ (st0 x.N).2.Mem p := fun p ⟨i, hi, _⟩ => by simp [st0] at hi
  have hor : (st0 x.N).2.Or := fun j _ hj => by simp [st0] at hj
  obtain ⟨p1, p2, p3⟩ := HS.put_ok (v := s) (f := 0) (st0_lk x.N) hor hs (fun k hk => absurd hk (hno _))
  have e : reachS x.most (st0 x.N) s 0 = ((st0 x.N).1.set s (0, 1), ((st0 x.N).2.put s 0).1) := by
    unfold reachS
    rw [if_neg (by omega), st0_D]
    rfl
  have sD := fun u => stD_set (st0 x.N).1 s u 0 (by simp [st0]; exact hs)
  rw [e]
  refine ⟨p1, p2, by simp [st0], ?_, ?_, ?_, ?_, ?_, ?_, ?_, List.Pairwise.nil⟩
  · show stD ((st0 x.N).1.set s (0, 1)) s = _
    rw [sD, if_pos rfl]
  · intro v k hk
    rcases (p3 _).1 hk with ⟨h1, _⟩ | h1
    · exact absurd h1 (hno _)
    · obtain ⟨rfl, rfl⟩ := Prod.mk.inj h1
      refine ⟨hs, ?_, fun g hg => by cases hg⟩
      show stD ((st0 x.N).1.set v (0, 1)) v = _
      rw [sD, if_pos rfl]
  · intro v k hv hk
    have hk : stD ((st0 x.N).1.set s (0, 1)) v = some k := hk
    rw [sD, st0_D] at hk
    by_cases e : v = s
    · rw [if_pos e] at hk
      obtain rfl := Option.some.inj hk
      exact .inr ((p3 _).2 (.inr (by rw [e])))
    · rw [if_neg e] at hk
      cases hk
  · intro v f hv; cases hv
  · intro v k hv hk
    have hk : stD ((st0 x.N).1.set s (0, 1)) v = some k := hk
    rw [sD, st0_D] at hk
    by_cases e : v = s
    · rw [if_pos e] at hk
      obtain rfl := Option.some.inj hk
      rw [e]
      exact ⟨.here, fun _ => Nat.zero_le _, Nat.zero_le _⟩
    · rw [if_neg e] at hk
      cases hk
  · rintro i _ ⟨g, hg⟩; cases hg
  · intro p q hp; cases hp
theorem trace_whole {x : Srch} {s mw : Nat} (hx : SrchIn x mw) (hN : x.N ≤ 65536) (hs : s < x.N) (hmw : mw ≤ 281474976710656 / 2) : ∃ xs, Trace x (reachS x.most (st0 x.N) s 0) xs ∧ Far x s mw xs :=
  trace_is hx hN hs hmw _ [] _ rfl (trace_begins hs)
end Go.Proofs.YtkfobolbilhjbaaGreat

