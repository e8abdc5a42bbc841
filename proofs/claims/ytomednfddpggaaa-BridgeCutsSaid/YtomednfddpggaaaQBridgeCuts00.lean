/- Contracts: the document's answer on bridges: a graph without an edge. -/
import Derived.Test.YtomednfddpggaaaQBridgeFarther05
import Derived.Test.YtomednfddpggaaaQBridgeFarther02
import Derived.Test.YtomednfddpggaaaQBridgeFarther24
import Derived.Test.YtomednfddpggaaaQBridgeFarther15
import Derived.Test.YtomednfddpggaaaQBridgeFarther08
/- Plain law: who hangs together by which edges. -/
namespace Go.Proofs.Ytomednfddpggaaa
open Go Go.RowKit
theorem GG {w w' : World} (h : Grows w w' := by repeat (first | exact Grows.refl _ | refine Grows.now ?_ _ | refine Grows.new ?_ _ | refine Grows.drewN ?_ _ | refine Grows.drew ?_ | assumption | (refine Grows.set ?_ (by first | omega | (simp; done) | (simp; omega)) _))) : Grows w w' := h
def Inc (E : List Edg) (i x y : Nat) : Prop := i < E.length ∧ ((fN E i = x ∧ tN E i = y) ∨ (tN E i = x ∧ fN E i = y))
theorem Inc.symm {E : List Edg} {i x y : Nat} (h : Inc E i x y) : Inc E i y x := ⟨h.1, h.2.elim (fun k => .inr ⟨k.2, k.1⟩) (fun k => .inl ⟨k.2, k.1⟩)⟩
theorem Inc.two {E : List Edg} {i x y z w : Nat} (h : Inc E i x y) (k : Inc E i z w) : (z = x ∧ w = y) ∨ (z = y ∧ w = x) := by
  obtain ⟨_, h⟩ := h
  obtain ⟨_, k⟩ := k
  omega
theorem Inc.ends {E : List Edg} {i : Nat} (hi : i < E.length) : Inc E i (fN E i) (tN E i) := ⟨hi, .inl ⟨rfl, rfl⟩⟩
inductive Con (E : List Edg) (P : Nat → Prop) (x : Nat) : Nat → Prop
  | here : Con E P x x
  | step {y z i : Nat} : Con E P x y → Inc E i y z → P i → Con E P x z
theorem Con.trans {E : List Edg} {P : Nat → Prop} {x y z : Nat} (h : Con E P x y) (k : Con E P y z) : Con E P x z := by
  induction k with
  | here => exact h
  | step _ hi hp ih => exact ih.step hi hp
theorem Con.one {E : List Edg} {P : Nat → Prop} {x y i : Nat} (h : Inc E i x y) (hp : P i) : Con E P x y := Con.here.step h hp
theorem Con.symm {E : List Edg} {P : Nat → Prop} {x y : Nat} (h : Con E P x y) : Con E P y x := by
  induction h with
  | here => exact .here
  | step _ hi hp ih => exact (Con.one hi.symm hp).trans ih
theorem Con.mono {E : List Edg} {P Q : Nat → Prop} {x y : Nat} (h : Con E P x y) (hq : ∀ i, i < E.length → P i → Q i) : Con E Q x y := by
  induction h with
  | here => exact .here
  | step _ hi hp ih => exact ih.step hi (hq _ hi.1 hp)
theorem Con.stay {E : List Edg} {P : Nat → Prop} {S : Nat → Prop} {x y : Nat} (h : Con E P x y) (hx : S x) (hS : ∀ i a b, S a → Inc E i a b → P i → S b) : S y := by
  induction h with
  | here => exact hx
  | step _ hi hp ih => exact hS _ _ _ ih hi hp
def Brg (E : List Edg) (i : Nat) : Prop := ¬ Con E (fun j => j ≠ i) (fN E i) (tN E i)
theorem Brg.not {E : List Edg} {i x y : Nat} (hi : Inc E i x y) (h : Con E (fun j => j ≠ i) x y) : ¬ Brg E i := fun k => by
  rcases hi.2 with ⟨rfl, rfl⟩ | ⟨rfl, rfl⟩
  · exact k h
  · exact k h.symm
theorem Brg.of {E : List Edg} {i x y : Nat} (hi : Inc E i x y) (h : ¬ Con E (fun j => j ≠ i) x y) : Brg E i := fun k => by
  rcases hi.2 with ⟨rfl, rfl⟩ | ⟨rfl, rfl⟩
  · exact h k
  · exact h k.symm
abbrev All1 : Nat → Prop := fun _ => True
end Go.Proofs.Ytomednfddpggaaa

/- The first ones of each kind in a row of numbers (plain). -/
namespace Go.Proofs.Ytomednfddpggaaa
open Go Go.RowKit
theorem len_le_of_sub : ∀ (a b : List Int), a.Nodup → (∀ x ∈ a, x ∈ b) → a.length ≤ b.length
  | [], _, _, _ => Nat.zero_le _
  | x :: a, b, hn, hs => by
    rw [List.nodup_cons] at hn
    have hx : x ∈ b := hs x (by simp)
    have h1 := len_le_of_sub a (b.erase x) hn.2 (fun y hy => by
      have hne : y ≠ x := fun e => hn.1 (e ▸ hy)
      exact (List.mem_erase_of_ne hne).2 (hs y (by simp [hy])))
    have h2 := List.length_erase_of_mem hx
    have h3 : 0 < b.length := List.length_pos_of_mem hx
    simp only [List.length_cons]
    omega
theorem len_eq_of_mem {a b : List Int} (ha : a.Nodup) (hb : b.Nodup) (h : ∀ x, x ∈ a ↔ x ∈ b) : a.length = b.length :=
  Nat.le_antisymm (len_le_of_sub a b ha fun x hx => (h x).1 hx) (len_le_of_sub b a hb fun x hx => (h x).2 hx)
def fsts (l : List Int) : Nat → List Int
  | 0 => []
  | k + 1 => if gi l k ∈ l.take k then fsts l k else fsts l k ++ [gi l k]
theorem take_mem1 {l : List Int} {k : Nat} (hk : k < l.length) (x : Int) : x ∈ l.take (k + 1) ↔ x ∈ l.take k ∨ x = gi l k := by
  have e : gi l k = l[k] := by simp [gi, hk]
  rw [List.take_succ_eq_append_getElem hk, e, List.mem_append, List.mem_singleton]
theorem fsts_is (l : List Int) : ∀ k, k ≤ l.length → (fsts l k).Nodup ∧ ∀ x, x ∈ fsts l k ↔ x ∈ l.take k
  | 0, _ => by simp [fsts]
  | k + 1, hk => by
    obtain ⟨h1, h2⟩ := fsts_is l k (by omega)
    have h3 := take_mem1 (l := l) (k := k) (by omega)
    unfold fsts
    split
    · rename_i h
      refine ⟨h1, fun x => ?_⟩
      rw [h2, h3]
      exact ⟨.inl, fun e => e.elim id (fun e => e ▸ h)⟩
    · rename_i h
      refine ⟨?_, fun x => ?_⟩
      · rw [List.nodup_append]
        refine ⟨h1, by simp, fun a ha b hb e => ?_⟩
        simp only [List.mem_singleton] at hb
        subst hb e
        exact h ((h2 _).1 ha)
      · rw [List.mem_append, h2, h3, List.mem_singleton]
end Go.Proofs.Ytomednfddpggaaa

/- Plain law: who hangs together, round by round; how many parts there are, and without which edges there are more. -/
namespace Go.Proofs.Ytomednfddpggaaa
open Go Go.RowKit
def wk1 (E : List Edg) (l : List Int) (i : Nat) : List Int := (l.set (fN E i) (min (gi l (fN E i)) (gi l (tN E i)))).set (tN E i) (min (gi l (fN E i)) (gi l (tN E i)))
def wkK (E : List Edg) (l : List Int) : Nat → List Int
  | 0 => l
  | k + 1 => wk1 E (wkK E l k) k
def idL (N : Nat) : List Int := (List.range N).map fun (v : Nat) => (v : Int)
def wkN (N : Nat) (E : List Edg) : Nat → List Int
  | 0 => idL N
  | k + 1 => wkK E (wkN N E k) E.length
def weakL (N : Nat) (E : List Edg) : List Int := wkN N E N
theorem idL_len (N : Nat) : (idL N).length = N := by simp [idL]
theorem idL_at {N v : Nat} (h : v < N) : gi (idL N) v = v := by simp [gi, idL, h]
theorem wk1_len (E : List Edg) (l : List Int) (i : Nat) : (wk1 E l i).length = l.length := by simp [wk1]
theorem wkK_len (E : List Edg) (l : List Int) : ∀ k, (wkK E l k).length = l.length
  | 0 => rfl
  | k + 1 => by unfold wkK; rw [wk1_len, wkK_len E l k]
theorem wkN_len (N : Nat) (E : List Edg) : ∀ k, (wkN N E k).length = N
  | 0 => idL_len N
  | k + 1 => by unfold wkN; rw [wkK_len, wkN_len N E k]
theorem weakL_len (N : Nat) (E : List Edg) : (weakL N E).length = N := wkN_len N E N
section
variable {N : Nat} {E : List Edg}
theorem wk1_at (hE : InN N E) {l : List Int} (hl : l.length = N) {i : Nat} (hi : i < E.length) (v : Nat) : gi (wk1 E l i) v = if v = fN E i ∨ v = tN E i then min (gi l (fN E i)) (gi l (tN E i)) else gi l v := by
  have h1 := (hE.f i hi).1
  have h2 := (hE.t i hi).1
  unfold wk1
  rw [gi_set2 _ _ _ _ (by rw [List.length_set, hl]; exact h2), gi_set2 _ _ _ _ (by rw [hl]; exact h1)]
  by_cases e : v = tN E i
  · rw [if_pos e, if_pos (.inr e)]
  · rw [if_neg e]
    by_cases e2 : v = fN E i
    · rw [if_pos e2, if_pos (.inl e2)]
    · rw [if_neg e2, if_neg (by omega)]
theorem wk1_le (hE : InN N E) {l : List Int} (hl : l.length = N) {i : Nat} (hi : i < E.length) (v : Nat) : gi (wk1 E l i) v ≤ gi l v := by
  rw [wk1_at hE hl hi]
  split
  · rename_i h; rcases h with h | h <;> subst h <;> omega
  · omega
theorem wkK_le (hE : InN N E) {l : List Int} (hl : l.length = N) (v : Nat) (k : Nat) (hk : k ≤ E.length) : ∀ j, j ≤ k → gi (wkK E l k) v ≤ gi (wkK E l j) v := by
  induction k with
  | zero => intro j hj; obtain rfl : j = 0 := by omega
            exact Int.le_refl _
  | succ k ih =>
    intro j hj
    by_cases e : j = k + 1
    · rw [e]; exact Int.le_refl _
    · have h1 := ih (by omega) j (by omega)
      have h2 := wk1_le hE (show (wkK E l k).length = N by rw [wkK_len]; exact hl) (show k < E.length by omega) v
      show gi (wk1 E (wkK E l k) k) v ≤ _
      exact Int.le_trans h2 h1
structure WkI (N : Nat) (E : List Edg) (l : List Int) : Prop where
  len : l.length = N
  at_ : ∀ v, v < N → ∃ x : Nat, gi l v = (x : Int) ∧ x ≤ v ∧ Con E All1 x v
theorem WkI.begin_ : WkI N E (idL N) := ⟨idL_len N, fun v hv => ⟨v, idL_at hv, Nat.le_refl _, .here⟩⟩
theorem WkI.step (hE : InN N E) {l : List Int} (h : WkI N E l) {i : Nat} (hi : i < E.length) : WkI N E (wk1 E l i) := by
  refine ⟨by rw [wk1_len, h.len], fun v hv => ?_⟩
  have h1 := (hE.f i hi).1
  have h2 := (hE.t i hi).1
  rw [wk1_at hE h.len hi]
  split
  · rename_i hv2
    obtain ⟨a, a1, a2, a3⟩ := h.at_ _ h1
    obtain ⟨b, b1, b2, b3⟩ := h.at_ _ h2
    have hft : Con E All1 (fN E i) (tN E i) := Con.one (Inc.ends hi) trivial
    obtain ⟨c, c1, c2, c3⟩ := h.at_ v hv
    have ca : Con E All1 a v := by
      rcases hv2 with e | e <;> subst e
      · exact a3
      · exact a3.trans hft
    have cb : Con E All1 b v := by
      rcases hv2 with e | e <;> subst e
      · exact b3.trans hft.symm
      · exact b3
    rw [a1, b1]
    have hle : min a b ≤ v := by rcases hv2 with e | e <;> subst e <;> omega
    rcases Nat.le_total a b with hab | hab
    · exact ⟨a, by omega, by omega, ca⟩
    · exact ⟨b, by omega, by omega, cb⟩
  · exact h.at_ v hv
theorem WkI.steps (hE : InN N E) {l : List Int} (h : WkI N E l) : ∀ k, k ≤ E.length → WkI N E (wkK E l k)
  | 0, _ => h
  | k + 1, hk => (WkI.steps hE h k (by omega)).step hE (by omega)
theorem WkI.rounds (hE : InN N E) : ∀ k, WkI N E (wkN N E k)
  | 0 => WkI.begin_
  | k + 1 => (WkI.rounds hE k).steps hE _ (Nat.le_refl _)
theorem Con.lt (hE : InN N E) {P : Nat → Prop} {x y : Nat} (h : Con E P x y) (hx : x < N) : y < N := by
  cases h with
  | here => exact hx
  | step _ hi _ =>
    have h1 := (hE.f _ hi.1).1
    have h2 := (hE.t _ hi.1).1
    rcases hi.2 with ⟨_, e⟩ | ⟨_, e⟩ <;> omega
def Lst (E : List Edg) (u : Nat) : Prop := ∀ x, Con E All1 u x → u ≤ x
theorem lst_any (E : List Edg) : ∀ v, ∃ u, Lst E u ∧ Con E All1 u v := fun v => by
  induction v using Nat.strongRecOn with
  | _ v ih =>
    by_cases h : Lst E v
    · exact ⟨v, h, .here⟩
    · have ⟨x, hx⟩ := Classical.not_forall.1 h
      have ⟨h1, h2⟩ := Classical.not_imp.1 hx
      obtain ⟨u, h3, h4⟩ := ih x (by omega)
      exact ⟨u, h3, h4.trans h1.symm⟩
theorem WkI.ge {l : List Int} (h : WkI N E l) {u v : Nat} (hu : Lst E u) (hc : Con E All1 u v) (hv : v < N) : (u : Int) ≤ gi l v := by
  obtain ⟨x, e, _, hx⟩ := h.at_ v hv
  have := hu x (hc.trans hx.symm)
  omega
def isU (l : List Int) (u : Nat) : List Bool := l.map fun x => decide (x = (u : Int))
theorem isU_at {l : List Int} {u v : Nat} (hv : v < l.length) : bb (isU l u) v = true ↔ gi l v = (u : Int) := by simp [bb, isU, gi, hv]
theorem isU_no {l : List Int} {u v : Nat} (hv : ¬ v < l.length) : bb (isU l u) v = false := bb_ge (by simp [isU]; omega)
theorem weak_rounds (hE : InN N E) {u : Nat} (hu : Lst E u) (hN : u < N) : ∀ k, (∀ v, Con E All1 u v → gi (wkN N E k) v = (u : Int)) ∨ k + 1 ≤ (isU (wkN N E k) u).count true
  | 0 => by
    right
    refine List.count_pos_iff.2 ?_
    have h1 : bb (isU (wkN N E 0) u) u = true := (isU_at (by rw [wkN_len]; exact hN)).2 (idL_at hN)
    have hl : u < (isU (wkN N E 0) u).length := by simp [isU, wkN_len, hN]
    have : (isU (wkN N E 0) u)[u] = true := by simpa [bb, hl] using h1
    rw [← this]; exact List.getElem_mem _
  | k + 1 => by
    have hl := wkN_len N E k
    have hl2 := wkN_len N E (k + 1)
    have hw := WkI.rounds hE k
    have hw2 := WkI.rounds hE (k + 1)
    have hmono : ∀ v, gi (wkN N E (k + 1)) v ≤ gi (wkN N E k) v := fun v => wkK_le hE hl v E.length (Nat.le_refl _) 0 (Nat.zero_le _)
    have hkeep : ∀ v, v < N → gi (wkN N E k) v = (u : Int) → gi (wkN N E (k + 1)) v = (u : Int) := fun v hv e => by
      have h1 := hmono v
      obtain ⟨x, e1, e2, e3⟩ := hw.at_ v hv
      have : x = u := by omega
      subst this
      have h2 := hw2.ge hu e3 hv
      omega
    by_cases hall : ∀ v, Con E All1 u v → gi (wkN N E k) v = (u : Int)
    · left
      exact fun v hc => hkeep v (hc.lt hE hN) (hall v hc)
    · right
      have h1 := (weak_rounds hE hu hN k).resolve_left hall
      have hu0 : gi (wkN N E k) u = (u : Int) := by
        obtain ⟨x, e1, e2, e3⟩ := hw.at_ u hN
        have := hu x e3.symm
        omega
      -- somewhere an edge leads out of those who have the number
      have hex : ∃ i x y, Inc E i x y ∧ gi (wkN N E k) x = (u : Int) ∧ gi (wkN N E k) y ≠ (u : Int) := Classical.byContradiction fun hno => by
        refine hall fun v hc => ?_
        refine hc.stay (S := fun v => gi (wkN N E k) v = (u : Int)) hu0 fun i a b ha hi _ => ?_
        exact Classical.byContradiction fun hb => hno ⟨i, a, b, hi, ha, hb⟩
      obtain ⟨i, x, y, hi, hx, hy⟩ := hex
      have hxN : x < N := by
        have h1 := (hE.f _ hi.1).1
        have h2 := (hE.t _ hi.1).1
        rcases hi.2 with ⟨e, _⟩ | ⟨e, _⟩ <;> omega
      have hyN : y < N := (Con.one (P := All1) hi trivial).lt hE hxN
      have hcx : Con E All1 u x := by
        obtain ⟨z, e1, e2, e3⟩ := hw.at_ x hxN
        have : z = u := by omega
        subst this
        exact e3
      have hcy : Con E All1 u y := hcx.trans (Con.one hi trivial)
      have hnew : gi (wkN N E (k + 1)) y = (u : Int) := by
        have g1 : gi (wkK E (wkN N E k) i) x ≤ gi (wkN N E k) x := wkK_le hE hl x i (by have := hi.1; omega) 0 (Nat.zero_le _)
        have g2 : gi (wkN N E (k + 1)) y ≤ gi (wkK E (wkN N E k) (i + 1)) y := wkK_le hE hl y E.length (Nat.le_refl _) (i + 1) hi.1
        have g3 : gi (wkK E (wkN N E k) (i + 1)) y ≤ gi (wkK E (wkN N E k) i) x := by
          show gi (wk1 E (wkK E (wkN N E k) i) i) y ≤ _
          rw [wk1_at hE (by rw [wkK_len, hl]) hi.1]
          rcases hi.2 with ⟨e1, e2⟩ | ⟨e1, e2⟩
          · rw [if_pos (.inr e2.symm), e1]; omega
          · rw [if_pos (.inl e2.symm), e1]; omega
        have g4 := hw2.ge hu hcy hyN
        omega
      have hm := cnt_mono (isU (wkN N E k) u) (isU (wkN N E (k + 1)) u) (by simp [isU, hl, hl2]) (fun v hv => by
        by_cases hvN : v < N
        · exact (isU_at (by rw [hl2]; exact hvN)).2 (hkeep v hvN ((isU_at (by rw [hl]; exact hvN)).1 hv))
        · rw [isU_no (by rw [hl]; exact hvN)] at hv; cases hv)
      have := hm.2 ⟨y, by
        cases hb : bb (isU (wkN N E k) u) y with
        | false => rfl
        | true => exact absurd ((isU_at (by rw [hl]; exact hyN)).1 hb) hy, (isU_at (by rw [hl2]; exact hyN)).2 hnew⟩
      omega
theorem weak_least (hE : InN N E) {u v : Nat} (hu : Lst E u) (hN : u < N) (hc : Con E All1 u v) : gi (weakL N E) v = (u : Int) := by
  rcases weak_rounds hE hu hN N with h | h
  · exact h v hc
  · have := List.count_le_length (a := true) (l := isU (wkN N E N) u)
    have hl : (isU (wkN N E N) u).length = N := by simp [isU, wkN_len]
    omega
theorem weak_is (hE : InN N E) {u v : Nat} (hu : u < N) (hv : v < N) : gi (weakL N E) u = gi (weakL N E) v ↔ Con E All1 u v := by
  constructor
  · intro h
    obtain ⟨x, e1, _, e3⟩ := (WkI.rounds hE N).at_ u hu
    obtain ⟨y, f1, _, f3⟩ := (WkI.rounds hE N).at_ v hv
    have h' : gi (wkN N E N) u = gi (wkN N E N) v := h
    have : x = y := by omega
    subst this
    exact e3.symm.trans f3
  · intro h
    obtain ⟨z, h1, h2⟩ := lst_any E u
    have hz : z < N := h2.symm.lt hE hu
    rw [weak_least hE h1 hz h2, weak_least hE h1 hz (h2.trans h)]
end
theorem con_erase {E : List Edg} {e x y : Nat} (he : e < E.length) : Con (E.eraseIdx e) All1 x y ↔ Con E (fun j => j ≠ e) x y := by
  have hl : (E.eraseIdx e).length = E.length - 1 := List.length_eraseIdx_of_lt he
  have key : ∀ j, j < (E.eraseIdx e).length → fN (E.eraseIdx e) j = fN E (if j < e then j else j + 1) ∧ tN (E.eraseIdx e) j = tN E (if j < e then j else j + 1) := fun j hj => by
    have := ge_erase he hj
    constructor
    · show (ge _ _).f.toNat = (ge _ _).f.toNat; rw [this]
    · show (ge _ _).t.toNat = (ge _ _).t.toNat; rw [this]
  constructor
  · intro h
    induction h with
    | here => exact .here
    | @step y z i h hi _ ih =>
      obtain ⟨k1, k2⟩ := key i hi.1
      refine ih.step (i := if i < e then i else i + 1) ⟨by have := hi.1; split <;> omega, ?_⟩ (by split <;> omega)
      rw [← k1, ← k2]
      exact hi.2
  · intro h
    induction h with
    | here => exact .here
    | @step y z i h hi hp ih =>
      obtain ⟨j, hj, hji⟩ : ∃ j, j < (E.eraseIdx e).length ∧ (if j < e then j else j + 1) = i := by
        have := hi.1
        by_cases h : i < e
        · exact ⟨i, by omega, if_pos h⟩
        · exact ⟨i - 1, by omega, by rw [if_neg (by omega)]; omega⟩
      obtain ⟨k1, k2⟩ := key j hj
      rw [hji] at k1 k2
      refine ih.step (i := j) ⟨hj, ?_⟩ trivial
      rw [k1, k2]
      exact hi.2
theorem inN_erase {N : Nat} {E : List Edg} (h : InN N E) (e : Nat) (he : e < E.length) : InN N (E.eraseIdx e) := fun i hi => by
  rw [ge_erase he hi]
  have hl : (E.eraseIdx e).length = E.length - 1 := List.length_eraseIdx_of_lt he
  exact h _ (by split <;> omega)
theorem fsts_le {N : Nat} {a b : List Int} (ha : a.length = N) (hb : b.length = N) (h : ∀ u v, u < N → v < N → gi b u = gi b v → gi a u = gi a v) {L : List Int} (hL : ∀ x, x ∈ fsts a a.length → ∃ v, v < N ∧ gi a v = x ∧ gi b v ∈ L) :
    (fsts a a.length).length ≤ L.length := by
  let g : Int → Int := fun z => if h : ∃ v, v < N ∧ gi b v = z then gi a h.choose else 0
  have h1 : ∀ x ∈ fsts a a.length, x ∈ L.map g := fun x hx => by
    obtain ⟨v, hv, e, hm⟩ := hL x hx
    rw [List.mem_map]
    refine ⟨_, hm, ?_⟩
    have hex : ∃ w, w < N ∧ gi b w = gi b v := ⟨v, hv, rfl⟩
    show (if h : ∃ w, w < N ∧ gi b w = gi b v then gi a h.choose else 0) = x
    rw [dif_pos hex]
    obtain ⟨c1, c2⟩ := hex.choose_spec
    rw [h _ _ c1 hv c2, e]
  have := len_le_of_sub _ _ (fsts_is a a.length (Nat.le_refl _)).1 h1
  rwa [List.length_map] at this
theorem fsts_mem {a : List Int} {x : Int} : x ∈ fsts a a.length ↔ ∃ v, v < a.length ∧ gi a v = x := by
  rw [(fsts_is a a.length (Nat.le_refl _)).2, List.take_length]
  constructor
  · intro h
    obtain ⟨j, hj, e⟩ := List.getElem_of_mem h
    exact ⟨j, hj, by simp [gi, hj, e]⟩
  · rintro ⟨v, hv, rfl⟩
    exact gi_mem hv
theorem more_parts {N : Nat} {E : List Edg} (hE : InN N E) {e : Nat} (he : e < E.length) : (fsts (weakL N E) N).length < (fsts (weakL N (E.eraseIdx e)) N).length ↔ Brg E e := by
  have la := weakL_len N E
  have lb := weakL_len N (E.eraseIdx e)
  have hE' := inN_erase hE e he
  have h1 := (hE.f e he).1
  have h2 := (hE.t e he).1
  have ab : ∀ u v, u < N → v < N → gi (weakL N (E.eraseIdx e)) u = gi (weakL N (E.eraseIdx e)) v → gi (weakL N E) u = gi (weakL N E) v := fun u v hu hv h => by
    rw [weak_is hE' hu hv, con_erase he] at h
    rw [weak_is hE hu hv]
    exact h.mono fun _ _ _ => trivial
  constructor
  · intro hlt hc
    have ba : ∀ u v, u < N → v < N → gi (weakL N E) u = gi (weakL N E) v → gi (weakL N (E.eraseIdx e)) u = gi (weakL N (E.eraseIdx e)) v := fun u v hu hv h => by
      rw [weak_is hE hu hv] at h
      rw [weak_is hE' hu hv, con_erase he]
      clear ab hlt
      induction h with
      | here => exact .here
      | @step y z i h hi _ ih =>
        have hy : y < N := h.lt hE hu
        refine (ih hy).trans ?_
        by_cases hie : i = e
        · subst hie
          rcases hi.2 with ⟨rfl, rfl⟩ | ⟨rfl, rfl⟩
          · exact hc
          · exact hc.symm
        · exact Con.one hi hie
    have := fsts_le (a := weakL N (E.eraseIdx e)) (b := weakL N E) (N := N) lb la ba (L := fsts (weakL N E) (weakL N E).length) (fun x hx => by
      obtain ⟨v, hv, e⟩ := fsts_mem.1 hx
      rw [lb] at hv
      exact ⟨v, hv, e, fsts_mem.2 ⟨v, by rw [la]; exact hv, rfl⟩⟩)
    rw [la, lb] at this
    omega
  · intro hb
    have hne : gi (weakL N (E.eraseIdx e)) (fN E e) ≠ gi (weakL N (E.eraseIdx e)) (tN E e) := fun h => by
      rw [weak_is hE' h1 h2, con_erase he] at h
      exact hb h
    have hsame : gi (weakL N E) (fN E e) = gi (weakL N E) (tN E e) := (weak_is hE h1 h2).2 (Con.one (Inc.ends he) trivial)
    have hmem : ∀ v, v < N → gi (weakL N (E.eraseIdx e)) v ∈ fsts (weakL N (E.eraseIdx e)) N := fun v hv => by
      have := (fsts_mem (a := weakL N (E.eraseIdx e)) (x := gi (weakL N (E.eraseIdx e)) v)).2 ⟨v, by rw [lb]; exact hv, rfl⟩
      rwa [lb] at this
    have hle := fsts_le (a := weakL N E) (b := weakL N (E.eraseIdx e)) (N := N) la lb ab (L := (fsts (weakL N (E.eraseIdx e)) N).erase (gi (weakL N (E.eraseIdx e)) (tN E e))) (fun x hx => by
      obtain ⟨v, hv, ev⟩ := fsts_mem.1 hx
      rw [la] at hv
      by_cases hvt : gi (weakL N (E.eraseIdx e)) v = gi (weakL N (E.eraseIdx e)) (tN E e)
      · refine ⟨fN E e, h1, ?_, (List.mem_erase_of_ne hne).2 (hmem _ h1)⟩
        rw [hsame, ← ab v (tN E e) hv h2 hvt, ev]
      · exact ⟨v, hv, ev, (List.mem_erase_of_ne hvt).2 (hmem v hv)⟩)
    have hlen := List.length_erase_of_mem (hmem _ h2)
    have hpos := List.length_pos_of_mem (hmem _ h2)
    rw [la] at hle
    omega
end Go.Proofs.Ytomednfddpggaaa

/- Contract: who hangs together, by the document's answer, round by round. -/
namespace Go.Proofs.Ytomednfddpggaaa
open Go Go.RowKit
attribute [local go_sem] Oper.semAt_some
def RIAt (W0 : World) (gd : Nat) (L : List Int) (wr : World) : Prop :=
  ∃ y : Later W0, wr = y.now ∧ Arr y.now gd 3 (L.map (.int .i64)) ∧ W0.heap.size ≤ gd
theorem RIAt.grow {W0 : World} {gd : Nat} {L : List Int} {wr w2 : World} (h : RIAt W0 gd L wr) (hg : Grows wr w2) : RIAt W0 gd L w2 := by
  obtain ⟨y, rfl, h1, h2⟩ := h
  exact ⟨⟨w2, y.grows.trans hg⟩, rfl, h1.grow hg, h2⟩
theorem RIAt.put {W0 : World} {gd : Nat} {L : List Int} {wr w2 : World} (h : RIAt W0 gd L wr) (hg : Grows wr w2) (j : Nat) (b : Int) : RIAt W0 gd (L.set j b) (w2.setCell ⟨gd, j, none⟩ (.int .i64 b)) := by
  obtain ⟨y, rfl, h1, h2⟩ := h.grow hg
  have hk : Grows W0 (y.now.setCell ⟨gd, j, none⟩ (.int .i64 b)) := ((Touch.refl (fun k => k = gd) _).set (.inl rfl) _).later y.grows (fun k hk => by rw [hk]; exact h2)
  refine ⟨⟨_, hk⟩, rfl, ?_, h2⟩
  rw [List.map_set]
  exact h1.set j _
theorem gi_at {L : List Int} {j : Nat} (h : j < L.length) : (L.map (Value.int .i64))[j]? = some (.int .i64 (gi L j)) := by simp [gi, h]
def fillI (N k : Nat) : List Int := idL k ++ List.replicate (N - k) 0
theorem fillI_len {N k : Nat} (h : k ≤ N) : (fillI N k).length = N := by simp [fillI, idL_len]; omega
theorem fillI_zero (N : Nat) : fillI N 0 = List.replicate N 0 := by simp [fillI, idL]
theorem fillI_all (N : Nat) : fillI N N = idL N := by simp [fillI]
theorem fillI_set {N k : Nat} (h : k < N) : (fillI N k).set k (k : Int) = fillI N (k + 1) := by
  have hl : (idL k).length = k := idL_len k
  have e1 : List.replicate (N - k) (0 : Int) = 0 :: List.replicate (N - (k + 1)) 0 := by
    rw [show N - k = (N - (k + 1)) + 1 by omega, List.replicate_succ]
  have e2 : idL (k + 1) = idL k ++ [(k : Int)] := by simp [idL, List.range_succ]
  unfold fillI
  rw [List.set_append_right _ _ (by omega), hl, Nat.sub_self, e1, List.set_cons_zero, e2, List.append_assoc]
  rfl
theorem loops_no {N : Nat} {E : List Edg} (hr : rightF N E = 0) (i : Nat) (hi : i < E.length) : fN E i ≠ tN E i := by
  obtain ⟨r1, r2, r3, r4, r5⟩ := right_in hr
  rw [Int.toNat_natCast] at r4
  obtain ⟨f1, f2⟩ := r4.f i hi
  obtain ⟨t1, t2⟩ := r4.t i hi
  intro he
  unfold rightF at hr
  rw [if_neg (by omega), if_neg (by omega)] at hr
  split at hr
  · cases hr
  · rename_i h3
    have h4 : E.any (looseB (N : Int)) = false := by simpa using h3
    rw [List.any_eq_false] at h4
    have h5 := h4 _ (List.getElem_mem hi)
    have hg : ge E i = E[i] := by simp [ge, hi]
    rw [← hg] at h5
    apply h5
    have : (ge E i).f = (ge E i).t := by omega
    simp [looseB, this]
set_option maxRecDepth 40000 in
set_option maxHeartbeats 8000000 in
theorem r17Weak (N : Nat) (A : Option Addr) (c : Nat) (E : List Edg) (w : World) (h : Rd w A 3 E.length (esCells E)) (hr : rightF N E = 0) :
    Calls Try.prog 47 #[.agg #[.int .i64 (N : Int), .slice A E.length c]] w fun e w' => ∃ g, e = .returned (.slice (some ⟨g, 0, none⟩) N N) ∧ Arr w' g 3 ((weakL N E).map (.int .i64)) ∧ Grows w w' := by
  obtain ⟨r1, r2, r3, r4, r5⟩ := right_in hr
  rw [Int.toNat_natCast] at r4
  have C0 := hide (fun (W : World) (g : Grows w W) => by have := r5Right N A E.length c E W (h.grows g) (by omega); rw [hr] at this; exact this)
  have mb := fun (w : World) => run_makeInts N (by omega) w
  have HR := hide h
  have HE := hide r4
  have HLO := hide (loops_no hr)
  have hN : N ≤ 4096 := by omega
  have hEl : E.length ≤ 16384 := r3
  clear h hr r1 r2 r3 r4 r5
  go_enter Try.func47, Try.ntmps47
  go_upto_region 4 with (go_at_call 31; refine (C0.out _ GG).mono ?_; rintro e w' ⟨rfl, hg⟩; obtain ⟨x0, rfl⟩ := hg.later; clear hg)
  have z1 : Arr x0.now w.heap.size 24 [.int .i64 (N : Int), .slice A E.length c] := (Arr.make w _ _).grow x0.grows
  have hgw : Grows w x0.now := GG
  clear C0 mb
  generalize w.heap.size = b1 at *
  have hRB0 : RIAt x0.now x0.now.heap.size (fillI N 0) (x0.now.alloc (Obj.cells (Array.replicate N (Value.int .i64 0)) 3)) := by
    rw [← List.toArray_replicate, fillI_zero]
    exact ⟨⟨_, (Grows.refl _).new _⟩, rfl, by rw [List.map_replicate]; exact Arr.make _ _ _, Nat.le_refl _⟩
  generalize (x0.now.alloc (Obj.cells (Array.replicate N (Value.int .i64 0)) 3)) = W1 at *
  generalize x0.now.heap.size = gd at *
  have HB := hide hRB0
  obtain ⟨y, rfl, _, _⟩ := id hRB0
  clear hRB0
  go_wp2_with fail
  go_loopw [4] (fun i wr => ∃ k : Nat, k ≤ N ∧ i = .int .i64 (k : Int) ∧ RIAt x0.now gd (fillI N k) wr) (fun i _ => N - (Go.RowKit.intOf i).toNat)
  case atStart => exact ⟨0, by omega, by go_num, HB.out⟩
  case round =>
    obtain ⟨k, hk, rfl, hb⟩ := hrel
    obtain ⟨y3, rfl, hd, _⟩ := id hb
    have HBK := hide hb
    clear hb HB
    by_cases hlt : k < N
    · have m0 := hd.mine k (gi_at (by rw [fillI_len hk]; exact hlt))
      clear hd
      have HS := hide (fillI_set hlt)
      generalize gi (fillI N k) k = z at *
      go_wp2_with fail
      go_roundw
      case measure => simp [Go.RowKit.intOf]; omega
      case rel => exact ⟨k + 1, by omega, by go_num, by rw [← HS.out]; exact HBK.out.put GG _ _⟩
    · obtain rfl : N = k := by omega
      clear hd
      rw [fillI_all] at HBK
      have HB := hide (show RIAt x0.now gd (wkN N E 0) y3.now from HBK.out)
      clear HBK
      have HIN := hide (fun i (hi : i < E.length) => (⟨HE.out.f i hi, HE.out.t i hi⟩ : (fN E i < N ∧ (ge E i).f = (fN E i : Int)) ∧ (tN E i < N ∧ (ge E i).t = (tN E i : Int))))
      go_wp2_with fail
      go_loopw [5] (fun i wr => ∃ k : Nat, k ≤ N ∧ i = .int .i64 (k : Int) ∧ RIAt x0.now gd (wkN N E k) wr) (fun i _ => N - (Go.RowKit.intOf i).toNat)
      case atStart => exact ⟨0, by omega, by go_num, HB.out⟩
      case round =>
        obtain ⟨k, hk, rfl, hb⟩ := hrel
        obtain ⟨y5, rfl, _⟩ := id hb
        have HBK := hide hb
        clear hb HB
        by_cases hlt : k < N
        · have HL := hide (wkN_len N E k)
          have HS1 := hide (show wkN N E (k + 1) = wkK E (wkN N E k) E.length from rfl)
          generalize wkN N E k = D at *
          go_wp2_with fail
          go_loopw [6] (fun i wr => ∃ j : Nat, j ≤ E.length ∧ i = .int .i64 (j : Int) ∧ RIAt x0.now gd (wkK E D j) wr) (fun i _ => E.length - (Go.RowKit.intOf i).toNat)
          case atStart => exact ⟨0, by omega, by go_num, HBK.out⟩
          case round =>
            obtain ⟨j, hj, rfl, hb⟩ := hrel
            obtain ⟨y4, rfl, hd, hgd⟩ := id hb
            have HBJ := hide hb
            clear hb HBK
            by_cases hlj : j < E.length
            · obtain ⟨⟨hf, ef⟩, ht, et⟩ := HIN.out j hlj
              have hne := HLO.out j hlj
              have hll : (wkK E D j).length = N := by rw [wkK_len]; exact HL.out
              have n4 : ¬ (y4.now.heap.size = gd) := by have := hd.lt; omega
              have n5 : ¬ (gd = y4.now.heap.size) := by omega
              have mu := hd.mine (fN E j) (gi_at (by rw [hll]; exact hf))
              have mv := hd.mine (tN E j) (gi_at (by rw [hll]; exact ht))
              obtain ⟨b9, off9, rfl, hc9⟩ := HR.out.edgesH (by omega)
              obtain ⟨z1', z2', z3'⟩ := hc9 j hlj
              rw [ef] at z1'
              rw [et] at z2'
              have c1 : Holds x0.now _ _ := ⟨hgw.keeps z1'.cell⟩
              have c2 : Holds x0.now _ _ := ⟨hgw.keeps z2'.cell⟩
              have c3 : Holds x0.now _ _ := ⟨hgw.keeps z3'.cell⟩
              have HST := hide (show wkK E D (j + 1) = ((wkK E D j).set (fN E j) (min (gi (wkK E D j) (fN E j)) (gi (wkK E D j) (tN E j)))).set (tN E j) (min (gi (wkK E D j) (fN E j)) (gi (wkK E D j) (tN E j))) from rfl)
              clear z1' z2' z3' hc9 hd ef et hll
              generalize wkK E D j = L at *
              generalize (ge E j).w = ew at *
              generalize gi L (fN E j) = gu at *
              generalize gi L (tN E j) = gv at *
              generalize fN E j = uu at *
              generalize tN E j = vv at *
              go_upto_region 15 with fail
              ((first | refine wp_region_gen (by kernel_rfl) (by kernel_rfl) ?_); (repeat' (first | (refine gLex_val0 rfl (by kernel_rfl) (fun K hK => ?_); (go_simp; (try (simp only [↓IntWalk.iteOmega]; try go_simp)); (try simp (disch := omega) only [IntWalk.i64_in]); (try simp (disch := omega) only [IntWalk.u64_in]); first | (refine hK _ ?_; clear hK K) | (apply Exists.intro; refine ⟨fun x => ?_, hK _ ?_⟩; (first | fail); clear hK K))) | (refine gLex_undef rfl rfl rfl (by kernel_rfl) (fun K hK => ?_); go_simp; refine hK _ ?_; clear hK K) | (refine gLex_ask rfl rfl rfl ?_; first | (apply gAsk_yes; kernel_rfl; intro K hK; (go_simp; (try (simp only [↓IntWalk.iteOmega]; try go_simp)); (try simp (disch := omega) only [IntWalk.i64_in]); (try simp (disch := omega) only [IntWalk.u64_in]); first | (refine hK _ ?_; clear hK K) | (apply Exists.intro; refine ⟨fun x => ?_, hK _ ?_⟩; (first | fail); clear hK K))) | ((first | apply gAsk_no1 | apply gAsk_no2); kernel_rfl; intro K hK; simp [go_sem]; refine hK _ ?_; clear hK K) | (apply gAsk_part; kernel_rfl; all_goals (intro h K hK; (try simp only [Bool.not_true] at h); (try simp only [Bool.not_false] at h); (try simp only [decide_eq_true_eq] at h); (try simp only [decide_eq_false_iff_not] at h); first | (exfalso; first | contradiction | omega) | (go_simp; (try (simp only [↓IntWalk.iteOmega]; try go_simp)); (try simp (disch := omega) only [IntWalk.i64_in]); (try simp (disch := omega) only [IntWalk.u64_in]); first | (refine hK _ ?_; clear hK K) | (apply Exists.intro; refine ⟨fun x => ?_, hK _ ?_⟩; (first | fail); clear hK K))))))); all_goals ((apply gLex_end); intro y7))
              go_wp2_with fail
              go_roundw
              case measure => simp [Go.RowKit.intOf]; omega
              case rel => exact ⟨j + 1, by omega, by go_num, by rw [HST.out]; exact (HBJ.out.put (w2 := y7.now) GG _ _).put (Grows.refl _) _ _⟩
            · obtain rfl : j = E.length := by omega
              clear hd
              go_wp2_with fail
              go_roundw
              case measure => simp [Go.RowKit.intOf]; omega
              case rel => exact ⟨k + 1, by omega, by go_num, by rw [HS1.out]; exact HBJ.out⟩
        · obtain rfl : N = k := by omega
          go_wp2_with fail
          go_ret
          obtain ⟨y9, e9, h9, _⟩ := HBK.out
          exact ⟨gd, rfl, by rw [e9]; exact h9, hgw.trans y5.grows⟩
end Go.Proofs.Ytomednfddpggaaa

/- Plain law: without which edges fewer nodes can be come to. -/
namespace Go.Proofs.Ytomednfddpggaaa
open Go Go.RowKit
abbrev noO (ne : List Int) : DOpt := ⟨false, [], ne, [], 0⟩
theorem noO_ok {N s : Nat} {E : List Edg} {ne : List Int} (hr : rightF N E = 0) (hs : s < N) (hn : ne.length ≤ 1000000) : WalkOk N s E (noO ne) :=
  ⟨hr, hs, .inl rfl, by show 0 < _; omega, by show ([] : List Int).length ≤ _; simp, hn⟩
theorem noO_w {N : Nat} {E : List Edg} (hr : rightF N E = 0) (i : Nat) (hi : i < E.length) : 1 ≤ gn (wtF N E []) i ∧ gn (wtF N E []) i ≤ 17592186044416 := by
  obtain ⟨r1, r2, r3, r4, r5⟩ := right_in hr
  have := r5 i hi
  have e : gn (wtF N E []) i = (ge E i).w.toNat := by
    unfold wtF
    rw [if_neg (by omega), if_neg (by simp), if_neg (by simp)]
    simp [gn, eW, ge, hi]
  rw [e]
  omega
theorem refL_way {N s : Nat} {E : List Edg} {ne : List Int} (hr : rightF N E = 0) (hs : s < N) (hn : ne.length ≤ 1000000) {v : Nat} (hv : v < N) :
    gn (refL (srchOf N E (noO ne)) s) v < farV ↔ ∃ f, Way (srchOf N E (noO ne)) s v f := by
  have hok := noO_ok hr hs hn
  obtain ⟨r1, r2, r3, r4, r5⟩ := right_in hok.right
  rw [Int.toNat_natCast] at r4
  have hb : N * 17592186044416 < farV := by
    have : N * 17592186044416 ≤ 4096 * 17592186044416 := Nat.mul_le_mul_right _ (by omega)
    unfold farV; omega
  have hw := fun i hi => noO_w hr (i := i) hi
  have hnn : ¬ (s : Int) ∈ (noO ne).nn := by simp
  obtain ⟨xs, h1, h2, h3⟩ := walk_is hok hw (Nat.le_refl _) hnn
  have hs2 := hok.srch
  have hin : SrchIn (srchOf N E (noO ne)) 17592186044416 := ⟨fun i hi => by
    have h1 := hs2.ends.f i hi
    have h2 := hs2.ends.t i hi
    unfold toE
    split
    · exact h1.1
    · exact h2.1, fun i hi => (hw i hi).1, fun i hi => (hw i hi).2⟩
  obtain ⟨ys, h4, h5⟩ := trace_whole (x := freeX (srchOf N E (noO ne))) (s := s) (mw := 17592186044416) ⟨hin.ends, hin.low, hin.high⟩ hs2.nodes hok.node (by omega)
  have e : refL (srchOf N E (noO ne)) s = outL N xs := refL_is h2 h5 hin hb hok.node (decide_eq_false hnn) (fun i hi => by
    have h1 := hs2.ends.f i hi
    have h2 := hs2.ends.t i hi
    unfold nN
    split
    · exact h2.1
    · exact h1.1)
  rw [e]
  rcases outL_cases h2 hb (v := v) hv with ⟨a, b⟩ | ⟨a, b⟩
  · exact ⟨fun _ => ⟨_, (h2.way _ _ a).2.1⟩, fun _ => b⟩
  · constructor
    · intro h
      have a' : gn (outL N xs) v = farV := a
      omega
    · rintro ⟨f, hf⟩
      obtain ⟨g, hg, _⟩ := h2.all v f hf (fun h => absurd h (by simp [srchOf]))
      exact absurd hg (b g)
theorem way_rch {N s v : Nat} {E : List Edg} : (∃ f, Way (srchOf N E (noO [])) s v f) ↔ Rch E false s v := by
  constructor
  · rintro ⟨f, h⟩
    induction h with
    | here => exact .here
    | @step f i h hi hc ih => exact ih.step hi rfl
  · intro h
    induction h with
    | here => exact ⟨0, .here⟩
    | @step v i h hi hv ih =>
      obtain ⟨f, hf⟩ := ih
      subst hv
      exact ⟨_, Way.step (x := srchOf N E (noO [])) hf hi (by simp [cntE, srchOf])⟩
theorem way_rch1 {N s v e : Nat} {E : List Edg} (he : e < E.length) : (∃ f, Way (srchOf N E (noO [(e : Int)])) s v f) ↔ Rch (E.eraseIdx e) false s v := by
  have hl : (E.eraseIdx e).length = E.length - 1 := List.length_eraseIdx_of_lt he
  have key : ∀ j, j < (E.eraseIdx e).length → fN (E.eraseIdx e) j = fN E (if j < e then j else j + 1) ∧ tN (E.eraseIdx e) j = tN E (if j < e then j else j + 1) := fun j hj => by
    have := ge_erase he hj
    constructor
    · show (ge _ _).f.toNat = (ge _ _).f.toNat; rw [this]
    · show (ge _ _).t.toNat = (ge _ _).t.toNat; rw [this]
  constructor
  · rintro ⟨f, h⟩
    induction h with
    | here => exact .here
    | @step f i h hi hc ih =>
      have hi' : i < E.length := hi
      have hie : i ≠ e := fun h => by subst h; simp [cntE, srchOf] at hc
      obtain ⟨j, hj, hji⟩ : ∃ j, j < (E.eraseIdx e).length ∧ (if j < e then j else j + 1) = i := by
        by_cases h : i < e
        · exact ⟨i, by omega, if_pos h⟩
        · exact ⟨i - 1, by omega, by rw [if_neg (by omega)]; omega⟩
      obtain ⟨k1, k2⟩ := key j hj
      rw [hji] at k1 k2
      have := ih.step (i := j) hj (show fN (E.eraseIdx e) j = _ from k1)
      have h3 : oN (E.eraseIdx e) false j = toE (srchOf N E (noO [(e : Int)])) i := k2
      rwa [h3] at this
  · intro h
    induction h with
    | here => exact ⟨0, .here⟩
    | @step v i h hi hv ih =>
      obtain ⟨f, hf⟩ := ih
      subst hv
      obtain ⟨k1, k2⟩ := key i hi
      have hj : (if i < e then i else i + 1) < E.length := by split <;> omega
      have hje : (if i < e then i else i + 1) ≠ e := by split <;> omega
      have h3 : nN (E.eraseIdx e) false i = nN E false (if i < e then i else i + 1) := k1
      have h4 : oN (E.eraseIdx e) false i = toE (srchOf N E (noO [(e : Int)])) (if i < e then i else i + 1) := k2
      rw [h3] at hf
      rw [h4]
      exact ⟨_, Way.step (x := srchOf N E (noO [(e : Int)])) hf hj (by
        have : ¬ ((if i < e then i else i + 1 : Nat) : Int) = (e : Int) := by omega
        simp only [cntE, srchOf]
        simp
        split <;> omega)⟩
def lackB (a b : List Nat) : Nat → Bool
  | 0 => false
  | k + 1 => lackB a b k || (decide (gn a k < farV) && !decide (gn b k < farV))
theorem lackB_is (a b : List Nat) : ∀ k, lackB a b k = true ↔ ∃ v, v < k ∧ gn a v < farV ∧ ¬ gn b v < farV
  | 0 => by simp [lackB]
  | k + 1 => by
    unfold lackB
    rw [Bool.or_eq_true, lackB_is a b k]
    simp only [Bool.and_eq_true, decide_eq_true_eq, Bool.not_eq_true', decide_eq_false_iff_not]
    constructor
    · rintro (⟨v, h1, h2⟩ | h)
      · exact ⟨v, by omega, h2⟩
      · exact ⟨k, by omega, h⟩
    · rintro ⟨v, h1, h2⟩
      by_cases e : v = k
      · subst e; exact .inr h2
      · exact .inl ⟨v, by omega, h2⟩
def woE (E : List Edg) (e k : Nat) : List Edg := (E.take k).eraseIdx e
theorem woE_next {E : List Edg} {e k : Nat} (hk : k < E.length) : woE E e (k + 1) = if k = e then woE E e k else woE E e k ++ [ge E k] := by
  have hl : (E.take k).length = k := by rw [List.length_take]; omega
  have hg : ge E k = E[k] := by simp [ge, hk]
  unfold woE
  rw [List.take_succ_eq_append_getElem hk, hg]
  rcases Nat.lt_trichotomy e k with h | h | h
  · rw [if_neg (by omega), List.eraseIdx_append_of_lt_length (by omega)]
  · subst h
    rw [if_pos rfl, List.eraseIdx_append_of_length_le (by omega), hl, Nat.sub_self, List.eraseIdx_of_length_le (l := E.take e) (by omega)]
    simp
  · rw [if_neg (by omega), List.eraseIdx_append_of_length_le (by omega), hl, List.eraseIdx_of_length_le (l := E.take k) (by omega), List.eraseIdx_of_length_le (l := [E[k]]) (by simp; omega)]
theorem woE_all (E : List Edg) (e : Nat) : woE E e E.length = E.eraseIdx e := by simp [woE]
theorem woE_len (E : List Edg) (e k : Nat) : (woE E e k).length ≤ k := by
  have h1 := List.length_eraseIdx_le (E.take k) e
  have h2 := List.length_take_le k E
  unfold woE
  omega
def needB (N : Nat) (E : List Edg) (s e : Nat) : Bool := !decide (reachL N (E.eraseIdx e) s false = reachL N E s false)
theorem rch_erase {E : List Edg} {s v e : Nat} (he : e < E.length) (h : Rch (E.eraseIdx e) false s v) : Rch E false s v := by
  obtain ⟨f, hf⟩ := (way_rch1 (N := 0) he).2 h
  refine (way_rch (N := 0)).1 ?_
  induction hf with
  | here => exact ⟨0, .here⟩
  | @step f i hw hi hc ih =>
    obtain ⟨g, hg⟩ := ih (by
      exact (way_rch1 (N := 0) he).1 ⟨_, hw⟩)
    exact ⟨_, Way.step (x := srchOf 0 E (noO [])) hg hi (by simp [cntE, srchOf])⟩
theorem need_is {N s e : Nat} {E : List Edg} (hr : rightF N E = 0) (hs : s < N) (he : e < E.length) :
    lackB (refL (srchOf N E (noO [])) s) (refL (srchOf N E (noO [(e : Int)])) s) N = needB N E s e := by
  obtain ⟨r1, r2, r3, r4, r5⟩ := right_in hr
  rw [Int.toNat_natCast] at r4
  have hE' := inN_erase r4 e he
  have h1 : ∀ v, bb (reachL N E s false) v = true ↔ Rch E false s v := fun v => rounds_is r4 hs v
  have h2 : ∀ v, bb (reachL N (E.eraseIdx e) s false) v = true ↔ Rch (E.eraseIdx e) false s v := fun v => rounds_is hE' hs v
  rw [Bool.eq_iff_iff, lackB_is]
  unfold needB
  rw [Bool.not_eq_true', decide_eq_false_iff_not]
  constructor
  · rintro ⟨v, hv, ha, hb⟩ heq
    rw [refL_way hr hs (by simp) hv, way_rch, ← h1] at ha
    rw [refL_way hr hs (by simp) hv, way_rch1 he, ← h2, heq] at hb
    exact hb ha
  · intro hne
    refine Classical.byContradiction fun hno => hne ?_
    refine bb_ext (by rw [reachL_len, reachL_len]) fun v hv => ?_
    rw [reachL_len] at hv
    rw [h1, h2]
    constructor
    · exact rch_erase he
    · intro h
      refine Classical.byContradiction fun hn => hno ⟨v, hv, ?_, ?_⟩
      · rw [refL_way hr hs (by simp) hv, way_rch]; exact h
      · rw [refL_way hr hs (by simp) hv, way_rch1 he]; exact hn
end Go.Proofs.Ytomednfddpggaaa

/- Contracts: the document's answer on bridges: a graph without an edge. -/
namespace Go.Proofs.Ytomednfddpggaaa
open Go Go.RowKit
attribute [local go_sem] Oper.semAt_some
def WoAt (x0 : World) (b : Nat) (N : Int) (L : List Edg) (wr : World) : Prop :=
  ∃ y : Later x0, wr = y.now ∧ ∃ A c, Arr y.now b 24 [.int .i64 N, .slice A L.length c] ∧ Own y.now 0 68 3 A L.length c (esCells L) ∧ (∀ p, A = some p → x0.heap.size ≤ p.block) ∧ x0.heap.size ≤ b
theorem WoAt.grow {x0 wr w2 : World} {b : Nat} {N : Int} {L : List Edg} (h : WoAt x0 b N L wr) (hg : Grows wr w2) : WoAt x0 b N L w2 := by
  obtain ⟨y, rfl, A, c, h1, h2, h3, h4⟩ := h
  exact ⟨⟨w2, y.grows.trans hg⟩, rfl, A, c, h1.grow hg, h2.grows hg, h3, h4⟩
theorem WoAt.step {x0 W w2 : World} {b6 c1 c2 : Nat} {N : Int} {L : List Edg} {x : Edg} {A1 A2 : Option Addr} {y : Later x0} (hgW : Grows y.now W) (hA1 : ∀ p, A1 = some p → x0.heap.size ≤ p.block) (hb6 : x0.heap.size ≤ b6)
    (q2 : Arr w2 b6 24 [.int .i64 N, .slice A1 L.length c1]) (ho2 : Own w2 0 68 3 A2 (L.length + 1) c2 (esCells L ++ eCells x)) (ht : Touch (fun k => ∃ p, A1 = some p ∧ p.block = k) W w2) (hA2 : ∀ p, A2 = some p → x0.heap.size ≤ p.block ∨ New W w2 p.block) :
    WoAt x0 b6 N (L ++ [x]) (w2.setCell ⟨b6, 1, none⟩ (.slice A2 (L.length + 1) c2)) := by
  have hg0 := y.grows.trans hgW
  have hg2 : Grows x0 w2 := ht.later hg0 (fun k ⟨p, hp, e⟩ => e ▸ hA1 p hp)
  have n3 := ho2.not_arr q2 (by decide)
  have hl : (L ++ [x]).length = L.length + 1 := by simp
  have he : esCells (L ++ [x]) = esCells L ++ eCells x := by simp [esCells]
  refine ⟨⟨_, hg2.set hb6 _⟩, rfl, A2, c2, ?_, ?_, fun p hp => ?_, hb6⟩
  · have := q2.set 1 (.slice A2 (L.length + 1) c2)
    rw [hl]
    simpa using this
  · rw [hl, he]
    exact ho2.othr (q := ⟨b6, 1, none⟩) (fun p hp => n3 p hp) _
  · rcases hA2 p hp with h | ⟨h, _⟩
    · exact h
    · exact Nat.le_trans hg0.size h
set_option maxRecDepth 40000 in
set_option maxHeartbeats 8000000 in
theorem r48Without (N : Nat) (A : Option Addr) (c : Nat) (E : List Edg) (e : Nat) (w : World) (h : Rd w A 3 E.length (esCells E)) (hr : rightF N E = 0) (he : e < E.length) :
    Calls Try.prog 10 #[.agg #[.int .i64 (N : Int), .slice A E.length c], .int .i64 (e : Int)] w fun x w' => ∃ A' c', x = .returned (.tuple #[.agg #[.int .i64 (N : Int), .slice A' (E.eraseIdx e).length c'], .int .i64 0]) ∧ Rd w' A' 3 (E.eraseIdx e).length (esCells (E.eraseIdx e)) ∧ Grows w w' := by
  obtain ⟨r1, r2, r3, r4, r5⟩ := right_in hr
  have C0 := hide (fun (W : World) (g : Grows w W) => by have := r5Right N A E.length c E W (h.grows g) (by omega); rw [hr] at this; exact this)
  have HR := hide h
  have hEl : E.length ≤ 16384 := r3
  have hd1 : decide ((e : Int) < 0) = false := decide_eq_false (by omega)
  have hd2 : decide (E.length ≤ e) = false := decide_eq_false (by omega)
  clear h hr r1 r2 r3 r4 r5
  go_enter Try.func10, Try.ntmps10
  go_upto_region 6 with (go_at_call 31; refine (C0.out _ GG).mono ?_; rintro e w' ⟨rfl, hg⟩; obtain ⟨x0, rfl⟩ := hg.later; clear hg)
  have hgw : Grows w x0.now := GG
  have z2 : Arr x0.now w.heap.size 24 [.int .i64 (N : Int), .slice A E.length c] := (((Arr.make w _ _).grow ((Grows.refl _).new _)).grow x0.grows)
  have z4 : Arr x0.now (w.heap.size + 1) 24 [.int .i64 0, .slice none 0 0] := by
    have := (Arr.make (w.alloc (.cells #[.int .i64 (N : Int), .slice A E.length c] 24)) [.int .i64 0, .slice none 0 0] 24).grow x0.grows
    simpa using this
  have hbx : w.heap.size + 1 < x0.now.heap.size := z4.lt
  have hW0 : WoAt x0.now x0.now.heap.size N (woE E e 0) (x0.now.alloc (.cells #[.int .i64 (N : Int), .slice none 0 0] 24)) :=
    ⟨⟨_, (Grows.refl _).new _⟩, rfl, none, 0, Arr.make _ _ _, Own.nil _ _ _ _, fun p hp => (by cases hp), Nat.le_refl _⟩
  generalize x0.now.alloc (.cells #[.int .i64 (N : Int), .slice none 0 0] 24) = W1 at *
  generalize x0.now.heap.size = b6 at hW0 ⊢
  have HB := hide hW0
  clear C0 hW0
  go_wp2_with fail
  go_loopw [7] (fun i wr => ∃ k : Nat, k ≤ E.length ∧ i = .int .i64 (k : Int) ∧ WoAt x0.now b6 N (woE E e k) wr) (fun i _ => E.length - (Go.RowKit.intOf i).toNat)
  case atStart => exact ⟨0, by omega, by go_num, HB.out⟩
  case round =>
    obtain ⟨k, hk, rfl, hb⟩ := hrel
    have HBK := hide hb
    obtain ⟨y, rfl, A1, c1, a6, ho, hA1, hb6⟩ := hb
    clear HB
    by_cases hlt : k < E.length
    · have hnx := woE_next (e := e) hlt
      by_cases hke : k = e
      · rw [if_pos hke] at hnx
        have HNX := hide hnx
        have hne : ((k : Int) != (e : Int)) = false := by rw [hke]; simp
        clear hnx ho hke
        go_wp2_with fail
        go_roundw
        case measure => simp [Go.RowKit.intOf]; omega
        case rel => exact ⟨k + 1, by omega, by go_num, by rw [HNX.out]; exact HBK.out.grow GG⟩
      · rw [if_neg hke] at hnx
        have HNX := hide hnx
        have hne : ((k : Int) != (e : Int)) = true := bne_iff_ne.2 (by omega)
        have HO := hide ho
        have A6H := hide a6
        have HA1 := hide hA1
        have hn1 := woE_len E e k
        obtain ⟨b9, off9, rfl, hc9⟩ := HR.out.edgesH (by omega)
        obtain ⟨c1', c2', c3'⟩ := hc9 k hlt
        have c2x : Holds x0.now _ _ := ⟨hgw.keeps c1'.cell⟩
        have c3x : Holds x0.now _ _ := ⟨hgw.keeps c2'.cell⟩
        have c4x : Holds x0.now _ _ := ⟨hgw.keeps c3'.cell⟩
        have HNA := hide (ho.not_arr a6 (by decide))
        clear hnx ho hke hc9 c1' c2' c3' HBK
        generalize woE E e k = L at *
        generalize ge E k = x at *
        go_upto_region 10 with fail
        go_region_law (refine step_appT elemEdge rfl _ _ rfl (fun k => x0.now.heap.size ≤ k) L.length c1 A1 _ rfl (HO.out.grows GG) HA1.out _ _ (eCells x) rfl rfl (fun j u hu => by
          match j, hu with
          | 0, hu => simp [eCells] at hu; subst hu; simp [go_sem]
          | 1, hu => simp [eCells] at hu; subst hu; simp [go_sem]
          | 2, hu => simp [eCells] at hu; subst hu; simp [go_sem]) (fun u hu => by simp [eCells] at hu; rcases hu with rfl | rfl | rfl <;> rfl) (by omega) ?_; intro A2 c2 w2 hown2 ht2 hA2; have q2 := Arr.touch (Arr.grow a6 GG) ht2 (fun ⟨p, hp, e⟩ => HNA.out p hp e); have HO2 := hide hown2; have HT2 := hide ht2; have HA2 := hide hA2; clear hown2 ht2 hA2)
        all_goals
          have HJ := hide (WoAt.step (by exact GG) HA1.out hb6 q2 HO2.out HT2.out HA2.out)
          generalize w2.setCell ⟨b6, 1, none⟩ (.slice A2 (L.length + 1) c2) = W5 at *
          clear HT2 HA2 HO2 q2 HO A6H a6
          go_wp2_with fail
          go_roundw
          case measure => simp [Go.RowKit.intOf]; omega
          case rel => exact ⟨k + 1, by omega, by go_num, by rw [HNX.out]; exact HJ.out⟩
    · obtain rfl : E.length = k := by omega
      rw [woE_all] at *
      have HO := hide ho
      have HA1 := hide hA1
      clear ho hA1 HBK
      go_wp2_with fail
      refine bodyPost_ret (v := .tuple #[.agg #[.int .i64 (N : Int), .slice A1 (E.eraseIdx e).length c1], .int .i64 0]) (by simp (maxDischargeDepth := 6) [results, Try.results10, go_sem, *]) rfl ⟨A1, c1, rfl, ?_, GG⟩
      have hx : ∀ p, A1 = some p → p.block ≠ w.heap.size + 1 := fun p hp => by have := HA1.out p hp; omega
      exact ((HO.out.othr (q := ⟨w.heap.size + 1, 0, none⟩) hx _).othr (q := ⟨w.heap.size + 1, 1, none⟩) hx _).rd
set_option maxHeartbeats 4000000 in
theorem r48WithoutNo (N : Int) (A : Option Addr) (c : Nat) (E : List Edg) (e : Int) (w : World) (h : Rd w A 3 E.length (esCells E)) (hn : E.length ≤ 1000000) (hno : rightF N E ≠ 0 ∨ ¬ (0 ≤ e ∧ e < E.length)) :
    Calls Try.prog 10 #[.agg #[.int .i64 N, .slice A E.length c], .int .i64 e] w fun x w' => x = .returned (.tuple #[.agg #[.int .i64 0, .slice none 0 0], .int .i64 (if rightF N E = 0 then 8 else 1)]) ∧ Grows w w' := by
  have C1 := hide (fun (W : World) (hg : Grows w W) => r5Right N A E.length c E W (h.grows hg) hn)
  by_cases hr : rightF N E = 0
  · rw [hr] at C1
    rw [if_pos hr]
    have he : ¬ (0 ≤ e ∧ e < E.length) := hno.resolve_left (fun k => k hr)
    by_cases he0 : e < 0
    · clear h hr hno hn he
      go_enter Try.func10, Try.ntmps10
      go_wp2_with (go_at_call 31; refine (C1.out _ GG).mono ?_; rintro e w' ⟨rfl, hg⟩; obtain ⟨x1, rfl⟩ := hg.later; clear hg)
      all_goals refine bodyPost_ret (v := .tuple #[.agg #[.int .i64 0, .slice none 0 0], .int .i64 8]) (by simp (maxDischargeDepth := 6) [results, Try.results10, go_sem, *]) rfl ⟨rfl, GG⟩
    · have he1 : (E.length : Int) ≤ e := by omega
      have hd1 : decide (e < 0) = false := decide_eq_false he0
      have hd2 : decide ((E.length : Int) ≤ e) = true := decide_eq_true he1
      clear h hr hno hn he
      go_enter Try.func10, Try.ntmps10
      go_wp2_with (go_at_call 31; refine (C1.out _ GG).mono ?_; rintro e w' ⟨rfl, hg⟩; obtain ⟨x1, rfl⟩ := hg.later; clear hg)
      all_goals first | (exfalso; omega) | (refine bodyPost_ret (v := .tuple #[.agg #[.int .i64 0, .slice none 0 0], .int .i64 8]) (by simp (maxDischargeDepth := 6) [results, Try.results10, go_sem, *]) rfl ⟨rfl, GG⟩)
  · rw [if_neg hr]
    have hb : (rightF N E != 0) = true := bne_iff_ne.2 hr
    have hb2 : (rightF N E == 0) = false := beq_eq_false_iff_ne.2 hr
    generalize rightF N E = r at *
    clear h hno hn hr
    go_enter Try.func10, Try.ntmps10
    go_wp2_with (go_at_call 31; refine (C1.out _ GG).mono ?_; rintro e w' ⟨rfl, hg⟩; obtain ⟨x1, rfl⟩ := hg.later; clear hg)
    all_goals refine bodyPost_ret (v := .tuple #[.agg #[.int .i64 0, .slice none 0 0], .int .i64 1]) (by simp (maxDischargeDepth := 6) [results, Try.results10, go_sem, *]) rfl ⟨rfl, GG⟩
set_option maxHeartbeats 4000000 in
theorem withoutNoF (N : Int) (A : Option Addr) (c : Nat) (E : List Edg) (e : Int) (w : World) (h : Rd w A 3 E.length (esCells E)) (hn : E.length ≤ 1000000) (hno : rightF N E ≠ 0 ∨ ¬ (0 ≤ e ∧ e < E.length)) :
    Calls Try.prog 9 #[.agg #[.int .i64 N, .slice A E.length c], .int .i64 e] w fun x w' => x = .returned (.tuple #[.agg #[.int .i64 0, .slice none 0 0], .int .i64 (if rightF N E = 0 then 8 else 1)]) ∧ Grows w w' := by
  have C1 := hide (fun (W : World) (hg : Grows w W) => gRight N A E.length c E W (h.grows hg) hn)
  by_cases hr : rightF N E = 0
  · rw [hr] at C1
    rw [if_pos hr]
    have C2 := hide (fun (W : World) => by have := bwEdge N A E.length c e W; rw [decide_eq_false (show ¬ (0 ≤ e ∧ e < E.length) by omega)] at this; exact this)
    clear h hr hno hn
    go_enter Try.func9, Try.ntmps9
    go_wp2_with (first | (go_at_call 36; refine (C1.out _ GG).mono ?_; rintro e w' ⟨rfl, hg⟩; obtain ⟨x1, rfl⟩ := hg.later; clear hg) | (go_at_call 37; refine (C2.out _).mono ?_; rintro e w' ⟨rfl, hg⟩; obtain ⟨x2, rfl⟩ := hg.later; clear hg))
    all_goals refine bodyPost_ret (v := .tuple #[.agg #[.int .i64 0, .slice none 0 0], .int .i64 8]) (by simp (maxDischargeDepth := 6) [results, Try.results9, go_sem, *]) rfl ⟨rfl, GG⟩
  · rw [if_neg hr]
    obtain ⟨r, hr2⟩ : ∃ r, rightF N E = r := ⟨_, rfl⟩
    rw [hr2] at C1 hr
    have hb : (r != 0) = true := by simpa using hr
    clear h hr2 hno hn hr
    go_enter Try.func9, Try.ntmps9
    go_wp2_with (first | (go_at_call 36; refine (C1.out _ GG).mono ?_; rintro e w' ⟨rfl, hg⟩; obtain ⟨x1, rfl⟩ := hg.later; clear hg))
    all_goals refine bodyPost_ret (v := .tuple #[.agg #[.int .i64 0, .slice none 0 0], .int .i64 1]) (by simp (maxDischargeDepth := 6) [results, Try.results9, go_sem, *]) rfl ⟨rfl, GG⟩
end Go.Proofs.Ytomednfddpggaaa
