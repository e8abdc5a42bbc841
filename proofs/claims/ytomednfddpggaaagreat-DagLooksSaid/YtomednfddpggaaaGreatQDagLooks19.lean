/- Regions that draw their order: what each operation leaves is known, whatever is done already; stores go to cells that no other operation reads. -/
import Derived.Test.YtomednfddpggaaaGreatQDagLooks18
import Derived.Test.YtomednfddpggaaaGreatQDagLooks02
/- Regions that draw their order: what each operation leaves is known, whatever is done already; stores go to cells that no other operation reads. -/
namespace Go.Proofs.YtomednfddpggaaaGreat
open Go Go.RowKit
section
variable {P : Program} {Q : Exit → Act → World → Prop} {l : List Oper}
def knowB (l : List Oper) : Bool := (List.range l.length).all fun i => match l[i]? with
  | some o => o.guard.isNone && (match o.op with | .select .. => false | _ => true) && ((o.looksAt l.toArray).all fun t => ((List.range l.length).all fun j => decide (dstOf l j ≠ some t)) || ((List.range l.length).any fun j => decide (dstOf l j = some t) && waitB l i j))
  | none => true
theorem knowB_spec (h : knowB l = true) {i : Nat} {o : Oper} (ho : l[i]? = some o) : o.guard = none ∧ (∀ cs b, o.op ≠ .select cs b) ∧ ∀ t ∈ o.looksAt l.toArray, (∀ j, dstOf l j ≠ some t) ∨ ∃ j, dstOf l j = some t ∧ waitB l i j = true := by
  unfold knowB at h
  rw [List.all_eq_true] at h
  have hi : i < l.length := (List.getElem?_eq_some_iff.1 ho).1
  have h1 := h i (by simpa using hi)
  simp only [ho, Bool.and_eq_true, Option.isNone_iff_eq_none] at h1
  obtain ⟨⟨h2, h3⟩, h4⟩ := h1
  refine ⟨h2, fun cs b e => ?_, fun t ht => ?_⟩
  · rw [e] at h3; cases h3
  · rw [List.all_eq_true] at h4
    have h5 := h4 t ht
    rw [Bool.or_eq_true] at h5
    rcases h5 with h5 | h5
    · left
      intro j hj
      rw [List.all_eq_true] at h5
      have hlt : j < l.length := by
        rcases Nat.lt_or_ge j l.length with h | h
        · exact h
        · rw [dstOf, List.getElem?_eq_none h] at hj; cases hj
      have := h5 j (by simpa using hlt)
      exact of_decide_eq_true this hj
    · right
      rw [List.any_eq_true] at h5
      obtain ⟨j, _, h6⟩ := h5
      rw [Bool.and_eq_true, decide_eq_true_eq] at h6
      exact ⟨j, h6.1, h6.2⟩
theorem putAll_congr {g V : Nat → Value} (a0 : Act) : ∀ k, (∀ j, j < k → dstOf l j ≠ none → g j = V j) → putAll l g a0 k = putAll l V a0 k
  | 0, _ => rfl
  | k + 1, h => by
    have ih := putAll_congr a0 k (fun j hj => h j (by omega))
    simp only [putAll]
    rw [ih]
    cases hk : dstOf l k with
    | none => rfl
    | some t => rw [h k (by omega) (by rw [hk]; exact fun e => by cases e)]
theorem wp_region_know {id : Nat} {a0 : Act} {w : World} (hm : P.follows .mixedOrders = true) (hB : backB l = true) (hJ : injB l = true) (hsz : ((List.range l.length).all fun j => match dstOf l j with | some t => decide (t < a0.tmps.size) | none => true) = true) (hL : knowB l = true)
    (V : Nat → Value) (W : (Nat → Bool) → World) (h0 : W (fun j => decide (l.length ≤ j)) = w.drew)
    (hs : ∀ a : Act, (∀ j t, dstOf l j = some t → a.eval (.tmp t) = V j) → (∀ t, (∀ j, dstOf l j ≠ some t) → a.eval (.tmp t) = a0.eval (.tmp t)) → ∀ i o, l[i]? = some o → ∀ D : Nat → Bool, (∀ i j, D i = true → waitB l i j = true → D j = true) → D i = false → (∀ j, waitB l i j = true → D j = true) → runsTo P (fun u w' => w' = W (fun j => if j = i then true else D j) ∧ (o.dst = none ∨ u = V i)) ((execOp a.eval o).run P (W D)))
    (he : Q .normal (putAll l V a0 l.length) (W fun _ => true)) : (Code.region id l.toArray true).wp P Q a0 w := by
  have hsz' : ∀ j t, dstOf l j = some t → t < a0.tmps.size := fun j t hd => by
    have hj : j < l.length := by
      rcases Nat.lt_or_ge j l.length with h | h
      · exact h
      · rw [dstOf, List.getElem?_eq_none h] at hd; cases hd
    rw [List.all_eq_true] at hsz
    have := hsz j (by simpa using hj)
    rw [hd] at this
    simpa using this
  refine wp_region_tab hm hB hJ hsz (fun D g w' => w' = W D ∧ (∀ j, l.length ≤ j → D j = true) ∧ ∀ j, D j = true → j < l.length → dstOf l j ≠ none → g j = V j) ⟨h0.symm, fun j hj => decide_eq_true hj, fun j hD hj => ?_⟩ ?_ ?_
  · have := of_decide_eq_true hD; omega
  · rintro D g a w' hT ⟨rfl, hbig, hg⟩ hcl i o ho hD hpre K hK
    obtain ⟨k1, k2, k3⟩ := knowB_spec hL ho
    have hil : i < l.length := (List.getElem?_eq_some_iff.1 ho).1
    have hdst : dstOf l i = o.dst := by simp [dstOf, ho]
    rw [if_pos (by unfold Region.wanted; rw [k1])]
    have e : execOp a.eval o = execOp (putAll l V a0 l.length).eval o := by
      refine execOp_congr o k2 fun x hx => ?_
      cases x with
      | tmp t =>
        have ht : t ∈ o.looksAt l.toArray := List.mem_append_left _ (List.mem_filterMap.2 ⟨.tmp t, by simpa using hx, rfl⟩)
        obtain ⟨p1, p2⟩ := putAll_eval hJ V a0 hsz' t l.length
        rcases k3 t ht with h | ⟨j, hj, hw⟩
        · rw [hT.out t h, p2 (fun j _ => h j)]
        · have hjl : j < l.length := by
            rcases Nat.lt_or_ge j l.length with h | h
            · exact h
            · rw [dstOf, List.getElem?_eq_none h] at hj; cases hj
          rw [hT.at_ j t hj (hpre j hw), p1 j hjl hj, hg j (hpre j hw) hjl (by rw [hj]; exact fun e => by cases e)]
      | _ => rfl
    have step : ∀ u, (o.dst = none ∨ u = V i) → K (a.put o.dst u) (W (fun j => if j = i then true else D j)) := fun u hu => by
      refine hK u _ ⟨rfl, fun j hj => ?_, fun j hDj hj hd => ?_⟩
      · simp only []
        split
        · rfl
        · exact hbig j hj
      · by_cases hji : j = i
        · subst hji
          rcases hu with hu | hu
          · rw [hdst] at hd; exact absurd hu hd
          · simpa [updG] using hu
        · simp only [if_neg hji] at hDj
          simpa [updG, hji] using hg j hDj hj hd
    have hV : ∀ j t, dstOf l j = some t → (putAll l V a0 l.length).eval (.tmp t) = V j := fun j t hj => by
      have hjl : j < l.length := by
        rcases Nat.lt_or_ge j l.length with h | h
        · exact h
        · rw [dstOf, List.getElem?_eq_none h] at hj; cases hj
      exact (putAll_eval hJ V a0 hsz' t l.length).1 j hjl hj
    have hO : ∀ t, (∀ j, dstOf l j ≠ some t) → (putAll l V a0 l.length).eval (.tmp t) = a0.eval (.tmp t) := fun t h => (putAll_eval hJ V a0 hsz' t l.length).2 (fun j _ => h j)
    have hrun := hs _ hV hO i o ho D hcl hD hpre
    unfold Oper.wp
    rw [e]
    generalize (execOp (putAll l V a0 l.length).eval o).run P (W D) = res at hrun
    cases res with
    | halt x w' => simp only [runsTo] at hrun
    | ok x w' =>
      cases x <;> simp only [runsTo] at hrun <;> simp only [Oper.upon]
      case value u =>
        obtain ⟨rfl, h2⟩ := hrun
        exact step u h2
      case skip =>
        obtain ⟨rfl, h2⟩ := hrun
        exact step _ h2
      case enter f args =>
        refine hrun.mono fun e w'' ⟨u, he, h1, h2⟩ => ?_
        subst he h1
        exact step u h2
  · rintro D g w' ⟨rfl, hbig, hg⟩ hD
    have e1 : D = fun _ => true := funext fun j => by
      rcases Nat.lt_or_ge j l.length with h | h
      · exact hD j h
      · exact hbig j h
    subst e1
    rw [putAll_congr (V := V) a0 l.length (fun j hj hd => hg j rfl hj hd)]
    exact he
end
theorem ev_nfK {a : Act} {t : Tmp} {v : Value} (h : a.eval (.tmp t) = v) : a.tmps[t]?.getD undef = v := by
  rw [← h]
  simp [Act.eval]
theorem notDstK {l : List Oper} {t : Tmp} (h : (l.all fun o => decide (o.dst ≠ some t)) = true) : ∀ j, dstOf l j ≠ some t := fun j hj => by
  unfold dstOf at hj
  cases ho : l[j]? with
  | none => rw [ho] at hj; cases hj
  | some o =>
    rw [ho] at hj
    rw [List.all_eq_true] at h
    exact of_decide_eq_true (h o (List.mem_of_getElem? ho)) hj
def st2 (w : World) (i1 : Nat) (p1 : Addr) (v1 : Value) (i2 : Nat) (p2 : Addr) (v2 : Value) (D : Nat → Bool) : World :=
  if D i2 = true then (if D i1 = true then w.setCell p1 v1 else w).setCell p2 v2 else if D i1 = true then w.setCell p1 v1 else w
section
variable {w : World} {i1 i2 : Nat} {p1 p2 : Addr} {v1 v2 : Value} {D : Nat → Bool}
theorem st2_no {i : Nat} (h1 : i1 ≠ i) (h2 : i2 ≠ i) : st2 w i1 p1 v1 i2 p2 v2 (fun j => if j = i then true else D j) = st2 w i1 p1 v1 i2 p2 v2 D := by
  unfold st2
  simp only [if_neg h1, if_neg h2]
theorem st2_two (h : i1 ≠ i2) : st2 w i1 p1 v1 i2 p2 v2 (fun j => if j = i2 then true else D j) = (if D i1 = true then w.setCell p1 v1 else w).setCell p2 v2 := by
  unfold st2
  simp only [if_neg h, if_true]
theorem st2_b (h : i1 ≠ i2) (hD : D i2 = false) : st2 w i1 p1 v1 i2 p2 v2 (fun j => if j = i2 then true else D j) = (st2 w i1 p1 v1 i2 p2 v2 D).setCell p2 v2 := by
  rw [st2_two h]
  unfold st2
  rw [hD]
  simp
theorem set_comm (hp : p1.block ≠ p2.block) : (w.setCell p1 v1).setCell p2 v2 = (w.setCell p2 v2).setCell p1 v1 := by
  unfold World.setCell
  congr 1
  refine Array.ext (by simp) fun k h1 h2 => ?_
  simp only [Array.getElem_modify]
  by_cases e1 : p1.block = k
  · have e2 : p2.block ≠ k := fun e => hp (by rw [e1, e])
    simp [e1, e2]
  · by_cases e2 : p2.block = k
    · simp [e1, e2]
    · simp [e1, e2]
theorem st2_a (h : i1 ≠ i2) (hp : p1.block ≠ p2.block) (hD : D i1 = false) : st2 w i1 p1 v1 i2 p2 v2 (fun j => if j = i1 then true else D j) = (st2 w i1 p1 v1 i2 p2 v2 D).setCell p1 v1 := by
  unfold st2
  rw [hD]
  simp only [if_neg (Ne.symm h), if_true, Bool.false_eq_true, if_false]
  split
  · rw [set_comm hp]
  · rfl
theorem st2_start {n : Nat} (h1 : i1 < n) (h2 : i2 < n) : st2 w i1 p1 v1 i2 p2 v2 (fun j => decide (n ≤ j)) = w := by
  unfold st2
  rw [if_neg (by simp; omega), if_neg (by simp; omega)]
theorem st2_all : st2 w i1 p1 v1 i2 p2 v2 (fun _ => true) = (w.setCell p1 v1).setCell p2 v2 := rfl
theorem st2_arr {g : Nat} {t : TypeId} {cs : List Value} (h : Arr w g t cs) (h1 : p1.block ≠ g) (h2 : p2.block ≠ g) : Arr (st2 w i1 p1 v1 i2 p2 v2 D) g t cs := by
  unfold st2
  split
  · refine Arr.other ?_ h2 _
    split
    · exact h.other h1 _
    · exact h
  · split
    · exact h.other h1 _
    · exact h
theorem st2_len {g k1 k2 : Nat} {t : TypeId} {cs : List Value} (h : Arr w g t cs) (q1 : p1 = ⟨g, k1, none⟩ ∨ p1.block ≠ g) (q2 : p2 = ⟨g, k2, none⟩ ∨ p2.block ≠ g) : ∃ cs', Arr (st2 w i1 p1 v1 i2 p2 v2 D) g t cs' ∧ cs'.length = cs.length := by
  have s1 : ∀ {w : World} {cs : List Value} {p : Addr} {k : Nat} (v : Value), Arr w g t cs → (p = ⟨g, k, none⟩ ∨ p.block ≠ g) → ∃ cs', Arr (w.setCell p v) g t cs' ∧ cs'.length = cs.length := by
    intro w cs p k v h hp
    rcases hp with rfl | hp
    · exact ⟨_, h.set k v, by simp⟩
    · exact ⟨_, h.other hp v, rfl⟩
  unfold st2
  split
  · split
    · obtain ⟨cs', a1, a2⟩ := s1 v1 h q1
      obtain ⟨cs'', a3, a4⟩ := s1 v2 a1 q2
      exact ⟨cs'', a3, by omega⟩
    · exact s1 v2 h q2
  · split
    · exact s1 v1 h q1
    · exact ⟨cs, h, rfl⟩
end
end Go.Proofs.YtomednfddpggaaaGreat

/- Regions that draw their order: what each operation leaves is known but for what calls hand back, and what is kept of the world, whatever is done already. -/
namespace Go.Proofs.YtomednfddpggaaaGreat
open Go Go.RowKit
section
variable {P : Program} {Q : Exit → Act → World → Prop} {l : List Oper}
theorem wp_region_some {id : Nat} {a0 : Act} {w : World} (hm : P.follows .mixedOrders = true) (hB : backB l = true) (hJ : injB l = true) (hsz : ((List.range l.length).all fun j => match dstOf l j with | some t => decide (t < a0.tmps.size) | none => true) = true) (hL : knowB l = true)
    {Γ : Type} (V : Γ → Nat → Value) (M : Γ → (Nat → Bool) → World → Prop) (c0 : Γ) (h0 : M c0 (fun j => decide (l.length ≤ j)) w.drew)
    (hs : ∀ c : Γ, ∀ a : Act, (∀ j t, dstOf l j = some t → a.eval (.tmp t) = V c j) → (∀ t, (∀ j, dstOf l j ≠ some t) → a.eval (.tmp t) = a0.eval (.tmp t)) → ∀ i o, l[i]? = some o → ∀ D : Nat → Bool, (∀ i j, D i = true → waitB l i j = true → D j = true) → D i = false → (∀ j, waitB l i j = true → D j = true) → ∀ w1, M c D w1 → runsTo P (fun u w' => ∃ c', M c' (fun j => if j = i then true else D j) w' ∧ (∀ j, j < l.length → D j = true → V c' j = V c j) ∧ (o.dst = none ∨ u = V c' i)) ((execOp a.eval o).run P w1))
    (he : ∀ c w1, M c (fun _ => true) w1 → Q .normal (putAll l (V c) a0 l.length) w1) : (Code.region id l.toArray true).wp P Q a0 w := by
  have hsz' : ∀ j t, dstOf l j = some t → t < a0.tmps.size := fun j t hd => by
    have hj : j < l.length := by
      rcases Nat.lt_or_ge j l.length with h | h
      · exact h
      · rw [dstOf, List.getElem?_eq_none h] at hd; cases hd
    rw [List.all_eq_true] at hsz
    have := hsz j (by simpa using hj)
    rw [hd] at this
    simpa using this
  refine wp_region_tab hm hB hJ hsz (fun D g w' => ∃ c, M c D w' ∧ (∀ j, l.length ≤ j → D j = true) ∧ ∀ j, D j = true → j < l.length → dstOf l j ≠ none → g j = V c j) ⟨c0, h0, fun j hj => decide_eq_true hj, fun j hD hj => ?_⟩ ?_ ?_
  · have := of_decide_eq_true hD; omega
  · rintro D g a w1 hT ⟨c, hM, hbig, hg⟩ hcl i o ho hD hpre K hK
    obtain ⟨k1, k2, k3⟩ := knowB_spec hL ho
    have hil : i < l.length := (List.getElem?_eq_some_iff.1 ho).1
    have hdst : dstOf l i = o.dst := by simp [dstOf, ho]
    rw [if_pos (by unfold Region.wanted; rw [k1])]
    have e : execOp a.eval o = execOp (putAll l (V c) a0 l.length).eval o := by
      refine execOp_congr o k2 fun x hx => ?_
      cases x with
      | tmp t =>
        have ht : t ∈ o.looksAt l.toArray := List.mem_append_left _ (List.mem_filterMap.2 ⟨.tmp t, by simpa using hx, rfl⟩)
        obtain ⟨p1, p2⟩ := putAll_eval hJ (V c) a0 hsz' t l.length
        rcases k3 t ht with h | ⟨j, hj, hw⟩
        · rw [hT.out t h, p2 (fun j _ => h j)]
        · have hjl : j < l.length := by
            rcases Nat.lt_or_ge j l.length with h | h
            · exact h
            · rw [dstOf, List.getElem?_eq_none h] at hj; cases hj
          rw [hT.at_ j t hj (hpre j hw), p1 j hjl hj, hg j (hpre j hw) hjl (by rw [hj]; exact fun e => by cases e)]
      | _ => rfl
    have step : ∀ u w', (∃ c', M c' (fun j => if j = i then true else D j) w' ∧ (∀ j, j < l.length → D j = true → V c' j = V c j) ∧ (o.dst = none ∨ u = V c' i)) → K (a.put o.dst u) w' := fun u w' ⟨c', hM', hsame, hu⟩ => by
      refine hK u _ ⟨c', hM', fun j hj => ?_, fun j hDj hj hd => ?_⟩
      · simp only []
        split
        · rfl
        · exact hbig j hj
      · by_cases hji : j = i
        · subst hji
          rcases hu with hu | hu
          · rw [hdst] at hd; exact absurd hu hd
          · simpa [updG] using hu
        · simp only [if_neg hji] at hDj
          rw [hsame j hj hDj]
          simpa [updG, hji] using hg j hDj hj hd
    have hV : ∀ j t, dstOf l j = some t → (putAll l (V c) a0 l.length).eval (.tmp t) = V c j := fun j t hj => by
      have hjl : j < l.length := by
        rcases Nat.lt_or_ge j l.length with h | h
        · exact h
        · rw [dstOf, List.getElem?_eq_none h] at hj; cases hj
      exact (putAll_eval hJ (V c) a0 hsz' t l.length).1 j hjl hj
    have hO : ∀ t, (∀ j, dstOf l j ≠ some t) → (putAll l (V c) a0 l.length).eval (.tmp t) = a0.eval (.tmp t) := fun t h => (putAll_eval hJ (V c) a0 hsz' t l.length).2 (fun j _ => h j)
    have hrun := hs c _ hV hO i o ho D hcl hD hpre w1 hM
    unfold Oper.wp
    rw [e]
    generalize (execOp (putAll l (V c) a0 l.length).eval o).run P w1 = res at hrun
    cases res with
    | halt x w' => simp only [runsTo] at hrun
    | ok x w' =>
      cases x <;> simp only [runsTo] at hrun <;> simp only [Oper.upon]
      case value u => exact step u _ hrun
      case skip => exact step _ _ hrun
      case enter f args =>
        refine hrun.mono fun e w'' ⟨u, he, h1⟩ => ?_
        subst he
        exact step u _ h1
  · rintro D g w1 ⟨c, hM, hbig, hg⟩ hD
    have e1 : D = fun _ => true := funext fun j => by
      rcases Nat.lt_or_ge j l.length with h | h
      · exact hD j h
      · exact hbig j h
    subst e1
    rw [putAll_congr (V := V c) a0 l.length (fun j hj hd => hg j rfl hj hd)]
    exact he c w1 hM
end
end Go.Proofs.YtomednfddpggaaaGreat
