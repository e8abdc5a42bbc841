/- Regions that draw their order: what each operation leaves is known but for what calls hand back, and what is kept of the world, whatever is done already. -/
import Derived.Test.YteodapefimlakaaQContractBuilds14
/- Regions that draw their order: what each operation leaves is known but for what calls hand back, and what is kept of the world, whatever is done already. -/
namespace Go.Proofs.Yteodapefimlakaa
open Go Go.RowKit
section
variable {P : Program} {Q : Exit → Act → World → Prop} {l : List Oper}
theorem wp_region_some {id : Nat} {a0 : Act} {w : World} (hm : P.follows .mixedOrders = true) (hB : backB l = true) (hJ : injB l = true) (hsz : ((List.range l.length).all fun j => match dstOf l j with | some t => decide (t < a0.tmps.size) | none => true) = true) (hL : knowB l = true)
    {Γ : Type} (V : Γ → Nat → Value) (M : Γ → (Nat → Bool) → World → Prop) (c0 : Γ) (h0 : M c0 (fun j => decide (l.length ≤ j)) w.drew)
    (hs : ∀ c : Γ, ∀ a : Act, (∀ j t, dstOf l j = some t → a.eval (.tmp t) = V c j) → (∀ t, (∀ j, dstOf l j ≠ some t) → a.eval (.tmp t) = a0.eval (.tmp t)) → ∀ i o, l[i]? = some o → ∀ D : Nat → Bool, (∀ i j, D i = true → waitB l i j = true → D j = true) → D i = false → (∀ j, waitB l i j = true → D j = true) → ∀ w1, M c D w1 → runsTo P (fun u w' => ∃ c', M c' (fun j => if j = i then true else D j) w' ∧ (∀ j, j < l.length → D j = true → V c' j = V c j) ∧ (o.dst = none ∨ u = V c' i)) ((execOp a.eval o).run P w1))
    (he : ∀ c w1, M c (fun _ => true) w1 → Q .normal (putAll l (V c) a0 l.length) w1) : (Code.region id l.toArray true).wp P Q a0 w := by
  have hsz' : ∀ j t, dstOf l j = some t → t < a0.tmps.size := fun j t hd => by
    have hj : j < l.length := by
      rcases Nat.lt_or_ge j l.length with h | h
      · exact h
      · rw [dstOf, List.getElem?_eq_none h] at hd; cases hd
    rw [List.all_eq_true] at hsz
    have := hsz j (by simpa using hj)
    rw [hd] at this
    simpa using this
  refine wp_region_tab hm hB hJ hsz (fun D g w' => ∃ c, M c D w' ∧ (∀ j, l.length ≤ j → D j = true) ∧ ∀ j, D j = true → j < l.length → dstOf l j ≠ none → g j = V c j) ⟨c0, h0, fun j hj => decide_eq_true hj, fun j hD hj => ?_⟩ ?_ ?_
  · have := of_decide_eq_true hD; omega
  · rintro D g a w1 hT ⟨c, hM, hbig, hg⟩ hcl i o ho hD hpre K hK
    obtain ⟨k1, k2, k3⟩ := knowB_spec hL ho
    have hil : i < l.length := (List.getElem?_eq_some_iff.1 ho).1
    have hdst : dstOf l i = o.dst := by simp [dstOf, ho]
    rw [if_pos (by unfold Region.wanted; rw [k1])]
    have e : execOp a.eval o = execOp (putAll l (V c) a0 l.length).eval o := by
      refine execOp_congr o k2 fun x hx => ?_
      cases x with
      | tmp t =>
        have ht : t ∈ o.looksAt l.toArray := List.mem_append_left _ (List.mem_filterMap.2 ⟨.tmp t, by simpa using hx, rfl⟩)
        obtain ⟨p1, p2⟩ := putAll_eval hJ (V c) a0 hsz' t l.length
        rcases k3 t ht with h | ⟨j, hj, hw⟩
        · rw [hT.out t h, p2 (fun j _ => h j)]
        · have hjl : j < l.length := by
            rcases Nat.lt_or_ge j l.length with h | h
            · exact h
            · rw [dstOf, List.getElem?_eq_none h] at hj; cases hj
          rw [hT.at_ j t hj (hpre j hw), p1 j hjl hj, hg j (hpre j hw) hjl (by rw [hj]; exact fun e => by cases e)]
      | _ => rfl
    have step : ∀ u w', (∃ c', M c' (fun j => if j = i then true else D j) w' ∧ (∀ j, j < l.length → D j = true → V c' j = V c j) ∧ (o.dst = none ∨ u = V c' i)) → K (a.put o.dst u) w' := fun u w' ⟨c', hM', hsame, hu⟩ => by
      refine hK u _ ⟨c', hM', fun j hj => ?_, fun j hDj hj hd => ?_⟩
      · simp only []
        split
        · rfl
        · exact hbig j hj
      · by_cases hji : j = i
        · subst hji
          rcases hu with hu | hu
          · rw [hdst] at hd; exact absurd hu hd
          · simpa [updG] using hu
        · simp only [if_neg hji] at hDj
          rw [hsame j hj hDj]
          simpa [updG, hji] using hg j hDj hj hd
    have hV : ∀ j t, dstOf l j = some t → (putAll l (V c) a0 l.length).eval (.tmp t) = V c j := fun j t hj => by
      have hjl : j < l.length := by
        rcases Nat.lt_or_ge j l.length with h | h
        · exact h
        · rw [dstOf, List.getElem?_eq_none h] at hj; cases hj
      exact (putAll_eval hJ (V c) a0 hsz' t l.length).1 j hjl hj
    have hO : ∀ t, (∀ j, dstOf l j ≠ some t) → (putAll l (V c) a0 l.length).eval (.tmp t) = a0.eval (.tmp t) := fun t h => (putAll_eval hJ (V c) a0 hsz' t l.length).2 (fun j _ => h j)
    have hrun := hs c _ hV hO i o ho D hcl hD hpre w1 hM
    unfold Oper.wp
    rw [e]
    generalize (execOp (putAll l (V c) a0 l.length).eval o).run P w1 = res at hrun
    cases res with
    | halt x w' => simp only [runsTo] at hrun
    | ok x w' =>
      cases x <;> simp only [runsTo] at hrun <;> simp only [Oper.upon]
      case value u => exact step u _ hrun
      case skip => exact step _ _ hrun
      case enter f args =>
        refine hrun.mono fun e w'' ⟨u, he, h1⟩ => ?_
        subst he
        exact step u _ h1
  · rintro D g w1 ⟨c, hM, hbig, hg⟩ hD
    have e1 : D = fun _ => true := funext fun j => by
      rcases Nat.lt_or_ge j l.length with h | h
      · exact hD j h
      · exact hbig j h
    subst e1
    rw [putAll_congr (V := V c) a0 l.length (fun j hj hd => hg j rfl hj hd)]
    exact he c w1 hM
end
end Go.Proofs.Yteodapefimlakaa
