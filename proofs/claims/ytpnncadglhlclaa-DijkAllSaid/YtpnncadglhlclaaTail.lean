/- Regions that draw their order and whose last operations are forced: the operations ahead of them are walked once, in the order of the text (XGen); then the tail, in its order. -/
import Derived.Test.YtpnncadglhlclaaStep2
import Derived.StillTail
namespace Go.Proofs.Ytpnncadglhlclaa
open Go Go.RowKit
section
variable {P : Program} {md : Region.Mode} {ops : Array Oper} {w0 : World}
def gAnyT (P : Program) (md : Region.Mode) (ops : Array Oper) (w0 : World) (n : Nat) (L : Array Bool → Act → Env → Prop) : Nat → Array Bool → Act → Env → Prop
  | 0, l, a, G => L l a G
  | f + 1, l, a, G => Region.ready md ops l ≠ [] ∧ ∀ i ∈ Region.ready md ops l, i < n ∧ gOp P ops w0 i (gAnyT P md ops w0 n L f (l.setIfInBounds i true)) a G

theorem gAnyT_first {n i : Nat} {oi : Oper} {r : Out} {L : Array Bool → Act → Env → Prop} (hi : ops[i]? = some oi)
    (hs : Region.sinkB md ops n = true) (hc : Region.chainB md ops n = true) (hn : n < ops.size) (hin : i < n)
    (hdone : ∀ l a G, L l a G → ∀ j ∈ Region.ready md ops l, n ≤ j) :
    ∀ (f : Nat) (l : Array Bool) (a : Act) (G : Env), HeadInv md ops n l →
      (∀ j oj, ops[j]? = some oj → j ≠ i → l.getD j true = false → (∀ e ∈ oj.after, Region.binds md e = true → e.on ≠ i) → oi.apart ops oj = true) →
      i ∈ Region.ready md ops l → Leaves P ops w0 oi a G r →
      gAnyT P md ops w0 n L f (l.setIfInBounds i true) (putA a oi.dst r) (putG G oi.dst r) → gAnyT P md ops w0 n L (f + 1) l a G := by
  intro f
  induction f with
  | zero =>
    intro l a G inv _ hr hy H
    have hun := (mem_ready.1 hr).1
    refine ⟨fun h => (by rw [h] at hr; cases hr), fun j hj => ?_⟩
    have hjn : j < n := by
      rcases Nat.lt_or_ge j n with h | h
      · exact h
      · exact absurd hj (tail_waits hs hc hn inv _ i rfl hin hun j h)
    refine ⟨hjn, ?_⟩
    by_cases hji : j = i
    · subst hji; unfold gOp; simp only [hi]; exact ⟨r, hy, H⟩
    · have := hdone _ _ _ H j (ready_mono hj hji)
      omega
  | succ f ih =>
    intro l a G inv hfree hr hy H
    have hun := (mem_ready.1 hr).1
    refine ⟨fun h => (by rw [h] at hr; cases hr), fun j hj => ?_⟩
    have hjn : j < n := by
      rcases Nat.lt_or_ge j n with h | h
      · exact h
      · exact absurd hj (tail_waits hs hc hn inv _ i rfl hin hun j h)
    refine ⟨hjn, ?_⟩
    by_cases hji : j = i
    · subst hji; unfold gOp; simp only [hi]; exact ⟨r, hy, H⟩
    · have h1 := (H.2 j (ready_mono hj hji)).2
      obtain ⟨hjun, oj, hoj, hall⟩ := mem_ready.1 hj
      have hnot : ∀ e ∈ oj.after, Region.binds md e = true → e.on ≠ i := fun e he hb heq => by
        have h1 := hall e he hb
        rw [heq, getD_both hun] at h1
        cases h1
      have hfree' : ∀ k ok, ops[k]? = some ok → k ≠ i → (l.setIfInBounds j true).getD k true = false →
          (∀ e ∈ ok.after, Region.binds md e = true → e.on ≠ i) → oi.apart ops ok = true := fun k ok hk hki hun hno => by
        refine hfree k ok hk hki ?_ hno
        by_cases hjk : j = k
        · subst hjk; exact hjun
        · rw [getD_set_ne true hjk] at hun; exact hun
      have h2 := gOp_put hoj (hfree j oj hoj hji hjun hnot) hy h1
      refine gOp_mono (fun a' G' h3 => ih (l.setIfInBounds j true) a' G' (inv.set hj hjn) hfree' (ready_mono hr (Ne.symm hji)) h3.1 ?_) h2
      rw [Array.setIfInBounds_comm _ _ hji]
      exact h3.2

theorem gAnyT_lex {n g : Nat} {Lq : Act → Env → Prop} (hs : Region.sinkB md ops n = true) (hc : Region.chainB md ops n = true) (hn : n < ops.size) :
    ∀ (l : List Oper) (k : Nat) (listed : Array Bool) (a : Act) (G : Env), (∀ j, j < l.length → l[j]? = ops[k + j]?) → k + l.length = n → HeadInv md ops n listed →
    Region.lexHead md ops g l.length k listed = true → gLex P ops w0 Lq l a G →
    gAnyT P md ops w0 n (fun listed' a' G' => Region.seqB md ops g n listed' = true ∧ Lq a' G') l.length listed a G
  | [], k, listed, a, G, _, hk, _, hB, h => by
    have : k = n := by simpa using hk
    subst this
    exact ⟨by simpa [Region.lexHead] using hB, h⟩
  | o :: l, k, listed, a, G, hl, hk, inv, hB, h => by
    have h0 : ops[k]? = some o := by simpa using (hl 0 (by simp)).symm
    simp only [List.length_cons, Region.lexHead, Bool.and_eq_true] at hB
    obtain ⟨⟨hr, hf⟩, hB'⟩ := hB
    have hkn : k < n := by simp only [List.length_cons] at hk; omega
    have hr' : k ∈ Region.ready md ops listed := by simpa using hr
    obtain ⟨r, hy, hK⟩ := h
    exact gAnyT_first h0 hs hc hn hkn (fun l' _ _ h j hj => seqB_ready h.1 j hj) l.length listed a G inv (Region.free_spec h0 hf) hr' hy
      (gAnyT_lex hs hc hn l (k + 1) _ _ _ (fun j hj => by have := hl (j + 1) (by simp; omega); simpa [Nat.add_assoc, Nat.add_comm 1 j] using this) (by simp only [List.length_cons] at hk; omega) (inv.set hr' hkn) hB' hK)

theorem wpAny_of_gAnyT {n g : Nat} {L : Array Bool → Act → Env → Prop} {Q : Exit → Act → World → Prop}
    (hL : ∀ listed a G, L listed a G → ∀ w, Grows w0 w → ∀ a', Conc G a a' w → wpAny P md ops Q g listed a' w) :
    ∀ (f : Nat) (l : Array Bool) (a : Act) (G : Env) (a' : Act) (w : World), Grows w0 w → AllLast G → Conc G a a' w →
    gAnyT P md ops w0 n L f l a G → wpAny P md ops Q (f + g) l a' w
  | 0, l, a, G, a', w, hw, _, hc, h => by rw [Nat.zero_add]; exact hL _ _ _ h w hw a' hc
  | f + 1, l, a, G, a', w, hw, hG, hc, h => by
    rw [show f + 1 + g = (f + g) + 1 by omega]
    refine ⟨fun h0 => absurd h0 h.1, fun i hi => ?_⟩
    have h1 := (h.2 i hi).2
    unfold gOp at h1
    unfold wpOp
    split
    · rename_i ho
      simp only [ho] at h1
      exact wpAny_of_gAnyT hL f _ a G a' w hw hG hc h1
    · rename_i o ho
      simp only [ho] at h1
      obtain ⟨r, ⟨hg, hd, hy⟩, hK⟩ := h1
      rw [wanted_conc hg hc]
      rcases hy with ⟨hwant, hl, hf, howe⟩ | ⟨hwant, rfl⟩
      · rw [if_pos hwant]
        refine .inl ?_
        have hrun := howe w hw a' (fun t _ => hc.2 t)
        unfold Oper.wp
        generalize (execOp a'.eval o).run P w = res at hrun
        cases res with
        | halt x w' => simp only [runsTo] at hrun
        | ok x w' =>
          cases x <;> simp only [runsTo] at hrun <;> simp only [Oper.upon]
          case value u => exact wpAny_of_gAnyT hL f _ _ _ _ _ (hw.trans hrun.1) (hG.putG hl) (hc.step hG hrun.1 hd hf hrun.2) hK
          case skip => exact wpAny_of_gAnyT hL f _ _ _ _ _ (hw.trans hrun.1) (hG.putG hl) (hc.step hG hrun.1 hd hf hrun.2) hK
          case enter f args =>
            refine hrun.mono fun e w'' ⟨u, he, h1, h2⟩ => ?_
            subst he
            exact wpAny_of_gAnyT hL _ _ _ _ _ _ (hw.trans h1) (hG.putG hl) (hc.step hG h1 hd hf h2) hK
      · rw [hwant]
        simp only [Bool.false_eq_true, if_false]
        have hG0 : putG G o.dst (.inl undef) = G := by cases o.dst <;> rfl
        rw [hG0] at hK
        have hc0 := hc.step hG (Grows.refl w) hd (r := .inl undef) (u := undef) trivial rfl
        rw [hG0] at hc0
        exact wpAny_of_gAnyT hL f _ _ _ _ _ hw hG hc0 hK

def tailB (md : Region.Mode) (ops : Array Oper) (n : Nat) : Bool :=
  decide (n < ops.size) && Region.sinkB md ops n && Region.chainB md ops n && Region.lexHead md ops (ops.size - n) n 0 (Array.replicate ops.size false)

theorem wp_region_tail {w0 : World} {id : Nat} {Q : Exit → Act → World → Prop} {a : Act} {w : World} {l : List Oper} (n : Nat) (hm : P.follows .mixedOrders = true) (hB : tailB .any l.toArray n = true)
    (hw0 : Grows w0 w) (h : gLex P l.toArray w0 (fun a G => ∀ w', Grows w0 w' → ∀ a', Conc G a a' w' → wpList P l.toArray Q (l.drop n) a' w') (l.take n) a Env.no) : (Code.region id l.toArray true).wp P Q a w := by
  simp only [tailB, Bool.and_eq_true, decide_eq_true_eq] at hB
  obtain ⟨⟨⟨hn, hs⟩, hc⟩, hx⟩ := hB
  have hlen : l.length = n + (l.drop n).length := by simp at hn ⊢; omega
  have hn' : n < l.length := by simpa using hn
  refine wp_region_any hm ?_
  have inv : HeadInv .any l.toArray n (Array.replicate l.length false) := by
    refine ⟨by simp, ?_, ?_⟩
    · intro j oj hj hl
      rw [getD_replicate_false] at hl
      cases hl
    · intro t h1 h2
      have : t < l.length := by simpa using h2
      simp [this]
  have e1 : (l.take n).length = n := by simp; omega
  have e2 : (l.drop n).length = l.length - n := by simp
  have hx' : Region.lexHead .any l.toArray (l.length - n) (l.take n).length 0 (Array.replicate l.length false) = true := by rw [e1]; simpa using hx
  have hg := gAnyT_lex (P := P) (w0 := w0) (g := l.length - n) hs hc hn (l.take n) 0 (Array.replicate l.length false) a Env.no (fun j hj => by
      have : j < n := by rw [e1] at hj; exact hj
      simp [this]) (by rw [e1]; omega) inv hx' h
  have hall := wpAny_of_gAnyT (Q := Q) (g := l.length - n) (fun listed a' G' hL w' hw' a'' hc' => by
    have hh := hL.2 w' hw' a'' hc'
    have := wpAny_of_seq (P := P) (md := .any) (ops := l.toArray) (l.drop n) n listed a'' w' (fun j => by simp) (by rw [e2]; exact hL.1) hh
    rwa [e2] at this) (l.take n).length _ a Env.no a { w with drawn := w.drawn + 1 } (hw0.trans (Grows.drawn w _)) (fun t p h => by cases h) ⟨rfl, fun t => rfl⟩ hg
  have e3 : (l.take n).length + (l.length - n) = l.length := by rw [e1]; omega
  rw [e3] at hall
  simpa using hall
/-- The region in a world of which all that is known is what an earlier one held. -/
theorem wp_region_tail2 {id : Nat} {Q : Exit → Act → World → Prop} {a : Act} {w : World} {x : Later w} {l : List Oper} (n : Nat) (hm : P.follows .mixedOrders = true) (hB : tailB .any l.toArray n = true)
    (h : gLex P l.toArray w (fun a G => ∀ w', Grows w w' → ∀ a', Conc G a a' w' → wpList P l.toArray Q (l.drop n) a' w') (l.take n) a Env.no) : (Code.region id l.toArray true).wp P Q a x.now :=
  wp_region_tail n hm hB x.grows h
theorem wp_region_tail1 {id : Nat} {Q : Exit → Act → World → Prop} {a : Act} {w : World} {l : List Oper} (n : Nat) (hm : P.follows .mixedOrders = true) (hB : tailB .any l.toArray n = true)
    (h : gLex P l.toArray w (fun a G => ∀ w', Grows w w' → ∀ a', Conc G a a' w' → wpList P l.toArray Q (l.drop n) a' w') (l.take n) a Env.no) : (Code.region id l.toArray true).wp P Q a w :=
  wp_region_tail n hm hB (Grows.refl w) h
/-- The head's end: nothing is left that hangs on the world. -/
theorem gLex_endT {ops : Array Oper} {Q : Exit → Act → World → Prop} {tail : List Oper} {a : Act} (h : ∀ x : Later w0, wpList P ops Q tail a x.now) :
    gLex P ops w0 (fun a G => ∀ w', Grows w0 w' → ∀ a', Conc G a a' w' → wpList P ops Q tail a' w') [] a Env.no :=
  fun w' hw a' hc => by rw [conc_no hc]; exact h ⟨w', hw⟩
/-- The head's end: one value is left that hangs on the world. -/
theorem gLex_endT1 {ops : Array Oper} {Q : Exit → Act → World → Prop} {tail : List Oper} {a : Act} {t : Tmp} {p : Pr} (hlt : t < a.tmps.size) (h : ∀ (x : Later w0) v, p v x.now → wpList P ops Q tail (a.put (some t) v) x.now) :
    gLex P ops w0 (fun a G => ∀ w', Grows w0 w' → ∀ a', Conc G a a' w' → wpList P ops Q tail a' w') [] a (Env.no.upd t p) :=
  fun w' hw a' hc => by
    obtain ⟨v, hv⟩ := conc_upd hc hlt
    rcases hv with ⟨hp, hc2⟩ | hne
    · rw [conc_no hc2]
      exact h ⟨w', hw⟩ v hp
    · exact absurd rfl hne
/-- One operation that leaves a value which hangs on the world. -/
theorem gLex_prop {ops : Array Oper} {Q : Act → Env → Prop} {a : Act} {G : Env} {o : Oper} {rest : List Oper} {t : Tmp} (hg : o.guard = none) (hp : plainB ops o G = true) (hd : o.dst = some t) (hlt : t < a.tmps.size)
    (p : Pr) (hl : Lasts p) (hr : ∀ x : Later w0, runsTo P (fun u w' => Grows x.now w' ∧ p u w') ((execOp a.eval o).run P x.now))
    (h : gLex P ops w0 Q rest a (G.upd t p)) : gLex P ops w0 Q (o :: rest) a G := by
  obtain ⟨h1, h2, h3, h4⟩ := plain_spec hp
  refine ⟨.inr p, ⟨h1, h2, .inl ⟨by unfold Region.wanted; rw [hg], hl, ⟨t, hd, hlt⟩, fun w hw a' ha' => ?_⟩⟩, ?_⟩
  · rw [exec_same h4 h3 ha']
    exact hr ⟨w, hw⟩
  · rw [hd]
    exact h
/-- A slice of one element that was just made. -/
def One (v : Value) : Pr := fun u w => ∃ g, u = .slice (some ⟨g, 0, none⟩) 1 1 ∧ Holds w ⟨g, 0, none⟩ v
theorem One.lasts (v : Value) : Lasts (One v) := fun _ _ _ hg ⟨g, e, h⟩ => ⟨g, e, ⟨hg.keeps h.cell⟩⟩
end
end Go.Proofs.Ytpnncadglhlclaa
