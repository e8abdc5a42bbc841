/- Regions that draw their order: one walk of the text's order serves every order, where a value that an operation leaves may hang on the world (new memory) and is known by a lasting property alone. -/
import Derived.Orders
import Derived.Still
import Derived.Below
import Derived.Calls
namespace Go.Proofs.Ytpnncadglhlclaa
open Go Go.RowKit

abbrev Pr := Value → World → Prop
abbrev Env := Tmp → Option Pr
def Env.no : Env := fun _ => none
def Env.upd (G : Env) (d : Tmp) (p : Pr) : Env := fun t => if t = d then some p else G t

/-- What was there stays as it is; new memory may come. -/
def Grows (w w' : World) : Prop := Below w.heap.size w w'
theorem Grows.refl (w : World) : Grows w w := Below.refl _ _
theorem Grows.trans {a b c : World} (h : Grows a b) (k : Grows b c) : Grows a c := Below.trans h (Below.mono k h.size)
theorem Grows.drawn (w : World) (n : Nat) : Grows w { w with drawn := n } := ⟨rfl, rfl, rfl, Nat.le_refl _, fun _ _ => rfl⟩
def Lasts (p : Pr) : Prop := ∀ v a b, Grows a b → p v a → p v b

/-- What an operation leaves: a known value, or one with a property. -/
abbrev Out := Value ⊕ Pr
def Out.ok : Out → Value → World → Prop
  | .inl v, u, _ => u = v
  | .inr p, u, w => p u w
def Out.lasts : Out → Prop
  | .inl _ => True
  | .inr p => Lasts p
def putA (a : Act) (d : Option Tmp) : Out → Act
  | .inl v => a.put d v
  | .inr _ => a
def putG (G : Env) : Option Tmp → Out → Env
  | some d, .inr p => G.upd d p
  | _, _ => G
/-- May this outcome go into that slot? -/
def fits (a : Act) (d : Option Tmp) : Out → Prop
  | .inl _ => True
  | .inr _ => ∃ t, d = some t ∧ t < a.tmps.size

def runsTo (P : Program) (q : Value → World → Prop) : Result Next → Prop
  | .ok (.value u) w => q u w
  | .ok .skip w => q undef w
  | .ok (.enter f args) w => Calls P f args w fun e w' => ∃ u, e = .returned u ∧ q u w'
  | _ => False

def relAt (G : Env) (a : Act) (t : Tmp) (x : Option Value) (w : World) : Prop :=
  match G t with
  | none => x = a.tmps[t]?
  | some p => ∃ v, x = some v ∧ p v w
def Conc (G : Env) (a a' : Act) (w : World) : Prop := a'.defers = a.defers ∧ ∀ t, relAt G a t a'.tmps[t]? w

section
variable {P : Program} {ops : Array Oper} {md : Region.Mode} {w0 : World}

def Owed (P : Program) (ops : Array Oper) (w0 : World) (o : Oper) (a : Act) (G : Env) (r : Out) : Prop :=
  ∀ w, Grows w0 w → ∀ a' : Act, (∀ t ∈ o.looksAt ops, relAt G a t a'.tmps[t]? w) → runsTo P (fun u w' => Grows w w' ∧ r.ok u w') ((execOp a'.eval o).run P w)

def guardFree (ops : Array Oper) (o : Oper) (G : Env) : Prop := ∀ g b t, o.guard = some (g, b) → (ops[g]?).bind (·.dst) = some t → G t = none
def dstFree (o : Oper) (G : Env) : Prop := ∀ d, o.dst = some d → G d = none

/-- The operation leaves this. -/
def Leaves (P : Program) (ops : Array Oper) (w0 : World) (o : Oper) (a : Act) (G : Env) (r : Out) : Prop :=
  guardFree ops o G ∧ dstFree o G ∧
  ((Region.wanted o (yielded ops a.tmps) = true ∧ r.lasts ∧ fits a o.dst r ∧ Owed P ops w0 o a G r) ∨ (Region.wanted o (yielded ops a.tmps) = false ∧ r = .inl undef))

def gOp (P : Program) (ops : Array Oper) (w0 : World) (i : Nat) (K : Act → Env → Prop) (a : Act) (G : Env) : Prop :=
  match ops[i]? with
  | none => K a G
  | some o => ∃ r, Leaves P ops w0 o a G r ∧ K (putA a o.dst r) (putG G o.dst r)

def gAny (P : Program) (md : Region.Mode) (ops : Array Oper) (w0 : World) (Q : Act → Env → Prop) : Nat → Array Bool → Act → Env → Prop
  | 0, l, a, G => Region.ready md ops l = [] ∧ Q a G
  | n + 1, l, a, G => (Region.ready md ops l = [] → Q a G) ∧ ∀ i ∈ Region.ready md ops l, gOp P ops w0 i (gAny P md ops w0 Q n (l.setIfInBounds i true)) a G

/-- The walk in the order of the text. -/
def gLex (P : Program) (ops : Array Oper) (w0 : World) (Q : Act → Env → Prop) : List Oper → Act → Env → Prop
  | [], a, G => Q a G
  | o :: rest, a, G => ∃ r, Leaves P ops w0 o a G r ∧ gLex P ops w0 Q rest (putA a o.dst r) (putG G o.dst r)

theorem gOp_mono {i : Nat} {a : Act} {G : Env} {K K' : Act → Env → Prop} (h : ∀ a G, K a G → K' a G) (hh : gOp P ops w0 i K a G) : gOp P ops w0 i K' a G := by
  unfold gOp at *
  split
  · rename_i ho; rw [ho] at hh; exact h _ _ hh
  · rename_i o ho
    rw [ho] at hh
    obtain ⟨r, h1, h2⟩ := hh
    exact ⟨r, h1, h _ _ h2⟩

theorem putA_tmps (a : Act) (d : Option Tmp) (r : Out) (t : Tmp) (h : d ≠ some t) : (putA a d r).tmps[t]? = a.tmps[t]? := by
  cases r with
  | inr p => rfl
  | inl v =>
    cases d with
    | none => rfl
    | some d =>
      have hne : d ≠ t := fun e => h (by rw [e])
      simp [putA, Act.put, Array.getElem?_setIfInBounds_ne hne]
theorem putG_at (G : Env) (d : Option Tmp) (r : Out) (t : Tmp) (h : d ≠ some t) : putG G d r t = G t := by
  cases r with
  | inl v => cases d <;> rfl
  | inr p =>
    cases d with
    | none => rfl
    | some d =>
      have hne : t ≠ d := fun e => h (by rw [e])
      simp [putG, Env.upd, hne]
theorem putA_size (a : Act) (d : Option Tmp) (r : Out) : (putA a d r).tmps.size = a.tmps.size := by
  cases r <;> cases d <;> simp [putA, Act.put]
theorem putA_defers (a : Act) (d : Option Tmp) (r : Out) : (putA a d r).defers = a.defers := by
  cases r <;> cases d <;> simp [putA, Act.put]
theorem putA_comm (a : Act) {x y : Option Tmp} (r s : Out) (h : ∀ d, x = some d → y ≠ some d) : putA (putA a x r) y s = putA (putA a y s) x r := by
  cases r <;> cases s <;> simp only [putA]
  exact Act.put_comm a _ _ h
theorem putG_comm (G : Env) {x y : Option Tmp} (r s : Out) (h : ∀ d, x = some d → y ≠ some d) : putG (putG G x r) y s = putG (putG G y s) x r := by
  cases x with
  | none => cases r <;> rfl
  | some d =>
    cases y with
    | none => cases s <;> rfl
    | some e =>
      have hne : d ≠ e := fun he => h d rfl (by rw [he])
      cases r <;> cases s <;> simp only [putG]
      funext t
      unfold Env.upd
      by_cases h1 : t = e
      · subst h1
        rw [if_pos rfl, if_neg (fun h => hne h.symm), if_pos rfl]
      · rw [if_neg h1, if_neg h1]

theorem relAt_put {a : Act} {G : Env} {d : Option Tmp} {r : Out} {t : Tmp} (h : d ≠ some t) (x : Option Value) (w : World) : relAt (putG G d r) (putA a d r) t x w = relAt G a t x w := by
  unfold relAt
  rw [putG_at G d r t h, putA_tmps a d r t h]

theorem wanted_putA (o : Oper) (a : Act) (d : Option Tmp) (r : Out) (h : ∀ t, d = some t → t ∉ o.looksAt ops) : Region.wanted o (yielded ops (putA a d r).tmps) = Region.wanted o (yielded ops a.tmps) := by
  cases r with
  | inr p => rfl
  | inl v => exact wanted_put o a d v h

theorem mem_looks_guard {o : Oper} {g : Nat} {b : Bool} {t : Tmp} (h1 : o.guard = some (g, b)) (h2 : (ops[g]?).bind (·.dst) = some t) : t ∈ o.looksAt ops := by
  unfold Oper.looksAt
  simp only [h1]
  refine List.mem_append_right _ ?_
  rw [h2]
  simp

/-- Of two operations that are apart, what the one leaves is nothing to the other. -/
theorem Leaves.put {o : Oper} {a : Act} {G : Env} {r s : Out} {d : Option Tmp} (h1 : ∀ t, d = some t → t ∉ o.looksAt ops) (h2 : ∀ t, d = some t → o.dst ≠ some t) :
    Leaves P ops w0 o (putA a d s) (putG G d s) r ↔ Leaves P ops w0 o a G r := by
  have hlook : ∀ t ∈ o.looksAt ops, d ≠ some t := fun t ht e => h1 t e ht
  have hg : guardFree ops o (putG G d s) ↔ guardFree ops o G := by
    unfold guardFree
    constructor <;> intro h g b t e1 e2
    · rw [← putG_at G d s t (hlook t (mem_looks_guard e1 e2))]; exact h g b t e1 e2
    · rw [putG_at G d s t (hlook t (mem_looks_guard e1 e2))]; exact h g b t e1 e2
  have hd : dstFree o (putG G d s) ↔ dstFree o G := by
    unfold dstFree
    constructor <;> intro h t e
    · rw [← putG_at G d s t (fun e' => h2 t e' e)]; exact h t e
    · rw [putG_at G d s t (fun e' => h2 t e' e)]; exact h t e
  have ho : Owed P ops w0 o (putA a d s) (putG G d s) r ↔ Owed P ops w0 o a G r := by
    unfold Owed
    constructor <;> intro h w hw a' ha'
    · refine h w hw a' fun t ht => ?_
      rw [relAt_put (hlook t ht)]; exact ha' t ht
    · refine h w hw a' fun t ht => ?_
      have := ha' t ht
      rw [relAt_put (hlook t ht)] at this; exact this
  have hf : fits (putA a d s) o.dst r ↔ fits a o.dst r := by
    cases r <;> simp [fits, putA_size]
  unfold Leaves
  rw [hg, hd, ho, hf, wanted_putA o a d s h1]

theorem gOp_put {j : Nat} {oi oj : Oper} {r : Out} (hj : ops[j]? = some oj) (hap : oi.apart ops oj = true) {K : Act → Env → Prop} {a : Act} {G : Env}
    (hy : Leaves P ops w0 oi a G r) (h : gOp P ops w0 j K (putA a oi.dst r) (putG G oi.dst r)) :
    gOp P ops w0 j (fun a' G' => Leaves P ops w0 oi a' G' r ∧ K (putA a' oi.dst r) (putG G' oi.dst r)) a G := by
  obtain ⟨h1, h2, h3⟩ := Oper.apart_spec hap
  unfold gOp at *
  simp only [hj] at *
  obtain ⟨s, hs, hK⟩ := h
  refine ⟨s, (Leaves.put h1 (fun t e => h2 t e)).1 hs, (Leaves.put h3 (fun t e e' => h2 t e' e)).2 hy, ?_⟩
  rw [← putA_comm a r s h2, ← putG_comm G r s h2]
  exact hK

theorem gAny_first {i : Nat} {oi : Oper} {r : Out} (hi : ops[i]? = some oi) : ∀ (n : Nat) (l : Array Bool) (a : Act) (G : Env),
    (∀ j oj, ops[j]? = some oj → j ≠ i → l.getD j true = false → (∀ e ∈ oj.after, Region.binds md e = true → e.on ≠ i) → oi.apart ops oj = true) →
    i ∈ Region.ready md ops l → Leaves P ops w0 oi a G r → ∀ {Q : Act → Env → Prop},
    gAny P md ops w0 Q n (l.setIfInBounds i true) (putA a oi.dst r) (putG G oi.dst r) → gAny P md ops w0 Q (n + 1) l a G := by
  intro n
  induction n with
  | zero =>
    intro l a G _ hr hy Q H
    refine ⟨fun h => (by rw [h] at hr; cases hr), fun j hj => ?_⟩
    by_cases hji : j = i
    · subst hji; unfold gOp; simp only [hi]; exact ⟨r, hy, H⟩
    · have := ready_mono hj hji
      rw [H.1] at this
      cases this
  | succ n ih =>
    intro l a G hfree hr hy Q H
    refine ⟨fun h => (by rw [h] at hr; cases hr), fun j hj => ?_⟩
    by_cases hji : j = i
    · subst hji; unfold gOp; simp only [hi]; exact ⟨r, hy, H⟩
    · have hstep := H.2 j (ready_mono hj hji)
      obtain ⟨hun, oj, hoj, hall⟩ := mem_ready.1 hj
      have hi0 := (mem_ready.1 hr).1
      have hnot : ∀ e ∈ oj.after, Region.binds md e = true → e.on ≠ i := fun e he hb heq => by
        have hl := hall e he hb
        rw [heq] at hl
        rcases Nat.lt_or_ge i l.size with h' | h'
        · simp [h'] at hi0 hl; rw [hi0] at hl; cases hl
        · simp [Array.getElem?_eq_none h'] at hl
      have hcomm := gOp_put hoj (hfree j oj hoj hji hun hnot) hy hstep
      refine gOp_mono (fun a' G' hk => ?_) hcomm
      refine ih (l.setIfInBounds j true) a' G' (fun k ok hk' hki hunk hnok => hfree k ok hk' hki ?_ hnok) (ready_mono hr (Ne.symm hji)) hk.1 ?_
      · by_cases hjk : j = k
        · subst hjk; exact hun
        · rw [getD_set_ne true hjk] at hunk; exact hunk
      · rw [Array.setIfInBounds_comm _ _ hji]
        exact hk.2

theorem gAny_of_lex {Q : Act → Env → Prop} : ∀ (l : List Oper) (k : Nat) (listed : Array Bool) (a : Act) (G : Env), (∀ j, l[j]? = ops[k + j]?) →
    Region.lexFrom md ops l.length k listed = true → gLex P ops w0 Q l a G → gAny P md ops w0 Q l.length listed a G
  | [], _, _, _, _, _, hB, h => ⟨by simpa [Region.lexFrom] using hB, h⟩
  | o :: l, k, listed, a, G, hl, hB, h => by
    have h0 : ops[k]? = some o := by simpa using (hl 0).symm
    simp only [List.length_cons, Region.lexFrom, Bool.and_eq_true] at hB
    obtain ⟨⟨hr, hf⟩, hB'⟩ := hB
    obtain ⟨r, hy, hK⟩ := h
    exact gAny_first h0 l.length listed a G (Region.free_spec h0 hf) (by simpa using hr) hy
      (gAny_of_lex l (k + 1) _ _ _ (fun j => by have := hl (j + 1); simpa [Nat.add_assoc, Nat.add_comm 1 j] using this) hB' hK)

def AllLast (G : Env) : Prop := ∀ t p, G t = some p → Lasts p

theorem relAt_mono {G : Env} (hG : AllLast G) {a : Act} {t : Tmp} {x : Option Value} {w w' : World} (hw : Grows w w') (h : relAt G a t x w) : relAt G a t x w' := by
  unfold relAt at *
  cases hg : G t with
  | none => rw [hg] at h; exact h
  | some p =>
    rw [hg] at h
    obtain ⟨v, e, hv⟩ := h
    exact ⟨v, e, hG t p hg v _ _ hw hv⟩

theorem Conc.step {G : Env} (hG : AllLast G) {a a' : Act} {w w' : World} (hw : Grows w w') {d : Option Tmp} (hfree : ∀ t, d = some t → G t = none) {r : Out} {u : Value}
    (hfit : fits a d r) (hu : r.ok u w') (h : Conc G a a' w) : Conc (putG G d r) (putA a d r) (a'.put d u) w' := by
  refine ⟨by rw [putA_defers]; cases d <;> exact h.1, fun t => ?_⟩
  by_cases hd : d = some t
  · subst hd
    have h0 := h.2 t
    unfold relAt at h0
    rw [hfree t rfl] at h0
    have hsz : t < a'.tmps.size ↔ t < a.tmps.size := by
      constructor <;> intro hlt
      · rcases Nat.lt_or_ge t a.tmps.size with hh | hh
        · exact hh
        · rw [Array.getElem?_eq_none hh, Array.getElem?_eq_getElem hlt] at h0; cases h0
      · rcases Nat.lt_or_ge t a'.tmps.size with hh | hh
        · exact hh
        · rw [Array.getElem?_eq_none hh, Array.getElem?_eq_getElem hlt] at h0; cases h0
    cases r with
    | inl v =>
      have hu' : u = v := hu
      subst hu'
      unfold relAt
      rw [show putG G (some t) (.inl u) = G from rfl, hfree t rfl]
      simp only [putA, Act.put, Array.getElem?_setIfInBounds, if_pos]
      by_cases hlt : t < a.tmps.size
      · rw [if_pos hlt, if_pos (hsz.2 hlt)]
      · rw [if_neg hlt, if_neg (fun hh => hlt (hsz.1 hh))]
    | inr p =>
      obtain ⟨t', e, hlt⟩ := hfit
      injection e with e
      subst e
      unfold relAt
      simp only [putG, Env.upd, if_pos]
      refine ⟨u, ?_, hu⟩
      simp [Act.put, hsz.2 hlt]
  · rw [relAt_put hd]
    have h0 := relAt_mono hG hw (h.2 t)
    cases d with
    | none => exact h0
    | some d =>
      have hne : d ≠ t := fun e => hd (by rw [e])
      simpa [Act.put, Array.getElem?_setIfInBounds_ne hne] using h0

theorem AllLast.putG {G : Env} (hG : AllLast G) {d : Option Tmp} {r : Out} (hr : r.lasts) : AllLast (putG G d r) := by
  intro t p h
  cases r with
  | inl v => cases d <;> exact hG t p h
  | inr q =>
    cases d with
    | none => exact hG t p h
    | some d =>
      simp only [Proofs.Ytpnncadglhlclaa.putG, Env.upd] at h
      split at h
      · injection h with h; subst h; exact hr
      · exact hG t p h

theorem wanted_conc {o : Oper} {a a' : Act} {G : Env} {w : World} (hg : guardFree ops o G) (h : Conc G a a' w) : Region.wanted o (yielded ops a'.tmps) = Region.wanted o (yielded ops a.tmps) := by
  unfold Region.wanted
  cases ho : o.guard with
  | none => rfl
  | some gb =>
    obtain ⟨g, b⟩ := gb
    have hy : yielded ops a'.tmps g = yielded ops a.tmps g := by
      unfold yielded
      cases ht : (ops[g]?).bind (·.dst) with
      | none => rfl
      | some t =>
        have h0 := h.2 t
        unfold relAt at h0
        rw [hg g b t ho ht] at h0
        simp only [Option.bind_some, h0]
    simp only [hy]

theorem wpAny_of_gAny {Q : Exit → Act → World → Prop} : ∀ (n : Nat) (l : Array Bool) (a : Act) (G : Env) (a' : Act) (w : World), Grows w0 w → AllLast G → Conc G a a' w →
    gAny P md ops w0 (fun a G => ∀ w, Grows w0 w → ∀ a', Conc G a a' w → Q .normal a' w) n l a G → wpAny P md ops Q n l a' w
  | 0, _, _, _, _, _, hw, _, hc, h => ⟨h.1, h.2 _ hw _ hc⟩
  | n + 1, l, a, G, a', w, hw, hG, hc, h => by
    refine ⟨fun h0 => h.1 h0 _ hw _ hc, fun i hi => ?_⟩
    have h1 := h.2 i hi
    unfold gOp at h1
    unfold wpOp
    split
    · rename_i ho
      simp only [ho] at h1
      exact wpAny_of_gAny n _ a G a' w hw hG hc h1
    · rename_i o ho
      simp only [ho] at h1
      obtain ⟨r, ⟨hg, hd, hy⟩, hK⟩ := h1
      rw [wanted_conc hg hc]
      rcases hy with ⟨hwant, hl, hf, howe⟩ | ⟨hwant, rfl⟩
      · rw [if_pos hwant]
        refine .inl ?_
        have hrun := howe w hw a' (fun t _ => hc.2 t)
        unfold Oper.wp
        generalize (execOp a'.eval o).run P w = res at hrun
        cases res with
        | halt x w' => simp only [runsTo] at hrun
        | ok x w' =>
          cases x <;> simp only [runsTo] at hrun <;> simp only [Oper.upon]
          case value u => exact wpAny_of_gAny n _ _ _ _ _ (hw.trans hrun.1) (hG.putG hl) (hc.step hG hrun.1 hd hf hrun.2) hK
          case skip => exact wpAny_of_gAny n _ _ _ _ _ (hw.trans hrun.1) (hG.putG hl) (hc.step hG hrun.1 hd hf hrun.2) hK
          case enter f args =>
            refine hrun.mono fun e w'' ⟨u, he, h1, h2⟩ => ?_
            subst he
            exact wpAny_of_gAny n _ _ _ _ _ (hw.trans h1) (hG.putG hl) (hc.step hG h1 hd hf h2) hK
      · rw [hwant]
        simp only [Bool.false_eq_true, if_false]
        have hG0 : putG G o.dst (.inl undef) = G := by cases o.dst <;> rfl
        rw [hG0] at hK
        have hc0 := hc.step hG (Grows.refl w) hd (r := .inl undef) (u := undef) trivial rfl
        rw [hG0] at hc0
        exact wpAny_of_gAny n _ _ _ _ _ hw hG hc0 hK

theorem wp_region_from {w0 : World} {id : Nat} {Q : Exit → Act → World → Prop} {a : Act} {w : World} {l : List Oper} (hm : P.follows .mixedOrders = true) (hB : Region.lexB .any l.toArray = true)
    (hw0 : Grows w0 w) (h : gLex P l.toArray w0 (fun a G => ∀ w', Grows w0 w' → ∀ a', Conc G a a' w' → Q .normal a' w') l a Env.no) : (Code.region id l.toArray true).wp P Q a w := by
  simp only [Region.lexB, Bool.and_eq_true] at hB
  refine wp_region_any hm (wpAny_of_gAny (w0 := w0) _ _ a Env.no _ _ (hw0.trans (Grows.drawn w _)) (fun t p h => by cases h) ⟨rfl, fun t => rfl⟩ ?_)
  have := gAny_of_lex (ops := l.toArray) (md := .any) l 0 (Array.replicate l.length false) a Env.no (by simp) (by simpa using hB.2) h
  simpa using this

theorem wp_region_gen {id : Nat} {Q : Exit → Act → World → Prop} {a : Act} {w : World} {l : List Oper} (hm : P.follows .mixedOrders = true) (hB : Region.lexB .any l.toArray = true)
    (h : gLex P l.toArray w (fun a G => ∀ w', Grows w w' → ∀ a', Conc G a a' w' → Q .normal a' w') l a Env.no) : (Code.region id l.toArray true).wp P Q a w :=
  wp_region_from hm hB (Grows.refl w) h
end

end Go.Proofs.Ytpnncadglhlclaa
