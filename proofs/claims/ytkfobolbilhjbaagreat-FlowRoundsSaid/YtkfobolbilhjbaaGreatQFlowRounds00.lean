/- Regions that draw their order: one walk of the text's order serves every order, where a value that an operation leaves may hang on the world (new memory) and is known by a lasting property alone. -/
import Derived.Orders
import Derived.Still
import Derived.Below
import Derived.Calls
import Derived.WalkKit
import Derived.WalkSpells
import Derived.WalkLawsBesides
import Derived.BigQuiet
import Derived.Deep.RegionWith
import Derived.ProofKit
import Derived.OpenShut
import Derived.ShutString
import Derived.ChangeOld
import Derived.Lib.SmallJoins
import Derived.Deep.Slices
import Derived.Test.YtkfobolbilhjbaaGreatRows
import Derived.Maps.Own
import Derived.Maps.OwnOps
import Derived.Maps.OwnSet
import Derived.Maps.Views
import Derived.Laws.OwnMore
namespace Go.Proofs.YtkfobolbilhjbaaGreat
open Go Go.RowKit

abbrev Pr := Value → World → Prop
abbrev Env := Tmp → Option Pr
def Env.no : Env := fun _ => none
def Env.upd (G : Env) (d : Tmp) (p : Pr) : Env := fun t => if t = d then some p else G t

def Grows (w w' : World) : Prop := Below w.heap.size w w'
theorem Grows.refl (w : World) : Grows w w := Below.refl _ _
theorem Grows.trans {a b c : World} (h : Grows a b) (k : Grows b c) : Grows a c := Below.trans h (Below.mono k h.size)
theorem Grows.drawn (w : World) (n : Nat) : Grows w { w with drawn := n } := ⟨rfl, rfl, rfl, Nat.le_refl _, fun _ _ => rfl⟩
def Lasts (p : Pr) : Prop := ∀ v a b, Grows a b → p v a → p v b

abbrev Out := Value ⊕ Pr
def Out.ok : Out → Value → World → Prop
  | .inl v, u, _ => u = v
  | .inr p, u, w => p u w
def Out.lasts : Out → Prop
  | .inl _ => True
  | .inr p => Lasts p
def putA (a : Act) (d : Option Tmp) : Out → Act
  | .inl v => a.put d v
  | .inr _ => a
def putG (G : Env) : Option Tmp → Out → Env
  | some d, .inr p => G.upd d p
  | _, _ => G
def fits (a : Act) (d : Option Tmp) : Out → Prop
  | .inl _ => True
  | .inr _ => ∃ t, d = some t ∧ t < a.tmps.size

def runsTo (P : Program) (q : Value → World → Prop) : Result Next → Prop
  | .ok (.value u) w => q u w
  | .ok .skip w => q undef w
  | .ok (.enter f args) w => Calls P f args w fun e w' => ∃ u, e = .returned u ∧ q u w'
  | _ => False

def relAt (G : Env) (a : Act) (t : Tmp) (x : Option Value) (w : World) : Prop :=
  match G t with
  | none => x = a.tmps[t]?
  | some p => ∃ v, x = some v ∧ p v w
def Conc (G : Env) (a a' : Act) (w : World) : Prop := a'.defers = a.defers ∧ ∀ t, relAt G a t a'.tmps[t]? w

section
variable {P : Program} {ops : Array Oper} {md : Region.Mode} {w0 : World}

def Owed (P : Program) (ops : Array Oper) (w0 : World) (o : Oper) (a : Act) (G : Env) (r : Out) : Prop :=
  ∀ w, Grows w0 w → ∀ a' : Act, (∀ t ∈ o.looksAt ops, relAt G a t a'.tmps[t]? w) → runsTo P (fun u w' => Grows w w' ∧ r.ok u w') ((execOp a'.eval o).run P w)

def guardFree (ops : Array Oper) (o : Oper) (G : Env) : Prop := ∀ g b t, o.guard = some (g, b) → (ops[g]?).bind (·.dst) = some t → G t = none
def dstFree (o : Oper) (G : Env) : Prop := ∀ d, o.dst = some d → G d = none

def Leaves (P : Program) (ops : Array Oper) (w0 : World) (o : Oper) (a : Act) (G : Env) (r : Out) : Prop :=
  guardFree ops o G ∧ dstFree o G ∧
  ((Region.wanted o (yielded ops a.tmps) = true ∧ r.lasts ∧ fits a o.dst r ∧ Owed P ops w0 o a G r) ∨ (Region.wanted o (yielded ops a.tmps) = false ∧ r = .inl undef))

def gOp (P : Program) (ops : Array Oper) (w0 : World) (i : Nat) (K : Act → Env → Prop) (a : Act) (G : Env) : Prop :=
  match ops[i]? with
  | none => K a G
  | some o => ∃ r, Leaves P ops w0 o a G r ∧ K (putA a o.dst r) (putG G o.dst r)

def gAny (P : Program) (md : Region.Mode) (ops : Array Oper) (w0 : World) (Q : Act → Env → Prop) : Nat → Array Bool → Act → Env → Prop
  | 0, l, a, G => Region.ready md ops l = [] ∧ Q a G
  | n + 1, l, a, G => (Region.ready md ops l = [] → Q a G) ∧ ∀ i ∈ Region.ready md ops l, gOp P ops w0 i (gAny P md ops w0 Q n (l.setIfInBounds i true)) a G

def gLex (P : Program) (ops : Array Oper) (w0 : World) (Q : Act → Env → Prop) : List Oper → Act → Env → Prop
  | [], a, G => Q a G
  | o :: rest, a, G => ∃ r, Leaves P ops w0 o a G r ∧ gLex P ops w0 Q rest (putA a o.dst r) (putG G o.dst r)

theorem gOp_mono {i : Nat} {a : Act} {G : Env} {K K' : Act → Env → Prop} (h : ∀ a G, K a G → K' a G) (hh : gOp P ops w0 i K a G) : gOp P ops w0 i K' a G := by
  unfold gOp at *
  split
  · rename_i ho; rw [ho] at hh; exact h _ _ hh
  · rename_i o ho
    rw [ho] at hh
    obtain ⟨r, h1, h2⟩ := hh
    exact ⟨r, h1, h _ _ h2⟩

theorem putA_tmps (a : Act) (d : Option Tmp) (r : Out) (t : Tmp) (h : d ≠ some t) : (putA a d r).tmps[t]? = a.tmps[t]? := by
  cases r with
  | inr p => rfl
  | inl v =>
    cases d with
    | none => rfl
    | some d =>
      have hne : d ≠ t := fun e => h (by rw [e])
      simp [putA, Act.put, Array.getElem?_setIfInBounds_ne hne]
theorem putG_at (G : Env) (d : Option Tmp) (r : Out) (t : Tmp) (h : d ≠ some t) : putG G d r t = G t := by
  cases r with
  | inl v => cases d <;> rfl
  | inr p =>
    cases d with
    | none => rfl
    | some d =>
      have hne : t ≠ d := fun e => h (by rw [e])
      simp [putG, Env.upd, hne]
theorem putA_size (a : Act) (d : Option Tmp) (r : Out) : (putA a d r).tmps.size = a.tmps.size := by
  cases r <;> cases d <;> simp [putA, Act.put]
theorem putA_defers (a : Act) (d : Option Tmp) (r : Out) : (putA a d r).defers = a.defers := by
  cases r <;> cases d <;> simp [putA, Act.put]
theorem putA_comm (a : Act) {x y : Option Tmp} (r s : Out) (h : ∀ d, x = some d → y ≠ some d) : putA (putA a x r) y s = putA (putA a y s) x r := by
  cases r <;> cases s <;> simp only [putA]
  exact Act.put_comm a _ _ h
theorem putG_comm (G : Env) {x y : Option Tmp} (r s : Out) (h : ∀ d, x = some d → y ≠ some d) : putG (putG G x r) y s = putG (putG G y s) x r := by
  cases x with
  | none => cases r <;> rfl
  | some d =>
    cases y with
    | none => cases s <;> rfl
    | some e =>
      have hne : d ≠ e := fun he => h d rfl (by rw [he])
      cases r <;> cases s <;> simp only [putG]
      funext t
      unfold Env.upd
      by_cases h1 : t = e
      · subst h1
        rw [if_pos rfl, if_neg (fun h => hne h.symm), if_pos rfl]
      · rw [if_neg h1, if_neg h1]

theorem relAt_put {a : Act} {G : Env} {d : Option Tmp} {r : Out} {t : Tmp} (h : d ≠ some t) (x : Option Value) (w : World) : relAt (putG G d r) (putA a d r) t x w = relAt G a t x w := by
  unfold relAt
  rw [putG_at G d r t h, putA_tmps a d r t h]

theorem wanted_putA (o : Oper) (a : Act) (d : Option Tmp) (r : Out) (h : ∀ t, d = some t → t ∉ o.looksAt ops) : Region.wanted o (yielded ops (putA a d r).tmps) = Region.wanted o (yielded ops a.tmps) := by
  cases r with
  | inr p => rfl
  | inl v => exact wanted_put o a d v h

theorem mem_looks_guard {o : Oper} {g : Nat} {b : Bool} {t : Tmp} (h1 : o.guard = some (g, b)) (h2 : (ops[g]?).bind (·.dst) = some t) : t ∈ o.looksAt ops := by
  unfold Oper.looksAt
  simp only [h1]
  refine List.mem_append_right _ ?_
  rw [h2]
  simp

theorem Leaves.put {o : Oper} {a : Act} {G : Env} {r s : Out} {d : Option Tmp} (h1 : ∀ t, d = some t → t ∉ o.looksAt ops) (h2 : ∀ t, d = some t → o.dst ≠ some t) :
    Leaves P ops w0 o (putA a d s) (putG G d s) r ↔ Leaves P ops w0 o a G r := by
  have hlook : ∀ t ∈ o.looksAt ops, d ≠ some t := fun t ht e => h1 t e ht
  have hg : guardFree ops o (putG G d s) ↔ guardFree ops o G := by
    unfold guardFree
    constructor <;> intro h g b t e1 e2
    · rw [← putG_at G d s t (hlook t (mem_looks_guard e1 e2))]; exact h g b t e1 e2
    · rw [putG_at G d s t (hlook t (mem_looks_guard e1 e2))]; exact h g b t e1 e2
  have hd : dstFree o (putG G d s) ↔ dstFree o G := by
    unfold dstFree
    constructor <;> intro h t e
    · rw [← putG_at G d s t (fun e' => h2 t e' e)]; exact h t e
    · rw [putG_at G d s t (fun e' => h2 t e' e)]; exact h t e
  have ho : Owed P ops w0 o (putA a d s) (putG G d s) r ↔ Owed P ops w0 o a G r := by
    unfold Owed
    constructor <;> intro h w hw a' ha'
    · refine h w hw a' fun t ht => ?_
      rw [relAt_put (hlook t ht)]; exact ha' t ht
    · refine h w hw a' fun t ht => ?_
      have := ha' t ht
      rw [relAt_put (hlook t ht)] at this; exact this
  have hf : fits (putA a d s) o.dst r ↔ fits a o.dst r := by
    cases r <;> simp [fits, putA_size]
  unfold Leaves
  rw [hg, hd, ho, hf, wanted_putA o a d s h1]

theorem gOp_put {j : Nat} {oi oj : Oper} {r : Out} (hj : ops[j]? = some oj) (hap : oi.apart ops oj = true) {K : Act → Env → Prop} {a : Act} {G : Env}
    (hy : Leaves P ops w0 oi a G r) (h : gOp P ops w0 j K (putA a oi.dst r) (putG G oi.dst r)) :
    gOp P ops w0 j (fun a' G' => Leaves P ops w0 oi a' G' r ∧ K (putA a' oi.dst r) (putG G' oi.dst r)) a G := by
  obtain ⟨h1, h2, h3⟩ := Oper.apart_spec hap
  unfold gOp at *
  simp only [hj] at *
  obtain ⟨s, hs, hK⟩ := h
  refine ⟨s, (Leaves.put h1 (fun t e => h2 t e)).1 hs, (Leaves.put h3 (fun t e e' => h2 t e' e)).2 hy, ?_⟩
  rw [← putA_comm a r s h2, ← putG_comm G r s h2]
  exact hK

theorem gAny_first {i : Nat} {oi : Oper} {r : Out} (hi : ops[i]? = some oi) : ∀ (n : Nat) (l : Array Bool) (a : Act) (G : Env),
    (∀ j oj, ops[j]? = some oj → j ≠ i → l.getD j true = false → (∀ e ∈ oj.after, Region.binds md e = true → e.on ≠ i) → oi.apart ops oj = true) →
    i ∈ Region.ready md ops l → Leaves P ops w0 oi a G r → ∀ {Q : Act → Env → Prop},
    gAny P md ops w0 Q n (l.setIfInBounds i true) (putA a oi.dst r) (putG G oi.dst r) → gAny P md ops w0 Q (n + 1) l a G := by
  intro n
  induction n with
  | zero =>
    intro l a G _ hr hy Q H
    refine ⟨fun h => (by rw [h] at hr; cases hr), fun j hj => ?_⟩
    by_cases hji : j = i
    · subst hji; unfold gOp; simp only [hi]; exact ⟨r, hy, H⟩
    · have := ready_mono hj hji
      rw [H.1] at this
      cases this
  | succ n ih =>
    intro l a G hfree hr hy Q H
    refine ⟨fun h => (by rw [h] at hr; cases hr), fun j hj => ?_⟩
    by_cases hji : j = i
    · subst hji; unfold gOp; simp only [hi]; exact ⟨r, hy, H⟩
    · have hstep := H.2 j (ready_mono hj hji)
      obtain ⟨hun, oj, hoj, hall⟩ := mem_ready.1 hj
      have hi0 := (mem_ready.1 hr).1
      have hnot : ∀ e ∈ oj.after, Region.binds md e = true → e.on ≠ i := fun e he hb heq => by
        have hl := hall e he hb
        rw [heq] at hl
        rcases Nat.lt_or_ge i l.size with h' | h'
        · simp [h'] at hi0 hl; rw [hi0] at hl; cases hl
        · simp [Array.getElem?_eq_none h'] at hl
      have hcomm := gOp_put hoj (hfree j oj hoj hji hun hnot) hy hstep
      refine gOp_mono (fun a' G' hk => ?_) hcomm
      refine ih (l.setIfInBounds j true) a' G' (fun k ok hk' hki hunk hnok => hfree k ok hk' hki ?_ hnok) (ready_mono hr (Ne.symm hji)) hk.1 ?_
      · by_cases hjk : j = k
        · subst hjk; exact hun
        · rw [getD_set_ne true hjk] at hunk; exact hunk
      · rw [Array.setIfInBounds_comm _ _ hji]
        exact hk.2

theorem gAny_of_lex {Q : Act → Env → Prop} : ∀ (l : List Oper) (k : Nat) (listed : Array Bool) (a : Act) (G : Env), (∀ j, l[j]? = ops[k + j]?) →
    Region.lexFrom md ops l.length k listed = true → gLex P ops w0 Q l a G → gAny P md ops w0 Q l.length listed a G
  | [], _, _, _, _, _, hB, h => ⟨by simpa [Region.lexFrom] using hB, h⟩
  | o :: l, k, listed, a, G, hl, hB, h => by
    have h0 : ops[k]? = some o := by simpa using (hl 0).symm
    simp only [List.length_cons, Region.lexFrom, Bool.and_eq_true] at hB
    obtain ⟨⟨hr, hf⟩, hB'⟩ := hB
    obtain ⟨r, hy, hK⟩ := h
    exact gAny_first h0 l.length listed a G (Region.free_spec h0 hf) (by simpa using hr) hy
      (gAny_of_lex l (k + 1) _ _ _ (fun j => by have := hl (j + 1); simpa [Nat.add_assoc, Nat.add_comm 1 j] using this) hB' hK)

def AllLast (G : Env) : Prop := ∀ t p, G t = some p → Lasts p

theorem relAt_mono {G : Env} (hG : AllLast G) {a : Act} {t : Tmp} {x : Option Value} {w w' : World} (hw : Grows w w') (h : relAt G a t x w) : relAt G a t x w' := by
  unfold relAt at *
  cases hg : G t with
  | none => rw [hg] at h; exact h
  | some p =>
    rw [hg] at h
    obtain ⟨v, e, hv⟩ := h
    exact ⟨v, e, hG t p hg v _ _ hw hv⟩

theorem Conc.step {G : Env} (hG : AllLast G) {a a' : Act} {w w' : World} (hw : Grows w w') {d : Option Tmp} (hfree : ∀ t, d = some t → G t = none) {r : Out} {u : Value}
    (hfit : fits a d r) (hu : r.ok u w') (h : Conc G a a' w) : Conc (putG G d r) (putA a d r) (a'.put d u) w' := by
  refine ⟨by rw [putA_defers]; cases d <;> exact h.1, fun t => ?_⟩
  by_cases hd : d = some t
  · subst hd
    have h0 := h.2 t
    unfold relAt at h0
    rw [hfree t rfl] at h0
    have hsz : t < a'.tmps.size ↔ t < a.tmps.size := by
      constructor <;> intro hlt
      · rcases Nat.lt_or_ge t a.tmps.size with hh | hh
        · exact hh
        · rw [Array.getElem?_eq_none hh, Array.getElem?_eq_getElem hlt] at h0; cases h0
      · rcases Nat.lt_or_ge t a'.tmps.size with hh | hh
        · exact hh
        · rw [Array.getElem?_eq_none hh, Array.getElem?_eq_getElem hlt] at h0; cases h0
    cases r with
    | inl v =>
      have hu' : u = v := hu
      subst hu'
      unfold relAt
      rw [show putG G (some t) (.inl u) = G from rfl, hfree t rfl]
      simp only [putA, Act.put, Array.getElem?_setIfInBounds, if_pos]
      by_cases hlt : t < a.tmps.size
      · rw [if_pos hlt, if_pos (hsz.2 hlt)]
      · rw [if_neg hlt, if_neg (fun hh => hlt (hsz.1 hh))]
    | inr p =>
      obtain ⟨t', e, hlt⟩ := hfit
      injection e with e
      subst e
      unfold relAt
      simp only [putG, Env.upd, if_pos]
      refine ⟨u, ?_, hu⟩
      simp [Act.put, hsz.2 hlt]
  · rw [relAt_put hd]
    have h0 := relAt_mono hG hw (h.2 t)
    cases d with
    | none => exact h0
    | some d =>
      have hne : d ≠ t := fun e => hd (by rw [e])
      simpa [Act.put, Array.getElem?_setIfInBounds_ne hne] using h0

theorem AllLast.putG {G : Env} (hG : AllLast G) {d : Option Tmp} {r : Out} (hr : r.lasts) : AllLast (putG G d r) := by
  intro t p h
  cases r with
  | inl v => cases d <;> exact hG t p h
  | inr q =>
    cases d with
    | none => exact hG t p h
    | some d =>
      simp only [Proofs.YtkfobolbilhjbaaGreat.putG, Env.upd] at h
      split at h
      · injection h with h; subst h; exact hr
      · exact hG t p h

theorem wanted_conc {o : Oper} {a a' : Act} {G : Env} {w : World} (hg : guardFree ops o G) (h : Conc G a a' w) : Region.wanted o (yielded ops a'.tmps) = Region.wanted o (yielded ops a.tmps) := by
  unfold Region.wanted
  cases ho : o.guard with
  | none => rfl
  | some gb =>
    obtain ⟨g, b⟩ := gb
    have hy : yielded ops a'.tmps g = yielded ops a.tmps g := by
      unfold yielded
      cases ht : (ops[g]?).bind (·.dst) with
      | none => rfl
      | some t =>
        have h0 := h.2 t
        unfold relAt at h0
        rw [hg g b t ho ht] at h0
        simp only [Option.bind_some, h0]
    simp only [hy]

theorem wpAny_of_gAny {Q : Exit → Act → World → Prop} : ∀ (n : Nat) (l : Array Bool) (a : Act) (G : Env) (a' : Act) (w : World), Grows w0 w → AllLast G → Conc G a a' w →
    gAny P md ops w0 (fun a G => ∀ w, Grows w0 w → ∀ a', Conc G a a' w → Q .normal a' w) n l a G → wpAny P md ops Q n l a' w
  | 0, _, _, _, _, _, hw, _, hc, h => ⟨h.1, h.2 _ hw _ hc⟩
  | n + 1, l, a, G, a', w, hw, hG, hc, h => by
    refine ⟨fun h0 => h.1 h0 _ hw _ hc, fun i hi => ?_⟩
    have h1 := h.2 i hi
    unfold gOp at h1
    unfold wpOp
    split
    · rename_i ho
      simp only [ho] at h1
      exact wpAny_of_gAny n _ a G a' w hw hG hc h1
    · rename_i o ho
      simp only [ho] at h1
      obtain ⟨r, ⟨hg, hd, hy⟩, hK⟩ := h1
      rw [wanted_conc hg hc]
      rcases hy with ⟨hwant, hl, hf, howe⟩ | ⟨hwant, rfl⟩
      · rw [if_pos hwant]
        refine .inl ?_
        have hrun := howe w hw a' (fun t _ => hc.2 t)
        unfold Oper.wp
        generalize (execOp a'.eval o).run P w = res at hrun
        cases res with
        | halt x w' => simp only [runsTo] at hrun
        | ok x w' =>
          cases x <;> simp only [runsTo] at hrun <;> simp only [Oper.upon]
          case value u => exact wpAny_of_gAny n _ _ _ _ _ (hw.trans hrun.1) (hG.putG hl) (hc.step hG hrun.1 hd hf hrun.2) hK
          case skip => exact wpAny_of_gAny n _ _ _ _ _ (hw.trans hrun.1) (hG.putG hl) (hc.step hG hrun.1 hd hf hrun.2) hK
          case enter f args =>
            refine hrun.mono fun e w'' ⟨u, he, h1, h2⟩ => ?_
            subst he
            exact wpAny_of_gAny n _ _ _ _ _ (hw.trans h1) (hG.putG hl) (hc.step hG h1 hd hf h2) hK
      · rw [hwant]
        simp only [Bool.false_eq_true, if_false]
        have hG0 : putG G o.dst (.inl undef) = G := by cases o.dst <;> rfl
        rw [hG0] at hK
        have hc0 := hc.step hG (Grows.refl w) hd (r := .inl undef) (u := undef) trivial rfl
        rw [hG0] at hc0
        exact wpAny_of_gAny n _ _ _ _ _ hw hG hc0 hK

theorem wp_region_from {w0 : World} {id : Nat} {Q : Exit → Act → World → Prop} {a : Act} {w : World} {l : List Oper} (hm : P.follows .mixedOrders = true) (hB : Region.lexB .any l.toArray = true)
    (hw0 : Grows w0 w) (h : gLex P l.toArray w0 (fun a G => ∀ w', Grows w0 w' → ∀ a', Conc G a a' w' → Q .normal a' w') l a Env.no) : (Code.region id l.toArray true).wp P Q a w := by
  simp only [Region.lexB, Bool.and_eq_true] at hB
  refine wp_region_any hm (wpAny_of_gAny (w0 := w0) _ _ a Env.no _ _ (hw0.trans (Grows.drawn w _)) (fun t p h => by cases h) ⟨rfl, fun t => rfl⟩ ?_)
  have := gAny_of_lex (ops := l.toArray) (md := .any) l 0 (Array.replicate l.length false) a Env.no (by simp) (by simpa using hB.2) h
  simpa using this

theorem wp_region_gen {id : Nat} {Q : Exit → Act → World → Prop} {a : Act} {w : World} {l : List Oper} (hm : P.follows .mixedOrders = true) (hB : Region.lexB .any l.toArray = true)
    (h : gLex P l.toArray w (fun a G => ∀ w', Grows w w' → ∀ a', Conc G a a' w' → Q .normal a' w') l a Env.no) : (Code.region id l.toArray true).wp P Q a w :=
  wp_region_from hm hB (Grows.refl w) h
end

end Go.Proofs.YtkfobolbilhjbaaGreat

namespace Go.Proofs.YtkfobolbilhjbaaGreat
open Go Go.RowKit

theorem hide {p : Prop} (h : p) : Hid p := h

structure Later (w : World) where
  now : World
  grows : Grows w now

instance (w : World) : Nonempty (Later w) := ⟨⟨w, Grows.refl w⟩⟩
theorem Grows.self (w : World) : Grows w w ↔ True := ⟨fun _ => trivial, fun _ => Grows.refl w⟩

theorem cell_lt {w : World} {p : Addr} (h : (w.cell? p).isSome = true) : p.block < w.heap.size := by
  obtain ⟨v, hv⟩ := Option.isSome_iff_exists.1 h
  exact World.block_lt_of_cell? w p hv

theorem Later.cell {w : World} (x : Later w) {p : Addr} (h : (w.cell? p).isSome = true) : x.now.cell? p = w.cell? p := x.grows.cell (cell_lt h)
theorem Later.frozen {w : World} (x : Later w) {p : Addr} (h : (w.cell? p).isSome = true) : x.now.frozen? p = w.frozen? p := Below.frozen x.grows (cell_lt h)
theorem Later.size {w : World} (x : Later w) : w.heap.size ≤ x.now.heap.size := Below.size x.grows
theorem Grows.later {w w' : World} (h : Grows w w') : ∃ x : Later w, w' = x.now := ⟨⟨w', h⟩, rfl⟩

theorem Grows.later2 {w w' : World} {y : Later w} (h : Grows y.now w') : ∃ x : Later w, w' = x.now := ⟨⟨w', y.grows.trans h⟩, rfl⟩

theorem Grows.now {w w1 : World} (h : Grows w w1) (x : Later w1) : Grows w x.now := h.trans x.grows
theorem Grows.new {w w1 : World} (h : Grows w w1) (o : Obj) : Grows w (w1.alloc o) := Below.alloc h h.size o
theorem Grows.drew {w w1 : World} (h : Grows w w1) : Grows w w1.drew := Below.drew h
theorem Grows.drewN {w w1 : World} (h : Grows w w1) (n : Nat) : Grows w (w1.drewN n) := ⟨h.os, h.tape, h.output, h.size, h.block⟩
theorem Grows.set {w w1 : World} (h : Grows w w1) {p : Addr} (hp : w.heap.size ≤ p.block) (u : Value) : Grows w (w1.setCell p u) := Below.setCell h hp u
theorem Grows.below {w w1 : World} (h : Grows w w1) : Below w.heap.size w w1 := h

section
variable {P : Program} {ops : Array Oper} {w0 : World} {Q : Act → Env → Prop} {a : Act} {G : Env} {o : Oper} {rest : List Oper}

def plainB (ops : Array Oper) (o : Oper) (G : Env) : Bool :=
  ((o.looksAt ops).all fun t => (G t).isNone) && (match o.dst with | some d => (G d).isNone | none => true) && (match o.op with | .select .. => false | _ => true)

theorem plain_spec (h : plainB ops o G = true) : guardFree ops o G ∧ dstFree o G ∧ (∀ t ∈ o.looksAt ops, G t = none) ∧ ∀ cs b, o.op ≠ .select cs b := by
  unfold plainB at h
  simp only [Bool.and_eq_true, List.all_eq_true, Option.isNone_iff_eq_none] at h
  obtain ⟨⟨h1, h2⟩, h3⟩ := h
  refine ⟨fun g b t e1 e2 => h1 t (mem_looks_guard e1 e2), fun d e => ?_, h1, fun cs b e => ?_⟩
  · rw [e] at h2; simpa using h2
  · rw [e] at h3; simp at h3

theorem exec_same {a a' : Act} {w : World} (hsel : ∀ cs b, o.op ≠ .select cs b) (hG : ∀ t ∈ o.looksAt ops, G t = none) (ha : ∀ t ∈ o.looksAt ops, relAt G a t a'.tmps[t]? w) :
    execOp a'.eval o = execOp a.eval o := by
  refine execOp_congr o hsel fun x hx => ?_
  cases x with
  | tmp t =>
    have ht : t ∈ o.looksAt ops := List.mem_append_left _ (List.mem_filterMap.2 ⟨.tmp t, by simpa using hx, rfl⟩)
    have h := ha t ht
    unfold relAt at h
    rw [hG t ht] at h
    have h' : a'.tmps[t]? = a.tmps[t]? := h
    simp only [Act.eval, Array.getD_eq_getD_getElem?, h']
  | _ => rfl

theorem gLex_val (hp : plainB ops o G = true) (hw : Region.wanted o (yielded ops a.tmps) = true)
    (h : ∀ K : Act → Prop, (∀ a, gLex P ops w0 Q rest a G → K a) → ∃ v, (∀ x : Later w0, runsTo P (fun u w' => Grows x.now w' ∧ u = v) ((execOp a.eval o).run P x.now)) ∧ K (a.put o.dst v)) :
    gLex P ops w0 Q (o :: rest) a G := by
  obtain ⟨h1, h2, h3, h4⟩ := plain_spec hp
  obtain ⟨v, hv, hK⟩ := h _ (fun _ h => h)
  refine ⟨.inl v, ⟨h1, h2, .inl ⟨hw, trivial, trivial, fun w hg a' ha' => ?_⟩⟩, ?_⟩
  · rw [exec_same h4 h3 ha']
    exact hv ⟨w, hg⟩
  · have : putG G o.dst (.inl v) = G := by cases o.dst <;> rfl
    rw [this]
    exact hK

theorem gLex_skip (hp : plainB ops o G = true) (hw : Region.wanted o (yielded ops a.tmps) = false) (h : gLex P ops w0 Q rest (a.put o.dst undef) G) : gLex P ops w0 Q (o :: rest) a G := by
  obtain ⟨h1, h2, _, _⟩ := plain_spec hp
  refine ⟨.inl undef, ⟨h1, h2, .inr ⟨hw, rfl⟩⟩, ?_⟩
  have : putG G o.dst (.inl undef) = G := by cases o.dst <;> rfl
  rw [this]
  exact h

theorem wanted_of {g : Nat} {want b : Bool} {t : Tmp} (hg : o.guard = some (g, want)) (ht : (ops[g]?).bind (·.dst) = some t) (hb : a.tmps[t]? = some (.bool b)) :
    Region.wanted o (yielded ops a.tmps) = (b == want) := by
  unfold Region.wanted yielded
  rw [hg]
  simp only [ht, Option.bind_some, hb]
  cases b <;> cases want <;> rfl

theorem gLex_val0 (hg : o.guard = none) (hp : plainB ops o G = true)
    (h : ∀ K : Act → Prop, (∀ a, gLex P ops w0 Q rest a G → K a) → ∃ v, (∀ x : Later w0, runsTo P (fun u w' => Grows x.now w' ∧ u = v) ((execOp a.eval o).run P x.now)) ∧ K (a.put o.dst v)) :
    gLex P ops w0 Q (o :: rest) a G := gLex_val hp (by unfold Region.wanted; rw [hg]) h

theorem gLex_undef {g : Nat} {want : Bool} {t : Tmp} (hg : o.guard = some (g, want)) (ht : (ops[g]?).bind (·.dst) = some t) (hb : a.tmps[t]? = some undef) (hp : plainB ops o G = true)
    (h : ∀ K : Act → Prop, (∀ a, gLex P ops w0 Q rest a G → K a) → K (a.put o.dst undef)) : gLex P ops w0 Q (o :: rest) a G := by
  refine gLex_skip hp ?_ (h _ fun _ h => h)
  unfold Region.wanted yielded
  rw [hg]
  simp only [ht, Option.bind_some, hb]
  cases want <;> rfl

structure gAsk (P : Program) (ops : Array Oper) (w0 : World) (Q : Act → Env → Prop) (o : Oper) (rest : List Oper) (a : Act) (G : Env) (t : Tmp) (b want : Bool) : Prop where
  go : ∀ g, o.guard = some (g, want) → (ops[g]?).bind (·.dst) = some t → a.tmps[t]? = some (.bool b) → gLex P ops w0 Q (o :: rest) a G

theorem gLex_ask {g : Nat} {want b : Bool} {t : Tmp} (hg : o.guard = some (g, want)) (ht : (ops[g]?).bind (·.dst) = some t) (hb : a.tmps[t]? = some (.bool b)) (h : gAsk P ops w0 Q o rest a G t b want) :
    gLex P ops w0 Q (o :: rest) a G := h.go g hg ht hb
theorem gAsk_yes {b : Bool} {t : Tmp} (hp : plainB ops o G = true)
    (h : ∀ K : Act → Prop, (∀ a, gLex P ops w0 Q rest a G → K a) → ∃ v, (∀ x : Later w0, runsTo P (fun u w' => Grows x.now w' ∧ u = v) ((execOp a.eval o).run P x.now)) ∧ K (a.put o.dst v)) :
    gAsk P ops w0 Q o rest a G t b b := ⟨fun _ hg ht hb => gLex_val hp (by rw [wanted_of hg ht hb]; exact beq_self_eq_true _) h⟩
theorem gAsk_no1 {t : Tmp} (hp : plainB ops o G = true) (h : ∀ K : Act → Prop, (∀ a, gLex P ops w0 Q rest a G → K a) → K (a.put o.dst undef)) : gAsk P ops w0 Q o rest a G t false true :=
  ⟨fun _ hg ht hb => gLex_skip hp (by rw [wanted_of hg ht hb]; rfl) (h _ fun _ h => h)⟩
theorem gAsk_no2 {t : Tmp} (hp : plainB ops o G = true) (h : ∀ K : Act → Prop, (∀ a, gLex P ops w0 Q rest a G → K a) → K (a.put o.dst undef)) : gAsk P ops w0 Q o rest a G t true false :=
  ⟨fun _ hg ht hb => gLex_skip hp (by rw [wanted_of hg ht hb]; rfl) (h _ fun _ h => h)⟩

theorem put_same {a : Act} {t : Tmp} {v : Value} (hv : a.tmps[t]? = some v) : a.put (some t) v = a := by
  unfold Act.put
  have : a.tmps.setIfInBounds t v = a.tmps := by
    apply Array.ext_getElem?
    intro i
    by_cases hi : t = i
    · subst hi
      rw [Array.getElem?_setIfInBounds_self, hv]
      obtain ⟨hlt, _⟩ := Array.getElem?_eq_some_iff.1 hv
      rw [if_pos hlt]
    · rw [Array.getElem?_setIfInBounds_ne hi]
  simp only [this]

theorem gAsk_part {t : Tmp} {b want : Bool} (hp : plainB ops o G = true)
    (h1 : b = want → ∀ K : Act → Prop, (∀ a, gLex P ops w0 Q rest a G → K a) → ∃ v, (∀ x : Later w0, runsTo P (fun u w' => Grows x.now w' ∧ u = v) ((execOp (a.put (some t) (.bool want)).eval o).run P x.now)) ∧ K ((a.put (some t) (.bool want)).put o.dst v))
    (h2 : b = !want → ∀ K : Act → Prop, (∀ a, gLex P ops w0 Q rest a G → K a) → K ((a.put (some t) (.bool !want)).put o.dst undef)) :
    gAsk P ops w0 Q o rest a G t b want := by
  refine ⟨fun g hg ht hb => ?_⟩
  by_cases hbw : b = want
  · have h := h1 hbw
    subst hbw
    rw [put_same hb] at h
    exact gLex_val hp (by rw [wanted_of hg ht hb]; exact beq_self_eq_true _) h
  · have hbn : b = !want := by cases b <;> cases want <;> simp_all
    have h := h2 hbn
    rw [← hbn, put_same hb] at h
    exact gLex_skip hp (by rw [wanted_of hg ht hb, hbn]; cases want <;> rfl) (h _ fun _ h => h)

theorem conc_no {a a' : Act} {w : World} (h : Conc Env.no a a' w) : a' = a := by
  obtain ⟨h1, h2⟩ := h
  obtain ⟨t, d⟩ := a
  obtain ⟨t', d'⟩ := a'
  simp only at h1
  subst h1
  congr 1
  exact Array.ext_getElem? h2

theorem conc_upd {a a' : Act} {w : World} {t : Tmp} {p : Pr} (h : Conc (G.upd t p) a a' w) (hlt : t < a.tmps.size) : ∃ v, p v w ∧ Conc G (a.put (some t) v) a' w ∨ G t ≠ none := by
  by_cases hG : G t = none
  · have ht := h.2 t
    unfold relAt Env.upd at ht
    simp only [if_pos] at ht
    obtain ⟨v, e, hv⟩ := ht
    refine ⟨v, .inl ⟨hv, h.1, fun s => ?_⟩⟩
    unfold relAt
    by_cases hs : s = t
    · subst hs
      rw [hG]
      simp only [Act.put, Array.getElem?_setIfInBounds_self, if_pos hlt, e]
    · have h0 := h.2 s
      unfold relAt Env.upd at h0
      rw [if_neg hs] at h0
      have hne : t ≠ s := fun e => hs e.symm
      simpa [Act.put, Array.getElem?_setIfInBounds_ne hne] using h0
  · exact ⟨undef, .inr hG⟩

theorem gLex_end {Q : Exit → Act → World → Prop} (h : ∀ x : Later w0, Q .normal a x.now) : gLex P ops w0 (fun a G => ∀ w', Grows w0 w' → ∀ a', Conc G a a' w' → Q .normal a' w') [] a Env.no :=
  fun w' hw a' hc => by rw [conc_no hc]; exact h ⟨w', hw⟩
theorem wp_region_gen2 {id : Nat} {Q : Exit → Act → World → Prop} {w : World} {x : Later w} {l : List Oper} (hm : P.follows .mixedOrders = true) (hB : Region.lexB .any l.toArray = true)
    (h : gLex P l.toArray w (fun a G => ∀ w', Grows w w' → ∀ a', Conc G a a' w' → Q .normal a' w') l a Env.no) : (Code.region id l.toArray true).wp P Q a x.now :=
  wp_region_from hm hB x.grows h
end

theorem calls_same {P : Program} {f : FuncId} {args : Array Value} {w : World} {v : Value} (h : Calls P f args w fun e w' => e = .returned v ∧ w = w') :
    Calls P f args w fun e w' => e = .returned v ∧ Grows w w' := h.mono fun _ _ ⟨h1, h2⟩ => ⟨h1, by rw [h2]; exact Grows.refl _⟩
theorem ret_bool {a b : Bool} (h : a = b) : Ending.returned (.bool a) = .returned (.bool b) := by rw [h]
theorem ret_int {k : IntKind} {a b : Int} (h : a = b) : Ending.returned (.int k a) = .returned (.int k b) := by rw [h]
theorem bool_ext {a b : Bool} (h : a = true ↔ b = true) : a = b := Bool.eq_iff_iff.2 h

def U64 (n : Int) : Prop := 0 ≤ n ∧ n < 18446744073709551616
theorem U64.nat {n : Int} (h : U64 n) : ∃ k : Nat, n = (k : Int) ∧ k < 18446744073709551616 := by
  obtain ⟨h1, h2⟩ := h
  exact ⟨n.toNat, by omega, by omega⟩

theorem alloc_some (w : World) (o : Obj) {p : Addr} (h : (w.cell? p).isSome = true) : (w.alloc o).cell? p = w.cell? p := World.cell?_alloc_lt w o p (cell_lt h)

theorem run_callGo {P : Program} {f : FuncId} {fn : Func} (hf : P.funcs[f]? = some fn) (hn : (fn.name == "runtime.NumGoroutine") = false) (hb : fn.body.isNone = false) (args : Array Value) (w : World) :
    (callFunc f args).run P w = .ok (.enter f args) w := by
  have hn' : ¬ fn.name = "runtime.NumGoroutine" := by simpa using hn
  have hb' : ¬ fn.body = none := fun e => by rw [e] at hb; cases hb
  simp [callFunc, hf, hn', hb']

attribute [go_sem] alloc_some
attribute [go_sem] runsTo Later.cell Later.frozen Grows.self

theorem GG {w w' : World} (h : Grows w w' := by repeat (first | exact Grows.refl _ | refine Grows.now ?_ _ | refine Grows.new ?_ _ | refine Grows.drewN ?_ _ | refine Grows.drew ?_ | assumption | (refine Grows.set ?_ (by first | omega | (simp; done) | (simp; omega)) _))) : Grows w w' := h
end Go.Proofs.YtkfobolbilhjbaaGreat

namespace Go.Proofs.YtkfobolbilhjbaaGreat
open Go Go.RowKit

def Rd (w : World) (A : Option Addr) (size n : Nat) (xs : List Value) : Prop :=
  xs.length = n * size ∧ (0 < n → 0 < size → ∃ b off, A = some ⟨b, off, none⟩ ∧ ∀ j u, xs[j]? = some u → w.cell? ⟨b, off + j, none⟩ = some u)

theorem Rd.len {w : World} {A : Option Addr} {n : Nat} {xs : List Value} (h : Rd w A 1 n xs) : xs.length = n := by have := h.1; omega

theorem Grows.keeps {w w' : World} (h : Grows w w') {p : Addr} {u : Value} (hp : w.cell? p = some u) : w'.cell? p = some u := by
  rw [h.cell (cell_lt (by rw [hp]; rfl)), hp]

theorem Rd.grows {w w' : World} {A : Option Addr} {size n : Nat} {xs : List Value} (h : Rd w A size n xs) (hg : Grows w w') : Rd w' A size n xs :=
  ⟨h.1, fun h1 h2 => by
    obtain ⟨b, off, e, hc⟩ := h.2 h1 h2
    exact ⟨b, off, e, fun j u hu => hg.keeps (hc j u hu)⟩⟩
theorem Rd.now {w : World} {A : Option Addr} {size n : Nat} {xs : List Value} (h : Rd w A size n xs) (x : Later w) : Rd x.now A size n xs := h.grows x.grows
theorem Rd.new {w : World} {A : Option Addr} {size n : Nat} {xs : List Value} (h : Rd w A size n xs) (o : Obj) : Rd (w.alloc o) A size n xs := h.grows ((Grows.refl w).new o)

theorem Rd.made {w : World} {t : TypeId} {size n : Nat} (cs : List Value) (h : cs.length = n * size) : Rd (w.alloc (.cells cs.toArray t)) (some ⟨w.heap.size, 0, none⟩) size n cs :=
  ⟨h, fun _ _ => ⟨_, _, rfl, fun j u hu => by simpa using hu⟩⟩

theorem Rd.at_ {w : World} {A : Option Addr} {n : Nat} {xs : List Value} (h : Rd w A 1 n xs) (hn : 0 < n) : ∃ b off, A = some ⟨b, off, none⟩ ∧ ∀ j u, xs[j]? = some u → w.cell? ⟨b, off + j, none⟩ = some u :=
  h.2 hn (by omega)

def gi (xs : List Int) (i : Nat) : Int := xs.getD i 0

theorem Rd.ints {w : World} {A : Option Addr} {n : Nat} {k : IntKind} {xs : List Int} (h : Rd w A 1 n (xs.map (.int k))) (hn : 0 < n) :
    ∃ b off, A = some ⟨b, off, none⟩ ∧ ∀ j, j < n → w.cell? ⟨b, off + j, none⟩ = some (.int k (gi xs j)) := by
  have hl := h.len
  obtain ⟨b, off, e, hc⟩ := h.at_ hn
  refine ⟨b, off, e, fun j hj => hc j _ ?_⟩
  have : j < xs.length := by simpa using (show j < (xs.map (Value.int k)).length by omega)
  simp [this, gi]

theorem Rd.take {w : World} {A : Option Addr} {n k : Nat} {j : IntKind} {xs : List Int} (h : Rd w A 1 n (xs.map (.int j))) (hk : k ≤ n) : Rd w A 1 k ((xs.take k).map (.int j)) := by
  have hl := h.len
  simp at hl
  refine ⟨by simp; omega, fun h1 h2 => ?_⟩
  obtain ⟨b, off, e, hc⟩ := h.at_ (by omega)
  refine ⟨b, off, e, fun i u hu => hc i u ?_⟩
  have hi : i < k := by
    rcases Nat.lt_or_ge i k with h | h
    · exact h
    · rw [List.getElem?_eq_none (by simp; omega)] at hu; cases hu
  rw [List.map_take, List.getElem?_take, if_pos hi] at hu
  exact hu

end Go.Proofs.YtkfobolbilhjbaaGreat

namespace Go.Proofs.YtkfobolbilhjbaaGreat
open Go Go.ChangeShapes Go.WideShapes Go.ChangeAt Go.RowKit

def I64 (n : Int) : Prop := -9223372036854775808 ≤ n ∧ n < 9223372036854775808

theorem wf_i64 {n : Int} (h : (Lit.int .i64 n).wf = true) : I64 n := by
  have := bounds_i64 h
  unfold I64
  omega
theorem wf_u64 {n : Int} (h : (Lit.int .u64 n).wf = true) : U64 n := by
  have := bounds_u64 h
  unfold U64
  omega

section
variable {H : Type} {enc : TypeId × Value → H} {P : Program} {w : World} {base b0 : Nat} {spare : Nat → Bool} {held : Bool} {r : Reach} {t : TypeId} {v : Value} {d : DataW H} {p : List MemPlace}

theorem open_i64 (ht : P.underlying t = some (.int .i64)) (hv : Value.okWide P w r b0 t v) (h : DataW.Trod enc P w base spare held t v d p) : ∃ x, v = .int .i64 x ∧ I64 x := by
  obtain ⟨x, rfl, rfl, rfl, wx⟩ := open_int ht hv h
  exact ⟨x, rfl, wf_i64 wx⟩
theorem open_uu {f0 f1 : Field} (ht : P.underlying t = some (.struct #[f0, f1])) (h0 : P.underlying f0.type = some (.int .u64)) (h1 : P.underlying f1.type = some (.int .u64)) (hone : Deep.oneCellFields P #[f0, f1] = true) (hC : P.cellsOf t = 2)
    (hv : Value.okWide P w r b0 t v) (h : DataW.Trod enc P w base spare held t v d p) : ∃ x y, v = .agg #[.int .u64 x, .int .u64 y] ∧ U64 x ∧ U64 y := by
  obtain ⟨c0, c1, y0, y1, m, rfl, rfl, rfl, e0, e1⟩ := Joins.open_agg2 ht hone hC hv h
  obtain ⟨x, f0, rfl, wx⟩ := DataW.trod_int h0 e0
  obtain ⟨y, f1, rfl, wy⟩ := DataW.trod_int h1 e1
  simp at f0 f1
  subst f0 f1
  exact ⟨x, y, rfl, wf_u64 wx, wf_u64 wy⟩
theorem spot_none {w : World} {a : Addr} {u : Value} (h : w.cell? a = some u) : a.spot = none := World.cell?_spot h

theorem open_nums {e : TypeId} {k : IntKind} (ht : P.underlying t = some (.slice e)) (he : P.underlying e = some (.int k)) (hc : P.cellsOf e = 1)
    (hv : Value.okWide P w r b0 t v) (h : DataW.Trod enc P w base (fun _ => true) held t v d p) :
    ∃ (A : Option Addr) (n c : Nat) (zs : List Int), v = .slice A n c ∧ Rd w A 1 n (zs.map (.int k)) ∧ ∀ z ∈ zs, (Lit.int k z).wf = true := by
  obtain ⟨A, n, c, rfl⟩ := okWide_slice ht hv
  obtain ⟨fuel, hf⟩ := h
  rcases open_ints ht he hc hf with ⟨hcs, _⟩ | ⟨x, l, c', zs, hcs, _, hl, hm, hz, _, hcell, hwz⟩
  · simp [Value.cells] at hcs
    obtain ⟨rfl, rfl, rfl⟩ := hcs
    exact ⟨none, 0, 0, [], rfl, ⟨rfl, fun h => by omega⟩, fun z hz => by cases hz⟩
  · simp [Value.cells] at hcs
    obtain ⟨rfl, rfl, rfl⟩ := hcs
    have hz' : zs.length = c := by simpa using hz
    refine ⟨_, n, c, zs.take n, rfl, ⟨by simp; omega, fun h1 _ => ?_⟩, fun z hz => hwz z (List.mem_of_mem_take hz)⟩
    obtain ⟨b, off, spot⟩ := x
    have h0 := hcell 0 (by omega)
    have hs : spot = none := by simpa [Addr.add] using spot_none h0
    subst hs
    refine ⟨b, off, rfl, fun j u hu => ?_⟩
    have hj : j < n := by
      rcases Nat.lt_or_ge j n with h | h
      · exact h
      · rw [List.getElem?_eq_none (by simp; omega)] at hu; cases hu
    have hcj := hcell j (by omega)
    have hjz : j < zs.length := by omega
    have hu' : u = .int k (zs.getD j 0) := by
      simp [hj, List.getElem?_eq_getElem hjz] at hu
      simp [← hu, List.getElem?_eq_getElem hjz]
    rw [hu']
    have ha : (⟨b, off, none⟩ : Addr).add j = ⟨b, off + j, none⟩ := by
      unfold Addr.add
      split
      · rename_i h0; rw [h0]; rfl
      · rfl
    rw [ha] at hcj
    exact hcj
end

end Go.Proofs.YtkfobolbilhjbaaGreat

namespace Go.Proofs.YtkfobolbilhjbaaGreat
open Go Go.RowKit Go.Maps

def MapII (w : World) (b n s : Nat) (f : Int → Option Int) : Prop :=
  ∃ D : DataW Unit, w.ownsMap Tryz.prog 3 (plainElem Tryz.prog 3) b n D ∧ Maps.size D = s ∧ (∀ k, Maps.has D (.int .i64 k) = (f k).isSome) ∧
    ∀ k, D.atKey (.int .i64 k) (.lit (.int .i64 0)) = .lit (.int .i64 ((f k).getD 0))

theorem MapII.made (w : World) : MapII (w.alloc (.map #[] 0)) w.heap.size 0 0 (fun _ => none) :=
  ⟨.map [], World.ownsMap_made _ _ _ _, rfl, fun _ => rfl, fun _ => rfl⟩

theorem Grows.row {w0 w w' : World} {b : Nat} (h : Grows w0 w) (hb : w0.heap.size ≤ b) (hg : w.grownBy w' (some b)) : Grows w0 w' :=
  ⟨hg.os.trans h.os, hg.tape.trans h.tape, hg.output.trans h.output, Nat.le_trans h.size hg.size, fun i hi => (hg.block i (Nat.lt_of_lt_of_le hi h.size) (by simp; omega)).trans (h.block i hi)⟩

theorem MapII.grows {w w' : World} {b n s : Nat} {f : Int → Option Int} (h : MapII w b n s f) (hg : Grows w w') : MapII w' b n s f := by
  obtain ⟨D, h1, h2⟩ := h
  exact ⟨D, h1.kept (row := none) ⟨hg.os, hg.tape, hg.output, hg.size, fun i hi _ => hg.block i hi⟩ (by simp), h2⟩

section
variable {w : World} {ops : Array Oper} {rest : List Oper} {o : Oper} {a : Act} {Q : Exit → Act → World → Prop}

end

end Go.Proofs.YtkfobolbilhjbaaGreat

namespace Go.Proofs.YtkfobolbilhjbaaGreat
open Go Go.RowKit Go.Maps

structure Row where
  A : Option Addr
  n : Nat
  c : Nat
  xs : List Int
def rowVal (r : Row) : Value := .slice r.A r.n r.c
def rowOk (w : World) (r : Row) : Prop := Rd w r.A 1 r.n (r.xs.map (.int .i64)) ∧ r.n ≤ r.c
def gr (R : List Row) (k : Nat) : Row := R.getD k ⟨none, 0, 0, []⟩
def rowsOk (w : World) (R : List Row) : Prop := ∀ k, k < R.length → rowOk w (gr R k)
theorem rowsOk.grows {w w' : World} {R : List Row} (h : rowsOk w R) (hg : Grows w w') : rowsOk w' R := fun k hk => ⟨(h k hk).1.grows hg, (h k hk).2⟩
theorem Rd.rows {w : World} {A : Option Addr} {n : Nat} {R : List Row} (h : Rd w A 1 n (R.map rowVal)) (hn : 0 < n) :
    ∃ b off, A = some ⟨b, off, none⟩ ∧ ∀ j, j < n → w.cell? ⟨b, off + j, none⟩ = some (.slice (gr R j).A (gr R j).n (gr R j).c) := by
  have hl := h.len
  obtain ⟨b, off, e, hc⟩ := h.at_ hn
  refine ⟨b, off, e, fun j hj => hc j _ ?_⟩
  have : j < R.length := by simpa using (show j < (R.map rowVal).length by omega)
  simp [this, gr, rowVal]

end Go.Proofs.YtkfobolbilhjbaaGreat

namespace Go.Proofs.YtkfobolbilhjbaaGreat
open Go Go.RowKit

def Own (w : World) (B : Nat) (e : TypeId) (size : Nat) (A : Option Addr) (n c : Nat) (xs : List Value) : Prop := w.ownsRow B e size (.slice A n c) n xs

theorem own_form {w : World} {B : Nat} {e : TypeId} {size n : Nat} {v : Value} {xs : List Value} (h : w.ownsRow B e size v n xs) : ∃ A c, v = .slice A n c := by
  rcases h.2 with ⟨rfl, h0⟩ | ⟨g, cap, cur, rfl, _⟩
  · subst h0; exact ⟨none, 0, rfl⟩
  · exact ⟨_, _, rfl⟩

theorem Own.nil (w : World) (B : Nat) (e : TypeId) (size : Nat) : Own w B e size none 0 0 [] := World.ownsRow_nil _ _ _ _

structure Elem (t e : TypeId) (size : Nat) : Prop where
  under : Tryz.prog.underlying t = some (.slice e)
  info : ∃ i z bytes, Tryz.prog.info? e = some i ∧ i.zero = some z ∧ i.size = size ∧ i.bytes = bytes ∧ z.cells.size = size ∧ bytes ≤ 64
  pos : 0 < size

section
variable {w w' : World} {B n c size : Nat} {e : TypeId} {A : Option Addr} {xs : List Value}

theorem Own.len (h : Own w B e size A n c xs) : xs.length = n * size := h.1
theorem Own.grows (h : Own w B e size A n c xs) (hg : Grows w w') : Own w' B e size A n c xs :=
  World.ownsRow.kept (row := none) h ⟨hg.os, hg.tape, hg.output, hg.size, fun i hi _ => hg.block i hi⟩ (by cases hv : (Value.slice A n c).ownBlock <;> simp)
theorem Own.now (h : Own w B e size A n c xs) (x : Later w) : Own x.now B e size A n c xs := h.grows x.grows
theorem Own.new (h : Own w B e size A n c xs) (o : Obj) : Own (w.alloc o) B e size A n c xs := h.grows ((Grows.refl w).new o)
theorem Own.drewN (h : Own w B e size A n c xs) (k : Nat) : Own (w.drewN k) B e size A n c xs := h.grows ((Grows.refl w).drewN k)

theorem Own.at_ (h : Own w B e size A n c xs) (hn : 0 < n) : ∃ g cur, A = some ⟨g, 0, none⟩ ∧ B ≤ g ∧ w.heap[g]? = some (.cells cur e (0, 0)) ∧ n ≤ c ∧ cur.size = c * size ∧ cur.toList.take (n * size) = xs := by
  rcases h.2 with ⟨h1, h0⟩ | ⟨g, cap, cur, h1, h2, h3, h4, _, h5, h6⟩
  · omega
  · injection h1 with h1 _ h7
    subst h1 h7
    exact ⟨g, cur, rfl, h2, h3, h4, h5, h6⟩

theorem Own.cell (h : Own w B e size A n c xs) {g : Nat} (hA : A = some ⟨g, 0, none⟩) {j : Nat} {u : Value} (hu : xs[j]? = some u) : w.cell? ⟨g, j, none⟩ = some u := by
  subst hA
  have := World.ownsRow.cells h (g := g) rfl j u hu
  unfold Addr.add at this
  split at this
  · rename_i h0; rw [h0]; exact this
  · simpa using this

theorem Own.rd (h : Own w B e size A n c xs) : Rd w A size n xs :=
  ⟨h.len, fun hn _ => by
    obtain ⟨g, cur, rfl, _⟩ := h.at_ hn
    exact ⟨g, 0, rfl, fun j u hu => by rw [Nat.zero_add]; exact h.cell rfl hu⟩⟩

theorem Own.frozen (h : Own w B e size A n c xs) {g : Nat} (hA : A = some ⟨g, 0, none⟩) (hn : 0 < n) (j : Nat) : w.frozen? ⟨g, j, none⟩ = false := by
  obtain ⟨g', cur, e', _, hh, _⟩ := h.at_ hn
  rw [hA] at e'
  injection e' with e'
  injection e' with e'
  subst e'
  simp [World.frozen?, hh]

theorem Own.set (h : Own w B e size A n c xs) {g : Nat} (hA : A = some ⟨g, 0, none⟩) (hn : 0 < n) (j : Nat) (u : Value) : Own (w.setCell ⟨g, j, none⟩ u) B e size A n c (xs.set j u) := by
  obtain ⟨g', cur, e', hB, hh, hc, hs, ht⟩ := h.at_ hn
  rw [hA] at e'
  injection e' with e'
  injection e' with e'
  subst e' hA
  have hm : c ≤ maxLen := by
    rcases h.2 with ⟨h1, _⟩ | ⟨g2, cap, cur2, h1, _, _, _, h5, _⟩
    · cases h1
    · injection h1 with _ _ h7; subst h7; exact h5
  refine ⟨by rw [List.length_set]; exact h.len, .inr ⟨g, c, cur.setIfInBounds j u, rfl, hB, ?_, hc, hm, by simpa using hs, ?_⟩⟩
  · simp [World.setCell, Array.getElem?_modify, hh]
  · rw [← ht]
    simp [List.take_set]

variable {ops : Array Oper} {rest : List Oper} {o : Oper} {a : Act} {Q : Exit → Act → World → Prop}

theorem wp_app {t : TypeId} (E : Elem t e size) (hgd : o.guard = none) (s x : Operand) (ho : o.op = .call { callee := .builtin .append, args := #[s, x], argTypes := #[t, t] })
    (B n c : Nat) (A : Option Addr) (xs : List Value) (hs : a.eval s = .slice A n c) (hown : Own w B e size A n c xs) (g m c' : Nat) (news : List Value) (hx : a.eval x = .slice (some ⟨g, 0, none⟩) m c')
    (hl : news.length = m * size) (hnews : ∀ j u, news[j]? = some u → w.cell? ⟨g, j, none⟩ = some u) (h1 : ∀ u ∈ news, u.oneCell' = true) (hnm : n + m ≤ 1000000000000) (hbase : B ≤ w.heap.size)
    (h : ∀ A' c'' w', Own w' B e size A' (n + m) c'' (xs ++ news) → (∀ w0, Grows w0 w → w0.heap.size ≤ B → Grows w0 w') → wpList Tryz.prog ops Q rest (a.put o.dst (.slice A' (n + m) c'')) w') :
    wpList Tryz.prog ops Q (o :: rest) a w := by
  obtain ⟨i, z, bytes, hi, hz, hsz, hby, hzs, hb64⟩ := E.info
  refine wpList_append_own w hgd s x t ho B e i z size bytes E.under hi hz hsz hby hzs E.pos (.slice A n c) n xs hs hown ⟨g, 0, none⟩ m c' news hx hl (fun j u hu => ?_) h1 (by unfold maxLen; omega) ?_ hbase ?_
  · have := hnews j u hu
    unfold Addr.add
    split
    · rename_i h0; rw [h0] at this; exact this
    · simpa using this
  · exact Nat.le_trans (Nat.mul_le_mul hnm hb64) (by omega)
  · intro v' w' hown' hgr _
    obtain ⟨A', c'', rfl⟩ := own_form hown'
    refine h A' c'' w' hown' fun w0 hw0 hB => ?_
    refine ⟨hgr.os.trans hw0.os, hgr.tape.trans hw0.tape, hgr.output.trans hw0.output, Nat.le_trans hw0.size hgr.size, fun k hk => ?_⟩
    refine (hgr.block k (Nat.lt_of_lt_of_le hk hw0.size) fun e => ?_).trans (hw0.block k hk)
    have := World.ownsRow.lt hown k e.symm
    omega
end

end Go.Proofs.YtkfobolbilhjbaaGreat

namespace Go.Proofs.YtkfobolbilhjbaaGreat
open Go Go.RowKit

structure Edg where
  f : Int
  t : Int
  w : Int
deriving DecidableEq
def eCells (e : Edg) : List Value := [.int .i64 e.f, .int .i64 e.t, .int .u64 e.w]
def eVal (e : Edg) : Value := .agg #[.int .i64 e.f, .int .i64 e.t, .int .u64 e.w]
def esCells (E : List Edg) : List Value := E.flatMap eCells
def ge (E : List Edg) (k : Nat) : Edg := E.getD k ⟨0, 0, 0⟩

theorem esCells_length (E : List Edg) : (esCells E).length = E.length * 3 := by
  induction E with
  | nil => rfl
  | cons e E ih => simp [esCells, eCells] at *; omega
theorem esCells_at (E : List Edg) (k j : Nat) (hk : k < E.length) (hj : j < 3) : (esCells E)[k * 3 + j]? = (eCells (ge E k))[j]? := by
  induction E generalizing k with
  | nil => simp at hk
  | cons e E ih =>
    have h1 : esCells (e :: E) = eCells e ++ esCells E := rfl
    rw [h1]
    cases k with
    | zero => rw [List.getElem?_append_left (by simp [eCells]; omega)]; simp [ge]
    | succ k =>
      rw [List.getElem?_append_right (by simp [eCells]; omega)]
      have := ih k (by simpa using hk)
      rw [show (k + 1) * 3 + j - (eCells e).length = k * 3 + j by simp [eCells]; omega, this]
      simp [ge]

theorem Rd.edges {w : World} {A : Option Addr} {n : Nat} {E : List Edg} (h : Rd w A 3 n (esCells E)) (hn : 0 < n) :
    ∃ b off, A = some ⟨b, off, none⟩ ∧ ∀ k, k < n → w.cell? ⟨b, off + k * 3, none⟩ = some (.int .i64 (ge E k).f) ∧ w.cell? ⟨b, off + k * 3 + 1, none⟩ = some (.int .i64 (ge E k).t) ∧ w.cell? ⟨b, off + k * 3 + 2, none⟩ = some (.int .u64 (ge E k).w) := by
  have hl := h.1
  rw [esCells_length] at hl
  obtain ⟨b, off, e, hc⟩ := h.2 hn (by omega)
  refine ⟨b, off, e, fun k hk => ⟨?_, ?_, ?_⟩⟩
  · exact hc (k * 3 + 0) _ (by rw [esCells_at E k 0 (by omega) (by omega)]; rfl)
  · have := hc (k * 3 + 1) _ (by rw [esCells_at E k 1 (by omega) (by omega)]; rfl)
    rwa [← Nat.add_assoc] at this
  · have := hc (k * 3 + 2) _ (by rw [esCells_at E k 2 (by omega) (by omega)]; rfl)
    rwa [← Nat.add_assoc] at this
theorem Rd.elen {w : World} {A : Option Addr} {n : Nat} {E : List Edg} (h : Rd w A 3 n (esCells E)) : E.length = n := by
  have hl := h.1
  rw [esCells_length] at hl
  omega

def nodeB (N v : Int) : Bool := decide (0 ≤ v ∧ v < N)
def wtB (w : Int) : Bool := decide (1 ≤ w ∧ w ≤ 4294967296)
def looseB (N : Int) (e : Edg) : Bool := !nodeB N e.f || (!nodeB N e.t || decide (e.f = e.t))
def heavyB (e : Edg) : Bool := !wtB e.w
def rightF (N : Int) (E : List Edg) : Int := if N < 1 ∨ 4096 < N then 2 else if 16384 < E.length then 5 else if E.any (looseB N) then 7 else if E.any heavyB then 2 else 0

set_option maxHeartbeats 400000 in
theorem gNode (N v : Int) (s : Value) (w : World) : Calls Tryz.prog 30 #[.agg #[.int .i64 N, s], .int .i64 v] w fun e w' => e = .returned (.bool (nodeB N v)) ∧ Grows w w' := by
  go_enter Tryz.func30, Tryz.ntmps30
  go_wp2
  all_goals go_ret
  all_goals exact ⟨ret_bool (bool_ext (by unfold nodeB; simp; try omega)), GG⟩

set_option maxHeartbeats 400000 in
theorem gWeight (x : Int) (w : World) : Calls Tryz.prog 38 #[.int .u64 x] w fun e w' => e = .returned (.bool (wtB x)) ∧ w = w' := by
  go_enter Tryz.func38, Tryz.ntmps38
  go_wp2
  all_goals go_ret
  all_goals exact ⟨ret_bool (bool_ext (by unfold wtB; simp; try omega)), rfl⟩

set_option maxHeartbeats 400000 in
theorem gRight2 (x : Edg) (w : World) : Calls Tryz.prog 37 #[eVal x] w fun e w' => e = .returned (.bool (heavyB x)) ∧ Grows w w' := by
  unfold eVal
  go_enter Tryz.func37, Tryz.ntmps37
  go_wp2_with (first | (go_at_call 38; refine (gWeight _ _).mono ?_; rintro e w' ⟨rfl, rfl⟩))
  all_goals go_ret
  all_goals exact ⟨ret_bool (by unfold heavyB; rfl), GG⟩

set_option maxHeartbeats 1000000 in
theorem gRight1 (x : Edg) (N : Int) (s : Value) (g : Nat) (w : World) (c0 : w.cell? ⟨g, 0, none⟩ = some (.int .i64 N)) (c1 : w.cell? ⟨g, 1, none⟩ = some s) :
    Calls Tryz.prog 36 #[eVal x, .pointer (some ⟨g, 0, none⟩)] w fun e w' => e = .returned (.bool (looseB N x)) ∧ Grows w w' := by
  unfold eVal
  have C1 := fun W => gNode N x.f s W
  have C2 := fun W => gNode N x.t s W
  cases h1 : nodeB N x.f with
  | false =>
    have HW : Hid (looseB N x = true) := by unfold looseB; rw [h1]; rfl
    rw [h1] at C1
    have H1 := hide C1
    clear C1 C2 h1
    go_enter Tryz.func36, Tryz.ntmps36
    go_wp2_with (first | (go_at_call 30; refine (H1.out _).mono ?_; rintro e w' ⟨rfl, hg⟩; (first | obtain ⟨x, rfl⟩ := Grows.later2 hg | obtain ⟨x, rfl⟩ := Grows.later hg); clear hg))
    go_ret
    exact ⟨ret_bool HW.out.symm, GG⟩
  | true =>
  cases h2 : nodeB N x.t with
  | false =>
    have HW : Hid (looseB N x = true) := by unfold looseB; rw [h1, h2]; rfl
    rw [h1] at C1
    rw [h2] at C2
    have H1 := hide C1
    have H2 := hide C2
    clear C1 C2 h1 h2
    go_enter Tryz.func36, Tryz.ntmps36
    go_wp2_with fail
    refine (H1.out _).mono ?_; rintro e w' ⟨rfl, hg⟩; obtain ⟨x1, rfl⟩ := Grows.later hg; clear hg
    go_wp2_with fail
    refine (H2.out _).mono ?_; rintro e w' ⟨rfl, hg⟩; obtain ⟨x2, rfl⟩ := Grows.later2 hg; clear hg
    go_wp2
    go_ret
    exact ⟨ret_bool HW.out.symm, GG⟩
  | true =>
    have HW : Hid (looseB N x = decide (x.f = x.t)) := by unfold looseB; rw [h1, h2]; rfl
    rw [h1] at C1
    rw [h2] at C2
    have H1 := hide C1
    have H2 := hide C2
    clear C1 C2 h1 h2
    go_enter Tryz.func36, Tryz.ntmps36
    go_wp2_with fail
    refine (H1.out _).mono ?_; rintro e w' ⟨rfl, hg⟩; obtain ⟨x1, rfl⟩ := Grows.later hg; clear hg
    go_wp2_with fail
    refine (H2.out _).mono ?_; rintro e w' ⟨rfl, hg⟩; obtain ⟨x2, rfl⟩ := Grows.later2 hg; clear hg
    go_wp2
    go_ret
    exact ⟨ret_bool (by rw [HW.out]; first | rfl | (apply bool_ext; simp)), GG⟩

def firstI {α : Type} (p : α → Bool) : List α → Int
  | [] => -1
  | x :: l => if p x then 0 else (if firstI p l = -1 then -1 else firstI p l + 1)
theorem firstI_cons {α : Type} (p : α → Bool) (x : α) (l : List α) : firstI p (x :: l) = if p x then 0 else (if firstI p l = -1 then -1 else firstI p l + 1) := rfl
theorem firstI_nonneg {α : Type} (p : α → Bool) (l : List α) : -1 ≤ firstI p l := by
  induction l with
  | nil => simp [firstI]
  | cons x l ih => rw [firstI_cons]; split <;> (try split) <;> omega
theorem firstI_any {α : Type} (p : α → Bool) (l : List α) : decide (0 ≤ firstI p l) = l.any p := by
  induction l with
  | nil => simp [firstI]
  | cons x l ih =>
    have := firstI_nonneg p l
    rw [List.any_cons, ← ih, firstI_cons]
    cases h : p x
    · simp only [Bool.false_eq_true, if_false, Bool.false_or]
      split
      · rename_i h'; rw [h']
      · rw [decide_eq_true (by omega), decide_eq_true (by omega)]
    · simp
theorem firstI_none {α : Type} (p : α → Bool) (l : List α) (h : ∀ x ∈ l, p x = false) : firstI p l = -1 := by
  induction l with
  | nil => rfl
  | cons x l ih => rw [firstI_cons, h x (by simp), ih (fun y hy => h y (by simp [hy]))]; rfl
theorem firstI_at {α : Type} (p : α → Bool) (d : α) (l : List α) (k : Nat) (hk : k < l.length) (h : ∀ j, j < k → p (l.getD j d) = false) (h' : p (l.getD k d) = true) : firstI p l = k := by
  induction l generalizing k with
  | nil => simp at hk
  | cons x l ih =>
    rw [firstI_cons]
    cases k with
    | zero => have : p x = true := by simpa using h'
              rw [this]; rfl
    | succ k =>
      have h0 : p x = false := by simpa using h 0 (by omega)
      have := ih k (by simpa using hk) (fun j hj => by simpa using h (j + 1) (by omega)) (by simpa using h')
      rw [h0, this]
      simp only [Bool.false_eq_true, if_false]
      split <;> omega

set_option maxRecDepth 20000 in
set_option maxHeartbeats 1000000 in
theorem indexE (A : Option Addr) (n c : Nat) (E : List Edg) (k : FuncId) (cap : Array Value) (p : Edg → Bool) (w : World) (h : Rd w A 3 n (esCells E)) (hn : n ≤ 1000000) (hk : ∀ args W, (callFunc k args).run Tryz.prog W = .ok (.enter k args) W)
    (hf : ∀ W, Grows w W → ∀ e, Calls Tryz.prog k (#[eVal e] ++ cap) W fun x w' => x = .returned (.bool (p e)) ∧ Grows W w') :
    Calls Tryz.prog 58 #[.slice A n c, .func (.func k) #[] cap] w fun e w' => e = .returned (.int .i64 (firstI p E)) ∧ Grows w w' := by
  have HL := hide h.elen
  have HR := hide h
  have HF := hide hf
  clear h hf
  unfold eVal at HF
  go_enter Tryz.func58, Tryz.ntmps58
  go_wp2
  go_loopw [8] (fun i wr => ∃ k : Nat, k ≤ n ∧ i = .int .i64 (k : Int) ∧ (∃ x : Later w, wr = x.now) ∧ ∀ j, j < k → p (ge E j) = false) (fun i _ => n - (intOf i).toNat)
  case atStart => exact ⟨0, by omega, by go_num, ⟨⟨w, Grows.refl w⟩, rfl⟩, fun j h1 => by omega⟩
  case round =>
    obtain ⟨q, hq, rfl, ⟨x, rfl⟩, hall⟩ := hrel
    have HA := hide hall
    clear hall
    by_cases hend : n ≤ q
    · go_wp2
      go_ret
      refine ⟨ret_int ?_, GG⟩
      have hl := HL.out
      have hh := HA.out
      rw [firstI_none]
      intro e he
      obtain ⟨j, hj, rfl⟩ := List.mem_iff_getElem.1 he
      have := hh j (by omega)
      simpa [ge, hj] using this
    · obtain ⟨b, off, rfl, hc⟩ := HR.out.edges (by omega)
      obtain ⟨hc1, hc2, hc3⟩ := hc q (by omega)
      clear hc
      go_wp2_with fail
      refine (HF.out _ GG (ge E q)).mono ?_; rintro e w' ⟨rfl, hg⟩; obtain ⟨x1, rfl⟩ := Grows.later2 hg; clear hg
      cases hp : p (ge E q) with
      | true =>
        have HW : Hid (firstI p E = q) := firstI_at p ⟨0, 0, 0⟩ E q (by have := HL.out; omega) HA.out hp
        clear hp
        go_wp2
        go_ret
        exact ⟨ret_int HW.out.symm, GG⟩
      | false =>
        have HP := hide hp
        clear hp
        go_wp2
        go_roundw
        case measure => simp [intOf]; omega
        case rel =>
          refine ⟨q + 1, by omega, by go_num, ⟨_, rfl⟩, fun j h1 => ?_⟩
          by_cases hj : j = q
          · rw [hj]; exact HP.out
          · exact HA.out j (by omega)

set_option maxHeartbeats 1000000 in
theorem containsE (A : Option Addr) (n c : Nat) (E : List Edg) (k : FuncId) (cap : Array Value) (p : Edg → Bool) (w : World) (h : Rd w A 3 n (esCells E)) (hn : n ≤ 1000000) (hk : ∀ args W, (callFunc k args).run Tryz.prog W = .ok (.enter k args) W)
    (hf : ∀ W, Grows w W → ∀ e, Calls Tryz.prog k (#[eVal e] ++ cap) W fun x w' => x = .returned (.bool (p e)) ∧ Grows W w') :
    Calls Tryz.prog 39 #[.slice A n c, .func (.func k) #[] cap] w fun e w' => e = .returned (.bool (E.any p)) ∧ Grows w w' := by
  have HC := hide (indexE A n c E k cap p w h hn hk hf)
  have HV := hide (firstI_any p E)
  clear h hf hk
  go_enter Tryz.func39, Tryz.ntmps39
  go_wp2_with (first | (go_at_call 58; refine (HC.out).mono ?_; rintro e w' ⟨rfl, hg⟩; (first | obtain ⟨x, rfl⟩ := Grows.later2 hg | obtain ⟨x, rfl⟩ := Grows.later hg); clear hg))
  all_goals go_ret
  all_goals exact ⟨ret_bool (by rw [← HV.out]), GG⟩

set_option maxHeartbeats 2000000 in
theorem gRight (N : Int) (A : Option Addr) (n c : Nat) (E : List Edg) (w : World) (h : Rd w A 3 n (esCells E)) (hn : n ≤ 1000000) :
    Calls Tryz.prog 20 #[.agg #[.int .i64 N, .slice A n c]] w fun e w' => e = .returned (.int .i64 (rightF N E)) ∧ Grows w w' := by
  have HL := hide h.elen
  have HR := hide h
  clear h
  have K1 := fun args W => run_callGo (P := Tryz.prog) Tryz.func36 (by kernel_rfl) (by kernel_rfl) args W
  have K2 := fun args W => run_callGo (P := Tryz.prog) Tryz.func37 (by kernel_rfl) (by kernel_rfl) args W
  have HK1 := hide K1
  have HK2 := hide K2
  clear K1 K2
  by_cases h1 : N < 1 ∨ 4096 < N
  · have HW : Hid (rightF N E = 2) := by unfold rightF; rw [if_pos h1]; rfl
    go_enter Tryz.func20, Tryz.ntmps20
    go_wp2
    all_goals go_ret
    all_goals exact ⟨ret_int HW.out.symm, GG⟩
  by_cases h2 : 16384 < n
  · have HW : Hid (rightF N E = 5) := by unfold rightF; rw [if_neg h1, if_pos (by have := HL.out; omega)]; rfl
    have h3 : 1 ≤ N := by omega
    have h4 : N ≤ 4096 := by omega
    clear h1
    go_enter Tryz.func20, Tryz.ntmps20
    go_wp2
    all_goals go_ret
    all_goals exact ⟨ret_int HW.out.symm, GG⟩
  have h3 : 1 ≤ N := by omega
  have h4 : N ≤ 4096 := by omega
  have C1 := fun (W : World) (g : Grows w W) c0 c1 => containsE A n c E 36 #[.pointer (some ⟨w.heap.size, 0, none⟩)] (looseB N) W (HR.out.grows g) hn HK1.out (fun W' g' e => gRight1 e N (.slice A n c) w.heap.size W' (g'.keeps c0) (g'.keeps c1))
  have C2 := fun (W : World) (g : Grows w W) => containsE A n c E 37 #[] heavyB W (HR.out.grows g) hn HK2.out (fun W' _ e => gRight2 e W')
  cases hl : E.any (looseB N) with
  | true =>
    have HW : Hid (rightF N E = 7) := by unfold rightF; rw [if_neg h1, if_neg (by have := HL.out; omega), hl]; rfl
    rw [hl] at C1
    have H1 := hide C1
    clear C1 C2 hl h1
    go_enter Tryz.func20, Tryz.ntmps20
    go_wp2_with (first | (go_at_call 39; refine (H1.out _ GG (by simp [go_sem]) (by simp [go_sem])).mono ?_; rintro e w' ⟨rfl, hg⟩; (first | obtain ⟨x, rfl⟩ := Grows.later2 hg | obtain ⟨x, rfl⟩ := Grows.later hg); clear hg))
    go_ret
    exact ⟨ret_int HW.out.symm, GG⟩
  | false =>
    rw [hl] at C1
    have H1 := hide C1
    clear C1
    cases hh : E.any heavyB with
    | true =>
      have HW : Hid (rightF N E = 2) := by unfold rightF; rw [if_neg h1, if_neg (by have := HL.out; omega), hl, hh]; rfl
      rw [hh] at C2
      have H2 := hide C2
      clear C2 hl h1 hh
      go_enter Tryz.func20, Tryz.ntmps20
      go_wp2_with fail
      refine (H1.out _ GG (by simp [go_sem]) (by simp [go_sem])).mono ?_; rintro e w' ⟨rfl, hg⟩; obtain ⟨x1, rfl⟩ := Grows.later hg; clear hg
      go_wp2_with fail
      refine (H2.out _ GG).mono ?_; rintro e w' ⟨rfl, hg⟩; obtain ⟨x2, rfl⟩ := Grows.later2 hg; clear hg
      go_wp2
      go_ret
      exact ⟨ret_int HW.out.symm, GG⟩
    | false =>
      have HW : Hid (rightF N E = 0) := by unfold rightF; rw [if_neg h1, if_neg (by have := HL.out; omega), hl, hh]; rfl
      rw [hh] at C2
      have H2 := hide C2
      clear C2 hl h1 hh
      go_enter Tryz.func20, Tryz.ntmps20
      go_wp2_with fail
      refine (H1.out _ GG (by simp [go_sem]) (by simp [go_sem])).mono ?_; rintro e w' ⟨rfl, hg⟩; obtain ⟨x1, rfl⟩ := Grows.later hg; clear hg
      go_wp2_with fail
      refine (H2.out _ GG).mono ?_; rintro e w' ⟨rfl, hg⟩; obtain ⟨x2, rfl⟩ := Grows.later2 hg; clear hg
      go_wp2
      go_ret
      exact ⟨ret_int HW.out.symm, GG⟩

end Go.Proofs.YtkfobolbilhjbaaGreat

