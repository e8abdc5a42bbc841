/- Regions that draw their order and box what a call hands back: one walk of the text's order serves every order: the box comes at any time, and it is filled at any time behind the call. -/
import Derived.Test.YtkfobolbilhjbaaGreatQFlowRounds10
import Derived.Test.YtkfobolbilhjbaaGreatQFlowRounds14
namespace Go.Proofs.YtkfobolbilhjbaaGreat
open Go Go.RowKit
structure Bx where
  ia : Nat
  si : Nat
  iw : Nat
  tp : Tmp
  ts : Tmp
  T : TypeId
  Z : List Value
  fin : Value → List Value
  good : Value → Prop
def AnyP : Pr := fun _ _ => True
section
variable {P : Program} {ops : Array Oper} {md : Region.Mode} {w0 : World} {B : Bx}
def relX (G : Env) (a : Act) (t : Tmp) (x : Option Value) (w : World) (S : Nat → Prop) : Prop :=
  match G t with
  | none => x = a.tmps[t]?
  | some p => ∃ v, x = some v ∧ ∀ w', Touch S w w' → p v w'
def okX (r : Out) (u : Value) (w : World) (S : Nat → Prop) : Prop :=
  match r with
  | .inl v => u = v
  | .inr p => ∀ w', Touch S w w' → p u w'
def ConX (G : Env) (a a' : Act) (w : World) (S : Nat → Prop) : Prop := a'.defers = a.defers ∧ ∀ t, relX G a t a'.tmps[t]? w S
def InS (w0 w : World) (S : Nat → Prop) : Prop := ∀ k, S k → w0.heap.size ≤ k ∧ k < w.heap.size
def OwedX (P : Program) (ops : Array Oper) (w0 : World) (o : Oper) (a : Act) (G : Env) (r : Out) : Prop :=
  ∀ w S, Grows w0 w → InS w0 w S → ∀ a' : Act, (∀ t ∈ o.looksAt ops, relX G a t a'.tmps[t]? w S) → runsTo P (fun u w' => Grows w w' ∧ okX r u w' S) ((execOp a'.eval o).run P w)
def LeavesX (P : Program) (ops : Array Oper) (w0 : World) (B : Bx) (i : Nat) (o : Oper) (a : Act) (G : Env) (r : Out) : Prop :=
  guardFree ops o G ∧ dstFree o G ∧
  ((Region.wanted o (yielded ops a.tmps) = true ∧ fits a o.dst r ∧ (i ≠ B.si → OwedX P ops w0 o a G r) ∧ (i = B.si → r = .inl undef ∧ B.ts ∈ o.looksAt ops ∧ ∀ x w S, relX G a B.ts x w S → ∃ v, x = some v ∧ B.good v) ∧ (i = B.ia → r = .inr AnyP)) ∨
    (Region.wanted o (yielded ops a.tmps) = false ∧ r = .inl undef))
def gOpX (P : Program) (ops : Array Oper) (w0 : World) (B : Bx) (i : Nat) (K : Act → Env → Prop) (a : Act) (G : Env) : Prop :=
  match ops[i]? with
  | none => K a G
  | some o => ∃ r, LeavesX P ops w0 B i o a G r ∧ K (putA a o.dst r) (putG G o.dst r)
def gAnyX (P : Program) (md : Region.Mode) (ops : Array Oper) (w0 : World) (B : Bx) (L : Array Bool → Act → Env → Prop) : Nat → Array Bool → Act → Env → Prop
  | 0, l, a, G => Region.ready md ops l = [] ∧ L l a G
  | n + 1, l, a, G => Region.ready md ops l ≠ [] ∧ ∀ i ∈ Region.ready md ops l, gOpX P ops w0 B i (gAnyX P md ops w0 B L n (l.setIfInBounds i true)) a G
def gLexX (P : Program) (ops : Array Oper) (w0 : World) (B : Bx) (Q : Act → Env → Prop) : Nat → List Oper → Act → Env → Prop
  | _, [], a, G => Q a G
  | k, o :: rest, a, G => ∃ r, LeavesX P ops w0 B k o a G r ∧ gLexX P ops w0 B Q (k + 1) rest (putA a o.dst r) (putG G o.dst r)
theorem gOpX_mono {i : Nat} {a : Act} {G : Env} {K K' : Act → Env → Prop} (h : ∀ a G, K a G → K' a G) (hh : gOpX P ops w0 B i K a G) : gOpX P ops w0 B i K' a G := by
  unfold gOpX at *
  split
  · rename_i ho; rw [ho] at hh; exact h _ _ hh
  · rename_i o ho
    rw [ho] at hh
    obtain ⟨r, h1, h2⟩ := hh
    exact ⟨r, h1, h _ _ h2⟩
theorem relX_put {a : Act} {G : Env} {d : Option Tmp} {r : Out} {t : Tmp} (h : d ≠ some t) (x : Option Value) (w : World) (S : Nat → Prop) : relX (putG G d r) (putA a d r) t x w S = relX G a t x w S := by
  unfold relX
  rw [putG_at G d r t h, putA_tmps a d r t h]
theorem LeavesX.put {i : Nat} {o : Oper} {a : Act} {G : Env} {r s : Out} {d : Option Tmp} (h1 : ∀ t, d = some t → t ∉ o.looksAt ops) (h2 : ∀ t, d = some t → o.dst ≠ some t) :
    LeavesX P ops w0 B i o (putA a d s) (putG G d s) r ↔ LeavesX P ops w0 B i o a G r := by
  have hlook : ∀ t ∈ o.looksAt ops, d ≠ some t := fun t ht e => h1 t e ht
  have hg : guardFree ops o (putG G d s) ↔ guardFree ops o G := by
    unfold guardFree
    constructor <;> intro h g b t e1 e2
    · rw [← putG_at G d s t (hlook t (mem_looks_guard e1 e2))]; exact h g b t e1 e2
    · rw [putG_at G d s t (hlook t (mem_looks_guard e1 e2))]; exact h g b t e1 e2
  have hd : dstFree o (putG G d s) ↔ dstFree o G := by
    unfold dstFree
    constructor <;> intro h t e
    · rw [← putG_at G d s t (fun e' => h2 t e' e)]; exact h t e
    · rw [putG_at G d s t (fun e' => h2 t e' e)]; exact h t e
  have ho : OwedX P ops w0 o (putA a d s) (putG G d s) r ↔ OwedX P ops w0 o a G r := by
    unfold OwedX
    constructor <;> intro h w S hw hS a' ha'
    · refine h w S hw hS a' fun t ht => ?_
      rw [relX_put (hlook t ht)]; exact ha' t ht
    · refine h w S hw hS a' fun t ht => ?_
      have := ha' t ht
      rw [relX_put (hlook t ht)] at this; exact this
  have hs : (B.ts ∈ o.looksAt ops ∧ ∀ x w S, relX (putG G d s) (putA a d s) B.ts x w S → ∃ v, x = some v ∧ B.good v) ↔ (B.ts ∈ o.looksAt ops ∧ ∀ x w S, relX G a B.ts x w S → ∃ v, x = some v ∧ B.good v) := by
    constructor <;> rintro ⟨q1, q2⟩ <;> refine ⟨q1, fun x w S h => q2 x w S ?_⟩
    · rw [relX_put (hlook _ q1)]; exact h
    · rw [relX_put (hlook _ q1)] at h; exact h
  have hf : fits (putA a d s) o.dst r ↔ fits a o.dst r := by
    cases r <;> simp [fits, putA_size]
  unfold LeavesX
  rw [hg, hd, ho, hs, hf, wanted_putA o a d s h1]
theorem gOpX_put {i j : Nat} {oi oj : Oper} {r : Out} (hj : ops[j]? = some oj) (hap : oi.apart ops oj = true) {K : Act → Env → Prop} {a : Act} {G : Env}
    (hy : LeavesX P ops w0 B i oi a G r) (h : gOpX P ops w0 B j K (putA a oi.dst r) (putG G oi.dst r)) :
    gOpX P ops w0 B j (fun a' G' => LeavesX P ops w0 B i oi a' G' r ∧ K (putA a' oi.dst r) (putG G' oi.dst r)) a G := by
  obtain ⟨h1, h2, h3⟩ := Oper.apart_spec hap
  unfold gOpX at *
  simp only [hj] at *
  obtain ⟨s, hs, hK⟩ := h
  refine ⟨s, (LeavesX.put h1 (fun t e => h2 t e)).1 hs, (LeavesX.put h3 (fun t e e' => h2 t e' e)).2 hy, ?_⟩
  rw [← putA_comm a r s h2, ← putG_comm G r s h2]
  exact hK
theorem gAnyX_first {i : Nat} {oi : Oper} {r : Out} {L : Array Bool → Act → Env → Prop} (hi : ops[i]? = some oi) : ∀ (n : Nat) (l : Array Bool) (a : Act) (G : Env),
    (∀ j oj, ops[j]? = some oj → j ≠ i → l.getD j true = false → (∀ e ∈ oj.after, Region.binds md e = true → e.on ≠ i) → oi.apart ops oj = true) →
    i ∈ Region.ready md ops l → LeavesX P ops w0 B i oi a G r →
    gAnyX P md ops w0 B L n (l.setIfInBounds i true) (putA a oi.dst r) (putG G oi.dst r) → gAnyX P md ops w0 B L (n + 1) l a G := by
  intro n
  induction n with
  | zero =>
    intro l a G _ hr hy H
    refine ⟨fun h => (by rw [h] at hr; cases hr), fun j hj => ?_⟩
    by_cases hji : j = i
    · subst hji; unfold gOpX; simp only [hi]; exact ⟨r, hy, H⟩
    · have := ready_mono hj hji
      rw [H.1] at this
      cases this
  | succ n ih =>
    intro l a G hfree hr hy H
    refine ⟨fun h => (by rw [h] at hr; cases hr), fun j hj => ?_⟩
    by_cases hji : j = i
    · subst hji; unfold gOpX; simp only [hi]; exact ⟨r, hy, H⟩
    · have hstep := H.2 j (ready_mono hj hji)
      obtain ⟨hun, oj, hoj, hall⟩ := mem_ready.1 hj
      have hi0 := (mem_ready.1 hr).1
      have hnot : ∀ e ∈ oj.after, Region.binds md e = true → e.on ≠ i := fun e he hb heq => by
        have hl := hall e he hb
        rw [heq] at hl
        rcases Nat.lt_or_ge i l.size with h' | h'
        · simp [h'] at hi0 hl; rw [hi0] at hl; cases hl
        · simp [Array.getElem?_eq_none h'] at hl
      have hcomm := gOpX_put hoj (hfree j oj hoj hji hun hnot) hy hstep
      refine gOpX_mono (fun a' G' hk => ?_) hcomm
      refine ih (l.setIfInBounds j true) a' G' (fun k ok hk' hki hunk hnok => hfree k ok hk' hki ?_ hnok) (ready_mono hr (Ne.symm hji)) hk.1 ?_
      · by_cases hjk : j = k
        · subst hjk; exact hun
        · rw [getD_set_ne true hjk] at hunk; exact hunk
      · rw [Array.setIfInBounds_comm _ _ hji]
        exact hk.2
theorem getD_set_same (l : Array Bool) (i : Nat) : (l.setIfInBounds i true).getD i true = true := by
  by_cases h : i < l.size
  · simp [h]
  · simp [Array.getD, h]
theorem getD_set_any {l : Array Bool} {i j : Nat} (h : l.getD j true = true) : (l.setIfInBounds i true).getD j true = true := by
  by_cases e : i = j
  · subst e; exact getD_set_same _ _
  · rw [getD_set_ne true e]; exact h
theorem gAnyX_of_lex {Q : Act → Env → Prop} : ∀ (l : List Oper) (k : Nat) (listed : Array Bool) (a : Act) (G : Env), (∀ j, l[j]? = ops[k + j]?) → (∀ j, j < k → listed.getD j true = true) →
    Region.lexFrom md ops l.length k listed = true → gLexX P ops w0 B Q k l a G → gAnyX P md ops w0 B (fun l' a' G' => Q a' G' ∧ ∀ j, j < ops.size → l'.getD j true = true) l.length listed a G
  | [], k, _, _, _, hl, hli, hB, h => ⟨by simpa [Region.lexFrom] using hB, h, fun j hj => hli j (by
      have h0 := hl 0
      rw [Nat.add_zero] at h0
      rcases Nat.lt_or_ge k ops.size with h1 | h1
      · rw [Array.getElem?_eq_getElem h1] at h0; cases h0
      · omega)⟩
  | o :: l, k, listed, a, G, hl, hli, hB, h => by
    have h0 : ops[k]? = some o := by simpa using (hl 0).symm
    simp only [List.length_cons, Region.lexFrom, Bool.and_eq_true] at hB
    obtain ⟨⟨hr, hf⟩, hB'⟩ := hB
    obtain ⟨r, hy, hK⟩ := h
    exact gAnyX_first h0 l.length listed a G (Region.free_spec h0 hf) (by simpa using hr) hy
      (gAnyX_of_lex l (k + 1) _ _ _ (fun j => by have := hl (j + 1); simpa [Nat.add_assoc, Nat.add_comm 1 j] using this) (fun j hj => by
        by_cases e : j = k
        · subst e; exact getD_set_same _ _
        · exact getD_set_any (hli j (by omega))) hB' hK)
theorem relX_mono {G : Env} {a : Act} {t : Tmp} {x : Option Value} {w w' : World} {S S' : Nat → Prop} (hw : ∀ w'', Touch S' w' w'' → Touch S w w'') (h : relX G a t x w S) : relX G a t x w' S' := by
  unfold relX at *
  cases hg : G t with
  | none => rw [hg] at h; exact h
  | some p =>
    rw [hg] at h
    obtain ⟨v, e, hv⟩ := h
    exact ⟨v, e, fun w'' h2 => hv w'' (hw w'' h2)⟩
theorem ConX.step {G : Env} {a a' : Act} {w w' : World} {S S' : Nat → Prop} (hw : ∀ w'', Touch S' w' w'' → Touch S w w'') {d : Option Tmp} (hfree : ∀ t, d = some t → G t = none) {r : Out} {u : Value}
    (hfit : fits a d r) (hu : okX r u w' S') (h : ConX G a a' w S) : ConX (putG G d r) (putA a d r) (a'.put d u) w' S' := by
  refine ⟨by rw [putA_defers]; cases d <;> exact h.1, fun t => ?_⟩
  by_cases hd : d = some t
  · subst hd
    have h0 := h.2 t
    unfold relX at h0
    rw [hfree t rfl] at h0
    have hsz : t < a'.tmps.size ↔ t < a.tmps.size := by
      constructor <;> intro hlt
      · rcases Nat.lt_or_ge t a.tmps.size with hh | hh
        · exact hh
        · rw [Array.getElem?_eq_none hh, Array.getElem?_eq_getElem hlt] at h0; cases h0
      · rcases Nat.lt_or_ge t a'.tmps.size with hh | hh
        · exact hh
        · rw [Array.getElem?_eq_none hh, Array.getElem?_eq_getElem hlt] at h0; cases h0
    cases r with
    | inl v =>
      have hu' : u = v := hu
      subst hu'
      unfold relX
      rw [show putG G (some t) (.inl u) = G from rfl, hfree t rfl]
      simp only [putA, Act.put, Array.getElem?_setIfInBounds, if_pos]
      by_cases hlt : t < a.tmps.size
      · rw [if_pos hlt, if_pos (hsz.2 hlt)]
      · rw [if_neg hlt, if_neg (fun hh => hlt (hsz.1 hh))]
    | inr p =>
      obtain ⟨t', e, hlt⟩ := hfit
      injection e with e
      subst e
      unfold relX
      simp only [putG, Env.upd, if_pos]
      refine ⟨u, ?_, hu⟩
      simp [Act.put, hsz.2 hlt]
  · rw [relX_put hd]
    have h0 := relX_mono hw (h.2 t)
    cases d with
    | none => exact h0
    | some d =>
      have hne : d ≠ t := fun e => hd (by rw [e])
      simpa [Act.put, Array.getElem?_setIfInBounds_ne hne] using h0
theorem wanted_conX {o : Oper} {a a' : Act} {G : Env} {w : World} {S : Nat → Prop} (hg : guardFree ops o G) (h : ConX G a a' w S) : Region.wanted o (yielded ops a'.tmps) = Region.wanted o (yielded ops a.tmps) := by
  unfold Region.wanted
  cases ho : o.guard with
  | none => rfl
  | some gb =>
    obtain ⟨g, b⟩ := gb
    have hy : yielded ops a'.tmps g = yielded ops a.tmps g := by
      unfold yielded
      cases ht : (ops[g]?).bind (·.dst) with
      | none => rfl
      | some t =>
        have h0 := h.2 t
        unfold relX at h0
        rw [hg g b t ho ht] at h0
        simp only [Option.bind_some, h0]
    simp only [hy]
def Bx.fixedB (B : Bx) (md : Region.Mode) (ops : Array Oper) : Bool :=
  (match ops[B.ia]? with | some o => o.guard.isNone && o.dst == some B.tp | none => false) &&
  (match ops[B.si]? with | some o => o.guard.isNone && o.dst.isNone && o.after.any (fun e => Region.binds md e && e.on == B.ia) && o.after.any (fun e => Region.binds md e && e.on == B.iw) | none => false) &&
  (B.ia != B.si && B.iw != B.si && B.ia != B.iw) && (List.range ops.size).all fun j => (j == B.ia || (ops[j]?).bind (·.dst) != some B.tp) && (j == B.iw || (ops[j]?).bind (·.dst) != some B.ts)
structure Bx.Fixed (B : Bx) (md : Region.Mode) (ops : Array Oper) (oa os : Oper) : Prop where
  ha : ops[B.ia]? = some oa
  hs : ops[B.si]? = some os
  ga : oa.guard = none
  gs : os.guard = none
  da : oa.dst = some B.tp
  ds : os.dst = none
  aft : ∃ e ∈ os.after, Region.binds md e = true ∧ e.on = B.ia
  aft2 : ∃ e ∈ os.after, Region.binds md e = true ∧ e.on = B.iw
  n1 : B.ia ≠ B.si
  n2 : B.iw ≠ B.si
  n3 : B.ia ≠ B.iw
  only : ∀ j o, ops[j]? = some o → j ≠ B.ia → o.dst ≠ some B.tp
  only2 : ∀ j o, ops[j]? = some o → j ≠ B.iw → o.dst ≠ some B.ts
theorem Bx.fixed_of (h : B.fixedB md ops = true) : ∃ oa os, B.Fixed md ops oa os := by
  unfold Bx.fixedB at h
  simp only [Bool.and_eq_true] at h
  obtain ⟨⟨⟨h1, h2⟩, h3⟩, h4⟩ := h
  cases ha : ops[B.ia]? with
  | none => rw [ha] at h1; cases h1
  | some oa =>
  cases hs : ops[B.si]? with
  | none => rw [hs] at h2; cases h2
  | some os =>
  rw [ha] at h1
  rw [hs] at h2
  simp only [Bool.and_eq_true, Option.isNone_iff_eq_none, beq_iff_eq, Array.any_eq_true', bne_iff_ne] at h1 h2 h3
  obtain ⟨⟨⟨q1, q2⟩, e1, m1, b1⟩, e2, m2, b2⟩ := h2
  have h4' : ∀ j o, ops[j]? = some o → (j = B.ia ∨ o.dst ≠ some B.tp) ∧ (j = B.iw ∨ o.dst ≠ some B.ts) := fun j o ho => by
    have hj : j < ops.size := (Array.getElem?_eq_some_iff.1 ho).1
    have := List.all_eq_true.1 h4 j (List.mem_range.2 hj)
    simp only [ho, Option.bind_some, Bool.and_eq_true, Bool.or_eq_true, beq_iff_eq, bne_iff_ne] at this
    exact this
  exact ⟨oa, os, ha, hs, h1.1, q1, h1.2, q2, ⟨e1, m1, b1.1, b1.2⟩, ⟨e2, m2, b2.1, b2.2⟩, h3.1.1, h3.1.2, h3.2, fun j o ho hj => ((h4' j o ho).1).resolve_left hj, fun j o ho hj => ((h4' j o ho).2).resolve_left hj⟩
def Bx.At (B : Bx) (l : Array Bool) (a' : Act) (w : World) (S : Nat → Prop) : Prop :=
  (l.getD B.ia true = true → ∃ g, a'.tmps[B.tp]? = some (.pointer (some ⟨g, 0, none⟩)) ∧ S g ∧ (l.getD B.si true = false → w.heap[g]? = some (.cells B.Z.toArray B.T (0, 0))) ∧
    (l.getD B.si true = true → l.getD B.iw true = true ∧ ∃ v, a'.tmps[B.ts]? = some v ∧ w.heap[g]? = some (.cells (B.fin v).toArray B.T (0, 0)))) ∧ (l.getD B.ia true = false → l.getD B.si true = false)
theorem put_ne {a' : Act} {d : Option Tmp} {t : Tmp} {u : Value} (h : d ≠ some t) : (a'.put d u).tmps[t]? = a'.tmps[t]? := by
  cases d with
  | none => rfl
  | some d =>
    have hne : d ≠ t := fun e => h (by rw [e])
    simp [Act.put, Array.getElem?_setIfInBounds_ne hne]
theorem Bx.At.step {l : Array Bool} {a' : Act} {w w' : World} {S : Nat → Prop} {oa os : Oper} (F : B.Fixed md ops oa os) (h : B.At l a' w S) (hS : InS w0 w S) (hg : Grows w w') {i : Nat} {o : Oper} (ho : ops[i]? = some o) (hun : l.getD i true = false) (h1 : i ≠ B.ia) (h2 : i ≠ B.si) (u : Value) :
    B.At (l.setIfInBounds i true) (a'.put o.dst u) w' S := by
  have e1 : (l.setIfInBounds i true).getD B.ia true = l.getD B.ia true := getD_set_ne true h1
  have e2 : (l.setIfInBounds i true).getD B.si true = l.getD B.si true := getD_set_ne true h2
  unfold Bx.At
  rw [e1, e2]
  refine ⟨fun hl => ?_, h.2⟩
  obtain ⟨g, q1, q2, q3, q4⟩ := h.1 hl
  refine ⟨g, by rw [put_ne (F.only i o ho h1)]; exact q1, q2, fun hs => (hg.block g (hS g q2).2).trans (q3 hs), fun hs => ?_⟩
  obtain ⟨k1, v, k2, k3⟩ := q4 hs
  have hiw : i ≠ B.iw := fun e => by subst e; rw [k1] at hun; cases hun
  exact ⟨getD_set_any k1, v, by rw [put_ne (F.only2 i o ho hiw)]; exact k2, (hg.block g (hS g q2).2).trans k3⟩
structure Bx.Runs (B : Bx) (P : Program) (oa os : Oper) : Prop where
  make : ∀ (a' : Act) (w : World), (execOp a'.eval oa).run P w = .ok (.value (.pointer (some ⟨w.heap.size, 0, none⟩))) (w.alloc (.cells B.Z.toArray B.T))
  fill : ∀ (a' : Act) (w : World) (g : Nat) (v : Value), a'.tmps[B.tp]? = some (.pointer (some ⟨g, 0, none⟩)) → a'.tmps[B.ts]? = some v → B.good v → w.heap[g]? = some (.cells B.Z.toArray B.T (0, 0)) →
    ∃ x w', (execOp a'.eval os).run P w = .ok x w' ∧ (x = .skip ∨ ∃ u, x = .value u) ∧ w'.heap[g]? = some (.cells (B.fin v).toArray B.T (0, 0)) ∧ Touch (fun k => k = g) w w' ∧ w'.heap.size = w.heap.size
theorem wpAny_of_gAnyX {Q : Exit → Act → World → Prop} {Q' : Act → Env → Prop} {oa os : Oper} (F : B.Fixed md ops oa os) (R : B.Runs P oa os)
    (hQ : ∀ a G, Q' a G → ∀ w S, Grows w0 w → InS w0 w S → ∀ a', ConX G a a' w S → ∀ g v, a'.tmps[B.tp]? = some (.pointer (some ⟨g, 0, none⟩)) → S g → a'.tmps[B.ts]? = some v → w.heap[g]? = some (.cells (B.fin v).toArray B.T (0, 0)) → Q .normal a' w) :
    ∀ (n : Nat) (l : Array Bool) (a : Act) (G : Env) (a' : Act) (w : World) (S : Nat → Prop), Grows w0 w → InS w0 w S → ConX G a a' w S → B.At l a' w S →
    gAnyX P md ops w0 B (fun l' a' G' => Q' a' G' ∧ ∀ j, j < ops.size → l'.getD j true = true) n l a G → wpAny P md ops Q n l a' w
  | 0, l, a, G, a', w, S, hw, hS, hc, hA, h => by
    obtain ⟨h0, h1, h2⟩ := h
    have e1 := h2 B.ia (Array.getElem?_eq_some_iff.1 F.ha).1
    have e2 := h2 B.si (Array.getElem?_eq_some_iff.1 F.hs).1
    obtain ⟨g, q1, q2, _, q4⟩ := hA.1 e1
    obtain ⟨_, v, q5, q6⟩ := q4 e2
    exact ⟨h0, hQ _ _ h1 w S hw hS a' hc g v q1 q2 q5 q6⟩
  | n + 1, l, a, G, a', w, S, hw, hS, hc, hA, h => by
    refine ⟨fun h0 => absurd h0 h.1, fun i hi => ?_⟩
    have h1 := h.2 i hi
    obtain ⟨hun, oi, hoi, hall⟩ := mem_ready.1 hi
    unfold gOpX at h1
    unfold wpOp
    simp only [hoi] at h1 ⊢
    obtain ⟨r, ⟨hg, hd, hy⟩, hK⟩ := h1
    rw [wanted_conX hg hc]
    by_cases hia : i = B.ia
    · subst hia
      have hoa : oi = oa := by rw [F.ha] at hoi; injection hoi with e; exact e.symm
      subst hoa
      rcases hy with ⟨hwant, hf, howe, _, hr⟩ | ⟨hwant, _⟩
      · rw [if_pos hwant]
        refine .inl ?_
        unfold Oper.wp
        rw [R.make a' w]
        simp only [Oper.upon]
        rw [hr rfl] at hK hf
        have hc2 := hc.step (S' := fun k => S k ∨ k = w.heap.size) (w' := w.alloc (.cells B.Z.toArray B.T)) (fun w'' h9 => Touch.trans2 (((Grows.refl w).new _).touch S) h9 (fun k hk => hk.elim .inl (fun e => .inr (by omega)))) hd hf (u := .pointer (some ⟨w.heap.size, 0, none⟩)) (fun _ _ => trivial)
        refine wpAny_of_gAnyX F R hQ n _ _ _ _ _ _ (hw.new _) (fun k hk => ?_) hc2 ⟨fun _ => ⟨w.heap.size, ?_, .inr rfl, fun _ => World.alloc_heap_new w _, fun hs => ?_⟩, fun h9 => by rw [getD_set_same] at h9; cases h9⟩ hK
        · have hsz := hw.size
          rcases hk with hk | hk
          · have := hS k hk; simp; omega
          · simp; omega
        · have h0 := hc2.2 B.tp
          rw [F.da]
          obtain ⟨t', e, hlt⟩ := hf
          rw [F.da] at e
          injection e with e
          subst e
          have hsz : B.tp < a'.tmps.size := by
            have h5 := hc.2 B.tp
            unfold relX at h5
            rw [hd _ F.da] at h5
            rcases Nat.lt_or_ge B.tp a'.tmps.size with hh | hh
            · exact hh
            · rw [Array.getElem?_eq_none hh, Array.getElem?_eq_getElem hlt] at h5; cases h5
          simp [Act.put, hsz]
        · rw [getD_set_ne true F.n1, hA.2 hun] at hs; cases hs
      · exfalso
        unfold Region.wanted at hwant
        rw [F.ga] at hwant
        cases hwant
    · by_cases his : i = B.si
      · subst his
        have hos : oi = os := by rw [F.hs] at hoi; injection hoi with e; exact e.symm
        subst hos
        have hia1 : l.getD B.ia true = true := by
          obtain ⟨e, he, hb, ho⟩ := F.aft
          have := hall e he hb
          rw [ho] at this
          simp only [Array.getD] at this ⊢
          split at this
          · rename_i h9; rw [dif_pos h9]; exact this
          · cases this
        have hiw1 : l.getD B.iw true = true := by
          obtain ⟨e, he, hb, ho⟩ := F.aft2
          have := hall e he hb
          rw [ho] at this
          simp only [Array.getD] at this ⊢
          split at this
          · rename_i h9; rw [dif_pos h9]; exact this
          · cases this
        obtain ⟨g, q1, q2, q3, _⟩ := hA.1 hia1
        rcases hy with ⟨hwant, hf, _, hsi, _⟩ | ⟨hwant, _⟩
        · rw [if_pos hwant]
          refine .inl ?_
          obtain ⟨rfl, _, hgood⟩ := hsi rfl
          obtain ⟨v, hv, hgv⟩ := hgood _ _ _ (hc.2 B.ts)
          obtain ⟨x, w1, hrun, hx, hfin, ht, hsz⟩ := R.fill a' w g v q1 hv hgv (q3 hun)
          have hG0 : putG G oi.dst (.inl undef) = G := by rw [F.ds]; rfl
          have ha0 : ∀ (b : Act) (u : Value), b.put oi.dst u = b := fun b u => by rw [F.ds]; rfl
          have ha1 : putA a oi.dst (.inl undef) = a := ha0 a undef
          rw [hG0, ha1] at hK
          have hgw : Grows w0 w1 := ht.later hw (fun k hk => by rw [hk]; exact (hS g q2).1)
          have hc2 : ConX G a a' w1 S := ⟨hc.1, fun t => relX_mono (fun w'' h9 => (ht.mono (fun k hk => by rw [hk]; exact q2)).trans h9) (hc.2 t)⟩
          have hA2 : B.At (l.setIfInBounds B.si true) a' w1 S := ⟨fun _ => ⟨g, q1, q2, fun h9 => (by rw [getD_set_same] at h9; cases h9), fun _ => ⟨getD_set_any hiw1, v, hv, hfin⟩⟩, fun h9 => by rw [getD_set_ne true (Ne.symm F.n1), hia1] at h9; cases h9⟩
          have hend := wpAny_of_gAnyX F R hQ n _ _ _ _ w1 S hgw (fun k hk => by have := hS k hk; omega) hc2 hA2 hK
          unfold Oper.wp
          rw [hrun]
          rcases hx with rfl | ⟨u, rfl⟩ <;> simp only [Oper.upon] <;> rw [ha0] <;> exact hend
        · exfalso
          unfold Region.wanted at hwant
          rw [F.gs] at hwant
          cases hwant
      · rcases hy with ⟨hwant, hf, howe, _, _⟩ | ⟨hwant, rfl⟩
        · rw [if_pos hwant]
          refine .inl ?_
          have hrun := howe his w S hw hS a' (fun t _ => hc.2 t)
          have hfin : ∀ (u : Value) (w1 : World), Grows w w1 → okX r u w1 S → wpAny P md ops Q n (l.setIfInBounds i true) (a'.put oi.dst u) w1 := fun u w1 hg1 hok =>
            wpAny_of_gAnyX F R hQ n _ _ _ _ _ S (hw.trans hg1) (fun k hk => by have := hS k hk; have := hg1.size; omega) (hc.step (fun w'' h9 => (hg1.touch S).trans h9) hd hf hok) (hA.step F hS hg1 hoi hun hia his u) hK
          unfold Oper.wp
          generalize (execOp a'.eval oi).run P w = res at hrun
          cases res with
          | halt x w' => simp only [runsTo] at hrun
          | ok x w' =>
            cases x <;> simp only [runsTo] at hrun <;> simp only [Oper.upon]
            case value u => exact hfin u w' hrun.1 hrun.2
            case skip => exact hfin undef w' hrun.1 hrun.2
            case enter f args =>
              refine hrun.mono fun e w'' ⟨u, he, h1, h2⟩ => ?_
              subst he
              exact hfin u w'' h1 h2
        · rw [hwant]
          simp only [Bool.false_eq_true, if_false]
          exact wpAny_of_gAnyX F R hQ n _ _ _ _ _ S hw hS (hc.step (fun w'' h9 => h9) hd (r := .inl undef) (u := undef) trivial rfl) (hA.step F hS (Grows.refl w) hoi hun hia his undef) hK
theorem wp_region_box {id : Nat} {Q : Exit → Act → World → Prop} {a : Act} {w : World} {l : List Oper} (B : Bx) (hm : P.follows .mixedOrders = true) (hB : Region.lexB .any l.toArray = true) (hF : B.fixedB .any l.toArray = true)
    (hR : ∀ oa os, l[B.ia]? = some oa → l[B.si]? = some os → B.Runs P oa os)
    (h : gLexX P l.toArray w B (fun a G => ∀ w' S, Grows w w' → InS w w' S → ∀ a', ConX G a a' w' S → ∀ g v, a'.tmps[B.tp]? = some (.pointer (some ⟨g, 0, none⟩)) → S g → a'.tmps[B.ts]? = some v → w'.heap[g]? = some (.cells (B.fin v).toArray B.T (0, 0)) → Q .normal a' w') 0 l a Env.no) : (Code.region id l.toArray true).wp P Q a w := by
  obtain ⟨oa, os, F⟩ := Bx.fixed_of hF
  have R := hR oa os (by have := F.ha; simpa using this) (by have := F.hs; simpa using this)
  simp only [Region.lexB, Bool.and_eq_true] at hB
  have h0 : ∀ j, j < l.length → (Array.replicate l.length false).getD j true = false := fun j hj => by simp [Array.getD, hj]
  have hia : B.ia < l.length := by have := (Array.getElem?_eq_some_iff.1 F.ha).1; simpa using this
  have hsi : B.si < l.length := by have := (Array.getElem?_eq_some_iff.1 F.hs).1; simpa using this
  refine wp_region_any hm ?_
  have hg := gAnyX_of_lex (P := P) (w0 := w) (B := B) (ops := l.toArray) (md := .any) l 0 (Array.replicate l.length false) a Env.no (by simp) (fun j hj => by omega) (by simpa using hB.2) h
  have := wpAny_of_gAnyX (Q := Q) F R (fun a G hq => hq) l.length (Array.replicate l.length false) a Env.no a { w with drawn := w.drawn + 1 } (fun _ => False) (Grows.drawn w _) (fun k hk => hk.elim) ⟨rfl, fun t => rfl⟩ ⟨fun h9 => (by rw [h0 _ hia] at h9; cases h9), fun _ => h0 _ hsi⟩ hg
  simpa using this
variable {Q : Act → Env → Prop} {a : Act} {G : Env} {o : Oper} {rest : List Oper} {k : Nat}
theorem relX_at {a' : Act} {t : Tmp} {w : World} {S : Nat → Prop} (hG : G t = none) (h : relX G a t a'.tmps[t]? w S) : relAt G a t a'.tmps[t]? w := by
  unfold relX at h
  unfold relAt
  rw [hG] at h ⊢
  exact h
theorem gLexX_val0 (hg : o.guard = none) (hp : plainB ops o G = true) (hk : (k == B.si || k == B.ia) = false)
    (h : ∀ K : Act → Prop, (∀ a, gLexX P ops w0 B Q (k + 1) rest a G → K a) → ∃ v, (∀ x : Later w0, runsTo P (fun u w' => Grows x.now w' ∧ u = v) ((execOp a.eval o).run P x.now)) ∧ K (a.put o.dst v)) :
    gLexX P ops w0 B Q k (o :: rest) a G := by
  obtain ⟨h1, h2, h3, h4⟩ := plain_spec hp
  obtain ⟨v, hv, hK⟩ := h _ (fun _ h => h)
  simp only [Bool.or_eq_false_iff, beq_eq_false_iff_ne] at hk
  refine ⟨.inl v, ⟨h1, h2, .inl ⟨by unfold Region.wanted; rw [hg], trivial, fun _ w S hw hS a' ha' => ?_, fun e => absurd e hk.1, fun e => absurd e hk.2⟩⟩, ?_⟩
  · rw [exec_same h4 h3 (fun t ht => relX_at (h3 t ht) (ha' t ht))]
    exact hv ⟨w, hw⟩
  · have : putG G o.dst (.inl v) = G := by cases o.dst <;> rfl
    rw [this]
    exact hK
theorem gLexX_prop {t : Tmp} (hg : o.guard = none) (hp : plainB ops o G = true) (hk : (k == B.si || k == B.ia) = false) (hd : o.dst = some t) (hlt : t < a.tmps.size)
    (p : Pr) (hr : ∀ (x : Later w0) (S : Nat → Prop), InS w0 x.now S → runsTo P (fun u w' => Grows x.now w' ∧ ∀ w'', Touch S w' w'' → p u w'') ((execOp a.eval o).run P x.now))
    (h : gLexX P ops w0 B Q (k + 1) rest a (G.upd t p)) : gLexX P ops w0 B Q k (o :: rest) a G := by
  obtain ⟨h1, h2, h3, h4⟩ := plain_spec hp
  simp only [Bool.or_eq_false_iff, beq_eq_false_iff_ne] at hk
  refine ⟨.inr p, ⟨h1, h2, .inl ⟨by unfold Region.wanted; rw [hg], ⟨t, hd, hlt⟩, fun _ w S hw hS a' ha' => ?_, fun e => absurd e hk.1, fun e => absurd e hk.2⟩⟩, ?_⟩
  · rw [exec_same h4 h3 (fun t ht => relX_at (h3 t ht) (ha' t ht))]
    exact hr ⟨w, hw⟩ S hS
  · rw [hd]
    exact h
theorem gLexX_dep {t0 t : Tmp} {p0 : Pr} (hg : o.guard = none) (hp : depB ops o G t0 = true) (hk : (k == B.si || k == B.ia) = false) (h0 : G t0 = some p0) (ht0 : t0 < a.tmps.size) (hd : o.dst = some t) (hlt : t < a.tmps.size)
    (p : Pr) (hr : ∀ (v : Value) (w1 : World), p0 v w1 → ∃ u, (∀ x : Later w0, (execOp (a.put (some t0) v).eval o).run P x.now = .ok (.value u) x.now) ∧ ∀ w, p0 v w → p u w)
    (h : gLexX P ops w0 B Q (k + 1) rest a (G.upd t p)) : gLexX P ops w0 B Q k (o :: rest) a G := by
  obtain ⟨h1, h2, h3, h4, h5⟩ := dep_spec hp
  simp only [Bool.or_eq_false_iff, beq_eq_false_iff_ne] at hk
  refine ⟨.inr p, ⟨h1, h2, .inl ⟨by unfold Region.wanted; rw [hg], ⟨t, hd, hlt⟩, fun _ w S hw hS a' ha' => ?_, fun e => absurd e hk.1, fun e => absurd e hk.2⟩⟩, ?_⟩
  · have hv := ha' t0 h4
    unfold relX at hv
    rw [h0] at hv
    obtain ⟨v, hv, hpv⟩ := hv
    have e : execOp a'.eval o = execOp (a.put (some t0) v).eval o := by
      refine execOp_congr o h5 fun x hx => ?_
      cases x with
      | tmp t =>
        have ht : t ∈ o.looksAt ops := List.mem_append_left _ (List.mem_filterMap.2 ⟨.tmp t, by simpa using hx, rfl⟩)
        have h' : a'.tmps[t]? = (a.put (some t0) v).tmps[t]? := by
          by_cases e : t = t0
          · subst e
            rw [hv]
            simp [Act.put, ht0]
          · have h6 := ha' t ht
            unfold relX at h6
            rw [(h3 t ht).resolve_left e] at h6
            rw [h6]
            simp [Act.put, Array.getElem?_setIfInBounds_ne (Ne.symm e)]
        simp only [Act.eval, Array.getD_eq_getD_getElem?, h']
      | _ => rfl
    obtain ⟨u, hu, hpu⟩ := hr v w (hpv w (Touch.refl _ _))
    rw [e, hu ⟨w, hw⟩]
    exact ⟨Grows.refl _, fun w'' h9 => hpu w'' (hpv w'' h9)⟩
  · rw [hd]
    exact h
theorem gLexX_alloc (hk : k = B.ia) (hn : (B.ia == B.si) = false) (hg : o.guard = none) (hp : plainB ops o G = true) (hd : o.dst = some B.tp) (hlt : B.tp < a.tmps.size) (hr : ∀ (a' : Act) (w : World), ∃ u x, (execOp a'.eval o).run P w = .ok (.value u) (w.alloc x))
    (h : gLexX P ops w0 B Q (k + 1) rest a (G.upd B.tp AnyP)) : gLexX P ops w0 B Q k (o :: rest) a G := by
  obtain ⟨h1, h2, h3, h4⟩ := plain_spec hp
  rw [beq_eq_false_iff_ne] at hn
  refine ⟨.inr AnyP, ⟨h1, h2, .inl ⟨by unfold Region.wanted; rw [hg], ⟨_, hd, hlt⟩, fun _ w S hw hS a' ha' => ?_, fun e => absurd (hk.symm.trans e) hn, fun _ => rfl⟩⟩, ?_⟩
  · obtain ⟨u, x, e⟩ := hr a' w
    rw [e]
    exact ⟨(Grows.refl w).new _, fun _ _ => trivial⟩
  · rw [hd]
    exact h
def fillB (ops : Array Oper) (o : Oper) (_ : Env) (ts : Tmp) : Bool := (match o.guard with | none => true | some _ => false) && o.dst.isNone && (o.looksAt ops).contains ts
theorem gLexX_fill {p : Pr} (hk : k = B.si) (hn : (B.ia == B.si) = false) (hf : fillB ops o G B.ts = true) (hG : G B.ts = some p) (hp : ∀ v w, p v w → B.good v) (h : gLexX P ops w0 B Q (k + 1) rest a G) : gLexX P ops w0 B Q k (o :: rest) a G := by
  unfold fillB at hf
  simp only [Bool.and_eq_true, Option.isNone_iff_eq_none, List.contains_iff_mem] at hf
  obtain ⟨⟨h1, h2⟩, h3⟩ := hf
  rw [beq_eq_false_iff_ne] at hn
  have hg : o.guard = none := by
    cases hgd : o.guard with
    | none => rfl
    | some x => rw [hgd] at h1; cases h1
  refine ⟨.inl undef, ⟨fun g b t e => (by rw [hg] at e; cases e), fun d e => (by rw [h2] at e; cases e), .inl ⟨by unfold Region.wanted; rw [hg], trivial, fun e => absurd hk e, fun _ => ⟨rfl, h3, fun x w S hx => ?_⟩, fun e => absurd (e.symm.trans hk) hn⟩⟩, ?_⟩
  · unfold relX at hx
    rw [hG] at hx
    obtain ⟨v, e, hv⟩ := hx
    exact ⟨v, e, hp v w (hv w (Touch.refl _ _))⟩
  · rw [h2]
    exact h
theorem conX_no {a a' : Act} {w : World} {S : Nat → Prop} (h : ConX Env.no a a' w S) : a' = a := by
  obtain ⟨h1, h2⟩ := h
  obtain ⟨t, d⟩ := a
  obtain ⟨t', d'⟩ := a'
  simp only at h1
  subst h1
  congr 1
  exact Array.ext_getElem? h2
theorem conX_upd {a a' : Act} {w : World} {S : Nat → Prop} {t : Tmp} {p : Pr} (h : ConX (G.upd t p) a a' w S) (hG : G t = none) (hlt : t < a.tmps.size) : ∃ v, p v w ∧ ConX G (a.put (some t) v) a' w S := by
  have ht := h.2 t
  unfold relX Env.upd at ht
  simp only [if_pos] at ht
  obtain ⟨v, e, hv⟩ := ht
  refine ⟨v, hv w (Touch.refl _ _), h.1, fun s => ?_⟩
  unfold relX
  by_cases hs : s = t
  · subst hs
    rw [hG]
    simp only [Act.put, Array.getElem?_setIfInBounds_self, if_pos hlt, e]
  · have h0 := h.2 s
    unfold relX Env.upd at h0
    rw [if_neg hs] at h0
    have hne : t ≠ s := fun e => hs e.symm
    simpa [Act.put, Array.getElem?_setIfInBounds_ne hne] using h0
def AtX (B : Bx) (Q : Exit → Act → World → Prop) (a : Act) (G : Env) (w : World) (S : Nat → Prop) (g : Nat) : Prop :=
  ∀ a', ConX G a a' w S → a'.tmps[B.tp]? = some (.pointer (some ⟨g, 0, none⟩)) → ∀ v, a'.tmps[B.ts]? = some v → w.heap[g]? = some (.cells (B.fin v).toArray B.T (0, 0)) → Q .normal a' w
theorem AtX.pop {Q : Exit → Act → World → Prop} {w : World} {S : Nat → Prop} {g : Nat} {t : Tmp} {p : Pr} (hG : G t = none) (ht : t < a.tmps.size) (h : ∀ v, p v w → AtX B Q (a.put (some t) v) G w S g) : AtX B Q a (G.upd t p) w S g := fun a' hc => by
  obtain ⟨v, hv, hc2⟩ := conX_upd hc hG ht
  exact h v hv a' hc2
theorem AtX.base {Q : Exit → Act → World → Prop} {w : World} {S : Nat → Prop} {g : Nat} {u v : Value} (h1 : a.tmps[B.tp]? = some u) (h2 : a.tmps[B.ts]? = some v) (h : u = .pointer (some ⟨g, 0, none⟩) → Arr w g B.T (B.fin v) → Q .normal a w) : AtX B Q a Env.no w S g := fun a' hc e1 v' e2 e3 => by
  have := conX_no hc
  subst this
  rw [h1] at e1
  rw [h2] at e2
  injection e1 with e1
  injection e2 with e2
  subst e2
  exact h e1 ⟨e3⟩
theorem gLexX_end {Q : Exit → Act → World → Prop} (h : ∀ (x : Later w0) (S : Nat → Prop) (g : Nat), w0.heap.size ≤ g ∧ g < x.now.heap.size → AtX B Q a G x.now S g) :
    gLexX P ops w0 B (fun a G => ∀ w' S, Grows w0 w' → InS w0 w' S → ∀ a', ConX G a a' w' S → ∀ g v, a'.tmps[B.tp]? = some (.pointer (some ⟨g, 0, none⟩)) → S g → a'.tmps[B.ts]? = some v → w'.heap[g]? = some (.cells (B.fin v).toArray B.T (0, 0)) → Q .normal a' w') k [] a G :=
  fun w' S hw hS a' hc g v e1 hg e2 e3 => h ⟨w', hw⟩ S g (hS g hg) a' hc e1 v e2 e3
theorem Own.noBox {w w' : World} {B e size n c : Nat} {A : Option Addr} {xs : List Value} {S : Nat → Prop} (h : Own w B e size A n c xs) (hS : ∀ k, S k → k < B) (ht : Touch S w w') : Own w' B e size A n c xs :=
  h.touch ht (fun p hp hs => by have := (h.ty p hp).1; have := hS _ hs; omega)
end
def bxS (ia si iw : Nat) (tp ts : Tmp) (T : TypeId) (Z : List Value) : Bx := ⟨ia, si, iw, tp, ts, T, Z, fun v => match v with | .agg cs => cs.toList | _ => [], fun v => ∃ cs, v = .agg cs ∧ cs.size = Z.length ∧ cs.all (·.oneCell') = true⟩
theorem bxS_runs {P : Program} {ia si iw : Nat} {tp ts : Tmp} {T : TypeId} {Z : List Value} (hz : (P.info? T).map (fun i => (i.zero, i.size)) = some (some (.agg Z.toArray), Z.length)) {oa os : Oper} (ha : oa.op = .alloc T) (hs : os.op = .store T (.tmp tp) (.tmp ts)) : (bxS ia si iw tp ts T Z).Runs P oa os := by
  cases hi : P.info? T with
  | none => rw [hi] at hz; cases hz
  | some i =>
  rw [hi] at hz
  simp only [Option.map_some, Option.some.injEq, Prod.mk.injEq] at hz
  obtain ⟨h1, h2⟩ := hz
  refine ⟨fun a' w => ?_, fun a' w g v e1 e2 hg he => ?_⟩
  · unfold execOp
    simp only [ha]
    simp [go_sem, zeroValue, typeInfo, hi, h1, newVar, Value.cells, bxS]
  · obtain ⟨cs, rfl, hsz, hone⟩ := hg
    have hev : ∀ (t : Tmp) (x : Value), a'.tmps[t]? = some x → a'.eval (.tmp t) = x := fun t x h => by simp only [Act.eval, Array.getD_eq_getD_getElem?, h, Option.getD_some]
    refine ⟨.skip, w.setRow g cs, ?_, .inl rfl, ?_, ⟨rfl, rfl, rfl, by simp, fun k _ hne => setRow_other w g k cs hne⟩, by simp⟩
    · unfold execOp
      have e3 := hev tp _ e1
      have e4 := hev ts _ e2
      simp only [hs, e3, e4, Instr.storeAt, Instr.sureAddr, Sem.run_bind, Sem.run_pure, Result.andThen_ok]
      have hsz2 : cs.size = Z.length := hsz
      rw [run_storeVar_row w g T T _ cs he (by rw [hi, Option.map_some, h2, hsz2]) (by show Z.toArray.size = _; simp [hsz2]) hone]
      rfl
    · have := setRow_heap w g _ cs T (0, 0) he
      simpa [bxS] using this
section
variable {P : Program} {ops : Array Oper} {w0 : World} {B : Bx} {Q : Act → Env → Prop} {a : Act} {G : Env} {o : Oper} {rest : List Oper} {k : Nat}
def PairQ (pv : Pr) (z : Value) : Pr := fun u w => ∃ v, u = .tuple #[v, z] ∧ pv v w
def BeQ (z : Value) : Pr := fun u _ => u = z
theorem gLexX_move {t0 t : Tmp} {p0 : Pr} (ho : o.op = .move (.tmp t0)) (hg : o.guard = none) (hp : depB ops o G t0 = true) (hk : (k == B.si || k == B.ia) = false) (h0 : G t0 = some p0) (ht0 : t0 < a.tmps.size) (hd : o.dst = some t) (hlt : t < a.tmps.size)
    (h : gLexX P ops w0 B Q (k + 1) rest a (G.upd t p0)) : gLexX P ops w0 B Q k (o :: rest) a G :=
  gLexX_dep hg hp hk h0 ht0 hd hlt p0 (fun v w1 hv => ⟨v, fun x => by
    unfold execOp
    simp only [ho]
    simp [Act.eval, Act.put, ht0], fun w h => h⟩) h
theorem gLexX_assign {t0 t : Tmp} {p0 : Pr} (ho : o.op = .assign (.tmp t0)) (hg : o.guard = none) (hp : depB ops o G t0 = true) (hk : (k == B.si || k == B.ia) = false) (h0 : G t0 = some p0) (ht0 : t0 < a.tmps.size) (hd : o.dst = some t) (hlt : t < a.tmps.size)
    (h : gLexX P ops w0 B Q (k + 1) rest a (G.upd t p0)) : gLexX P ops w0 B Q k (o :: rest) a G :=
  gLexX_dep hg hp hk h0 ht0 hd hlt p0 (fun v w1 hv => ⟨v, fun x => by
    unfold execOp
    simp only [ho]
    simp [Act.eval, Act.put, ht0], fun w h => h⟩) h
theorem gLexX_ext0 {t0 t : Tmp} {pv : Pr} {z : Value} (ho : o.op = .extract (.tmp t0) 0) (hg : o.guard = none) (hp : depB ops o G t0 = true) (hk : (k == B.si || k == B.ia) = false) (h0 : G t0 = some (PairQ pv z)) (ht0 : t0 < a.tmps.size) (hd : o.dst = some t) (hlt : t < a.tmps.size)
    (h : gLexX P ops w0 B Q (k + 1) rest a (G.upd t pv)) : gLexX P ops w0 B Q k (o :: rest) a G :=
  gLexX_dep hg hp hk h0 ht0 hd hlt pv (fun u w1 hv => by
    obtain ⟨v, rfl, _⟩ := hv
    refine ⟨v, fun x => ?_, fun w h => ?_⟩
    · unfold execOp
      simp only [ho]
      simp [Act.eval, Act.put, ht0, Instr.extract]
    · obtain ⟨v2, e, h2⟩ := h
      injection e with e
      simp at e
      rw [e]
      exact h2) h
theorem gLexX_ext1 {t0 t : Tmp} {pv : Pr} {z : Value} (ho : o.op = .extract (.tmp t0) 1) (hg : o.guard = none) (hp : depB ops o G t0 = true) (hk : (k == B.si || k == B.ia) = false) (h0 : G t0 = some (PairQ pv z)) (ht0 : t0 < a.tmps.size) (hd : o.dst = some t) (hlt : t < a.tmps.size)
    (h : gLexX P ops w0 B Q (k + 1) rest a (G.upd t (BeQ z))) : gLexX P ops w0 B Q k (o :: rest) a G :=
  gLexX_dep hg hp hk h0 ht0 hd hlt (BeQ z) (fun u w1 hv => by
    obtain ⟨v, rfl, _⟩ := hv
    refine ⟨z, fun x => ?_, fun w h => rfl⟩
    unfold execOp
    simp only [ho]
    simp [Act.eval, Act.put, ht0, Instr.extract]) h
theorem gLexX_pair {tc tm tv tf td ia si iw tp : Nat} {T : TypeId} {Z : List Value} {pv : Pr} {z : Value} {o1 o2 o3 o4 o5 o6 : Oper}
    (hz : (P.info? T).map (fun i => (i.zero, i.size)) = some (some (.agg Z.toArray), Z.length)) (hops : o1.op = .move (.tmp tc) ∧ o2.op = .extract (.tmp tm) 0 ∧ o3.op = .extract (.tmp tm) 1 ∧ o4.op = .alloc T ∧ o5.op = .store T (.tmp tp) (.tmp tv) ∧ o6.op = .assign (.tmp tf))
    (hds : o1.dst = some tm ∧ o2.dst = some tv ∧ o3.dst = some tf ∧ o4.dst = some tp ∧ o6.dst = some td) (hgs : o1.guard = none ∧ o2.guard = none ∧ o3.guard = none ∧ o4.guard = none ∧ o6.guard = none)
    (hne : tm ≠ tv ∧ tv ≠ tf ∧ tp ≠ tf ∧ tp ≠ tv ∧ tm ≠ tf)
    (hB : B = bxS ia si iw tp tv T Z) (hk : k + 3 = ia ∧ k + 4 = si)
    (hG : G tc = some (PairQ pv z)) (hsz : tc < a.tmps.size ∧ tm < a.tmps.size ∧ tv < a.tmps.size ∧ tf < a.tmps.size ∧ tp < a.tmps.size ∧ td < a.tmps.size)
    (p1 : depB ops o1 G tc = true) (p2 : depB ops o2 (G.upd tm (PairQ pv z)) tm = true) (p3 : depB ops o3 ((G.upd tm (PairQ pv z)).upd tv pv) tm = true) (p4 : plainB ops o4 (((G.upd tm (PairQ pv z)).upd tv pv).upd tf (BeQ z)) = true)
    (p5 : fillB ops o5 ((((G.upd tm (PairQ pv z)).upd tv pv).upd tf (BeQ z)).upd tp AnyP) tv = true) (p6 : depB ops o6 ((((G.upd tm (PairQ pv z)).upd tv pv).upd tf (BeQ z)).upd tp AnyP) tf = true)
    (hgood : ∀ v w, pv v w → ∃ cs, v = .agg cs ∧ cs.size = Z.length ∧ cs.all (·.oneCell') = true)
    (h : gLexX P ops w0 B Q (k + 6) rest a (((((G.upd tm (PairQ pv z)).upd tv pv).upd tf (BeQ z)).upd tp AnyP).upd td (BeQ z))) :
    gLexX P ops w0 B Q k (o1 :: o2 :: o3 :: o4 :: o5 :: o6 :: rest) a G := by
  subst hB
  obtain ⟨q1, q2, q3, q4, q5, q6⟩ := hops
  obtain ⟨d1, d2, d3, d4, d6⟩ := hds
  obtain ⟨g1, g2, g3, g4, g6⟩ := hgs
  obtain ⟨n1, n2, n3, n4, n5⟩ := hne
  obtain ⟨k1, k2⟩ := hk
  obtain ⟨s1, s2, s3, s4, s5, s6⟩ := hsz
  have hkk : ∀ j, j ≠ si → j ≠ ia → (j == (bxS ia si iw tp tv T Z).si || j == (bxS ia si iw tp tv T Z).ia) = false := fun j h1 h2 => by
    show (j == si || j == ia) = false
    simp [h1, h2]
  have hnn : ((bxS ia si iw tp tv T Z).ia == (bxS ia si iw tp tv T Z).si) = false := by
    show (ia == si) = false
    simp; omega
  refine gLexX_move q1 g1 p1 (hkk _ (by omega) (by omega)) hG s1 d1 s2 ?_
  refine gLexX_ext0 (pv := pv) (z := z) q2 g2 p2 (hkk _ (by omega) (by omega)) (by unfold Env.upd; rw [if_pos rfl]) s2 d2 s3 ?_
  refine gLexX_ext1 (pv := pv) (z := z) q3 g3 p3 (hkk _ (by omega) (by omega)) (by unfold Env.upd; rw [if_neg n1, if_pos rfl]) s2 d3 s4 ?_
  refine gLexX_alloc (by show k + 1 + 1 + 1 = ia; omega) hnn g4 p4 d4 s5 (fun a' w => ⟨_, _, (bxS_runs (ia := ia) (si := si) (iw := iw) hz q4 q5).make a' w⟩) ?_
  refine gLexX_fill (p := pv) (by show k + 1 + 1 + 1 + 1 = si; omega) hnn p5 (by show ((((G.upd tm (PairQ pv z)).upd tv pv).upd tf (BeQ z)).upd tp AnyP) tv = some pv; unfold Env.upd; rw [if_neg (Ne.symm n4), if_neg n2, if_pos rfl]) hgood ?_
  exact gLexX_assign q6 g6 p6 (hkk _ (by omega) (by omega)) (by show ((((G.upd tm (PairQ pv z)).upd tv pv).upd tf (BeQ z)).upd tp AnyP) tf = some (BeQ z); unfold Env.upd; rw [if_neg (Ne.symm n3), if_pos rfl]) s4 d6 s6 h
end
end Go.Proofs.YtkfobolbilhjbaaGreat

