/- Regions that draw their order and box what a call hands back: one walk of the text's order serves every order: the box comes at any time, and it is filled at any time behind the call. -/
import Derived.Test.YtgplpgldhoelcaaGreatQPenWays05
import Derived.Test.YtgplpgldhoelcaaGreatQPenWays06
import Derived.Test.YtgplpgldhoelcaaGreatQPenWays11
import Derived.Test.YtgplpgldhoelcaaGreatQPenWays13
import Derived.Test.YtgplpgldhoelcaaGreatQPenWays14
import Derived.Test.YtgplpgldhoelcaaGreatQPenWays16
import Derived.Test.YtgplpgldhoelcaaGreatQPenWays17
import Derived.Test.YtgplpgldhoelcaaGreatQPenWays18
import Derived.Test.YtgplpgldhoelcaaGreatQPenWays21
namespace Go.Proofs.YtgplpgldhoelcaaGreat
open Go Go.RowKit
structure Bx where
  ia : Nat
  si : Nat
  iw : Nat
  tp : Tmp
  ts : Tmp
  T : TypeId
  Z : List Value
  fin : Value → List Value
  good : Value → Prop
def AnyP : Pr := fun _ _ => True
section
variable {P : Program} {ops : Array Oper} {md : Region.Mode} {w0 : World} {B : Bx}
def relX (G : Env) (a : Act) (t : Tmp) (x : Option Value) (w : World) (S : Nat → Prop) : Prop :=
  match G t with
  | none => x = a.tmps[t]?
  | some p => ∃ v, x = some v ∧ ∀ w', Touch S w w' → p v w'
def okX (r : Out) (u : Value) (w : World) (S : Nat → Prop) : Prop :=
  match r with
  | .inl v => u = v
  | .inr p => ∀ w', Touch S w w' → p u w'
def ConX (G : Env) (a a' : Act) (w : World) (S : Nat → Prop) : Prop := a'.defers = a.defers ∧ ∀ t, relX G a t a'.tmps[t]? w S
def InS (w0 w : World) (S : Nat → Prop) : Prop := ∀ k, S k → w0.heap.size ≤ k ∧ k < w.heap.size
def OwedX (P : Program) (ops : Array Oper) (w0 : World) (o : Oper) (a : Act) (G : Env) (r : Out) : Prop :=
  ∀ w S, Grows w0 w → InS w0 w S → ∀ a' : Act, (∀ t ∈ o.looksAt ops, relX G a t a'.tmps[t]? w S) → runsTo P (fun u w' => Grows w w' ∧ okX r u w' S) ((execOp a'.eval o).run P w)
def LeavesX (P : Program) (ops : Array Oper) (w0 : World) (B : Bx) (i : Nat) (o : Oper) (a : Act) (G : Env) (r : Out) : Prop :=
  guardFree ops o G ∧ dstFree o G ∧
  ((Region.wanted o (yielded ops a.tmps) = true ∧ fits a o.dst r ∧ (i ≠ B.si → OwedX P ops w0 o a G r) ∧ (i = B.si → r = .inl undef ∧ B.ts ∈ o.looksAt ops ∧ ∀ x w S, relX G a B.ts x w S → ∃ v, x = some v ∧ B.good v) ∧ (i = B.ia → r = .inr AnyP)) ∨
    (Region.wanted o (yielded ops a.tmps) = false ∧ r = .inl undef))
theorem relX_put {a : Act} {G : Env} {d : Option Tmp} {r : Out} {t : Tmp} (h : d ≠ some t) (x : Option Value) (w : World) (S : Nat → Prop) : relX (putG G d r) (putA a d r) t x w S = relX G a t x w S := by
  unfold relX
  rw [putG_at G d r t h, putA_tmps a d r t h]
theorem LeavesX.put {i : Nat} {o : Oper} {a : Act} {G : Env} {r s : Out} {d : Option Tmp} (h1 : ∀ t, d = some t → t ∉ o.looksAt ops) (h2 : ∀ t, d = some t → o.dst ≠ some t) :
    LeavesX P ops w0 B i o (putA a d s) (putG G d s) r ↔ LeavesX P ops w0 B i o a G r := by
  have hlook : ∀ t ∈ o.looksAt ops, d ≠ some t := fun t ht e => h1 t e ht
  have hg : guardFree ops o (putG G d s) ↔ guardFree ops o G := by
    unfold guardFree
    constructor <;> intro h g b t e1 e2
    · rw [← putG_at G d s t (hlook t (mem_looks_guard e1 e2))]; exact h g b t e1 e2
    · rw [putG_at G d s t (hlook t (mem_looks_guard e1 e2))]; exact h g b t e1 e2
  have hd : dstFree o (putG G d s) ↔ dstFree o G := by
    unfold dstFree
    constructor <;> intro h t e
    · rw [← putG_at G d s t (fun e' => h2 t e' e)]; exact h t e
    · rw [putG_at G d s t (fun e' => h2 t e' e)]; exact h t e
  have ho : OwedX P ops w0 o (putA a d s) (putG G d s) r ↔ OwedX P ops w0 o a G r := by
    unfold OwedX
    constructor <;> intro h w S hw hS a' ha'
    · refine h w S hw hS a' fun t ht => ?_
      rw [relX_put (hlook t ht)]; exact ha' t ht
    · refine h w S hw hS a' fun t ht => ?_
      have := ha' t ht
      rw [relX_put (hlook t ht)] at this; exact this
  have hs : (B.ts ∈ o.looksAt ops ∧ ∀ x w S, relX (putG G d s) (putA a d s) B.ts x w S → ∃ v, x = some v ∧ B.good v) ↔ (B.ts ∈ o.looksAt ops ∧ ∀ x w S, relX G a B.ts x w S → ∃ v, x = some v ∧ B.good v) := by
    constructor <;> rintro ⟨q1, q2⟩ <;> refine ⟨q1, fun x w S h => q2 x w S ?_⟩
    · rw [relX_put (hlook _ q1)]; exact h
    · rw [relX_put (hlook _ q1)] at h; exact h
  have hf : fits (putA a d s) o.dst r ↔ fits a o.dst r := by
    cases r <;> simp [fits, putA_size]
  unfold LeavesX
  rw [hg, hd, ho, hs, hf, wanted_putA o a d s h1]
theorem getD_set_same (l : Array Bool) (i : Nat) : (l.setIfInBounds i true).getD i true = true := by
  by_cases h : i < l.size
  · simp [h]
  · simp [Array.getD, h]
theorem getD_set_any {l : Array Bool} {i j : Nat} (h : l.getD j true = true) : (l.setIfInBounds i true).getD j true = true := by
  by_cases e : i = j
  · subst e; exact getD_set_same _ _
  · rw [getD_set_ne true e]; exact h
theorem relX_mono {G : Env} {a : Act} {t : Tmp} {x : Option Value} {w w' : World} {S S' : Nat → Prop} (hw : ∀ w'', Touch S' w' w'' → Touch S w w'') (h : relX G a t x w S) : relX G a t x w' S' := by
  unfold relX at *
  cases hg : G t with
  | none => rw [hg] at h; exact h
  | some p =>
    rw [hg] at h
    obtain ⟨v, e, hv⟩ := h
    exact ⟨v, e, fun w'' h2 => hv w'' (hw w'' h2)⟩
theorem ConX.step {G : Env} {a a' : Act} {w w' : World} {S S' : Nat → Prop} (hw : ∀ w'', Touch S' w' w'' → Touch S w w'') {d : Option Tmp} (hfree : ∀ t, d = some t → G t = none) {r : Out} {u : Value}
    (hfit : fits a d r) (hu : okX r u w' S') (h : ConX G a a' w S) : ConX (putG G d r) (putA a d r) (a'.put d u) w' S' := by
  refine ⟨by rw [putA_defers]; cases d <;> exact h.1, fun t => ?_⟩
  by_cases hd : d = some t
  · subst hd
    have h0 := h.2 t
    unfold relX at h0
    rw [hfree t rfl] at h0
    have hsz : t < a'.tmps.size ↔ t < a.tmps.size := by
      constructor <;> intro hlt
      · rcases Nat.lt_or_ge t a.tmps.size with hh | hh
        · exact hh
        · rw [Array.getElem?_eq_none hh, Array.getElem?_eq_getElem hlt] at h0; cases h0
      · rcases Nat.lt_or_ge t a'.tmps.size with hh | hh
        · exact hh
        · rw [Array.getElem?_eq_none hh, Array.getElem?_eq_getElem hlt] at h0; cases h0
    cases r with
    | inl v =>
      have hu' : u = v := hu
      subst hu'
      unfold relX
      rw [show putG G (some t) (.inl u) = G from rfl, hfree t rfl]
      simp only [putA, Act.put, Array.getElem?_setIfInBounds, if_pos]
      by_cases hlt : t < a.tmps.size
      · rw [if_pos hlt, if_pos (hsz.2 hlt)]
      · rw [if_neg hlt, if_neg (fun hh => hlt (hsz.1 hh))]
    | inr p =>
      obtain ⟨t', e, hlt⟩ := hfit
      injection e with e
      subst e
      unfold relX
      simp only [putG, Env.upd, if_pos]
      refine ⟨u, ?_, hu⟩
      simp [Act.put, hsz.2 hlt]
  · rw [relX_put hd]
    have h0 := relX_mono hw (h.2 t)
    cases d with
    | none => exact h0
    | some d =>
      have hne : d ≠ t := fun e => hd (by rw [e])
      simpa [Act.put, Array.getElem?_setIfInBounds_ne hne] using h0
structure Bx.Fixed (B : Bx) (md : Region.Mode) (ops : Array Oper) (oa os : Oper) : Prop where
  ha : ops[B.ia]? = some oa
  hs : ops[B.si]? = some os
  ga : oa.guard = none
  gs : os.guard = none
  da : oa.dst = some B.tp
  ds : os.dst = none
  aft : ∃ e ∈ os.after, Region.binds md e = true ∧ e.on = B.ia
  aft2 : ∃ e ∈ os.after, Region.binds md e = true ∧ e.on = B.iw
  n1 : B.ia ≠ B.si
  n2 : B.iw ≠ B.si
  n3 : B.ia ≠ B.iw
  only : ∀ j o, ops[j]? = some o → j ≠ B.ia → o.dst ≠ some B.tp
  only2 : ∀ j o, ops[j]? = some o → j ≠ B.iw → o.dst ≠ some B.ts
def Bx.At (B : Bx) (l : Array Bool) (a' : Act) (w : World) (S : Nat → Prop) : Prop :=
  (l.getD B.ia true = true → ∃ g, a'.tmps[B.tp]? = some (.pointer (some ⟨g, 0, none⟩)) ∧ S g ∧ (l.getD B.si true = false → w.heap[g]? = some (.cells B.Z.toArray B.T (0, 0))) ∧
    (l.getD B.si true = true → l.getD B.iw true = true ∧ ∃ v, a'.tmps[B.ts]? = some v ∧ w.heap[g]? = some (.cells (B.fin v).toArray B.T (0, 0)))) ∧ (l.getD B.ia true = false → l.getD B.si true = false)
theorem put_ne {a' : Act} {d : Option Tmp} {t : Tmp} {u : Value} (h : d ≠ some t) : (a'.put d u).tmps[t]? = a'.tmps[t]? := by
  cases d with
  | none => rfl
  | some d =>
    have hne : d ≠ t := fun e => h (by rw [e])
    simp [Act.put, Array.getElem?_setIfInBounds_ne hne]
theorem Bx.At.step {l : Array Bool} {a' : Act} {w w' : World} {S : Nat → Prop} {oa os : Oper} (F : B.Fixed md ops oa os) (h : B.At l a' w S) (hS : InS w0 w S) (hg : Grows w w') {i : Nat} {o : Oper} (ho : ops[i]? = some o) (hun : l.getD i true = false) (h1 : i ≠ B.ia) (h2 : i ≠ B.si) (u : Value) :
    B.At (l.setIfInBounds i true) (a'.put o.dst u) w' S := by
  have e1 : (l.setIfInBounds i true).getD B.ia true = l.getD B.ia true := getD_set_ne true h1
  have e2 : (l.setIfInBounds i true).getD B.si true = l.getD B.si true := getD_set_ne true h2
  unfold Bx.At
  rw [e1, e2]
  refine ⟨fun hl => ?_, h.2⟩
  obtain ⟨g, q1, q2, q3, q4⟩ := h.1 hl
  refine ⟨g, by rw [put_ne (F.only i o ho h1)]; exact q1, q2, fun hs => (hg.block g (hS g q2).2).trans (q3 hs), fun hs => ?_⟩
  obtain ⟨k1, v, k2, k3⟩ := q4 hs
  have hiw : i ≠ B.iw := fun e => by subst e; rw [k1] at hun; cases hun
  exact ⟨getD_set_any k1, v, by rw [put_ne (F.only2 i o ho hiw)]; exact k2, (hg.block g (hS g q2).2).trans k3⟩
variable {Q : Act → Env → Prop} {a : Act} {G : Env} {o : Oper} {rest : List Oper} {k : Nat}
theorem conX_no {a a' : Act} {w : World} {S : Nat → Prop} (h : ConX Env.no a a' w S) : a' = a := by
  obtain ⟨h1, h2⟩ := h
  obtain ⟨t, d⟩ := a
  obtain ⟨t', d'⟩ := a'
  simp only at h1
  subst h1
  congr 1
  exact Array.ext_getElem? h2
theorem conX_upd {a a' : Act} {w : World} {S : Nat → Prop} {t : Tmp} {p : Pr} (h : ConX (G.upd t p) a a' w S) (hG : G t = none) (hlt : t < a.tmps.size) : ∃ v, p v w ∧ ConX G (a.put (some t) v) a' w S := by
  have ht := h.2 t
  unfold relX Env.upd at ht
  simp only [if_pos] at ht
  obtain ⟨v, e, hv⟩ := ht
  refine ⟨v, hv w (Touch.refl _ _), h.1, fun s => ?_⟩
  unfold relX
  by_cases hs : s = t
  · subst hs
    rw [hG]
    simp only [Act.put, Array.getElem?_setIfInBounds_self, if_pos hlt, e]
  · have h0 := h.2 s
    unfold relX Env.upd at h0
    rw [if_neg hs] at h0
    have hne : t ≠ s := fun e => hs e.symm
    simpa [Act.put, Array.getElem?_setIfInBounds_ne hne] using h0
def AtX (B : Bx) (Q : Exit → Act → World → Prop) (a : Act) (G : Env) (w : World) (S : Nat → Prop) (g : Nat) : Prop :=
  ∀ a', ConX G a a' w S → a'.tmps[B.tp]? = some (.pointer (some ⟨g, 0, none⟩)) → ∀ v, a'.tmps[B.ts]? = some v → w.heap[g]? = some (.cells (B.fin v).toArray B.T (0, 0)) → Q .normal a' w
theorem AtX.pop {Q : Exit → Act → World → Prop} {w : World} {S : Nat → Prop} {g : Nat} {t : Tmp} {p : Pr} (hG : G t = none) (ht : t < a.tmps.size) (h : ∀ v, p v w → AtX B Q (a.put (some t) v) G w S g) : AtX B Q a (G.upd t p) w S g := fun a' hc => by
  obtain ⟨v, hv, hc2⟩ := conX_upd hc hG ht
  exact h v hv a' hc2
theorem AtX.base {Q : Exit → Act → World → Prop} {w : World} {S : Nat → Prop} {g : Nat} {u v : Value} (h1 : a.tmps[B.tp]? = some u) (h2 : a.tmps[B.ts]? = some v) (h : u = .pointer (some ⟨g, 0, none⟩) → Arr w g B.T (B.fin v) → Q .normal a w) : AtX B Q a Env.no w S g := fun a' hc e1 v' e2 e3 => by
  have := conX_no hc
  subst this
  rw [h1] at e1
  rw [h2] at e2
  injection e1 with e1
  injection e2 with e2
  subst e2
  exact h e1 ⟨e3⟩
theorem Own.noBox {w w' : World} {B e size n c : Nat} {A : Option Addr} {xs : List Value} {S : Nat → Prop} (h : Own w B e size A n c xs) (hS : ∀ k, S k → k < B) (ht : Touch S w w') : Own w' B e size A n c xs :=
  h.touch ht (fun p hp hs => by have := (h.ty p hp).1; have := hS _ hs; omega)
end
section
variable {P : Program} {ops : Array Oper} {w0 : World} {B : Bx} {Q : Act → Env → Prop} {a : Act} {G : Env} {o : Oper} {rest : List Oper} {k : Nat}
end
end Go.Proofs.YtgplpgldhoelcaaGreat

namespace Go.Proofs.YtgplpgldhoelcaaGreat
open Go Go.RowKit
section
variable {P : Program} {w0 : World} {ops : Array Oper} {Q : Act → Env → Prop} {a : Act} {G : Env} {o : Oper} {rest : List Oper}
theorem dep_exec {a' : Act} {t0 : Tmp} {v : Value} (h5 : ∀ cs b, o.op ≠ .select cs b) (ht0 : t0 < a.tmps.size) (hv : a'.tmps[t0]? = some v) (h : ∀ t ∈ o.looksAt ops, t = t0 ∨ a'.tmps[t]? = a.tmps[t]?) : execOp a'.eval o = execOp (a.put (some t0) v).eval o := by
  refine execOp_congr o h5 fun x hx => ?_
  cases x with
  | tmp t =>
    have ht : t ∈ o.looksAt ops := List.mem_append_left _ (List.mem_filterMap.2 ⟨.tmp t, by simpa using hx, rfl⟩)
    have h' : a'.tmps[t]? = (a.put (some t0) v).tmps[t]? := by
      by_cases e : t = t0
      · subst e
        rw [hv]
        simp [Act.put, ht0]
      · rw [(h t ht).resolve_left e]
        simp [Act.put, Array.getElem?_setIfInBounds_ne (Ne.symm e)]
    simp only [Act.eval, Array.getD_eq_getD_getElem?, h']
  | _ => rfl
theorem gLex_depV {t0 : Tmp} {p0 : Pr} (hw : Region.wanted o (yielded ops a.tmps) = true) (hp : depB ops o G t0 = true) (h0 : G t0 = some p0) (ht0 : t0 < a.tmps.size) (v : Value)
    (hr : ∀ (x : Later w0) (u : Value), p0 u x.now → runsTo P (fun u' w' => Grows x.now w' ∧ u' = v) ((execOp (a.put (some t0) u).eval o).run P x.now))
    (h : gLex P ops w0 Q rest (a.put o.dst v) G) : gLex P ops w0 Q (o :: rest) a G := by
  obtain ⟨h1, h2, h3, h4, h5⟩ := dep_spec hp
  refine ⟨.inl v, ⟨h1, h2, .inl ⟨hw, trivial, trivial, fun w hw a' ha' => ?_⟩⟩, ?_⟩
  · have hv := ha' t0 h4
    unfold relAt at hv
    rw [h0] at hv
    obtain ⟨u, hv, hpv⟩ := hv
    rw [dep_exec h5 ht0 hv (fun t ht => (h3 t ht).imp id (fun e => by
      have h6 := ha' t ht
      unfold relAt at h6
      rw [e] at h6
      exact h6))]
    exact hr ⟨w, hw⟩ u hpv
  · have : putG G o.dst (.inl v) = G := by cases o.dst <;> rfl
    rw [this]
    exact h
def AtA (Q : Exit → Act → World → Prop) (a : Act) (G : Env) (w' : World) : Prop := ∀ a', Conc G a a' w' → Q .normal a' w'
theorem AtA.pop {Q : Exit → Act → World → Prop} {w' : World} {t : Tmp} {p : Pr} (hG : G t = none) (ht : t < a.tmps.size) (h : ∀ v, p v w' → AtA Q (a.put (some t) v) G w') : AtA Q a (G.upd t p) w' := fun a' hc => by
  obtain ⟨v, hv⟩ := conc_upd hc ht
  rcases hv with ⟨hp, hc2⟩ | hne
  · exact h v hp a' hc2
  · exact absurd hG hne
theorem AtA.base {Q : Exit → Act → World → Prop} {w' : World} (h : Q .normal a w') : AtA Q a Env.no w' := fun a' hc => by rw [conc_no hc]; exact h
theorem gLex_endA {Q : Exit → Act → World → Prop} (h : ∀ x : Later w0, AtA Q a G x.now) : gLex P ops w0 (fun a G => ∀ w', Grows w0 w' → ∀ a', Conc G a a' w' → Q .normal a' w') [] a G := fun w' hw a' hc => h ⟨w', hw⟩ a' hc
end
end Go.Proofs.YtgplpgldhoelcaaGreat

namespace Go.Proofs.YtgplpgldhoelcaaGreat
open Go Go.RowKit
attribute [local go_sem] Oper.semAt_some
theorem Row1.wvN {w : World} {g NN : Nat} {L : List Nat} (h : Row1 w g 41 1 NN NN (wv L)) (hl : L.length = NN) {v : Nat} (hv : v < NN) : Holds w ⟨g, v, none⟩ (.int .u64 (gn L v : Int)) :=
  ⟨(h.mine (j := v) (wv_at (by omega))).cell⟩
set_option maxRecDepth 20000 in
set_option maxHeartbeats 4000000 in
theorem r8Offsets (N : Int) (A : Option Addr) (m c : Nat) (E : List Edg) (B : Option Addr) (n d : Nat) (l : List Int) (w : World) (h : Rd w A 3 m (esCells E)) (hm : m ≤ 1000000) (h' : Rd w B 1 n (l.map (.int .i64))) (hn : n ≤ 1000000) :
    Calls Tryz.prog 166 #[.agg #[.int .i64 N, .slice A m c], .slice B n d] w (OffPost E l (edgesB N E l) w) := by
  have HL := hide (show l.length = n by simpa using h'.len)
  have HE := hide h.elen
  have C1 := fun (W : World) (g : Grows w W) => r8edges N A m c E B n d l W (h.grows g) hm (h'.grows g) hn
  have HR := hide h
  have HS := hide h'
  clear h h'
  cases he : edgesB N E l with
  | false =>
    rw [he] at C1
    have H1 := hide C1
    clear C1 he
    go_enter Tryz.func166, Tryz.ntmps166
    go_wp2_with (first | (go_at_call 85; refine (H1.out _ GG).mono ?_; rintro e w' ⟨rfl, hg⟩; (first | obtain ⟨x, rfl⟩ := Grows.later2 hg | obtain ⟨x, rfl⟩ := Grows.later hg); clear hg))
    go_ret
    exact ⟨rfl, GG⟩
  | true =>
    have HI := hide (fun k (hk : k < n) => edges_in2 he (k := k) (by rw [HL.out]; exact hk))
    have HB := hide (fun k (hk : k ≤ n) => wtK_bd he k (by rw [HL.out]; exact hk))
    rw [he] at C1
    have H1 := hide C1
    clear C1 he
    go_enter Tryz.func166, Tryz.ntmps166
    go_wp2_with (go_at_call 85; refine (H1.out _ GG).mono ?_; rintro e w' ⟨rfl, hg⟩; obtain ⟨x0, rfl⟩ := hg.later; clear hg)
    have hO0 : Own (x0.now.alloc (.cells #[.int .u64 0] 41)) x0.now.heap.size 41 1 (some ⟨x0.now.heap.size, 0, none⟩) 1 1 (((List.range 1).map (wtK E l)).map (.int .u64)) := Own.build x0.now 41 [.int .u64 0] x0.now.heap.size (Nat.le_refl _) (by simp)
    have HO0 := hide hO0
    clear hO0
    go_loopw [5, 6] (fun s5 s6 wr => ∃ k : Nat, k ≤ n ∧ s6 = .int .i64 (k : Int) ∧ ∃ y : Later x0.now, wr = y.now ∧ ∃ A' c', s5 = .slice A' (k + 1) c' ∧ Own y.now x0.now.heap.size 41 1 A' (k + 1) c' (((List.range (k + 1)).map (wtK E l)).map (.int .u64))) (fun _ s6 _ => n - (Go.RowKit.intOf s6).toNat)
    case atStart => exact ⟨0, by omega, by go_num, ⟨_, GG⟩, rfl, _, _, rfl, HO0.out⟩
    case round =>
      obtain ⟨k, hk, rfl, y, rfl, A', c', rfl, hown⟩ := hrel
      have HO := hide hown
      clear hown
      by_cases hlt : k < n
      · have hdk : decide ((k : Int) < (n : Int)) = true := decide_eq_true (by omega)
        obtain ⟨b, off, rfl, hc⟩ := HS.out.intsH (by omega)
        have c1 := hc k (by omega)
        obtain ⟨i0, i1, i2⟩ := HI.out k (by omega)
        have hw := right_weight i0 i2
        rw [HE.out] at i2
        obtain ⟨b2, off2, rfl, hc2⟩ := HR.out.edgesH (by omega)
        obtain ⟨_, _, c4⟩ := hc2 (gi l k).toNat i2
        obtain ⟨b0, b1⟩ := HB.out k (by omega)
        obtain ⟨g, rfl, hgB, hcs⟩ := HO.out.at (by omega)
        have m1 : Holds y.now ⟨g, k, none⟩ (.int .u64 (wtK E l k)) := ⟨(hcs k _ (by simp)).cell⟩
        have HN := hide (show ((List.range (k + 1 + 1)).map (wtK E l)).map (Value.int .u64) = ((List.range (k + 1)).map (wtK E l)).map (Value.int .u64) ++ [Value.int .u64 (wtK E l (k + 1))] by rw [List.range_succ (n := k + 1)]; simp)
        have HX := hide (wtK_succ E l k)
        have hsm : 0 ≤ wtK E l k + (ge E (gi l k).toNat).w ∧ wtK E l k + (ge E (gi l k).toNat).w < 18446744073709551616 := by omega
        clear hc hc2 i0 hcs b0 b1 hw
        obtain ⟨r1, hr1⟩ : ∃ r1, wtK E l (k + 1) = r1 := ⟨_, rfl⟩
        rw [hr1] at HN HX
        generalize wtK E l k = a at *
        generalize (ge E (gi l k).toNat).w = v at *
        generalize hq : gi l k = q at *
        obtain ⟨q, rfl⟩ := Int.eq_ofNat_of_zero_le i1
        simp only [Int.toNat_natCast] at i2 c4
        clear hq hr1
        have hr2 : a + v = r1 := HX.out.symm
        rw [hr2] at hsm
        go_upto_region 7 with fail
        (refine wp_region_tail1 16 (by kernel_rfl) (by kernel_rfl) ?_; simp only [List.take_succ_cons, List.take_zero, List.drop_succ_cons, List.drop_zero]; (repeat' ((first | refine gLex_val0 rfl (by kernel_rfl) (fun K hK => ?_) | refine gLex_undef rfl rfl rfl (by kernel_rfl) (fun K hK => ?_) | (refine gLex_ask rfl rfl rfl ?_; first | (apply gAsk_yes; kernel_rfl; intro K hK) | ((first | apply gAsk_no1 | apply gAsk_no2); kernel_rfl; intro K hK))) <;> (go_simp; (try (simp only [↓IntWalk.iteOmega]; try go_simp)); (try simp (disch := omega) only [IntWalk.i64_in]); (try simp (disch := omega) only [IntWalk.u64_in]); refine hK _ ?_; clear hK K))); refine gLex_prop rfl (by kernel_rfl) rfl (by simp) (One (.int .u64 r1)) (One.lasts _) (fun x => by (go_simp; exact ⟨(Grows.refl _).new _, _, rfl, inferInstance⟩)) ?_; refine gLex_endT1 (by simp) (fun x v hv => ?_); obtain ⟨gnew, rfl, hgnew⟩ := hv; simp only [Act.put, List.setIfInBounds_toArray, List.set_cons_zero, List.set_cons_succ])
        go_wp2_with (at_builtin; refine wp_app1 elemU64.elem rfl _ _ rfl x0.now GG (k + 1) c' _ _ rfl (HO.out.grows GG) _ _ _ rfl inferInstance rfl (by omega) ?_; intro A3 c3 y3 hown3; have HO3 := hide hown3; clear hown3)
        go_roundw
        case measure => simp [Go.RowKit.intOf]; omega
        case rel => exact ⟨k + 1, by omega, by go_num, y3, rfl, A3, c3, rfl, by rw [HN.out]; exact HO3.out⟩
      · obtain rfl : k = n := by omega
        have hdk : decide ((k : Int) < (k : Int)) = false := decide_eq_false (by omega)
        obtain ⟨g, rfl, _, _⟩ := HO.out.at (by omega)
        go_wp2_with fail
        go_ret
        exact ⟨g, c', by rw [HL.out]; rfl, by rw [HL.out]; exact HO.out.rd, GG⟩
set_option maxRecDepth 20000 in
set_option maxHeartbeats 4000000 in
theorem r27part (NN : Nat) (A : Option Addr) (c : Nat) (E : List Edg) (F T : Nat → List Nat) (hM : Mks NN E F T) (bn on cn bo oo co m i j u v : Nat) (oi oj : Int) (w : World) (h : Rd w A 3 E.length (esCells E)) (k1 : Holds w ⟨bn, on + i, none⟩ (.int .i64 (u : Int))) (k2 : Holds w ⟨bn, on + j, none⟩ (.int .i64 (v : Int))) (k3 : Holds w ⟨bo, oo + i, none⟩ (.int .u64 oi)) (k4 : Holds w ⟨bo, oo + j, none⟩ (.int .u64 oj))
    (hi : i < m) (hj : j < m) (hu : u < NN) (hv : v < NN) (h0 : 0 ≤ oi) (h1 : oi ≤ oj) (h2 : oj < 18446744073709551616) :
    Calls Tryz.prog 168 #[.agg #[.int .i64 (NN : Int), .slice A E.length c], .slice (some ⟨bn, on, none⟩) m cn, .slice (some ⟨bo, oo, none⟩) m co, .int .i64 (i : Int), .int .i64 (j : Int)] w fun e w' => e = .returned (.bool (decide ((gn (F u) v : Int) = oj - oi))) ∧ Grows w w' := by
  have C1 := hide (fun (W : World) (g : Grows w W) => show Calls Tryz.prog 151 #[.agg #[.int .i64 (NN : Int), .slice A E.length c], .int .i64 (u : Int), .agg #[.bool false, .slice none 0 0, .slice none 0 0, .slice none 0 0, .int .u64 0]] W fun e w' =>
      ∃ gd, e = .returned (.slice (some ⟨gd, 0, none⟩) NN NN) ∧ Row1 w' gd 41 1 NN NN (wv (F u)) ∧ Grows W w' from by
    obtain ⟨xs, hxs, hFv⟩ := hM.f u hu
    rw [hFv, ← hxs.ref]
    exact r14All NN u A c E (allO false) none none none 0 0 0 W (h.grows g) (rdNil _ _) (rdNil _ _) (rdNil _ _) hxs.ok hxs.wb)
  have HFL := hide (hM.flen u hu)
  clear h hM
  obtain ⟨fv, hfv⟩ : ∃ fv : Int, (gn (F u) v : Int) = fv := ⟨_, rfl⟩
  rw [hfv]
  have HFV := hide hfv
  clear hfv
  obtain ⟨d, hd⟩ : ∃ d, decide (fv = oj - oi) = d := ⟨_, rfl⟩
  have hd2 : (fv == oj - oi) = d := by rw [← hd]; by_cases e : fv = oj - oi <;> simp [e]
  rw [hd]
  have HD := hide hd
  clear hd
  go_enter Tryz.func168, Tryz.ntmps168
  go_upto_region 1 with fail
  refine wp_region_gen (by kernel_rfl) (by kernel_rfl) ?_
  (repeat' ((first | refine gLex_val0 rfl (by kernel_rfl) (fun K hK => ?_) | refine gLex_undef rfl rfl rfl (by kernel_rfl) (fun K hK => ?_) | (refine gLex_ask rfl rfl rfl ?_; first | (apply gAsk_yes; kernel_rfl; intro K hK) | ((first | apply gAsk_no1 | apply gAsk_no2); kernel_rfl; intro K hK))) <;> (go_simp; (try (simp only [↓IntWalk.iteOmega]; try go_simp)); (try simp (disch := omega) only [IntWalk.i64_in]); (try simp (disch := omega) only [IntWalk.u64_in]); refine hK _ ?_; clear hK K)))
  refine gLex_propW (by kernel_rfl) (by kernel_rfl) rfl (by simp) (fun u' w' => ∃ gd, u' = .slice (some ⟨gd, 0, none⟩) NN NN ∧ Row1 w' gd 41 1 NN NN (wv (F u))) (fun _ _ _ hg ⟨gd, e, h⟩ => ⟨gd, e, h.grow hg⟩) (fun x => by
    go_simp
    refine (C1.out _ GG).mono ?_
    rintro e w' ⟨gd, rfl, hrow, hg⟩
    exact ⟨_, rfl, hg, gd, rfl, hrow⟩) ?_
  (repeat' ((first | refine gLex_val0 rfl (by kernel_rfl) (fun K hK => ?_) | refine gLex_undef rfl rfl rfl (by kernel_rfl) (fun K hK => ?_) | (refine gLex_ask rfl rfl rfl ?_; first | (apply gAsk_yes; kernel_rfl; intro K hK) | ((first | apply gAsk_no1 | apply gAsk_no2); kernel_rfl; intro K hK))) <;> (go_simp; (try (simp only [↓IntWalk.iteOmega]; try go_simp)); (try simp (disch := omega) only [IntWalk.i64_in]); (try simp (disch := omega) only [IntWalk.u64_in]); refine hK _ ?_; clear hK K)))
  refine gLex_dep (t0 := 17) (by kernel_rfl) (by kernel_rfl) rfl (by simp) rfl (by simp) (fun u' w' => ∃ gd, u' = .pointer (some ⟨gd, v, none⟩) ∧ Row1 w' gd 41 1 NN NN (wv (F u))) (fun _ _ _ hg ⟨gd, e, h⟩ => ⟨gd, e, h.grow hg⟩) (fun x u' hu' => by
    obtain ⟨gd, rfl, hrow⟩ := hu'
    go_simp
    all_goals exact ⟨Grows.refl _, gd, rfl, hrow⟩) ?_
  refine gLex_depV (t0 := 22) (by kernel_rfl) (by kernel_rfl) rfl (by simp) (.int .u64 fv) (fun x u' hu' => by
    obtain ⟨gd, rfl, hrow⟩ := hu'
    have c2 := hrow.wvN HFL.out hv
    rw [HFV.out] at c2
    go_simp
    all_goals exact ⟨Grows.refl _, rfl⟩) ?_
  (repeat' ((first | refine gLex_val0 rfl (by kernel_rfl) (fun K hK => ?_) | refine gLex_undef rfl rfl rfl (by kernel_rfl) (fun K hK => ?_) | (refine gLex_ask rfl rfl rfl ?_; first | (apply gAsk_yes; kernel_rfl; intro K hK) | ((first | apply gAsk_no1 | apply gAsk_no2); kernel_rfl; intro K hK))) <;> (go_simp; (try (simp only [↓IntWalk.iteOmega]; try go_simp)); (try simp (disch := omega) only [IntWalk.i64_in]); (try simp (disch := omega) only [IntWalk.u64_in]); refine hK _ ?_; clear hK K)))
  refine gLex_endA (fun y5 => ?_)
  refine AtA.pop rfl (by simp) (fun z _ => ?_)
  refine AtA.pop rfl (by simp [Act.put]) (fun z _ => ?_)
  refine AtA.base ?_
  simp only [Act.put, List.setIfInBounds_toArray, List.set_cons_zero, List.set_cons_succ]
  go_wp2_with fail
  go_ret
  exact ⟨rfl, GG⟩
end Go.Proofs.YtgplpgldhoelcaaGreat

namespace Go.Proofs.YtgplpgldhoelcaaGreat
open Go Go.RowKit
set_option maxRecDepth 20000 in
set_option maxHeartbeats 8000000 in
theorem r27Test (NN : Nat) (A : Option Addr) (c : Nat) (E : List Edg) (F T : Nat → List Nat) (hM : Mks NN E F T) (s : Int) (B : Option Addr) (d : Nat) (l : List Int) (at_ a b base : Int) (w : World) (h : Rd w A 3 E.length (esCells E)) (h2 : Rd w B 1 l.length (l.map (.int .i64))) (hl : l.length ≤ 1000) (hE : E.length ≤ 1000000)
    (his : isB (NN : Int) E s l = true) (ha : U64 a) (hb : U64 b) (hbase : U64 base) :
    Calls Tryz.prog 114 #[.agg #[.int .i64 (NN : Int), .slice A E.length c], .int .i64 s, .slice B l.length d, .int .i64 at_, .agg #[.int .u64 a, .int .u64 b], .int .u64 base] w fun e w' => e = .returned (.bool (tsB (NN : Int) E F s l at_ a b base)) ∧ Grows w w' := by
  obtain ⟨hr, _, _, hed⟩ := isB_right his
  have hnl : nodesL (NN : Int) E s l = ndL E s l (l.length + 1) := by unfold nodesL; rw [if_pos his]
  have C1 := hide (fun (W : World) (g : Grows w W) => show Calls Tryz.prog 74 #[.agg #[.int .i64 (NN : Int), .slice A E.length c], .int .i64 s, .slice B l.length d] W fun e w' => ∃ A1 c1, e = .returned (.tuple #[.slice A1 (l.length + 1) c1, .bool true]) ∧ Rd w' A1 1 (l.length + 1) ((ndL E s l (l.length + 1)).map (.int .i64)) ∧ Grows W w' from by
    have := r8Nodes (NN : Int) A E.length c E s B l.length d l W (h.grows g) hE (h2.grows g) (by omega)
    rw [his, hnl] at this
    unfold GiveIB at this
    rw [ndL_len] at this
    exact this)
  have C2 := hide (fun (W : World) (g : Grows w W) => r8Offsets (NN : Int) A E.length c E B l.length d l W (h.grows g) hE (h2.grows g) (by omega))
  rw [hed] at C2
  have C3 := hide (fun (Ao : Option Addr) (co : Nat) (W : World) (q : Rd W Ao 1 (l.length + 1) (((List.range (l.length + 1)).map (wtK E l)).map (.int .u64))) => rWindow Ao (l.length + 1) co ((List.range (l.length + 1)).map (wtK E l)) at_ a b base W q (by omega) ha hb hbase)
  cases hw : wgB at_ (l.length + 1) ((List.range (l.length + 1)).map (wtK E l)) a b with
  | false =>
    have HV := hide (show tsB (NN : Int) E F s l at_ a b base = false by unfold tsB; rw [hw]; simp)
    have hwv := winV_bad (base := base) hw
    rw [← hwv] at C3
    clear h h2 his hnl hed hr hM hbase hw hwv
    go_enter Tryz.func114, Tryz.ntmps114
    go_wp2_with fail
    refine (C1.out _ GG).mono ?_; rintro e w' ⟨A1, c1, rfl, hr1, hg⟩; obtain ⟨x1, rfl⟩ := hg.later; clear hg hr1
    have b1 : Arr x1.now w.heap.size 35 [.int .i64 (NN : Int), .slice A E.length c] := Arr.grow ⟨by simp [heap_push, Array.getElem_push, Array.getElem?_push, eq_add2]⟩ x1.grows
    have b2 : Arr x1.now (w.heap.size + 1) 71 [.int .u64 a, .int .u64 b] := Arr.grow ⟨by simp [heap_push, Array.getElem_push, Array.getElem?_push, eq_add2]⟩ x1.grows
    go_wp2_with fail
    refine (C2.out _ GG).mono ?_; unfold OffPost; rintro e w' ⟨g2, c2, rfl, hr2, hg⟩; obtain ⟨x2, rfl⟩ := hg.later; have HR2 := hide hr2; clear hg hr2
    go_wp2_with fail
    refine (C3.out _ _ _ HR2.out).mono ?_; rintro e w' ⟨rfl, hg⟩; obtain ⟨x3, rfl⟩ := hg.later; clear hg
    go_wp2_with fail
    go_ret
    exact ⟨by rw [HV.out]; rfl, GG⟩
  | true =>
    have hwin := win_in (base := base) hw
    obtain ⟨I, hI⟩ : ∃ I : Nat, winI at_ (l.length + 1) ((List.range (l.length + 1)).map (wtK E l)) a b base = I := ⟨(winI at_ (l.length + 1) ((List.range (l.length + 1)).map (wtK E l)) a b base).toNat, by omega⟩
    obtain ⟨J, hJ⟩ : ∃ J : Nat, winJ at_ (l.length + 1) ((List.range (l.length + 1)).map (wtK E l)) a b base = J := ⟨(winJ at_ (l.length + 1) ((List.range (l.length + 1)).map (wtK E l)) a b base).toNat, by omega⟩
    have hwv : winV at_ (l.length + 1) ((List.range (l.length + 1)).map (wtK E l)) a b base = .tuple #[.int .i64 (I : Int), .int .i64 (J : Int), .bool true] := by unfold winV; rw [hI, hJ, hw]
    rw [hwv] at C3
    have HV := hide (show tsB (NN : Int) E F s l at_ a b base = decide ((gn (F (nk E s l I)) (nk E s l J) : Int) = wtK E l J - wtK E l I) by unfold tsB; rw [his, hw, hI, hJ]; rfl)
    rw [hI, hJ] at hwin
    have hIJ : I ≤ J ∧ J ≤ l.length := by omega
    have hni := nk_in his I (by omega)
    have hnj := nk_in his J (by omega)
    have hpl := part_le2 hM his hIJ.1 hIJ.2
    have hwb := wtK_bd hed J (by omega)
    have hwb2 := wtK_bd hed I (by omega)
    have hle : wtK E l I ≤ wtK E l J := by omega
    have hlt : wtK E l J < 18446744073709551616 := by omega
    have hge : 0 ≤ wtK E l I := by omega
    have HM := hide hM
    have HH := hide h
    have hu := hni.1
    have hv := hnj.1
    have HNI := hide hni.2
    have HNJ := hide hnj.2
    have HOI := hide (offs_at E l (k := I) (by omega))
    have HOJ := hide (offs_at E l (k := J) (by omega))
    have HGI := hide (ndL_at E s l (l.length + 1) I (by omega))
    have HGJ := hide (ndL_at E s l (l.length + 1) J (by omega))
    have hI1 : I < l.length + 1 := by omega
    have hJ1 : J < l.length + 1 := by omega
    clear h h2 his hnl hed hr hM hbase hw hwv hwin hI hJ hIJ hni hnj hpl hwb hwb2
    generalize wtK E l I = oi at *
    generalize wtK E l J = oj at *
    generalize nk E s l I = ni at *
    generalize nk E s l J = nj at *
    go_enter Tryz.func114, Tryz.ntmps114
    go_wp2_with fail
    refine (C1.out _ GG).mono ?_; rintro e w' ⟨A1, c1, rfl, hr1, hg⟩; obtain ⟨x1, rfl⟩ := hg.later; have HR1 := hide hr1; clear hg hr1
    have b1 : Arr x1.now w.heap.size 35 [.int .i64 (NN : Int), .slice A E.length c] := Arr.grow ⟨by simp [heap_push, Array.getElem_push, Array.getElem?_push, eq_add2]⟩ x1.grows
    have b2 : Arr x1.now (w.heap.size + 1) 71 [.int .u64 a, .int .u64 b] := Arr.grow ⟨by simp [heap_push, Array.getElem_push, Array.getElem?_push, eq_add2]⟩ x1.grows
    go_wp2_with fail
    refine (C2.out _ GG).mono ?_; unfold OffPost; rintro e w' ⟨g2, c2, rfl, hr2, hg⟩; obtain ⟨x2, rfl⟩ := hg.later; have HR2 := hide hr2; clear hg hr2
    go_wp2_with fail
    refine (C3.out _ _ _ HR2.out).mono ?_; rintro e w' ⟨rfl, hg⟩; obtain ⟨x3, rfl⟩ := hg.later; clear hg
    have hr1 := HR1.out
    obtain ⟨bn, on, rfl, hcn⟩ := hr1.intsH (by omega)
    obtain ⟨bo, oo, ebo, hco⟩ := HR2.out.offsH (by omega)
    have k1 : Holds x1.now ⟨bn, on + I, none⟩ (.int .i64 (ni : Int)) := by have := hcn I hI1; rwa [HGI.out, HNI.out] at this
    have k2 : Holds x1.now ⟨bn, on + J, none⟩ (.int .i64 (nj : Int)) := by have := hcn J hJ1; rwa [HGJ.out, HNJ.out] at this
    have k3 : Holds x2.now ⟨bo, oo + I, none⟩ (.int .u64 oi) := by have := hco I hI1; rwa [HOI.out] at this
    have k4 : Holds x2.now ⟨bo, oo + J, none⟩ (.int .u64 oj) := by have := hco J hJ1; rwa [HOJ.out] at this
    injection ebo with ebo
    injection ebo with e1 e2 _
    subst e1 e2
    rw [Nat.zero_add] at k3 k4
    have k1' : Holds x3.now ⟨bn, on + I, none⟩ (.int .i64 (ni : Int)) := inferInstance
    have k2' : Holds x3.now ⟨bn, on + J, none⟩ (.int .i64 (nj : Int)) := inferInstance
    have k3' : Holds x3.now ⟨g2, I, none⟩ (.int .u64 oi) := inferInstance
    have k4' : Holds x3.now ⟨g2, J, none⟩ (.int .u64 oj) := inferInstance
    have C4 := hide (r27part NN A c E F T HM.out bn on c1 g2 0 c2 (l.length + 1) I J ni nj oi oj x3.now (HH.out.grows GG) k1' k2' (by rw [Nat.zero_add]; exact k3') (by rw [Nat.zero_add]; exact k4') hI1 hJ1 hu hv hge hle hlt)
    rw [← HV.out] at C4
    clear hr1 hcn hco k1 k2 k3 k4 k1' k2' k3' k4'
    go_wp2_with (go_at_call 168; refine (C4.out).mono ?_; rintro e w' ⟨rfl, hg⟩; obtain ⟨x4, rfl⟩ := hg.later; clear hg)
    all_goals go_ret
    all_goals exact ⟨rfl, GG⟩
end Go.Proofs.YtgplpgldhoelcaaGreat

namespace Go.Proofs.YtgplpgldhoelcaaGreat
open Go Go.RowKit
set_option maxRecDepth 20000 in
set_option maxHeartbeats 4000000 in
theorem loTests1 (N : Int) (A : Option Addr) (c : Nat) (E : List Edg) (s : Int) (B : Option Addr) (n d : Nat) (z a b base : Int) (t : Bool) (b6 b7 b8 b10 b11 : Nat) (w : World) (k6 : Holds w ⟨b6, 0, none⟩ (.int .i64 N)) (k6' : Holds w ⟨b6, 1, none⟩ (.slice A E.length c)) (k7 : Holds w ⟨b7, 0, none⟩ (.int .i64 s)) (k8 : Holds w ⟨b8, 0, none⟩ (.slice B n d)) (k10 : Holds w ⟨b10, 0, none⟩ (.int .u64 a)) (k10' : Holds w ⟨b10, 1, none⟩ (.int .u64 b)) (k11 : Holds w ⟨b11, 0, none⟩ (.int .u64 base))
    (ct : ∀ W, Grows w W → Calls Tryz.prog 161 #[.agg #[.int .i64 N, .slice A E.length c], .int .i64 s, .slice B n d, .int .i64 z, .agg #[.int .u64 a, .int .u64 b], .int .u64 base] W fun e w' => e = .returned (.bool t) ∧ Grows W w') :
    Calls Tryz.prog 160 #[.int .i64 z, .pointer (some ⟨b6, 0, none⟩), .pointer (some ⟨b7, 0, none⟩), .pointer (some ⟨b8, 0, none⟩), .pointer (some ⟨b10, 0, none⟩), .pointer (some ⟨b11, 0, none⟩)] w fun e w' => e = .returned (.bool (!t)) ∧ Grows w w' := by
  have CT := hide ct
  clear ct
  go_enter Tryz.func160, Tryz.ntmps160
  go_wp2_with (go_at_call 161; refine (CT.out _ GG).mono ?_; rintro e w' ⟨rfl, hg⟩; obtain ⟨x1, rfl⟩ := hg.later; clear hg)
  go_ret
  exact ⟨rfl, GG⟩
set_option maxRecDepth 20000 in
set_option maxHeartbeats 4000000 in
theorem loTestsV (N : Int) (A : Option Addr) (c : Nat) (E : List Edg) (s : Int) (B : Option Addr) (d : Nat) (l : List Int) (C : Option Addr) (n dc : Nat) (zs : List Int) (a b base : Int) (isv : Bool) (ts : Int → Bool) (w : World) (h : Rd w A 3 E.length (esCells E)) (hE : E.length ≤ 1000000) (h2 : Rd w B 1 l.length (l.map (.int .i64))) (hl : l.length ≤ 1000) (h3 : Rd w C 1 n (zs.map (.int .i64))) (hn : n ≤ 1000)
    (hi : isB N E s l = isv) (ct : ∀ z W, Grows w W → Calls Tryz.prog 161 #[.agg #[.int .i64 N, .slice A E.length c], .int .i64 s, .slice B l.length d, .int .i64 z, .agg #[.int .u64 a, .int .u64 b], .int .u64 base] W fun e w' => e = .returned (.bool (ts z)) ∧ Grows W w') :
    Calls Tryz.prog 109 #[.agg #[.int .i64 N, .slice A E.length c], .int .i64 s, .slice B l.length d, .slice C n dc, .agg #[.int .u64 a, .int .u64 b], .int .u64 base] w fun e w' => e = .returned (.bool (isv && (rrB a b && zs.all ts))) ∧ Grows w w' := by
  have C1 := hide (fun (W : World) (g : Grows w W) => pNodes N A E.length c E s B l.length d l W (h.grows g) hE (h2.grows g) (by omega))
  rw [hi] at C1
  unfold GiveIB at C1
  have CR := hide (fun (W : World) => ratioRight a b W)
  have CT := hide ct
  have H3 := hide h3
  have HV : Hid ((!(zs.any fun z => !ts z)) = zs.all ts) := by
    show _ = _
    rw [← List.not_all_eq_any_not, Bool.not_not]
  clear h h2 h3 ct hi
  generalize zs.all ts = al at *
  generalize rrB a b = rr at *
  go_enter Tryz.func109, Tryz.ntmps109
  go_wp2_with fail
  refine (C1.out _ GG).mono ?_; rintro e w' ⟨A1, c1, rfl, hr1, hg⟩; obtain ⟨x1, rfl⟩ := hg.later; clear hg hr1
  have k6 : Holds x1.now ⟨w.heap.size, 0, none⟩ (.int .i64 N) := inferInstance
  have k6' : Holds x1.now ⟨w.heap.size, 1, none⟩ (.slice A E.length c) := inferInstance
  have k7 : Holds x1.now ⟨w.heap.size + 1, 0, none⟩ (.int .i64 s) := inferInstance
  have k8 : Holds x1.now ⟨w.heap.size + 1 + 1, 0, none⟩ (.slice B l.length d) := inferInstance
  have hs3 : (((w.alloc (.cells #[.int .i64 N, .slice A E.length c] 35)).alloc (.cells #[.int .i64 s] 3)).alloc (.cells #[.slice B l.length d] 22)).heap.size = w.heap.size + 1 + 1 + 1 := by simp
  have hs4 : ((((w.alloc (.cells #[.int .i64 N, .slice A E.length c] 35)).alloc (.cells #[.int .i64 s] 3)).alloc (.cells #[.slice B l.length d] 22)).alloc (.cells #[.int .u64 a, .int .u64 b] 71)).heap.size = w.heap.size + 1 + 1 + 1 + 1 := by simp
  have k10A : Arr x1.now (w.heap.size + 1 + 1 + 1) 71 [.int .u64 a, .int .u64 b] := by
    rw [← hs3]
    exact Arr.grow (Arr.grow (Arr.make _ _ _) ((Grows.refl _).new _)) x1.grows
  have k11A : Arr x1.now (w.heap.size + 1 + 1 + 1 + 1) 41 [.int .u64 base] := by
    rw [← hs4]
    exact Arr.grow (Arr.make _ _ _) x1.grows
  clear hs3 hs4
  have k10 : Holds x1.now ⟨w.heap.size + 1 + 1 + 1, 0, none⟩ (.int .u64 a) := inferInstance
  have k10' : Holds x1.now ⟨w.heap.size + 1 + 1 + 1, 1, none⟩ (.int .u64 b) := inferInstance
  have k11 : Holds x1.now ⟨w.heap.size + 1 + 1 + 1 + 1, 0, none⟩ (.int .u64 base) := inferInstance
  have hgx : Grows w x1.now := GG
  have C2 := hide (fun (W : World) (g : Grows x1.now W) => show Calls Tryz.prog 162 #[.slice C n dc, .func (.func 160) #[] #[.pointer (some ⟨w.heap.size, 0, none⟩), .pointer (some ⟨w.heap.size + 1, 0, none⟩), .pointer (some ⟨w.heap.size + 1 + 1, 0, none⟩), .pointer (some ⟨w.heap.size + 1 + 1 + 1, 0, none⟩), .pointer (some ⟨w.heap.size + 1 + 1 + 1 + 1, 0, none⟩)]] W fun e w' => e = .returned (.bool (zs.any fun z => !ts z)) ∧ Grows W w' from
    containsI C n dc zs 160 #[.pointer (some ⟨w.heap.size, 0, none⟩), .pointer (some ⟨w.heap.size + 1, 0, none⟩), .pointer (some ⟨w.heap.size + 1 + 1, 0, none⟩), .pointer (some ⟨w.heap.size + 1 + 1 + 1, 0, none⟩), .pointer (some ⟨w.heap.size + 1 + 1 + 1 + 1, 0, none⟩)] (fun z => !ts z) W (H3.out.grows (hgx.trans g)) (by omega) (fun args W => by kernel_rfl) (fun W2 g2 e =>
      loTests1 N A c E s B l.length d e a b base (ts e) _ _ _ _ _ W2 ⟨(g.trans g2).keeps k6.cell⟩ ⟨(g.trans g2).keeps k6'.cell⟩ ⟨(g.trans g2).keeps k7.cell⟩ ⟨(g.trans g2).keeps k8.cell⟩ ⟨(g.trans g2).keeps k10.cell⟩ ⟨(g.trans g2).keeps k10'.cell⟩ ⟨(g.trans g2).keeps k11.cell⟩ (fun W3 g3 => CT.out e W3 (hgx.trans (g.trans (g2.trans g3))))))
  clear hgx CT
  generalize (zs.any fun z => !ts z) = an at *
  cases isv with
  | false =>
    go_wp2_with fail
    go_ret
    exact ⟨rfl, GG⟩
  | true =>
    go_wp2_with fail
    refine (CR.out _).mono ?_; rintro e w' ⟨rfl, hg⟩; obtain ⟨x2, rfl⟩ := hg.later; clear hg
    cases rr with
    | false =>
      go_wp2_with fail
      go_ret
      exact ⟨rfl, GG⟩
    | true =>
      go_wp2_with fail
      refine (C2.out _ GG).mono ?_; rintro e w' ⟨rfl, hg⟩; obtain ⟨x3, rfl⟩ := hg.later; clear hg
      go_wp2_with fail
      go_ret
      exact ⟨by rw [← HV.out]; simp, GG⟩
end Go.Proofs.YtgplpgldhoelcaaGreat

namespace Go.Proofs.YtgplpgldhoelcaaGreat
open Go Go.RowKit
attribute [local go_sem] Oper.semAt_some
set_option maxHeartbeats 1000000 in
theorem penWhy1 (A : Option Addr) (n c : Nat) (x : List Int) (b9 : Nat) (B : Option Addr) (m d : Nat) (l : List Int) (w : World) (k9 : Holds w ⟨b9, 0, none⟩ (.slice B m d)) (h : Rd w A 1 n (x.map (.int .i64))) (hn : n ≤ 1000000) (h' : Rd w B 1 m (l.map (.int .i64))) (hm : m ≤ 1000000) :
    Calls Tryz.prog 98 #[.slice A n c, .pointer (some ⟨b9, 0, none⟩)] w fun e w' => e = .returned (.bool (decide (x = l))) ∧ Grows w w' := by
  have C1 := hide (fun (X : World) (g : Grows w X) => slEqZ A n c x B m d l X (h.grows g) hn (h'.grows g) hm)
  clear h h'
  generalize decide (x = l) = v at *
  go_enter Tryz.func98, Tryz.ntmps98
  go_wp2_with (go_at_call 99; refine (C1.out _ GG).mono ?_; rintro e w' ⟨rfl, hg⟩; obtain ⟨x1, rfl⟩ := hg.later; clear hg)
  go_ret
  exact ⟨rfl, GG⟩
set_option maxHeartbeats 2000000 in
theorem indexSS (A : Option Addr) (n c : Nat) (R : List Row) (b9 : Nat) (B : Option Addr) (m d : Nat) (l : List Int) (w : World) (k9 : Holds w ⟨b9, 0, none⟩ (.slice B m d)) (h : Rd w A 1 n (R.map rowVal)) (hn : n ≤ 1000000) (hR : rowsOk w R) (hs : ∀ k, k < n → (gr R k).n ≤ 1000000) (h' : Rd w B 1 m (l.map (.int .i64))) (hm : m ≤ 1000000) :
    Calls Tryz.prog 156 #[.slice A n c, .func (.func 98) #[] #[.pointer (some ⟨b9, 0, none⟩)]] w fun e w' => e = .returned (.int .i64 (firstI (fun j => decide ((gr R j).xs = l)) (List.range n))) ∧ Grows w w' := by
  have hlen : R.length = n := by simpa using h.len
  have HRR := hide h
  have CP := hide (fun (j : Nat) (hj : j < n) (X : World) (g : Grows w X) => penWhy1 (gr R j).A (gr R j).n (gr R j).c (gr R j).xs b9 B m d l X (k9.touch (g.touch (fun _ => False)) id) ((hR j (by omega)).1.grows g) (hs j hj) (h'.grows g) hm)
  clear h hR hs h' k9 hlen
  obtain ⟨p, hp⟩ : ∃ p : Nat → Bool, p = fun j => decide ((gr R j).xs = l) := ⟨_, rfl⟩
  rw [← hp]
  have HPJ := hide (show ∀ j, p j = decide ((gr R j).xs = l) from fun j => by rw [hp])
  clear hp
  go_enter Tryz.func156, Tryz.ntmps156
  go_wp2
  go_loopw [8] (fun i wr => ∃ k : Nat, k ≤ n ∧ i = .int .i64 (k : Int) ∧ (∃ x : Later w, wr = x.now) ∧ ∀ j, j < k → p j = false) (fun i _ => n - (Go.RowKit.intOf i).toNat)
  case atStart => exact ⟨0, by omega, by go_num, ⟨⟨w, Grows.refl w⟩, rfl⟩, fun j h1 => by omega⟩
  case round =>
    obtain ⟨q, hq, rfl, ⟨x, rfl⟩, hall⟩ := hrel
    have HA := hide hall
    clear hall
    by_cases hend : n ≤ q
    · go_wp2
      go_ret
      refine ⟨ret_int ?_, GG⟩
      rw [firstI_none]
      intro e he
      exact HA.out e (by have := List.mem_range.1 he; omega)
    · obtain ⟨b, off, rfl, hc⟩ := HRR.out.rows (by omega)
      have c1 := Holds.mk (hc q (by omega))
      have HC := hide (fun W g => CP.out q (by omega) W g)
      rw [← HPJ.out] at HC
      clear hc
      generalize gr R q = rw_ at *
      obtain ⟨rA, rn, rc, rx⟩ := rw_
      simp only at HC c1
      go_wp2_with fail
      refine (HC.out _ GG).mono ?_; rintro e w' ⟨rfl, hg⟩; obtain ⟨x1, rfl⟩ := Grows.later2 hg; clear hg
      cases hp : p q with
      | true =>
        have HW : Hid (firstI p (List.range n) = q) := firstI_at p 0 (List.range n) q (by simp; omega) (fun j hj => by rw [List.getD_eq_getElem?_getD, List.getElem?_range (by omega)]; exact HA.out j hj) (by rw [List.getD_eq_getElem?_getD, List.getElem?_range (by omega)]; exact hp)
        clear hp
        go_wp2
        go_ret
        exact ⟨ret_int HW.out.symm, GG⟩
      | false =>
        have HP := hide hp
        clear hp
        go_wp2
        go_roundw
        case measure => simp [Go.RowKit.intOf]; omega
        case rel =>
          refine ⟨q + 1, by omega, by go_num, ⟨_, rfl⟩, fun j h1 => ?_⟩
          by_cases hj : j = q
          · rw [hj]; exact HP.out
          · exact HA.out j (by omega)
set_option maxHeartbeats 2000000 in
theorem containsSS (A : Option Addr) (n c : Nat) (R : List Row) (b9 : Nat) (B : Option Addr) (m d : Nat) (l : List Int) (w : World) (k9 : Holds w ⟨b9, 0, none⟩ (.slice B m d)) (h : Rd w A 1 n (R.map rowVal)) (hn : n ≤ 1000000) (hR : rowsOk w R) (hs : ∀ k, k < n → (gr R k).n ≤ 1000000) (h' : Rd w B 1 m (l.map (.int .i64))) (hm : m ≤ 1000000) :
    Calls Tryz.prog 103 #[.slice A n c, .func (.func 98) #[] #[.pointer (some ⟨b9, 0, none⟩)]] w fun e w' => e = .returned (.bool ((List.range n).any (fun j => decide ((gr R j).xs = l)))) ∧ Grows w w' := by
  have HC := hide (indexSS A n c R b9 B m d l w k9 h hn hR hs h' hm)
  have HV := hide (firstI_any (fun j => decide ((gr R j).xs = l)) (List.range n))
  clear h hR hs h' k9
  generalize (fun j => decide ((gr R j).xs = l)) = p at *
  go_enter Tryz.func103, Tryz.ntmps103
  go_wp2_with (first | (go_at_call 156; refine (HC.out).mono ?_; rintro e w' ⟨rfl, hg⟩; (first | obtain ⟨x, rfl⟩ := Grows.later2 hg | obtain ⟨x, rfl⟩ := Grows.later hg); clear hg))
  all_goals go_ret
  all_goals exact ⟨ret_bool (by rw [← HV.out]), GG⟩
theorem any_had (H : List HR) (l : List Int) : (List.range H.length).any (fun j => decide ((gr (hRows H) j).xs = l)) = hadB H l := by
  unfold hadB
  rw [Bool.eq_iff_iff, List.any_eq_true, decide_eq_true_eq]
  have e : ∀ j, j < H.length → gr (hRows H) j = hrRow (gh H j) := fun j hj => by simp [gr, hRows, gh, hj]
  constructor
  · rintro ⟨j, hj, h⟩
    have hj := List.mem_range.1 hj
    rw [e j hj, decide_eq_true_eq] at h
    exact ⟨j, hj, h⟩
  · rintro ⟨j, hj, h⟩
    exact ⟨j, List.mem_range.2 hj, by rw [e j hj, decide_eq_true_eq]; exact h⟩
set_option maxHeartbeats 1000000 in
theorem penWhy2 (N : Int) (A : Option Addr) (m c : Nat) (E : List Edg) (s : Int) (B : Option Addr) (n d : Nat) (l : List Int) (b6 b7 b9 : Nat) (w : World) (a6 : Arr w b6 35 [.int .i64 N, .slice A m c]) (k7 : Holds w ⟨b7, 0, none⟩ (.int .i64 s)) (k9 : Holds w ⟨b9, 0, none⟩ (.slice B n d)) (h : Rd w A 3 m (esCells E)) (hm : m ≤ 1000000) (h' : Rd w B 1 n (l.map (.int .i64))) (hn : n ≤ 100000) :
    Calls Tryz.prog 100 #[.pointer (some ⟨b6, 0, none⟩), .pointer (some ⟨b7, 0, none⟩), .pointer (some ⟨b9, 0, none⟩)] w fun e w' => e = .returned (.bool (simB N E s l)) ∧ Grows w w' := by
  have C1 := hide (fun (X : World) (g : Grows w X) => pSimple N A m c E s B n d l X (h.grows g) hm (h'.grows g) hn)
  clear h h'
  generalize simB N E s l = v at *
  go_enter Tryz.func100, Tryz.ntmps100
  go_wp2_with (go_at_call 101; refine (C1.out _ GG).mono ?_; rintro e w' ⟨rfl, hg⟩; obtain ⟨x1, rfl⟩ := hg.later; clear hg)
  go_ret
  exact ⟨rfl, GG⟩
set_option maxHeartbeats 1000000 in
theorem penWhy3 (A : Option Addr) (c : Nat) (H : List HR) (B : Option Addr) (m d : Nat) (l : List Int) (b9 b17 b18 : Nat) (w : World) (k9 : Holds w ⟨b9, 0, none⟩ (.slice B m d)) (k17 : Holds w ⟨b17, 0, none⟩ (.slice A H.length c)) (k18 : Holds w ⟨b18, 0, none⟩ (.func (.func 98) #[] #[.pointer (some ⟨b9, 0, none⟩)])) (h : Rd w A 1 H.length ((hRows H).map rowVal)) (hn : H.length ≤ 1000000) (hR : rowsOk w (hRows H)) (hs : ∀ k, k < H.length → (gr (hRows H) k).n ≤ 1000000) (h' : Rd w B 1 m (l.map (.int .i64))) (hm : m ≤ 1000000) :
    Calls Tryz.prog 102 #[.pointer (some ⟨b17, 0, none⟩), .pointer (some ⟨b18, 0, none⟩)] w fun e w' => e = .returned (.bool (!hadB H l)) ∧ Grows w w' := by
  have C1 := hide (fun (X : World) (g : Grows w X) => containsSS A H.length c (hRows H) b9 B m d l X (k9.touch (g.touch (fun _ => False)) id) (h.grows g) hn (hR.grows g) hs (h'.grows g) hm)
  rw [any_had] at C1
  clear h hR hs h'
  generalize hadB H l = v at *
  generalize H.length = n at *
  go_enter Tryz.func102, Tryz.ntmps102
  go_wp2_with (go_at_call 103; refine (C1.out _ GG).mono ?_; rintro e w' ⟨rfl, hg⟩; obtain ⟨x1, rfl⟩ := hg.later; clear hg)
  go_ret
  exact ⟨rfl, GG⟩
set_option maxHeartbeats 1000000 in
theorem penWhy4 (wl f e1 e2 : Int) (b11 b13 b15 : Nat) (w : World) (k15 : Holds w ⟨b15, 0, none⟩ (.int .u64 wl)) (m6 : Mine w ⟨b11, 6, none⟩ (.int .u64 e1)) (m7 : Mine w ⟨b11, 7, none⟩ (.int .u64 e2)) (k13 : Holds w ⟨b13, 0, none⟩ (.int .u64 f)) (hw : U64 wl) (hf : U64 f) :
    Calls Tryz.prog 104 #[.pointer (some ⟨b15, 0, none⟩), .pointer (some ⟨b11, 0, none⟩), .pointer (some ⟨b13, 0, none⟩)] w fun e w' => e = .returned (.bool (stB wl e1 e2 f)) ∧ Grows w w' := by
  have C1 := hide (fun (X : World) => shShort wl e1 e2 f X hw hf)
  clear hw hf
  generalize stB wl e1 e2 f = v at *
  go_enter Tryz.func104, Tryz.ntmps104
  go_wp2_with (go_at_call 105; refine (C1.out _).mono ?_; rintro e w' ⟨rfl, hg⟩; obtain ⟨x1, rfl⟩ := hg.later; clear hg)
  go_ret
  exact ⟨rfl, GG⟩
set_option maxHeartbeats 1000000 in
theorem penWhy5 (N : Int) (A : Option Addr) (m c : Nat) (E : List Edg) (B : Option Addr) (n d : Nat) (l : List Int) (A5 : Option Addr) (n5 c5 : Nat) (R : List Row) (f g1 g2 : Int) (b6 b9 b17 b11 b13 : Nat) (w : World) (a6 : Arr w b6 35 [.int .i64 N, .slice A m c]) (k9 : Holds w ⟨b9, 0, none⟩ (.slice B n d)) (k17 : Holds w ⟨b17, 0, none⟩ (.slice A5 n5 c5)) (m8 : Mine w ⟨b11, 8, none⟩ (.int .u64 g1)) (m9 : Mine w ⟨b11, 9, none⟩ (.int .u64 g2)) (k13 : Holds w ⟨b13, 0, none⟩ (.int .u64 f))
    (h : Rd w A 3 m (esCells E)) (hm : m ≤ 1000000) (ha : Rd w B 1 n (l.map (.int .i64))) (hn : n ≤ 1000000) (hr : Rd w A5 1 n5 (R.map rowVal)) (hn' : n5 ≤ 1000000) (hR : rowsOk w R) (hs : ∀ k, k < n5 → (gr R k).n ≤ 1000000) (hb : U64 f) :
    Calls Tryz.prog 106 #[.pointer (some ⟨b6, 0, none⟩), .pointer (some ⟨b9, 0, none⟩), .pointer (some ⟨b17, 0, none⟩), .pointer (some ⟨b11, 0, none⟩), .pointer (some ⟨b13, 0, none⟩)] w fun e w' => e = .returned (.bool (littleB N E l R g1 g2 f)) ∧ Grows w w' := by
  have C1 := hide (fun (X : World) (g : Grows w X) => shLittle N A m c E B n d l A5 n5 c5 R g1 g2 f X (h.grows g) hm (ha.grows g) hn (hr.grows g) hn' (hR.grows g) hs hb)
  clear h ha hr hR hs hb
  generalize littleB N E l R g1 g2 f = v at *
  go_enter Tryz.func106, Tryz.ntmps106
  go_wp2_with (go_at_call 107; refine (C1.out _ GG).mono ?_; rintro e w' ⟨rfl, hg⟩; obtain ⟨x1, rfl⟩ := hg.later; clear hg)
  go_ret
  exact ⟨rfl, GG⟩
end Go.Proofs.YtgplpgldhoelcaaGreat

namespace Go.Proofs.YtgplpgldhoelcaaGreat
open Go Go.RowKit
attribute [local go_sem] Oper.semAt_some
set_option maxRecDepth 20000 in
set_option maxHeartbeats 4000000 in
theorem penWhy6 (N : Int) (A : Option Addr) (c : Nat) (E : List Edg) (s : Int) (B : Option Addr) (d : Nat) (l : List Int) (A5 : Option Addr) (n5 c5 : Nat) (R : List Row) (f a1 a2 : Int) (isv : Bool) (ts : Int → Bool) (b6 b7 b9 b17 b11 b13 : Nat) (w : World) (a6 : Arr w b6 35 [.int .i64 N, .slice A E.length c]) (k7 : Holds w ⟨b7, 0, none⟩ (.int .i64 s)) (k9 : Holds w ⟨b9, 0, none⟩ (.slice B l.length d)) (k17 : Holds w ⟨b17, 0, none⟩ (.slice A5 n5 c5)) (m4 : Mine w ⟨b11, 4, none⟩ (.int .u64 a1)) (m5 : Mine w ⟨b11, 5, none⟩ (.int .u64 a2)) (k13 : Holds w ⟨b13, 0, none⟩ (.int .u64 f))
    (h : Rd w A 3 E.length (esCells E)) (hE : E.length ≤ 1000000) (h2 : Rd w B 1 l.length (l.map (.int .i64))) (hl : l.length ≤ 1000) (hw : ∀ j, j < l.length → I64 (gi l j)) (hr : Rd w A5 1 n5 (R.map rowVal)) (hn' : n5 ≤ 100000) (hR : ∀ k, k < n5 → Rd w (gr R k).A 1 (gr R k).n ((gr R k).xs.map (.int .i64)) ∧ (gr R k).n ≤ 1000000 ∧ ∀ j, j < (gr R k).n → I64 (gi (gr R k).xs j))
    (hi : isB N E s l = isv) (ct : ∀ z W, Grows w W → Calls Tryz.prog 161 #[.agg #[.int .i64 N, .slice A E.length c], .int .i64 s, .slice B l.length d, .int .i64 z, .agg #[.int .u64 a1, .int .u64 a2], .int .u64 f] W fun e w' => e = .returned (.bool (ts z)) ∧ Grows W w') :
    Calls Tryz.prog 108 #[.pointer (some ⟨b6, 0, none⟩), .pointer (some ⟨b7, 0, none⟩), .pointer (some ⟨b9, 0, none⟩), .pointer (some ⟨b17, 0, none⟩), .pointer (some ⟨b11, 0, none⟩), .pointer (some ⟨b13, 0, none⟩)] w fun e w' => e = .returned (.bool (isv && (rrB a1 a2 && (lvK l R l.length).all ts))) ∧ Grows w w' := by
  have hll := lvK_len l R l.length
  have C1 := hide (fun (X : World) (g : Grows w X) => shLeaves (.agg #[.int .i64 N, .slice A E.length c]) N A E.length c rfl B l.length d l A5 n5 c5 R X (h2.grows g) (by omega) hw (hr.grows g) hn' (fun k hk => ⟨(hR k hk).1.grows g, (hR k hk).2⟩))
  unfold GiveI at C1
  have C2 := hide (fun (C : Option Addr) (dc : Nat) (X : World) (g : Grows w X) (h3 : Rd X C 1 (lvK l R l.length).length ((lvK l R l.length).map (.int .i64))) => loTestsV N A c E s B d l C (lvK l R l.length).length dc (lvK l R l.length) a1 a2 f isv ts X (h.grows g) hE (h2.grows g) hl h3 (by omega) hi (fun z W2 g2 => ct z W2 (g.trans g2)))
  clear h h2 hw hr hR hi ct hll
  generalize lvK l R l.length = zs at *
  generalize (isv && (rrB a1 a2 && zs.all ts)) = v at *
  generalize zs.length = nz at *
  generalize E.length = m at *
  generalize l.length = n at *
  go_enter Tryz.func108, Tryz.ntmps108
  go_upto_region 1 with fail
  refine wp_region_gen (by kernel_rfl) (by kernel_rfl) ?_
  (repeat' ((first | refine gLex_val0 rfl (by kernel_rfl) (fun K hK => ?_) | refine gLex_undef rfl rfl rfl (by kernel_rfl) (fun K hK => ?_) | (refine gLex_ask rfl rfl rfl ?_; first | (apply gAsk_yes; kernel_rfl; intro K hK) | ((first | apply gAsk_no1 | apply gAsk_no2); kernel_rfl; intro K hK))) <;> (go_simp; (try (simp only [↓IntWalk.iteOmega]; try go_simp)); (try simp (disch := omega) only [IntWalk.i64_in]); (try simp (disch := omega) only [IntWalk.u64_in]); refine hK _ ?_; clear hK K)))
  refine gLex_prop rfl (by kernel_rfl) rfl (by simp) (RowP nz (zs.map (.int .i64))) (RowP.lasts _ _) (fun y => by
    go_simp
    refine (C1.out _ GG).mono ?_
    rintro e w' ⟨A6, c6, rfl, hr6, hg⟩
    exact ⟨_, rfl, hg, A6, c6, rfl, hr6⟩) ?_
  (repeat' ((first | refine gLex_val0 rfl (by kernel_rfl) (fun K hK => ?_) | refine gLex_undef rfl rfl rfl (by kernel_rfl) (fun K hK => ?_) | (refine gLex_ask rfl rfl rfl ?_; first | (apply gAsk_yes; kernel_rfl; intro K hK) | ((first | apply gAsk_no1 | apply gAsk_no2); kernel_rfl; intro K hK))) <;> (go_simp; (try (simp only [↓IntWalk.iteOmega]; try go_simp)); (try simp (disch := omega) only [IntWalk.i64_in]); (try simp (disch := omega) only [IntWalk.u64_in]); refine hK _ ?_; clear hK K)))
  refine gLex_depV (t0 := 13) (by kernel_rfl) (by kernel_rfl) rfl (by simp) (.bool v) (fun y u hu => by
    obtain ⟨Aq, cq, rfl, hq⟩ := hu
    go_simp
    exact (C2.out _ _ _ GG hq)) ?_
  simp only [Act.put, List.setIfInBounds_toArray, List.set_cons_zero, List.set_cons_succ]
  (repeat' ((first | refine gLex_val0 rfl (by kernel_rfl) (fun K hK => ?_) | refine gLex_undef rfl rfl rfl (by kernel_rfl) (fun K hK => ?_) | (refine gLex_ask rfl rfl rfl ?_; first | (apply gAsk_yes; kernel_rfl; intro K hK) | ((first | apply gAsk_no1 | apply gAsk_no2); kernel_rfl; intro K hK))) <;> (go_simp; (try (simp only [↓IntWalk.iteOmega]; try go_simp)); (try simp (disch := omega) only [IntWalk.i64_in]); (try simp (disch := omega) only [IntWalk.u64_in]); refine hK _ ?_; clear hK K)))
  refine gLex_endA (fun y5 => ?_)
  refine AtA.pop rfl (by simp) (fun z _ => ?_)
  refine AtA.base ?_
  simp only [Act.put, List.setIfInBounds_toArray, List.set_cons_zero, List.set_cons_succ]
  go_wp2_with fail
  go_ret
  exact ⟨rfl, GG⟩
end Go.Proofs.YtgplpgldhoelcaaGreat

namespace Go.Proofs.YtgplpgldhoelcaaGreat
open Go Go.RowKit
theorem djOneU {NN sN tN u : Nat} {E : List Edg} {W : List Nat} {ys : List (Nat × Nat)} (hx : PathOk NN sN tN E (freeO W) ys) (hu : u < NN) (A : Option Addr) (c : Nat) (Aw : Option Addr) (cw : Nat) (w : World) (h : Rd w A 3 E.length (esCells E)) (h4 : Rd w Aw 1 W.length (wv W)) (h0 : Rd w none 1 0 []) :
    Calls Tryz.prog 95 #[.agg #[.int .i64 (NN : Int), .slice A E.length c], .int .i64 (u : Int), .int .i64 (tN : Int), .agg #[.bool false, .slice none 0 0, .slice none 0 0, .slice Aw W.length cw, .int .u64 0]] w fun e w' =>
      e = .returned (if gn (outL NN ys) u < farV then .tuple #[.int .u64 (gn (outL NN ys) u : Int), .int .i64 0] else .tuple #[.int .u64 0, .int .i64 9]) ∧ Grows w w' := by
  obtain ⟨xs, hok, hd, htr, hnd, hin, hout⟩ := one_turned hx hu
  refine (djOne NN u tN A c E (freeO W) none none Aw 0 0 cw xs w h h0 h0 h4 hok hd htr hx.ok.node).mono ?_
  rintro e w' ⟨h1 | h1, hg⟩
  · obtain ⟨f, hf, rfl⟩ := h1
    obtain ⟨e1, e2⟩ := hin f hf
    rw [← e1, if_pos e2]
    exact ⟨rfl, hg⟩
  · obtain ⟨hn, rfl⟩ := h1
    rw [hout hn, if_neg (Nat.lt_irrefl _)]
    exact ⟨rfl, hg⟩
theorem djOneUNo {E : List Edg} {W : List Nat} {N s t : Int} {l : List Nat} {f : Nat} {r : Int} (hp : IsPath E (freeO W) N s t l f r) (hr : r ≠ 0) (A : Option Addr) (c : Nat) (Aw : Option Addr) (cw : Nat) (w : World) (h : Rd w A 3 E.length (esCells E)) (h4 : Rd w Aw 1 W.length (wv W)) (h0 : Rd w none 1 0 []) (hn : E.length ≤ 1000000) (hn3 : W.length ≤ 1000000) :
    Calls Tryz.prog 95 #[.agg #[.int .i64 N, .slice A E.length c], .int .i64 s, .int .i64 t, .agg #[.bool false, .slice none 0 0, .slice none 0 0, .slice Aw W.length cw, .int .u64 0]] w fun e w' =>
      e = .returned (.tuple #[.int .u64 0, .int .i64 r]) ∧ Grows w w' := by
  cases hp with
  | bad hd => exact djOneNo N s t A E.length c E false (.slice none 0 0) (.slice none 0 0) Aw W.length cw 0 W w h h4 hn hn3 hd
  | noNode hd ht => exact djOneOut N s t A E.length c E false (.slice none 0 0) (.slice none 0 0) Aw W.length cw 0 W w h h4 hn hn3 hd ht
  | noPath NN sN tN xs hN hs ht hok hf =>
    subst hN hs ht
    have := djOneU hok hok.node A c Aw cw w h h4 h0
    rw [hf, if_neg (Nat.lt_irrefl _)] at this
    exact this
  | way => exact absurd rfl hr
theorem IsPath.zeroU {E : List Edg} {o : DOpt} {N s t : Int} {l : List Nat} {f : Nat} {r : Int} (hp : IsPath E o N s t l f r) (hr : r ≠ 0) : l = [] ∧ f = 0 := by
  cases hp with
  | bad => exact ⟨rfl, rfl⟩
  | noNode => exact ⟨rfl, rfl⟩
  | noPath => exact ⟨rfl, rfl⟩
  | way => exact absurd rfl hr
theorem IsPath.waysU {E : List Edg} {o : DOpt} {N s t : Int} {l : List Nat} {f : Nat} {r : Int} (hp : IsPath E o N s t l f r) (hr : r = 0) : ∃ (NN sN tN : Nat) (ys : List (Nat × Nat)), N = NN ∧ s = sN ∧ t = tN ∧ PathOk NN sN tN E o ys ∧ f = gn (outL NN ys) sN ∧ gn (outL NN ys) sN < farV ∧ Near (srchOf NN E (backO o)) (outL NN ys) tN ∧ Fol (srchOf NN E (backO o)) (outL NN ys) tN sN l := by
  cases hp with
  | bad hd => exact absurd hr hd
  | noNode => cases hr
  | noPath => cases hr
  | way NN sN tN xs l hN hs ht hok hf hn hl => exact ⟨NN, sN, tN, xs, hN, hs, ht, hok, rfl, hf, hn, hl⟩
theorem djOneD {E : List Edg} {W : List Nat} {N s t : Int} {l : List Nat} {f : Nat} {r : Int} (hp : IsPath E (freeO W) N s t l f r) (A : Option Addr) (c : Nat) (Aw : Option Addr) (cw : Nat) (w : World) (h : Rd w A 3 E.length (esCells E)) (h4 : Rd w Aw 1 W.length (wv W)) (h0 : Rd w none 1 0 []) (hn : E.length ≤ 1000000) (hn3 : W.length ≤ 1000000) :
    Calls Tryz.prog 95 #[.agg #[.int .i64 N, .slice A E.length c], .int .i64 s, .int .i64 t, .agg #[.bool false, .slice none 0 0, .slice none 0 0, .slice Aw W.length cw, .int .u64 0]] w fun e w' =>
      e = .returned (.tuple #[.int .u64 (f : Int), .int .i64 r]) ∧ Grows w w' := by
  by_cases hr : r = 0
  · obtain ⟨NN, sN, tN, ys, hN, hs, ht, hok, hff, hfar, hnear, hfol⟩ := hp.waysU hr
    subst hN hs ht hr
    have := djOneU hok hok.node A c Aw cw w h h4 h0
    rw [if_pos hfar, ← hff] at this
    exact this
  · obtain ⟨_, hf⟩ := hp.zeroU hr
    subst hf
    exact djOneUNo hp hr A c Aw cw w h h4 h0 hn hn3
end Go.Proofs.YtgplpgldhoelcaaGreat

