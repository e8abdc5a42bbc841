/- Where two rows of one struct grow in one statement: what is known in the midst of it. -/
import Derived.Test.YtiljgkaffgclgaaQMarksBounds17
/- Where two rows of one struct grow in one statement: what is known in the midst of it. -/
namespace Go.Proofs.Ytiljgkaffgclgaa
open Go Go.RowKit
section
variable {w : World} {e : TypeId} {ops : Array Oper} {o : Oper} {a : Act} {Q : Exit → Act → World → Prop} {K : Act → World → Prop} {E : Prop}
/-- append of one element of one cell, as a step of a region that draws its order; where the row lies behind it. -/
theorem step_app {t : TypeId} (T : Elem t e 1) (hgd : o.guard = none) (s x : Operand) (ho : o.op = .call { callee := .builtin .append, args := #[s, x], argTypes := #[t, t] })
    (lo : Nat) (hlo : lo ≤ w.heap.size) (n c : Nat) (A : Option Addr) (xs : List Value) (hs : a.eval s = .slice A n c) (hown : Own w lo e 1 A n c xs) (g c' : Nat) (v : Value) (hx : a.eval x = .slice (some ⟨g, 0, none⟩) 1 c')
    (hv : Holds w ⟨g, 0, none⟩ v) (h1 : v.oneCell' = true) (hnm : n + 1 ≤ 1000000000000)
    (h : ∀ A' c'' w', Own w' lo e 1 A' (n + 1) c'' (xs ++ [v]) → Touch (fun k => ∃ p, A = some p ∧ p.block = k) w w' → (∀ p, A' = some p → (∃ q, A = some q ∧ q.block = p.block) ∨ New w w' p.block) → K (a.put o.dst (.slice A' (n + 1) c'')) w') :
    if Region.wanted o (yielded ops a.tmps) = true then Oper.wp Try.prog o a w K Q else E := by
  have hw : Region.wanted o (yielded ops a.tmps) = true := by simp [Region.wanted, hgd]
  rw [if_pos hw]
  obtain ⟨i, z, bytes, hi, hz, hsz, hby, hzs, hb64⟩ := T.info
  obtain ⟨v', w', hr, hown', hgr, _, hat⟩ := run_append_own_at (P := Try.prog) w lo t o.type e i z 1 bytes T.under hi hz hsz hby hzs T.pos (.slice A n c) n xs hown ⟨g, 0, none⟩ 1 c' [v] rfl (fun j u hu => by
    have hj : j = 0 := by
      have := (List.getElem?_eq_some_iff.1 hu).1
      simpa using this
    subst hj
    simp at hu
    subst hu
    simpa [Addr.add] using hv.cell) (by intro u hu; simp at hu; rw [hu]; exact h1) (by unfold maxLen; omega) (Nat.le_trans (Nat.mul_le_mul hnm hb64) (by omega)) hlo
  obtain ⟨A', c'', rfl⟩ := own_form hown'
  have ht : Touch (fun k => ∃ p, A = some p ∧ p.block = k) w w' := (Touch.refl _ w).grown hgr fun k hk => .inl (by
    cases A with
    | none => simp [Value.ownBlock] at hk
    | some p => simp [Value.ownBlock] at hk; exact ⟨p, rfl, hk⟩)
  have hloc : ∀ p, A' = some p → (∃ q, A = some q ∧ q.block = p.block) ∨ New w w' p.block := fun p hp => by
    have hlt := (hown'.lt p.block (by subst hp; rfl)).2
    subst hp
    simp only [Value.ownBlock] at hat
    rcases hat with hat | hat
    · left
      cases A with
      | none => simp at hat
      | some q => exact ⟨q, rfl, by simpa using hat.symm⟩
    · right
      have e9 : p.block = w.heap.size := by simpa using hat
      exact ⟨Nat.le_of_eq e9.symm, hlt⟩
  unfold Oper.wp execOp
  simp only [ho, resolve, invoke, builtin, Sem.run_bind, Sem.run_pure, Result.andThen_ok, List.map_toArray, List.map_cons, List.map_nil, hs, hx, hr]
  exact h A' c'' w' hown' ht hloc
end
theorem elemRow : Elem 100 40 1 := by
  have h : (Try.prog.info? 40).map (fun i => (i.zero, i.size, i.bytes)) = some (some (.slice none 0 0), 1, 24) := by kernel_rfl
  obtain ⟨i, hi, hz, hs, hb⟩ := info_parts h
  exact ⟨Try.underlying100, ⟨i, _, 24, hi, hz, hs, hb, rfl, by omega⟩, by omega⟩
theorem rowsV_succ (NN : Nat) (g : Nat → Nat) (n : Nat) : rowsV NN g (n + 1) = rowsV NN g n ++ [.slice (some ⟨g n, 0, none⟩) NN NN] := by simp [rowsV, List.range_succ]
theorem rowsV_congr (NN : Nat) {g g' : Nat → Nat} {n : Nat} (h : ∀ i, i < n → g i = g' i) : rowsV NN g n = rowsV NN g' n := by
  unfold rowsV
  refine List.map_congr_left fun i hi => ?_
  rw [h i (by simpa using hi)]
/-- In the midst of the loop: rows of the first k landmarks. -/
structure MkIn (X W : World) (gm NN k : Nat) (F T : Nat → List Nat) (l : List Nat) (H : List Value) : Prop where
  touch : Touch (fun b => b = gm) X W
  is : ∃ Af cf At ct gf gt, Arr W gm 102 (H ++ [.slice Af k cf, .slice At k ct]) ∧ Own W X.heap.size 40 1 Af k cf (rowsV NN gf k) ∧ Own W X.heap.size 40 1 At k ct (rowsV NN gt k) ∧
    (∀ i, i < k → Row1 W (gf i) 33 1 NN NN (wv (F (gn l i)))) ∧ (∀ i, i < k → Row1 W (gt i) 33 1 NN NN (wv (T (gn l i)))) ∧ ∀ p q, Af = some p → At = some q → p.block ≠ q.block
/-- Where two rows of one struct grow, in one region: what is known in its midst. -/
structure RgI (V : Nat → Option Value) (W : World) (gm lo k : Nat) (h1 h2 h3 : Value) (Af : Option Addr) (cf : Nat) (xF : List Value) (rF : Value) (At : Option Addr) (ct : Nat) (xT : List Value) (rT : Value) (D : Nat → Bool) (g : Nat → Value) (w : World) : Prop where
  cs : ∀ j v, V j = some v → D j = true → g j = v
  touch : Touch (fun b => b = gm ∨ (∃ p, Af = some p ∧ p.block = b) ∨ ∃ p, At = some p ∧ p.block = b) W w
  b7 : D 7 = true → D 8 = false → ∃ b, g 7 = .slice (some ⟨b, 0, none⟩) 1 1 ∧ Holds w ⟨b, 0, none⟩ rF ∧ W.heap.size ≤ b
  b14 : D 14 = true → D 15 = false → ∃ b, g 14 = .slice (some ⟨b, 0, none⟩) 1 1 ∧ Holds w ⟨b, 0, none⟩ rT ∧ W.heap.size ≤ b
  oF : D 8 = false → Own w lo 40 1 Af k cf xF
  oT : D 15 = false → Own w lo 40 1 At k ct xT
  o3 : D 8 = true → ∃ A c, g 8 = .slice A (k + 1) c ∧ Own w lo 40 1 A (k + 1) c (xF ++ [rF]) ∧ ∀ p, A = some p → (∃ q, Af = some q ∧ q.block = p.block) ∨ W.heap.size ≤ p.block
  o4 : D 15 = true → ∃ A c, g 15 = .slice A (k + 1) c ∧ Own w lo 40 1 A (k + 1) c (xT ++ [rT]) ∧ ∀ A' c', g 8 = .slice A' (k + 1) c' → ∀ p q, A' = some p → A = some q → p.block ≠ q.block
  arr : Arr w gm 102 [h1, h2, h3, if D 18 = true then g 8 else .slice Af k cf, if D 21 = true then g 15 else .slice At k ct]
/-- What is known ahead of it. -/
structure RgB (W : World) (gm lo : Nat) (Af At : Option Addr) : Prop where
  lo : lo ≤ W.heap.size
  lt : gm < W.heap.size
  nF : ∀ p, Af = some p → p.block ≠ gm ∧ p.block < W.heap.size
  nT : ∀ p, At = some p → p.block ≠ gm ∧ p.block < W.heap.size
  ap : ∀ p q, Af = some p → At = some q → p.block ≠ q.block
section
variable {V : Nat → Option Value} {W w w' : World} {gm lo k : Nat} {h1 h2 h3 : Value} {Af : Option Addr} {cf : Nat} {xF : List Value} {rF : Value} {At : Option Addr} {ct : Nat} {xT : List Value} {rT : Value} {D : Nat → Bool} {g : Nat → Value}
theorem updG_ne (g : Nat → Value) {i j : Nat} (v : Value) (h : j ≠ i) : updG g i v j = g j := if_neg h
theorem updG_eq (g : Nat → Value) (i : Nat) (v : Value) : updG g i v i = v := if_pos rfl
/-- An operation that only grows the world. -/
theorem RgI.plain (h : RgI V W gm lo k h1 h2 h3 Af cf xF rF At ct xT rT D g w) (hg : Grows w w') {i : Nat} {v : Value} (hi : (i ≠ 7 ∧ i ≠ 8 ∧ i ≠ 14 ∧ i ≠ 15 ∧ i ≠ 18 ∧ i ≠ 21)) (hv : ∀ u, V i = some u → v = u) :
    RgI V W gm lo k h1 h2 h3 Af cf xF rF At ct xT rT (fun j => if j = i then true else D j) (updG g i v) w' := by
  obtain ⟨n7, n8, n14, n15, n18, n21⟩ := hi
  have ne : ∀ j : Nat, j ≠ i → (if j = i then true else D j) = D j := fun j hj => if_neg hj
  refine ⟨fun j u hu hD => ?_, h.touch.grows hg, ?_, ?_, ?_, ?_, ?_, ?_, ?_⟩
  · by_cases e : j = i
    · subst e; rw [updG_eq]; exact hv u hu
    · rw [updG_ne _ _ e]
      exact h.cs j u hu (by rwa [ne j e] at hD)
  · simp only [ne 7 (Ne.symm n7), ne 8 (Ne.symm n8), updG_ne g v (Ne.symm n7)]
    intro a b
    obtain ⟨x, y, z, t⟩ := h.b7 a b
    exact ⟨x, y, ⟨hg.keeps z.cell⟩, t⟩
  · simp only [ne 14 (Ne.symm n14), ne 15 (Ne.symm n15), updG_ne g v (Ne.symm n14)]
    intro a b
    obtain ⟨x, y, z, t⟩ := h.b14 a b
    exact ⟨x, y, ⟨hg.keeps z.cell⟩, t⟩
  · simp only [ne 8 (Ne.symm n8)]
    exact fun a => (h.oF a).grows hg
  · simp only [ne 15 (Ne.symm n15)]
    exact fun a => (h.oT a).grows hg
  · simp only [ne 8 (Ne.symm n8), updG_ne g v (Ne.symm n8)]
    intro a
    obtain ⟨x, y, z, t, u⟩ := h.o3 a
    exact ⟨x, y, z, t.grows hg, u⟩
  · simp only [ne 15 (Ne.symm n15), updG_ne g v (Ne.symm n15), updG_ne g v (Ne.symm n8)]
    intro a
    obtain ⟨x, y, z, t, u⟩ := h.o4 a
    exact ⟨x, y, z, t.grows hg, u⟩
  · simp only [ne 18 (Ne.symm n18), ne 21 (Ne.symm n21), updG_ne g v (Ne.symm n8), updG_ne g v (Ne.symm n15)]
    exact h.arr.grow hg
theorem RgI.lit7 (h : RgI V W gm lo k h1 h2 h3 Af cf xF rF At ct xT rT D g w) (hV : V 7 = none) :
    RgI V W gm lo k h1 h2 h3 Af cf xF rF At ct xT rT (fun j => if j = 7 then true else D j) (updG g 7 (.slice (some ⟨w.heap.size, 0, none⟩) 1 1)) (w.alloc (.cells #[rF] 40)) := by
  have hg : Grows w (w.alloc (.cells #[rF] 40)) := (Grows.refl w).new _
  refine ⟨fun j u hu hD => ?_, h.touch.grows hg, ?_, ?_, ?_, ?_, ?_, ?_, ?_⟩
  · by_cases e : j = 7
    · subst e; rw [hV] at hu; cases hu
    · rw [updG_ne _ _ e]
      exact h.cs j u hu (by simpa [e] using hD)
  · intro _ _
    exact ⟨w.heap.size, updG_eq _ _ _, inferInstance, h.touch.size⟩
  · simp [updG]
    intro a b
    obtain ⟨x, y, z, t⟩ := h.b14 a b
    exact ⟨x, y, ⟨hg.keeps z.cell⟩, t⟩
  · simp
    exact fun a => (h.oF a).grows hg
  · simp
    exact fun a => (h.oT a).grows hg
  · simp only [show ((8 : Nat) = 7) = False by decide, if_false, updG_ne g _ (show (8 : Nat) ≠ 7 by decide)]
    intro a
    obtain ⟨x, y, z, t, u⟩ := h.o3 a
    exact ⟨x, y, z, t.grows hg, u⟩
  · simp only [show ((15 : Nat) = 7) = False by decide, if_false, updG_ne g _ (show (8 : Nat) ≠ 7 by decide), updG_ne g _ (show (15 : Nat) ≠ 7 by decide)]
    intro a
    obtain ⟨x, y, z, t, u⟩ := h.o4 a
    exact ⟨x, y, z, t.grows hg, u⟩
  · simp only [show ((18 : Nat) = 7) = False by decide, show ((21 : Nat) = 7) = False by decide, if_false, updG_ne g _ (show (8 : Nat) ≠ 7 by decide), updG_ne g _ (show (15 : Nat) ≠ 7 by decide)]
    exact h.arr.grow hg
theorem RgI.lit14 (h : RgI V W gm lo k h1 h2 h3 Af cf xF rF At ct xT rT D g w) (hV : V 14 = none) :
    RgI V W gm lo k h1 h2 h3 Af cf xF rF At ct xT rT (fun j => if j = 14 then true else D j) (updG g 14 (.slice (some ⟨w.heap.size, 0, none⟩) 1 1)) (w.alloc (.cells #[rT] 40)) := by
  have hg : Grows w (w.alloc (.cells #[rT] 40)) := (Grows.refl w).new _
  refine ⟨fun j u hu hD => ?_, h.touch.grows hg, ?_, ?_, ?_, ?_, ?_, ?_, ?_⟩
  · by_cases e : j = 14
    · subst e; rw [hV] at hu; cases hu
    · rw [updG_ne _ _ e]
      exact h.cs j u hu (by simpa [e] using hD)
  · simp [updG]
    intro a b
    obtain ⟨x, y, z, t⟩ := h.b7 a b
    exact ⟨x, y, ⟨hg.keeps z.cell⟩, t⟩
  · intro _ _
    exact ⟨w.heap.size, updG_eq _ _ _, inferInstance, h.touch.size⟩
  · simp
    exact fun a => (h.oF a).grows hg
  · simp
    exact fun a => (h.oT a).grows hg
  · simp only [show ((8 : Nat) = 14) = False by decide, if_false, updG_ne g _ (show (8 : Nat) ≠ 14 by decide)]
    intro a
    obtain ⟨x, y, z, t, u⟩ := h.o3 a
    exact ⟨x, y, z, t.grows hg, u⟩
  · simp only [show ((15 : Nat) = 14) = False by decide, if_false, updG_ne g _ (show (8 : Nat) ≠ 14 by decide), updG_ne g _ (show (15 : Nat) ≠ 14 by decide)]
    intro a
    obtain ⟨x, y, z, t, u⟩ := h.o4 a
    exact ⟨x, y, z, t.grows hg, u⟩
  · simp only [show ((18 : Nat) = 14) = False by decide, show ((21 : Nat) = 14) = False by decide, if_false, updG_ne g _ (show (8 : Nat) ≠ 14 by decide), updG_ne g _ (show (15 : Nat) ≠ 14 by decide)]
    exact h.arr.grow hg
/-- The first row has grown. -/
theorem RgI.app8 (hb : RgB W gm lo Af At) (h : RgI V W gm lo k h1 h2 h3 Af cf xF rF At ct xT rT D g w) (hV : V 8 = none) (h15 : D 15 = false) (h18 : D 18 = false) (h21 : D 21 = false) {A : Option Addr} {c : Nat}
    (ho : Own w' lo 40 1 A (k + 1) c (xF ++ [rF])) (ht : Touch (fun b => ∃ p, Af = some p ∧ p.block = b) w w') (hl : ∀ p, A = some p → (∃ q, Af = some q ∧ q.block = p.block) ∨ New w w' p.block) :
    RgI V W gm lo k h1 h2 h3 Af cf xF rF At ct xT rT (fun j => if j = 8 then true else D j) (updG g 8 (.slice A (k + 1) c)) w' := by
  refine ⟨fun j u hu hD => ?_, h.touch.trans (ht.mono fun b hb => .inr (.inl hb)), ?_, ?_, ?_, ?_, ?_, ?_, ?_⟩
  · by_cases e : j = 8
    · subst e; rw [hV] at hu; cases hu
    · rw [updG_ne _ _ e]
      exact h.cs j u hu (by simpa [e] using hD)
  · intro _ b
    simp at b
  · simp only [show ((14 : Nat) = 8) = False by decide, show ((15 : Nat) = 8) = False by decide, if_false, updG_ne g _ (show (14 : Nat) ≠ 8 by decide)]
    intro a b
    obtain ⟨x, y, z, t⟩ := h.b14 a b
    exact ⟨x, y, z.touch ht (by rintro ⟨p, hp, e⟩; have := (hb.nF p hp).2; simp at e; omega), t⟩
  · intro a
    simp at a
  · simp only [show ((15 : Nat) = 8) = False by decide, if_false]
    exact fun a => (h.oT a).touch ht (fun p hp => by rintro ⟨q, hq, e⟩; exact hb.ap q p hq hp e)
  · intro _
    refine ⟨A, c, updG_eq _ _ _, ho, fun p hp => (hl p hp).imp id fun hn => Nat.le_trans h.touch.size hn.1⟩
  · simp only [show ((15 : Nat) = 8) = False by decide, if_false]
    intro a
    rw [h15] at a
    cases a
  · simp only [show ((18 : Nat) = 8) = False by decide, show ((21 : Nat) = 8) = False by decide, if_false, h18, h21, Bool.false_eq_true]
    have := h.arr
    rw [h18, h21] at this
    simp only [Bool.false_eq_true, if_false] at this
    exact this.touch ht (by rintro ⟨q, hq, e⟩; exact (hb.nF q hq).1 e)
/-- The second one has. -/
theorem RgI.app15 (hb : RgB W gm lo Af At) (h : RgI V W gm lo k h1 h2 h3 Af cf xF rF At ct xT rT D g w) (hV : V 15 = none) (h8 : D 8 = true) (h15 : D 15 = false) (h18 : D 18 = false) (h21 : D 21 = false) {A : Option Addr} {c : Nat}
    (ho : Own w' lo 40 1 A (k + 1) c (xT ++ [rT])) (ht : Touch (fun b => ∃ p, At = some p ∧ p.block = b) w w') (hl : ∀ p, A = some p → (∃ q, At = some q ∧ q.block = p.block) ∨ New w w' p.block) :
    RgI V W gm lo k h1 h2 h3 Af cf xF rF At ct xT rT (fun j => if j = 15 then true else D j) (updG g 15 (.slice A (k + 1) c)) w' := by
  obtain ⟨A3, c3, e3, o3, l3⟩ := h.o3 h8
  have ap : ∀ p q, A3 = some p → At = some q → p.block ≠ q.block := fun p q hp hq => by
    rcases l3 p hp with ⟨r, hr, e⟩ | hn
    · rw [← e]; exact hb.ap r q hr hq
    · have := (hb.nT q hq).2; omega
  refine ⟨fun j u hu hD => ?_, h.touch.trans (ht.mono fun b hb => .inr (.inr hb)), ?_, ?_, ?_, ?_, ?_, ?_, ?_⟩
  · by_cases e : j = 15
    · subst e; rw [hV] at hu; cases hu
    · rw [updG_ne _ _ e]
      exact h.cs j u hu (by simpa [e] using hD)
  · simp only [show ((8 : Nat) = 15) = False by decide, if_false]
    intro _ b
    rw [h8] at b
    cases b
  · intro _ b
    simp at b
  · simp only [show ((8 : Nat) = 15) = False by decide, if_false]
    intro a
    rw [h8] at a
    cases a
  · intro a
    simp at a
  · simp only [show ((8 : Nat) = 15) = False by decide, if_false, updG_ne g _ (show (8 : Nat) ≠ 15 by decide)]
    intro _
    exact ⟨A3, c3, e3, o3.touch ht (fun p hp => by rintro ⟨q, hq, e⟩; exact ap p q hp hq e.symm), l3⟩
  · intro _
    refine ⟨A, c, updG_eq _ _ _, ho, ?_⟩
    rw [updG_ne g _ (show (8 : Nat) ≠ 15 by decide)]
    intro A' c' e' p q hp hq
    rw [e3] at e'
    injection e' with e' _ _
    subst e'
    rcases hl q hq with ⟨r, hr, e⟩ | hn
    · rw [← e]; exact ap p r hp hr
    · have h8 := (o3.ty p hp).2.lt
      have h9 := hn.1
      omega
  · simp only [show ((18 : Nat) = 15) = False by decide, show ((21 : Nat) = 15) = False by decide, if_false, h18, h21, Bool.false_eq_true]
    have := h.arr
    rw [h18, h21] at this
    simp only [Bool.false_eq_true, if_false] at this
    exact this.touch ht (by rintro ⟨q, hq, e⟩; exact (hb.nT q hq).1 e)
/-- A field is set. -/
theorem RgI.set (h : RgI V W gm lo k h1 h2 h3 Af cf xF rF At ct xT rT D g w) {i f : Nat} {u v : Value} (hi : i = 18 ∧ f = 3 ∧ u = g 8 ∨ i = 21 ∧ f = 4 ∧ u = g 15) (hV : V i = none) (h8 : D 8 = true) (h15 : D 15 = true) :
    RgI V W gm lo k h1 h2 h3 Af cf xF rF At ct xT rT (fun j => if j = i then true else D j) (updG g i v) (w.setCell ⟨gm, f, none⟩ u) := by
  have ht : Touch (fun b => b = gm) w (w.setCell ⟨gm, f, none⟩ u) := (Touch.refl (fun b => b = gm) w).set (p := ⟨gm, f, none⟩) (.inl rfl) _
  have far : ∀ A n c xs, Own w lo 40 1 A n c xs → Own (w.setCell ⟨gm, f, none⟩ u) lo 40 1 A n c xs := fun A n c xs ho => ho.touch ht (fun p hp e => by
    have := (ho.ty p hp).2
    rw [e] at this
    exact absurd (this.one h.arr.ty) (by decide))
  have n8 : 8 ≠ i := by rcases hi with ⟨rfl, _⟩ | ⟨rfl, _⟩ <;> decide
  have n15 : 15 ≠ i := by rcases hi with ⟨rfl, _⟩ | ⟨rfl, _⟩ <;> decide
  refine ⟨fun j x hx hD => ?_, h.touch.trans (ht.mono fun b hb => .inl hb), ?_, ?_, ?_, ?_, ?_, ?_, ?_⟩
  · by_cases e : j = i
    · subst e; rw [hV] at hx; cases hx
    · rw [updG_ne _ _ e]
      exact h.cs j x hx (by simpa [e] using hD)
  · intro _ b
    simp only [if_neg n8, h8] at b
    cases b
  · intro _ b
    simp only [if_neg n15, h15] at b
    cases b
  · intro b
    simp only [if_neg n8, h8] at b
    cases b
  · intro b
    simp only [if_neg n15, h15] at b
    cases b
  · intro _
    rw [updG_ne g v n8]
    obtain ⟨A, c, e1, e2, e3⟩ := h.o3 h8
    exact ⟨A, c, e1, far _ _ _ _ e2, e3⟩
  · intro _
    rw [updG_ne g v n8, updG_ne g v n15]
    obtain ⟨A, c, e1, e2, e3⟩ := h.o4 h15
    exact ⟨A, c, e1, far _ _ _ _ e2, e3⟩
  · rw [updG_ne g v n8, updG_ne g v n15]
    rcases hi with ⟨rfl, rfl, rfl⟩ | ⟨rfl, rfl, rfl⟩
    · have := h.arr.set 3 (g 8)
      simpa using this
    · have := h.arr.set 4 (g 15)
      simpa using this
end
/-- One landmark more. -/
theorem mk_next {X W w : World} {gm NN k : Nat} {F T : Nat → List Nat} {l : List Nat} {h1 h2 h3 : Value} {Af At A3 A4 : Option Addr} {cf ct c3 c4 g1 g2 : Nat} {gf gt : Nat → Nat}
    (hgm : gm < X.heap.size) (ht : Touch (fun b => b = gm) X W) (a0 : Ty W gm 102) (hF : Own W X.heap.size 40 1 Af k cf (rowsV NN gf k)) (hT : Own W X.heap.size 40 1 At k ct (rowsV NN gt k))
    (hRf : ∀ i, i < k → Row1 W (gf i) 33 1 NN NN (wv (F (gn l i)))) (hRt : ∀ i, i < k → Row1 W (gt i) 33 1 NN NN (wv (T (gn l i)))) (hW1 : Row1 W g1 33 1 NN NN (wv (F (gn l k)))) (hW2 : Row1 W g2 33 1 NN NN (wv (T (gn l k))))
    (hq : Touch (fun b => b = gm ∨ (∃ p, Af = some p ∧ p.block = b) ∨ ∃ p, At = some p ∧ p.block = b) W w) (ha : Arr w gm 102 [h1, h2, h3, .slice A3 (k + 1) c3, .slice A4 (k + 1) c4])
    (hO3 : Own w X.heap.size 40 1 A3 (k + 1) c3 (rowsV NN gf k ++ [.slice (some ⟨g1, 0, none⟩) NN NN])) (hO4 : Own w X.heap.size 40 1 A4 (k + 1) c4 (rowsV NN gt k ++ [.slice (some ⟨g2, 0, none⟩) NN NN]))
    (hap : ∀ p q, A3 = some p → A4 = some q → p.block ≠ q.block) :
    MkIn X w gm NN (k + 1) F T l [h1, h2, h3] := by
  have e1 : rowsV NN gf k = rowsV NN (fun i => if i = k then g1 else gf i) k := rowsV_congr NN fun i hi => by rw [if_neg (by omega)]
  have e2 : rowsV NN gt k = rowsV NN (fun i => if i = k then g2 else gt i) k := rowsV_congr NN fun i hi => by rw [if_neg (by omega)]
  have row : ∀ g L, Row1 W g 33 1 NN NN L → Row1 w g 33 1 NN NN L := fun g L h => h.touch hq (by
    rintro (e | ⟨p, hp, e⟩ | ⟨p, hp, e⟩)
    · subst e
      exact absurd (a0.one h.ty) (by decide)
    · have := (hF.ty p hp).2
      rw [e] at this
      exact absurd (this.one h.ty) (by decide)
    · have := (hT.ty p hp).2
      rw [e] at this
      exact absurd (this.one h.ty) (by decide))
  refine ⟨?_, A3, c3, A4, c4, fun i => if i = k then g1 else gf i, fun i => if i = k then g2 else gt i, ha, ?_, ?_, ?_, ?_, hap⟩
  · refine ht.trans2 hq ?_
    rintro b (e | ⟨p, hp, rfl⟩ | ⟨p, hp, rfl⟩)
    · exact .inl e
    · exact .inr (hF.ty p hp).1
    · exact .inr (hT.ty p hp).1
  · rw [rowsV_succ, ← e1]
    have : (if k = k then g1 else gf k) = g1 := if_pos rfl
    rw [this]
    exact hO3
  · rw [rowsV_succ, ← e2]
    have : (if k = k then g2 else gt k) = g2 := if_pos rfl
    rw [this]
    exact hO4
  · intro i hi
    show Row1 _ (if i = k then g1 else gf i) _ _ _ _ _
    split
    · rename_i e; subst e; exact row _ _ hW1
    · exact row _ _ (hRf i (by omega))
  · intro i hi
    show Row1 _ (if i = k then g2 else gt i) _ _ _ _ _
    split
    · rename_i e; subst e; exact row _ _ hW2
    · exact row _ _ (hRt i (by omega))
end Go.Proofs.Ytiljgkaffgclgaa
