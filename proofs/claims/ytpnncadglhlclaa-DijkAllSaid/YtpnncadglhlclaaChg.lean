/- Slices of edges and of changes: read, copied, one cell written. -/
import Derived.Test.YtpnncadglhlclaaRowsB
import Derived.Test.YtpnncadglhlclaaOwn3
import Derived.Lib.AppendZeros
namespace Go.Proofs.Ytpnncadglhlclaa
open Go Go.RowKit
/-- Cells of elements that have so many each. -/
theorem flat_len {α : Type} (f : α → List Value) (s : Nat) (hf : ∀ a, (f a).length = s) (L : List α) : (L.flatMap f).length = L.length * s := by
  induction L with
  | nil => simp
  | cons a L ih => rw [List.flatMap_cons, List.length_append, ih, hf, List.length_cons, Nat.succ_mul]; omega
theorem flat_get {α : Type} (f : α → List Value) (s : Nat) (hf : ∀ a, (f a).length = s) (d : α) : ∀ (L : List α) (k j : Nat), k < L.length → j < s → (L.flatMap f)[k * s + j]? = (f (L.getD k d))[j]?
  | a :: L, 0, j, _, hj => by rw [List.flatMap_cons, Nat.zero_mul, Nat.zero_add, List.getElem?_append_left (by rw [hf]; exact hj)]; rfl
  | a :: L, k + 1, j, hk, hj => by
    rw [List.flatMap_cons, List.getElem?_append_right (by rw [hf, Nat.succ_mul]; omega), hf]
    have := flat_get f s hf d L k j (by simpa using hk) hj
    rw [show (k + 1) * s + j - s = k * s + j by rw [Nat.succ_mul]; omega, this]
    rfl
/-- A change of an edge's weight. -/
structure Chg where
  e : Int
  w : Int
def cCells (c : Chg) : List Value := [.int .i64 c.e, .int .u64 c.w]
def csCells (L : List Chg) : List Value := L.flatMap cCells
def gc (L : List Chg) (k : Nat) : Chg := L.getD k ⟨0, 0⟩
theorem csCells_len (L : List Chg) : (csCells L).length = L.length * 2 := flat_len cCells 2 (fun _ => rfl) L
theorem csCells_app (L : List Chg) (c : Chg) : csCells (L ++ [c]) = csCells L ++ [.int .i64 c.e, .int .u64 c.w] := by simp [csCells, cCells]
theorem Rd.clen {w : World} {A : Option Addr} {n : Nat} {L : List Chg} (h : Rd w A 2 n (csCells L)) : L.length = n := by
  have hl := h.1
  rw [csCells_len] at hl
  omega
theorem Rd.chgsH {w : World} {A : Option Addr} {n : Nat} {L : List Chg} (h : Rd w A 2 n (csCells L)) (hn : 0 < n) :
    ∃ b off, A = some ⟨b, off, none⟩ ∧ ∀ k, k < n → Holds w ⟨b, off + k * 2, none⟩ (.int .i64 (gc L k).e) ∧ Holds w ⟨b, off + k * 2 + 1, none⟩ (.int .u64 (gc L k).w) := by
  have hl := h.clen
  obtain ⟨b, off, e, hc⟩ := h.2 hn (by omega)
  refine ⟨b, off, e, fun k hk => ⟨⟨?_⟩, ⟨?_⟩⟩⟩
  · exact hc (k * 2 + 0) _ (by unfold csCells; rw [flat_get cCells 2 (fun _ => rfl) ⟨0, 0⟩ L k 0 (by omega) (by omega)]; rfl)
  · have := hc (k * 2 + 1) _ (by unfold csCells; rw [flat_get cCells 2 (fun _ => rfl) ⟨0, 0⟩ L k 1 (by omega) (by omega)]; rfl)
    rwa [← Nat.add_assoc] at this
theorem elemChg : Elem 95 149 2 := by
  have h : (Try.prog.info? 149).map (fun i => (i.zero, i.size, i.bytes)) = some (some (.agg #[.int .i64 0, .int .u64 0]), 2, 16) := by kernel_rfl
  obtain ⟨i, hi, hz, hs, hb⟩ := info_parts h
  exact ⟨Try.underlying95, ⟨i, _, 16, hi, hz, hs, hb, rfl, by omega⟩, by omega⟩
theorem elemRChg : Elem 92 153 2 := by
  have h : (Try.prog.info? 153).map (fun i => (i.zero, i.size, i.bytes)) = some (some (.agg #[.int .i64 0, .int .u64 0]), 2, 16) := by kernel_rfl
  obtain ⟨i, hi, hz, hs, hb⟩ := info_parts h
  exact ⟨Try.underlying92, ⟨i, _, 16, hi, hz, hs, hb, rfl, by omega⟩, by omega⟩
theorem elemEdge : Elem 22 49 3 := by
  have h : (Try.prog.info? 49).map (fun i => (i.zero, i.size, i.bytes)) = some (some (.agg #[.int .i64 0, .int .i64 0, .int .u64 0]), 3, 24) := by kernel_rfl
  obtain ⟨i, hi, hz, hs, hb⟩ := info_parts h
  exact ⟨Try.underlying22, ⟨i, _, 24, hi, hz, hs, hb, rfl, by omega⟩, by omega⟩
/-- An empty slice that is not nil. -/
theorem Own.empty (w : World) (e : TypeId) (B size : Nat) (hB : B ≤ w.heap.size) : Own (w.alloc (.cells #[] e)) B e size (some ⟨w.heap.size, 0, none⟩) 0 0 [] :=
  ⟨by simp, .inr ⟨w.heap.size, 0, #[], rfl, hB, (by show (w.heap.push _)[w.heap.size]? = _; simp), Nat.le_refl _, by unfold maxLen; omega, by simp, by simp⟩⟩
theorem add_pl2 (b off i : Nat) : (⟨b, off, none⟩ : Addr).add i = ⟨b, off + i, none⟩ := by
  unfold Addr.add
  split
  · rename_i h; rw [h, Nat.add_zero]
  · rfl
section
variable {w : World} {e : TypeId} {ops : Array Oper} {rest : List Oper} {o : Oper} {a : Act} {Q : Exit → Act → World → Prop}
/-- append of all of another slice. -/
theorem wp_appAll {t : TypeId} {size : Nat} (E : Elem t e size) (hgd : o.guard = none) (s x : Operand) (ho : o.op = .call { callee := .builtin .append, args := #[s, x], argTypes := #[t, t] })
    (w0 : World) (hw0 : Grows w0 w) (n c : Nat) (A : Option Addr) (xs : List Value) (hs : a.eval s = .slice A n c) (hown : Own w w0.heap.size e size A n c xs) (ad : Addr) (m d : Nat) (ys : List Value) (hx : a.eval x = .slice (some ad) m d)
    (hr : Rd w (some ad) size m ys) (h1 : ∀ u ∈ ys, u.oneCell' = true) (hnm : n + m ≤ 1000000000000)
    (h : ∀ A' c'' (y : Later w0), Own y.now w0.heap.size e size A' (n + m) c'' (xs ++ ys) → wpList Try.prog ops Q rest (a.put o.dst (.slice A' (n + m) c'')) y.now) :
    wpList Try.prog ops Q (o :: rest) a w := by
  obtain ⟨i, z, bytes, hi, hz, hsz, hby, hzs, hb64⟩ := E.info
  refine wpList_append_own w hgd s x t ho w0.heap.size e i z size bytes E.under hi hz hsz hby hzs E.pos (.slice A n c) n xs hs hown ad m d ys hx hr.1 (fun j u hu => ?_) h1 (by unfold maxLen; omega) ?_ hw0.size ?_
  · have hj := (List.getElem?_eq_some_iff.1 hu).1
    have hl := hr.1
    have hm : 0 < m := by
      rcases Nat.eq_zero_or_pos m with h0 | h0
      · subst h0; simp at hl; subst hl; simp at hj
      · exact h0
    obtain ⟨b, off, he, hc⟩ := hr.2 hm E.pos
    obtain rfl : ad = ⟨b, off, none⟩ := Option.some.inj he
    rw [add_pl2]
    exact hc j u hu
  · exact Nat.le_trans (Nat.mul_le_mul hnm hb64) (by omega)
  · intro v' w' hown' hgr _
    obtain ⟨A', c'', rfl⟩ := own_form hown'
    have hgw : Grows w0 w' := by
      refine ⟨hgr.os.trans hw0.os, hgr.tape.trans hw0.tape, hgr.output.trans hw0.output, Nat.le_trans hw0.size hgr.size, fun k hk => ?_⟩
      refine (hgr.block k (Nat.lt_of_lt_of_le hk hw0.size) fun e => ?_).trans (hw0.block k hk)
      have := World.ownsRow.lt hown k e.symm
      omega
    obtain ⟨y, rfl⟩ := hgw.later
    exact h A' c'' y hown'
end
section
variable {w : World} {e : TypeId} {ops : Array Oper} {o : Oper} {a : Act} {K : Act → World → Prop} {Q : Exit → Act → World → Prop} {F : Prop}
/-- append of all of another slice, in a region that draws its order. -/
theorem step_appAll {t : TypeId} {size : Nat} (E : Elem t e size) (hgd : o.guard = none) (s x : Operand) (ho : o.op = .call { callee := .builtin .append, args := #[s, x], argTypes := #[t, t] })
    (w0 : World) (hw0 : Grows w0 w) (n c : Nat) (A : Option Addr) (xs : List Value) (hs : a.eval s = .slice A n c) (hown : Own w w0.heap.size e size A n c xs) (ad : Addr) (m d : Nat) (ys : List Value) (hx : a.eval x = .slice (some ad) m d)
    (hr : Rd w (some ad) size m ys) (h1 : ∀ u ∈ ys, u.oneCell' = true) (hnm : n + m ≤ 1000000000000)
    (h : ∀ A' c'' (y : Later w0), Own y.now w0.heap.size e size A' (n + m) c'' (xs ++ ys) → w.grownBy y.now (Value.slice A n c).ownBlock → K (a.put o.dst (.slice A' (n + m) c'')) y.now) :
    if Region.wanted o (yielded ops a.tmps) = true then Oper.wp Try.prog o a w K Q else F := by
  obtain ⟨i, z, bytes, hi, hz, hsz, hby, hzs, hb64⟩ := E.info
  rw [if_pos (by simp [Region.wanted, hgd])]
  refine wp_append_own w s x t ho w0.heap.size e i z size bytes E.under hi hz hsz hby hzs E.pos (.slice A n c) n xs hs hown ad m d ys hx hr.1 (fun j u hu => ?_) h1 (by unfold maxLen; omega) ?_ hw0.size ?_
  · have hj := (List.getElem?_eq_some_iff.1 hu).1
    have hl := hr.1
    have hm : 0 < m := by
      rcases Nat.eq_zero_or_pos m with h0 | h0
      · subst h0; simp at hl; subst hl; simp at hj
      · exact h0
    obtain ⟨b, off, he, hc⟩ := hr.2 hm E.pos
    obtain rfl : ad = ⟨b, off, none⟩ := Option.some.inj he
    rw [add_pl2]
    exact hc j u hu
  · exact Nat.le_trans (Nat.mul_le_mul hnm hb64) (by omega)
  · intro v' w' hown' hgr _
    obtain ⟨A', c'', rfl⟩ := own_form hown'
    have hgw : Grows w0 w' := by
      refine ⟨hgr.os.trans hw0.os, hgr.tape.trans hw0.tape, hgr.output.trans hw0.output, Nat.le_trans hw0.size hgr.size, fun k hk => ?_⟩
      refine (hgr.block k (Nat.lt_of_lt_of_le hk hw0.size) fun e => ?_).trans (hw0.block k hk)
      have := World.ownsRow.lt hown k e.symm
      omega
    obtain ⟨y, rfl⟩ := hgw.later
    exact h A' c'' y hown' hgr
end
section
variable {P : Program}
theorem run_append_empty (w : World) (t ty e : TypeId) (i : TypeInfo) (ht : P.underlying t = some (.slice e)) (hi : P.info? e = some i) (g ad : Addr) (m c : Nat) (hm : 0 < m) (hm2 : m ≤ 1000000000000) (hb : m * i.bytes ≤ 140737488355328) :
    (Builtin.append_ #[t, t] ty #[.slice (some g) 0 0, .slice (some ad) m c]).run P w = (Builtin.append_ #[t, t] ty #[.slice none 0 0, .slice (some ad) m c]).run P w := by
  have h1 : ¬ m = 0 := by omega
  have h2 : Builtin.nextslicecap m 0 = m := by unfold Builtin.nextslicecap; rw [if_pos (by omega)]
  have h3 : ¬ (281474976710656 < m * i.bytes) := by omega
  have h4 : ¬ ((9223372036854775807 : Int) < (m : Int)) := by omega
  have h5 : ∀ w, (loadCells g 0).run P w = .ok #[] w := fun w => by first | rfl | simp [loadCells, loadCellsFrom]
  have h6 : IntKind.i64.max = 9223372036854775807 := rfl
  simp [Builtin.append_, run_underlying ht, sizeOf, typeInfo, hi, Builtin.lenOf, Builtin.firstCells, h1, h2, h3, h4, h5, h6]
end
section
variable {w : World} {e : TypeId} {ops : Array Oper} {o : Oper} {a : Act} {K : Act → World → Prop} {Q : Exit → Act → World → Prop} {F : Prop}
/-- append of a whole slice to an empty one that is not nil, in a region that draws its order. -/
theorem step_appNew {t : TypeId} {size : Nat} (E : Elem t e size) (hgd : o.guard = none) (s x : Operand) (ho : o.op = .call { callee := .builtin .append, args := #[s, x], argTypes := #[t, t] })
    (g : Addr) (hs : a.eval s = .slice (some g) 0 0) (ad : Addr) (m d : Nat) (ys : List Value) (hx : a.eval x = .slice (some ad) m d)
    (hr : Rd w (some ad) size m ys) (h1 : ∀ u ∈ ys, u.oneCell' = true) (hm : 0 < m) (hnm : m ≤ 1000000000000)
    (h : ∀ A' c'' (y : Later w), Own y.now w.heap.size e size A' m c'' ys → K (a.put o.dst (.slice A' m c'')) y.now) :
    if Region.wanted o (yielded ops a.tmps) = true then Oper.wp Try.prog o a w K Q else F := by
  obtain ⟨i, z, bytes, hi, hz, hsz, hby, hzs, hb64⟩ := E.info
  have hbb : m * bytes ≤ 140737488355328 := Nat.le_trans (Nat.mul_le_mul hnm hb64) (by omega)
  have he := run_append_empty w t o.type e i E.under hi g ad m d hm hnm (by rw [hby]; exact hbb)
  obtain ⟨v', w', hrun, hown, hgr, _⟩ := run_append_own (P := Try.prog) w w.heap.size t o.type e i z size bytes E.under hi hz hsz hby hzs E.pos (.slice none 0 0) 0 [] (World.ownsRow_nil _ _ _ _) ad m d ys hr.1 (fun j u hu => by
    obtain ⟨b, off, he, hc⟩ := hr.2 hm E.pos
    obtain rfl : ad = ⟨b, off, none⟩ := Option.some.inj he
    rw [add_pl2]
    exact hc j u hu) h1 (by unfold maxLen; omega) (by rw [Nat.zero_add]; exact hbb) (Nat.le_refl _)
  rw [hrun] at he
  obtain ⟨A', c'', rfl⟩ := own_form hown
  have hw : Region.wanted o (yielded ops a.tmps) = true := by simp [Region.wanted, hgd]
  rw [if_pos hw]
  unfold Oper.wp
  simp [execOp, ho, resolve, invoke, builtin, hs, hx, he, Result.andThen]
  have hgw : Grows w w' := ⟨hgr.os, hgr.tape, hgr.output, hgr.size, fun k hk => hgr.block k hk (by simp [Value.ownBlock])⟩
  obtain ⟨y, rfl⟩ := hgw.later
  rw [Nat.zero_add, List.nil_append] at hown
  exact h A' c'' y hown
end
/-- Where an own slice of any elements lies. -/
theorem Own.atS {w : World} {B n c size : Nat} {e : TypeId} {A : Option Addr} {xs : List Value} (h : Own w B e size A n c xs) (hn : 0 < n) : ∃ g, A = some ⟨g, 0, none⟩ ∧ B ≤ g ∧ g < w.heap.size ∧ ∀ j u, xs[j]? = some u → Mine w ⟨g, j, none⟩ u := by
  obtain ⟨g, cur, rfl, hB, hh, _⟩ := h.at_ hn
  exact ⟨g, rfl, hB, (Array.getElem?_eq_some_iff.1 hh).1, fun j u hu => ⟨h.cell rfl hu, h.frozen rfl hn j⟩⟩
theorem Own.putS {w w0 : World} {n c j g size : Nat} {e : TypeId} {xs : List Value} (h : Own w w0.heap.size e size (some ⟨g, 0, none⟩) n c xs) (hw0 : Grows w0 w) (hn : 0 < n) (u : Value) :
    ∃ y : Later w0, w.setCell ⟨g, j, none⟩ u = y.now ∧ Own y.now w0.heap.size e size (some ⟨g, 0, none⟩) n c (xs.set j u) := by
  obtain ⟨g', cur, hA, hB, _⟩ := h.at_ hn
  injection hA with hA
  injection hA with hA
  subst hA
  exact ⟨⟨_, hw0.set hB u⟩, rfl, h.set rfl hn j u⟩
theorem Holds.other {w : World} {p q : Addr} {v : Value} (h : Holds w p v) (u : Value) (hne : q.block ≠ p.block) : Holds (w.setCell q u) p v :=
  ⟨by rw [World.cell?_setCell_other _ _ _ _ (fun e => hne (by rw [e]))]; exact h.cell⟩
theorem Rd.other {w : World} {A : Option Addr} {size n : Nat} {xs : List Value} {q : Addr} (h : Rd w A size n xs) (u : Value) (hne : ∀ b off, A = some ⟨b, off, none⟩ → q.block ≠ b) : Rd (w.setCell q u) A size n xs :=
  ⟨h.1, fun h1 h2 => by
    obtain ⟨b, off, e, hc⟩ := h.2 h1 h2
    exact ⟨b, off, e, fun j v hv => by rw [World.cell?_setCell_other _ _ _ _ (fun e' => hne b off e (by rw [e']))]; exact hc j v hv⟩⟩
/-- The edges with one weight set. -/
def setW (E : List Edg) (e : Nat) (w : Int) : List Edg := E.set e ⟨(ge E e).f, (ge E e).t, w⟩
theorem setW_len (E : List Edg) (e : Nat) (w : Int) : (setW E e w).length = E.length := by simp [setW]
theorem ge_setW (E : List Edg) (e : Nat) (w : Int) (j : Nat) (hj : j < E.length) : ge (setW E e w) j = if j = e then ⟨(ge E j).f, (ge E j).t, w⟩ else ge E j := by
  unfold setW
  by_cases h : j = e
  · subst h
    rw [if_pos rfl]
    show (E.set j _).getD j _ = _
    simp [hj]
  · rw [if_neg h]
    show (E.set e _).getD j _ = E.getD j _
    simp [List.getD_eq_getElem?_getD, List.getElem?_set_ne (Ne.symm h)]
theorem edg_ext {E F : List Edg} (hl : E.length = F.length) (h : ∀ j, j < E.length → ge E j = ge F j) : E = F := by
  apply List.ext_getElem hl
  intro j h1 h2
  have := h j h1
  simpa [ge, h1, h2] using this
theorem setW_same (E : List Edg) (e : Nat) : setW E e (ge E e).w = E := by
  refine edg_ext (setW_len _ _ _) fun j hj => ?_
  rw [setW_len] at hj
  rw [ge_setW _ _ _ _ hj]
  split
  · rename_i h; subst h; rfl
  · rfl
theorem esCells_setW (E : List Edg) (e : Nat) (w : Int) : (esCells E).set (e * 3 + 2) (.int .u64 w) = esCells (setW E e w) := by
  apply List.ext_getElem?
  intro i
  have hl1 : ((esCells E).set (e * 3 + 2) (.int .u64 w)).length = E.length * 3 := by rw [List.length_set, esCells_length]
  have hl2 : (esCells (setW E e w)).length = E.length * 3 := by rw [esCells_length, setW_len]
  rcases Nat.lt_or_ge i (E.length * 3) with hi | hi
  · have e0 : i = i / 3 * 3 + i % 3 := (Nat.div_add_mod' i 3).symm
    have h1 : i / 3 < E.length := by omega
    have h2 : i % 3 < 3 := by omega
    rw [e0]
    rw [esCells_at (setW E e w) _ _ (by rw [setW_len]; exact h1) h2, ge_setW _ _ _ _ h1]
    by_cases hq : i / 3 = e
    · rw [if_pos hq]
      by_cases hr : i % 3 = 2
      · rw [hq, hr, List.getElem?_set_self (by rw [esCells_length]; omega)]; rfl
      · rw [List.getElem?_set_ne (by omega), esCells_at E _ _ h1 h2]
        match h3 : i % 3, h2, hr with
        | 0, _, _ => rfl
        | 1, _, _ => rfl
        | 2, _, hr => exact absurd rfl hr
    · rw [if_neg hq, List.getElem?_set_ne (by omega), esCells_at E _ _ h1 h2]
  · rw [List.getElem?_eq_none (by omega), List.getElem?_eq_none (by omega)]
end Go.Proofs.Ytpnncadglhlclaa
