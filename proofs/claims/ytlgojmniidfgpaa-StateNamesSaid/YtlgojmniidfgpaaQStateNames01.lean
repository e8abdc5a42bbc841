/- Slices of edges and of changes: read, copied, one cell written. -/
import Derived.Test.YtlgojmniidfgpaaQStateNames00
import Derived.Lib.AppendZeros
import Derived.Deep.DeepCutAuto
import Derived.Lib.SliceRun
import Derived.RangeFuncRecord
import Derived.Deep.OwnRows
import Derived.Deep.Strs
/- Slices of edges and of changes: read, copied, one cell written. -/
namespace Go.Proofs.Ytlgojmniidfgpaa
open Go Go.RowKit
/-- Cells of elements that have so many each. -/
theorem flat_len {α : Type} (f : α → List Value) (s : Nat) (hf : ∀ a, (f a).length = s) (L : List α) : (L.flatMap f).length = L.length * s := by
  induction L with
  | nil => simp
  | cons a L ih => rw [List.flatMap_cons, List.length_append, ih, hf, List.length_cons, Nat.succ_mul]; omega
theorem flat_get {α : Type} (f : α → List Value) (s : Nat) (hf : ∀ a, (f a).length = s) (d : α) : ∀ (L : List α) (k j : Nat), k < L.length → j < s → (L.flatMap f)[k * s + j]? = (f (L.getD k d))[j]?
  | a :: L, 0, j, _, hj => by rw [List.flatMap_cons, Nat.zero_mul, Nat.zero_add, List.getElem?_append_left (by rw [hf]; exact hj)]; rfl
  | a :: L, k + 1, j, hk, hj => by
    rw [List.flatMap_cons, List.getElem?_append_right (by rw [hf, Nat.succ_mul]; omega), hf]
    have := flat_get f s hf d L k j (by simpa using hk) hj
    rw [show (k + 1) * s + j - s = k * s + j by rw [Nat.succ_mul]; omega, this]
    rfl
/-- A change of an edge's weight. -/
structure Chg where
  e : Int
  w : Int
def cCells (c : Chg) : List Value := [.int .i64 c.e, .int .u64 c.w]
def csCells (L : List Chg) : List Value := L.flatMap cCells
def gc (L : List Chg) (k : Nat) : Chg := L.getD k ⟨0, 0⟩
theorem csCells_len (L : List Chg) : (csCells L).length = L.length * 2 := flat_len cCells 2 (fun _ => rfl) L
theorem csCells_app (L : List Chg) (c : Chg) : csCells (L ++ [c]) = csCells L ++ [.int .i64 c.e, .int .u64 c.w] := by simp [csCells, cCells]
theorem Rd.clen {w : World} {A : Option Addr} {n : Nat} {L : List Chg} (h : Rd w A 2 n (csCells L)) : L.length = n := by
  have hl := h.1
  rw [csCells_len] at hl
  omega
theorem Rd.chgsH {w : World} {A : Option Addr} {n : Nat} {L : List Chg} (h : Rd w A 2 n (csCells L)) (hn : 0 < n) :
    ∃ b off, A = some ⟨b, off, none⟩ ∧ ∀ k, k < n → Holds w ⟨b, off + k * 2, none⟩ (.int .i64 (gc L k).e) ∧ Holds w ⟨b, off + k * 2 + 1, none⟩ (.int .u64 (gc L k).w) := by
  have hl := h.clen
  obtain ⟨b, off, e, hc⟩ := h.2 hn (by omega)
  refine ⟨b, off, e, fun k hk => ⟨⟨?_⟩, ⟨?_⟩⟩⟩
  · exact hc (k * 2 + 0) _ (by unfold csCells; rw [flat_get cCells 2 (fun _ => rfl) ⟨0, 0⟩ L k 0 (by omega) (by omega)]; rfl)
  · have := hc (k * 2 + 1) _ (by unfold csCells; rw [flat_get cCells 2 (fun _ => rfl) ⟨0, 0⟩ L k 1 (by omega) (by omega)]; rfl)
    rwa [← Nat.add_assoc] at this
theorem elemChg : Elem 79 78 2 := by
  have h : (Try.prog.info? 78).map (fun i => (i.zero, i.size, i.bytes)) = some (some (.agg #[.int .i64 0, .int .u64 0]), 2, 16) := by kernel_rfl
  obtain ⟨i, hi, hz, hs, hb⟩ := info_parts h
  exact ⟨Try.underlying79, ⟨i, _, 16, hi, hz, hs, hb, rfl, by omega⟩, by omega⟩
theorem elemEdge : Elem 22 82 3 := by
  have h : (Try.prog.info? 82).map (fun i => (i.zero, i.size, i.bytes)) = some (some (.agg #[.int .i64 0, .int .i64 0, .int .u64 0]), 3, 24) := by kernel_rfl
  obtain ⟨i, hi, hz, hs, hb⟩ := info_parts h
  exact ⟨Try.underlying22, ⟨i, _, 24, hi, hz, hs, hb, rfl, by omega⟩, by omega⟩
/-- An empty slice that is not nil. -/
theorem Own.empty (w : World) (e : TypeId) (B size : Nat) (hB : B ≤ w.heap.size) : Own (w.alloc (.cells #[] e)) B e size (some ⟨w.heap.size, 0, none⟩) 0 0 [] :=
  ⟨by simp, .inr ⟨w.heap.size, 0, #[], rfl, hB, (by show (w.heap.push _)[w.heap.size]? = _; simp), Nat.le_refl _, by unfold maxLen; omega, by simp, by simp⟩⟩
theorem add_pl2 (b off i : Nat) : (⟨b, off, none⟩ : Addr).add i = ⟨b, off + i, none⟩ := by
  unfold Addr.add
  split
  · rename_i h; rw [h, Nat.add_zero]
  · rfl
section
variable {w : World} {e : TypeId} {ops : Array Oper} {rest : List Oper} {o : Oper} {a : Act} {Q : Exit → Act → World → Prop}
/-- append of all of another slice. -/
theorem wp_appAll {t : TypeId} {size : Nat} (E : Elem t e size) (hgd : o.guard = none) (s x : Operand) (ho : o.op = .call { callee := .builtin .append, args := #[s, x], argTypes := #[t, t] })
    (w0 : World) (hw0 : Grows w0 w) (n c : Nat) (A : Option Addr) (xs : List Value) (hs : a.eval s = .slice A n c) (hown : Own w w0.heap.size e size A n c xs) (ad : Addr) (m d : Nat) (ys : List Value) (hx : a.eval x = .slice (some ad) m d)
    (hr : Rd w (some ad) size m ys) (h1 : ∀ u ∈ ys, u.oneCell' = true) (hnm : n + m ≤ 1000000000000)
    (h : ∀ A' c'' (y : Later w0), Own y.now w0.heap.size e size A' (n + m) c'' (xs ++ ys) → wpList Try.prog ops Q rest (a.put o.dst (.slice A' (n + m) c'')) y.now) :
    wpList Try.prog ops Q (o :: rest) a w := by
  obtain ⟨i, z, bytes, hi, hz, hsz, hby, hzs, hb64⟩ := E.info
  refine wpList_append_own w hgd s x t ho w0.heap.size e i z size bytes E.under hi hz hsz hby hzs E.pos (.slice A n c) n xs hs hown ad m d ys hx hr.1 (fun j u hu => ?_) h1 (by unfold maxLen; omega) ?_ hw0.size ?_
  · have hj := (List.getElem?_eq_some_iff.1 hu).1
    have hl := hr.1
    have hm : 0 < m := by
      rcases Nat.eq_zero_or_pos m with h0 | h0
      · subst h0; simp at hl; subst hl; simp at hj
      · exact h0
    obtain ⟨b, off, he, hc⟩ := hr.2 hm E.pos
    obtain rfl : ad = ⟨b, off, none⟩ := Option.some.inj he
    rw [add_pl2]
    exact hc j u hu
  · exact Nat.le_trans (Nat.mul_le_mul hnm hb64) (by omega)
  · intro v' w' hown' hgr _
    obtain ⟨A', c'', rfl⟩ := own_form hown'
    have hgw : Grows w0 w' := by
      refine ⟨hgr.os.trans hw0.os, hgr.tape.trans hw0.tape, hgr.output.trans hw0.output, Nat.le_trans hw0.size hgr.size, fun k hk => ?_⟩
      refine (hgr.block k (Nat.lt_of_lt_of_le hk hw0.size) fun e => ?_).trans (hw0.block k hk)
      have := World.ownsRow.lt hown k e.symm
      omega
    obtain ⟨y, rfl⟩ := hgw.later
    exact h A' c'' y hown'
end
section
variable {w : World} {e : TypeId} {ops : Array Oper} {o : Oper} {a : Act} {K : Act → World → Prop} {Q : Exit → Act → World → Prop} {F : Prop}
/-- append of all of another slice, in a region that draws its order. -/
theorem step_appAll {t : TypeId} {size : Nat} (E : Elem t e size) (hgd : o.guard = none) (s x : Operand) (ho : o.op = .call { callee := .builtin .append, args := #[s, x], argTypes := #[t, t] })
    (w0 : World) (hw0 : Grows w0 w) (n c : Nat) (A : Option Addr) (xs : List Value) (hs : a.eval s = .slice A n c) (hown : Own w w0.heap.size e size A n c xs) (ad : Addr) (m d : Nat) (ys : List Value) (hx : a.eval x = .slice (some ad) m d)
    (hr : Rd w (some ad) size m ys) (h1 : ∀ u ∈ ys, u.oneCell' = true) (hnm : n + m ≤ 1000000000000)
    (h : ∀ A' c'' (y : Later w0), Own y.now w0.heap.size e size A' (n + m) c'' (xs ++ ys) → w.grownBy y.now (Value.slice A n c).ownBlock → K (a.put o.dst (.slice A' (n + m) c'')) y.now) :
    if Region.wanted o (yielded ops a.tmps) = true then Oper.wp Try.prog o a w K Q else F := by
  obtain ⟨i, z, bytes, hi, hz, hsz, hby, hzs, hb64⟩ := E.info
  rw [if_pos (by simp [Region.wanted, hgd])]
  refine wp_append_own w s x t ho w0.heap.size e i z size bytes E.under hi hz hsz hby hzs E.pos (.slice A n c) n xs hs hown ad m d ys hx hr.1 (fun j u hu => ?_) h1 (by unfold maxLen; omega) ?_ hw0.size ?_
  · have hj := (List.getElem?_eq_some_iff.1 hu).1
    have hl := hr.1
    have hm : 0 < m := by
      rcases Nat.eq_zero_or_pos m with h0 | h0
      · subst h0; simp at hl; subst hl; simp at hj
      · exact h0
    obtain ⟨b, off, he, hc⟩ := hr.2 hm E.pos
    obtain rfl : ad = ⟨b, off, none⟩ := Option.some.inj he
    rw [add_pl2]
    exact hc j u hu
  · exact Nat.le_trans (Nat.mul_le_mul hnm hb64) (by omega)
  · intro v' w' hown' hgr _
    obtain ⟨A', c'', rfl⟩ := own_form hown'
    have hgw : Grows w0 w' := by
      refine ⟨hgr.os.trans hw0.os, hgr.tape.trans hw0.tape, hgr.output.trans hw0.output, Nat.le_trans hw0.size hgr.size, fun k hk => ?_⟩
      refine (hgr.block k (Nat.lt_of_lt_of_le hk hw0.size) fun e => ?_).trans (hw0.block k hk)
      have := World.ownsRow.lt hown k e.symm
      omega
    obtain ⟨y, rfl⟩ := hgw.later
    exact h A' c'' y hown' hgr
end
section
variable {P : Program}
theorem run_append_empty (w : World) (t ty e : TypeId) (i : TypeInfo) (ht : P.underlying t = some (.slice e)) (hi : P.info? e = some i) (g ad : Addr) (m c : Nat) (hm : 0 < m) (hm2 : m ≤ 1000000000000) (hb : m * i.bytes ≤ 140737488355328) :
    (Builtin.append_ #[t, t] ty #[.slice (some g) 0 0, .slice (some ad) m c]).run P w = (Builtin.append_ #[t, t] ty #[.slice none 0 0, .slice (some ad) m c]).run P w := by
  have h1 : ¬ m = 0 := by omega
  have h2 : Builtin.nextslicecap m 0 = m := by unfold Builtin.nextslicecap; rw [if_pos (by omega)]
  have h3 : ¬ (281474976710656 < m * i.bytes) := by omega
  have h4 : ¬ ((9223372036854775807 : Int) < (m : Int)) := by omega
  have h5 : ∀ w, (loadCells g 0).run P w = .ok #[] w := fun w => by first | rfl | simp [loadCells, loadCellsFrom]
  have h6 : IntKind.i64.max = 9223372036854775807 := rfl
  simp [Builtin.append_, run_underlying ht, sizeOf, typeInfo, hi, Builtin.lenOf, Builtin.firstCells, h1, h2, h3, h4, h5, h6]
end
section
variable {w : World} {e : TypeId} {ops : Array Oper} {o : Oper} {a : Act} {K : Act → World → Prop} {Q : Exit → Act → World → Prop} {F : Prop}
/-- append of a whole slice to an empty one that is not nil, in a region that draws its order. -/
theorem step_appNew {t : TypeId} {size : Nat} (E : Elem t e size) (hgd : o.guard = none) (s x : Operand) (ho : o.op = .call { callee := .builtin .append, args := #[s, x], argTypes := #[t, t] })
    (g : Addr) (hs : a.eval s = .slice (some g) 0 0) (ad : Addr) (m d : Nat) (ys : List Value) (hx : a.eval x = .slice (some ad) m d)
    (hr : Rd w (some ad) size m ys) (h1 : ∀ u ∈ ys, u.oneCell' = true) (hm : 0 < m) (hnm : m ≤ 1000000000000)
    (h : ∀ A' c'' (y : Later w), Own y.now w.heap.size e size A' m c'' ys → K (a.put o.dst (.slice A' m c'')) y.now) :
    if Region.wanted o (yielded ops a.tmps) = true then Oper.wp Try.prog o a w K Q else F := by
  obtain ⟨i, z, bytes, hi, hz, hsz, hby, hzs, hb64⟩ := E.info
  have hbb : m * bytes ≤ 140737488355328 := Nat.le_trans (Nat.mul_le_mul hnm hb64) (by omega)
  have he := run_append_empty w t o.type e i E.under hi g ad m d hm hnm (by rw [hby]; exact hbb)
  obtain ⟨v', w', hrun, hown, hgr, _⟩ := run_append_own (P := Try.prog) w w.heap.size t o.type e i z size bytes E.under hi hz hsz hby hzs E.pos (.slice none 0 0) 0 [] (World.ownsRow_nil _ _ _ _) ad m d ys hr.1 (fun j u hu => by
    obtain ⟨b, off, he, hc⟩ := hr.2 hm E.pos
    obtain rfl : ad = ⟨b, off, none⟩ := Option.some.inj he
    rw [add_pl2]
    exact hc j u hu) h1 (by unfold maxLen; omega) (by rw [Nat.zero_add]; exact hbb) (Nat.le_refl _)
  rw [hrun] at he
  obtain ⟨A', c'', rfl⟩ := own_form hown
  have hw : Region.wanted o (yielded ops a.tmps) = true := by simp [Region.wanted, hgd]
  rw [if_pos hw]
  unfold Oper.wp
  simp [execOp, ho, resolve, invoke, builtin, hs, hx, he, Result.andThen]
  have hgw : Grows w w' := ⟨hgr.os, hgr.tape, hgr.output, hgr.size, fun k hk => hgr.block k hk (by simp [Value.ownBlock])⟩
  obtain ⟨y, rfl⟩ := hgw.later
  rw [Nat.zero_add, List.nil_append] at hown
  exact h A' c'' y hown
end
/-- Where an own slice of any elements lies. -/
theorem Own.atS {w : World} {B n c size : Nat} {e : TypeId} {A : Option Addr} {xs : List Value} (h : Own w B e size A n c xs) (hn : 0 < n) : ∃ g, A = some ⟨g, 0, none⟩ ∧ B ≤ g ∧ g < w.heap.size ∧ ∀ j u, xs[j]? = some u → Mine w ⟨g, j, none⟩ u := by
  obtain ⟨g, cur, rfl, hB, hh, _⟩ := h.at_ hn
  exact ⟨g, rfl, hB, (Array.getElem?_eq_some_iff.1 hh).1, fun j u hu => ⟨h.cell rfl hu, h.frozen rfl hn j⟩⟩
theorem Own.putS {w w0 : World} {n c j g size : Nat} {e : TypeId} {xs : List Value} (h : Own w w0.heap.size e size (some ⟨g, 0, none⟩) n c xs) (hw0 : Grows w0 w) (hn : 0 < n) (u : Value) :
    ∃ y : Later w0, w.setCell ⟨g, j, none⟩ u = y.now ∧ Own y.now w0.heap.size e size (some ⟨g, 0, none⟩) n c (xs.set j u) := by
  obtain ⟨g', cur, hA, hB, _⟩ := h.at_ hn
  injection hA with hA
  injection hA with hA
  subst hA
  exact ⟨⟨_, hw0.set hB u⟩, rfl, h.set rfl hn j u⟩
theorem Holds.other {w : World} {p q : Addr} {v : Value} (h : Holds w p v) (u : Value) (hne : q.block ≠ p.block) : Holds (w.setCell q u) p v :=
  ⟨by rw [World.cell?_setCell_other _ _ _ _ (fun e => hne (by rw [e]))]; exact h.cell⟩
theorem Rd.other {w : World} {A : Option Addr} {size n : Nat} {xs : List Value} {q : Addr} (h : Rd w A size n xs) (u : Value) (hne : ∀ b off, A = some ⟨b, off, none⟩ → q.block ≠ b) : Rd (w.setCell q u) A size n xs :=
  ⟨h.1, fun h1 h2 => by
    obtain ⟨b, off, e, hc⟩ := h.2 h1 h2
    exact ⟨b, off, e, fun j v hv => by rw [World.cell?_setCell_other _ _ _ _ (fun e' => hne b off e (by rw [e']))]; exact hc j v hv⟩⟩
/-- The edges with one weight set. -/
def setW (E : List Edg) (e : Nat) (w : Int) : List Edg := E.set e ⟨(ge E e).f, (ge E e).t, w⟩
theorem setW_len (E : List Edg) (e : Nat) (w : Int) : (setW E e w).length = E.length := by simp [setW]
theorem ge_setW (E : List Edg) (e : Nat) (w : Int) (j : Nat) (hj : j < E.length) : ge (setW E e w) j = if j = e then ⟨(ge E j).f, (ge E j).t, w⟩ else ge E j := by
  unfold setW
  by_cases h : j = e
  · subst h
    rw [if_pos rfl]
    show (E.set j _).getD j _ = _
    simp [hj]
  · rw [if_neg h]
    show (E.set e _).getD j _ = E.getD j _
    simp [List.getD_eq_getElem?_getD, List.getElem?_set_ne (Ne.symm h)]
theorem edg_ext {E F : List Edg} (hl : E.length = F.length) (h : ∀ j, j < E.length → ge E j = ge F j) : E = F := by
  apply List.ext_getElem hl
  intro j h1 h2
  have := h j h1
  simpa [ge, h1, h2] using this
theorem setW_same (E : List Edg) (e : Nat) : setW E e (ge E e).w = E := by
  refine edg_ext (setW_len _ _ _) fun j hj => ?_
  rw [setW_len] at hj
  rw [ge_setW _ _ _ _ hj]
  split
  · rename_i h; subst h; rfl
  · rfl
theorem esCells_setW (E : List Edg) (e : Nat) (w : Int) : (esCells E).set (e * 3 + 2) (.int .u64 w) = esCells (setW E e w) := by
  apply List.ext_getElem?
  intro i
  have hl1 : ((esCells E).set (e * 3 + 2) (.int .u64 w)).length = E.length * 3 := by rw [List.length_set, esCells_length]
  have hl2 : (esCells (setW E e w)).length = E.length * 3 := by rw [esCells_length, setW_len]
  rcases Nat.lt_or_ge i (E.length * 3) with hi | hi
  · have e0 : i = i / 3 * 3 + i % 3 := (Nat.div_add_mod' i 3).symm
    have h1 : i / 3 < E.length := by omega
    have h2 : i % 3 < 3 := by omega
    rw [e0]
    rw [esCells_at (setW E e w) _ _ (by rw [setW_len]; exact h1) h2, ge_setW _ _ _ _ h1]
    by_cases hq : i / 3 = e
    · rw [if_pos hq]
      by_cases hr : i % 3 = 2
      · rw [hq, hr, List.getElem?_set_self (by rw [esCells_length]; omega)]; rfl
      · rw [List.getElem?_set_ne (by omega), esCells_at E _ _ h1 h2]
        match h3 : i % 3, h2, hr with
        | 0, _, _ => rfl
        | 1, _, _ => rfl
        | 2, _, hr => exact absurd rfl hr
    · rw [if_neg hq, List.getElem?_set_ne (by omega), esCells_at E _ _ h1 h2]
  · rw [List.getElem?_eq_none (by omega), List.getElem?_eq_none (by omega)]
end Go.Proofs.Ytlgojmniidfgpaa

/- Contracts: the answer for which graphs may be. -/
namespace Go.Proofs.Ytlgojmniidfgpaa
open Go Go.RowKit
set_option maxHeartbeats 400000 in
theorem r5node (N v : Int) (s : Value) (w : World) : Calls Try.prog 79 #[.agg #[.int .i64 N, s], .int .i64 v] w fun e w' => e = .returned (.bool (nodeB N v)) ∧ Grows w w' := by
  go_enter Try.func79, Try.ntmps79
  go_wp2
  all_goals go_ret
  all_goals exact ⟨ret_bool (bool_ext (by unfold nodeB; simp; try omega)), (by repeat (first | exact Grows.refl _ | refine Grows.now ?_ _ | refine Grows.new ?_ _ | refine Grows.drewN ?_ _ | refine Grows.drew ?_ | assumption | (refine Grows.set ?_ (by first | omega | (simp; done) | (simp; omega)) _)))⟩

set_option maxHeartbeats 400000 in
theorem r5weight (x : Int) (w : World) : Calls Try.prog 80 #[.int .u64 x] w fun e w' => e = .returned (.bool (wtB x)) ∧ w = w' := by
  go_enter Try.func80, Try.ntmps80
  go_wp2
  all_goals go_ret
  all_goals exact ⟨ret_bool (bool_ext (by unfold wtB; simp; try omega)), rfl⟩

theorem any_false_iff {E : List Edg} {p : Edg → Bool} {n : Nat} (hl : E.length = n) (h : ∀ j, j < n → p (ge E j) = false) : E.any p = false := by
  rw [List.any_eq_false]
  intro e he
  obtain ⟨j, hj, rfl⟩ := List.mem_iff_getElem.1 he
  have := h j (by omega)
  simpa [ge, hj] using this
theorem any_true_at {E : List Edg} {p : Edg → Bool} {j : Nat} (hj : j < E.length) (h : p (ge E j) = true) : E.any p = true := by
  rw [List.any_eq_true]
  exact ⟨ge E j, by simp [ge, hj], h⟩

set_option maxRecDepth 20000 in
set_option maxHeartbeats 4000000 in
theorem r5Right (N : Int) (A : Option Addr) (n c : Nat) (E : List Edg) (w : World) (h : Rd w A 3 n (esCells E)) (hn : n ≤ 1000000) :
    Calls Try.prog 48 #[.agg #[.int .i64 N, .slice A n c]] w fun e w' => e = .returned (.int .i64 (rightF N E)) ∧ Grows w w' := by
  have HL := hide h.elen
  have HR := hide h
  clear h
  by_cases h1 : N < 1 ∨ 4096 < N
  · have HW : Hid (rightF N E = 2) := by unfold rightF; rw [if_pos h1]; rfl
    go_enter Try.func48, Try.ntmps48
    go_wp2
    all_goals go_ret
    all_goals exact ⟨ret_int HW.out.symm, (by repeat (first | exact Grows.refl _ | refine Grows.now ?_ _ | refine Grows.new ?_ _ | refine Grows.drewN ?_ _ | refine Grows.drew ?_ | assumption | (refine Grows.set ?_ (by first | omega | (simp; done) | (simp; omega)) _)))⟩
  have h3 : 1 ≤ N := by omega
  have h4 : N ≤ 4096 := by omega
  by_cases h2 : 16384 < n
  · have HW : Hid (rightF N E = 5) := by unfold rightF; rw [if_neg h1, if_pos (by have := HL.out; omega)]; rfl
    clear h1
    go_enter Try.func48, Try.ntmps48
    go_wp2
    all_goals go_ret
    all_goals exact ⟨ret_int HW.out.symm, (by repeat (first | exact Grows.refl _ | refine Grows.now ?_ _ | refine Grows.new ?_ _ | refine Grows.drewN ?_ _ | refine Grows.drew ?_ | assumption | (refine Grows.set ?_ (by first | omega | (simp; done) | (simp; omega)) _)))⟩
  have HN := hide (show ∀ x, rightF N E = x ↔ (if E.any (looseB N) then (7 : Int) else if E.any heavyB then 2 else 0) = x from fun x => by unfold rightF; rw [if_neg h1, if_neg (by have := HL.out; omega)])
  have HG0 := hide (HR.out.new (.cells #[.int .i64 N, .slice A n c] 24))
  clear h1
  go_enter Try.func48, Try.ntmps48
  go_wp2
  go_loopw [3] (fun i wr => ∃ k : Nat, k ≤ n ∧ i = .int .i64 (k : Int) ∧ (∃ x : Later (w.alloc (.cells #[.int .i64 N, .slice A n c] 24)), wr = x.now) ∧ ∀ j, j < k → looseB N (ge E j) = false) (fun i _ => n - (intOf i).toNat)
  case atStart => exact ⟨0, by omega, by go_num, ⟨⟨_, Grows.refl _⟩, rfl⟩, fun j h1 => by omega⟩
  case round =>
    obtain ⟨q, hq, rfl, ⟨x, rfl⟩, hall⟩ := hrel
    have HA := hide hall
    clear hall
    by_cases hend : n ≤ q
    · have HB := hide (any_false_iff HL.out fun j hj => HA.out j (by omega))
      have hd : decide (q < n) = false := by simp; omega
      go_wp2
      go_loopw [4] (fun i wr => ∃ k : Nat, k ≤ n ∧ i = .int .i64 (k : Int) ∧ (∃ x : Later (w.alloc (.cells #[.int .i64 N, .slice A n c] 24)), wr = x.now) ∧ ∀ j, j < k → heavyB (ge E j) = false) (fun i _ => n - (intOf i).toNat)
      case atStart => exact ⟨0, by omega, by go_num, ⟨_, rfl⟩, fun j h1 => by omega⟩
      case round =>
        obtain ⟨r, hr, rfl, ⟨y, rfl⟩, hall⟩ := hrel
        have HC := hide hall
        clear hall
        by_cases hend2 : n ≤ r
        · have HW : Hid (rightF N E = 0) := by
            have h := any_false_iff (p := heavyB) HL.out fun j hj => HC.out j (by omega)
            rw [show Hid (rightF N E = 0) = (rightF N E = 0) from rfl, HN.out, HB.out, h]; rfl
          go_wp2
          go_ret
          exact ⟨ret_int HW.out.symm, (by repeat (first | exact Grows.refl _ | refine Grows.now ?_ _ | refine Grows.new ?_ _ | refine Grows.drewN ?_ _ | refine Grows.drew ?_ | assumption | (refine Grows.set ?_ (by first | omega | (simp; done) | (simp; omega)) _)))⟩
        · obtain ⟨b, off, rfl, hc⟩ := HG0.out.edges (by omega)
          obtain ⟨hc1, hc2, hc3⟩ := hc r (by omega)
          clear hc hc1 hc2
          cases hp : wtB (ge E r).w with
          | false =>
            have HW : Hid (rightF N E = 2) := by
              have h := any_true_at (p := heavyB) (E := E) (j := r) (by have := HL.out; omega) (by unfold heavyB; rw [hp]; rfl)
              rw [show Hid (rightF N E = 2) = (rightF N E = 2) from rfl, HN.out, HB.out, h]; rfl
            have C := fun W => r5weight (ge E r).w W
            rw [hp] at C
            have HD := hide C
            clear hp C
            go_wp2_with (first | (go_at_call 80; refine (HD.out _).mono ?_; rintro e w' ⟨rfl, rfl⟩))
            go_ret
            exact ⟨ret_int HW.out.symm, (by repeat (first | exact Grows.refl _ | refine Grows.now ?_ _ | refine Grows.new ?_ _ | refine Grows.drewN ?_ _ | refine Grows.drew ?_ | assumption | (refine Grows.set ?_ (by first | omega | (simp; done) | (simp; omega)) _)))⟩
          | true =>
            have HP : Hid (heavyB (ge E r) = false) := by unfold heavyB; rw [hp]; rfl
            have C := fun W => r5weight (ge E r).w W
            rw [hp] at C
            have HD := hide C
            clear hp C
            go_wp2_with (first | (go_at_call 80; refine (HD.out _).mono ?_; rintro e w' ⟨rfl, rfl⟩))
            go_roundw
            case measure => simp [intOf]; omega
            case rel =>
              refine ⟨r + 1, by omega, by go_num, ⟨_, rfl⟩, fun j h1 => ?_⟩
              by_cases hj : j = r
              · rw [hj]; exact HP.out
              · exact HC.out j (by omega)
    · obtain ⟨b, off, rfl, hc⟩ := HG0.out.edges (by omega)
      obtain ⟨hc1, hc2, hc3⟩ := hc q (by omega)
      clear hc hc3
      have C1 := fun W => r5node N (ge E q).f (.slice (some ⟨b, off, none⟩) n c) W
      have C2 := fun W => r5node N (ge E q).t (.slice (some ⟨b, off, none⟩) n c) W
      have HLo := hide (show looseB N (ge E q) = (!nodeB N (ge E q).f || (!nodeB N (ge E q).t || decide ((ge E q).f = (ge E q).t))) from rfl)
      have HT : Hid (looseB N (ge E q) = true → rightF N E = 7) := fun h => by
        have h' := any_true_at (p := looseB N) (E := E) (j := q) (by have := HL.out; omega) h
        rw [HN.out, h']; rfl
      cases h1 : nodeB N (ge E q).f with
      | false =>
        rw [h1] at C1
        have HD := hide C1
        have HW := hide (HT.out (by rw [HLo.out, h1]; rfl))
        clear C1 C2 h1
        go_wp2_with fail
        ((first | refine wp_region_gen2 (by kernel_rfl) (by kernel_rfl) ?_ | refine wp_region_gen (by kernel_rfl) (by kernel_rfl) ?_); (repeat' (first | (refine gLex_val0 rfl (by kernel_rfl) (fun K hK => ?_); (go_simp; (try (simp only [↓IntWalk.iteOmega]; try go_simp)); (try simp (disch := omega) only [IntWalk.i64_in]); (try simp (disch := omega) only [IntWalk.u64_in]); first | (refine hK _ ?_; clear hK K) | (apply Exists.intro; refine ⟨fun x => ?_, hK _ ?_⟩; (first | (go_at_call 79; exact HD.out _)); clear hK K))) | (refine gLex_undef rfl rfl rfl (by kernel_rfl) (fun K hK => ?_); go_simp; refine hK _ ?_; clear hK K) | (refine gLex_ask rfl rfl rfl ?_; first | (apply gAsk_yes; kernel_rfl; intro K hK; (go_simp; (try (simp only [↓IntWalk.iteOmega]; try go_simp)); (try simp (disch := omega) only [IntWalk.i64_in]); (try simp (disch := omega) only [IntWalk.u64_in]); first | (refine hK _ ?_; clear hK K) | (apply Exists.intro; refine ⟨fun x => ?_, hK _ ?_⟩; (first | (go_at_call 79; exact HD.out _)); clear hK K))) | ((first | apply gAsk_no1 | apply gAsk_no2); kernel_rfl; intro K hK; simp [go_sem]; refine hK _ ?_; clear hK K) | (apply gAsk_part; kernel_rfl; all_goals (intro h K hK; (try simp only [Bool.not_true] at h); (try simp only [Bool.not_false] at h); (try simp only [decide_eq_true_eq] at h); (try simp only [decide_eq_false_iff_not] at h); first | (exfalso; first | contradiction | omega) | (go_simp; (try (simp only [↓IntWalk.iteOmega]; try go_simp)); (try simp (disch := omega) only [IntWalk.i64_in]); (try simp (disch := omega) only [IntWalk.u64_in]); first | (refine hK _ ?_; clear hK K) | (apply Exists.intro; refine ⟨fun x => ?_, hK _ ?_⟩; (first | (go_at_call 79; exact HD.out _)); clear hK K))))))); all_goals ((apply gLex_end); intro x))
        go_wp2
        go_ret
        exact ⟨ret_int HW.out.symm, (by repeat (first | exact Grows.refl _ | refine Grows.now ?_ _ | refine Grows.new ?_ _ | refine Grows.drewN ?_ _ | refine Grows.drew ?_ | assumption | (refine Grows.set ?_ (by first | omega | (simp; done) | (simp; omega)) _)))⟩
      | true =>
        rw [h1] at C1
        have HD := hide C1
        clear C1
        cases h2 : nodeB N (ge E q).t with
        | false =>
          rw [h2] at C2
          have HE := hide C2
          have HW := hide (HT.out (by rw [HLo.out, h1, h2]; rfl))
          clear C2 h1 h2
          go_wp2_with fail
          ((first | refine wp_region_gen2 (by kernel_rfl) (by kernel_rfl) ?_ | refine wp_region_gen (by kernel_rfl) (by kernel_rfl) ?_); (repeat' (first | (refine gLex_val0 rfl (by kernel_rfl) (fun K hK => ?_); (go_simp; (try (simp only [↓IntWalk.iteOmega]; try go_simp)); (try simp (disch := omega) only [IntWalk.i64_in]); (try simp (disch := omega) only [IntWalk.u64_in]); first | (refine hK _ ?_; clear hK K) | (apply Exists.intro; refine ⟨fun x => ?_, hK _ ?_⟩; (first | (go_at_call_of 79 ((ge E q).f); exact HD.out _) | (go_at_call_of 79 ((ge E q).t); exact HE.out _)); clear hK K))) | (refine gLex_undef rfl rfl rfl (by kernel_rfl) (fun K hK => ?_); go_simp; refine hK _ ?_; clear hK K) | (refine gLex_ask rfl rfl rfl ?_; first | (apply gAsk_yes; kernel_rfl; intro K hK; (go_simp; (try (simp only [↓IntWalk.iteOmega]; try go_simp)); (try simp (disch := omega) only [IntWalk.i64_in]); (try simp (disch := omega) only [IntWalk.u64_in]); first | (refine hK _ ?_; clear hK K) | (apply Exists.intro; refine ⟨fun x => ?_, hK _ ?_⟩; (first | (go_at_call_of 79 ((ge E q).f); exact HD.out _) | (go_at_call_of 79 ((ge E q).t); exact HE.out _)); clear hK K))) | ((first | apply gAsk_no1 | apply gAsk_no2); kernel_rfl; intro K hK; simp [go_sem]; refine hK _ ?_; clear hK K) | (apply gAsk_part; kernel_rfl; all_goals (intro h K hK; (try simp only [Bool.not_true] at h); (try simp only [Bool.not_false] at h); (try simp only [decide_eq_true_eq] at h); (try simp only [decide_eq_false_iff_not] at h); first | (exfalso; first | contradiction | omega) | (go_simp; (try (simp only [↓IntWalk.iteOmega]; try go_simp)); (try simp (disch := omega) only [IntWalk.i64_in]); (try simp (disch := omega) only [IntWalk.u64_in]); first | (refine hK _ ?_; clear hK K) | (apply Exists.intro; refine ⟨fun x => ?_, hK _ ?_⟩; (first | (go_at_call_of 79 ((ge E q).f); exact HD.out _) | (go_at_call_of 79 ((ge E q).t); exact HE.out _)); clear hK K))))))); all_goals ((apply gLex_end); intro x))
          go_wp2
          go_ret
          exact ⟨ret_int HW.out.symm, (by repeat (first | exact Grows.refl _ | refine Grows.now ?_ _ | refine Grows.new ?_ _ | refine Grows.drewN ?_ _ | refine Grows.drew ?_ | assumption | (refine Grows.set ?_ (by first | omega | (simp; done) | (simp; omega)) _)))⟩
        | true =>
          rw [h2] at C2
          have HE := hide C2
          by_cases h5 : (ge E q).f = (ge E q).t
          · have HW := hide (HT.out (by rw [HLo.out, h1, h2, decide_eq_true h5]; rfl))
            have h5' : ((ge E q).f == (ge E q).t) = true := by simpa using h5
            clear C2 h1 h2 h5
            go_wp2_with fail
            ((first | refine wp_region_gen2 (by kernel_rfl) (by kernel_rfl) ?_ | refine wp_region_gen (by kernel_rfl) (by kernel_rfl) ?_); (repeat' (first | (refine gLex_val0 rfl (by kernel_rfl) (fun K hK => ?_); (go_simp; (try (simp only [↓IntWalk.iteOmega]; try go_simp)); (try simp (disch := omega) only [IntWalk.i64_in]); (try simp (disch := omega) only [IntWalk.u64_in]); first | (refine hK _ ?_; clear hK K) | (apply Exists.intro; refine ⟨fun x => ?_, hK _ ?_⟩; (first | (go_at_call_of 79 ((ge E q).f); exact HD.out _) | (go_at_call_of 79 ((ge E q).t); exact HE.out _)); clear hK K))) | (refine gLex_undef rfl rfl rfl (by kernel_rfl) (fun K hK => ?_); go_simp; refine hK _ ?_; clear hK K) | (refine gLex_ask rfl rfl rfl ?_; first | (apply gAsk_yes; kernel_rfl; intro K hK; (go_simp; (try (simp only [↓IntWalk.iteOmega]; try go_simp)); (try simp (disch := omega) only [IntWalk.i64_in]); (try simp (disch := omega) only [IntWalk.u64_in]); first | (refine hK _ ?_; clear hK K) | (apply Exists.intro; refine ⟨fun x => ?_, hK _ ?_⟩; (first | (go_at_call_of 79 ((ge E q).f); exact HD.out _) | (go_at_call_of 79 ((ge E q).t); exact HE.out _)); clear hK K))) | ((first | apply gAsk_no1 | apply gAsk_no2); kernel_rfl; intro K hK; simp [go_sem]; refine hK _ ?_; clear hK K) | (apply gAsk_part; kernel_rfl; all_goals (intro h K hK; (try simp only [Bool.not_true] at h); (try simp only [Bool.not_false] at h); (try simp only [decide_eq_true_eq] at h); (try simp only [decide_eq_false_iff_not] at h); first | (exfalso; first | contradiction | omega) | (go_simp; (try (simp only [↓IntWalk.iteOmega]; try go_simp)); (try simp (disch := omega) only [IntWalk.i64_in]); (try simp (disch := omega) only [IntWalk.u64_in]); first | (refine hK _ ?_; clear hK K) | (apply Exists.intro; refine ⟨fun x => ?_, hK _ ?_⟩; (first | (go_at_call_of 79 ((ge E q).f); exact HD.out _) | (go_at_call_of 79 ((ge E q).t); exact HE.out _)); clear hK K))))))); all_goals ((apply gLex_end); intro x))
            go_wp2
            go_ret
            exact ⟨ret_int HW.out.symm, (by repeat (first | exact Grows.refl _ | refine Grows.now ?_ _ | refine Grows.new ?_ _ | refine Grows.drewN ?_ _ | refine Grows.drew ?_ | assumption | (refine Grows.set ?_ (by first | omega | (simp; done) | (simp; omega)) _)))⟩
          · have HP : Hid (looseB N (ge E q) = false) := by rw [show Hid (looseB N (ge E q) = false) = (looseB N (ge E q) = false) from rfl, HLo.out, h1, h2, decide_eq_false h5]; rfl
            have h5' : ((ge E q).f == (ge E q).t) = false := by simpa using h5
            clear C2 h1 h2 h5
            go_wp2_with fail
            ((first | refine wp_region_gen2 (by kernel_rfl) (by kernel_rfl) ?_ | refine wp_region_gen (by kernel_rfl) (by kernel_rfl) ?_); (repeat' (first | (refine gLex_val0 rfl (by kernel_rfl) (fun K hK => ?_); (go_simp; (try (simp only [↓IntWalk.iteOmega]; try go_simp)); (try simp (disch := omega) only [IntWalk.i64_in]); (try simp (disch := omega) only [IntWalk.u64_in]); first | (refine hK _ ?_; clear hK K) | (apply Exists.intro; refine ⟨fun x => ?_, hK _ ?_⟩; (first | (go_at_call_of 79 ((ge E q).f); exact HD.out _) | (go_at_call_of 79 ((ge E q).t); exact HE.out _)); clear hK K))) | (refine gLex_undef rfl rfl rfl (by kernel_rfl) (fun K hK => ?_); go_simp; refine hK _ ?_; clear hK K) | (refine gLex_ask rfl rfl rfl ?_; first | (apply gAsk_yes; kernel_rfl; intro K hK; (go_simp; (try (simp only [↓IntWalk.iteOmega]; try go_simp)); (try simp (disch := omega) only [IntWalk.i64_in]); (try simp (disch := omega) only [IntWalk.u64_in]); first | (refine hK _ ?_; clear hK K) | (apply Exists.intro; refine ⟨fun x => ?_, hK _ ?_⟩; (first | (go_at_call_of 79 ((ge E q).f); exact HD.out _) | (go_at_call_of 79 ((ge E q).t); exact HE.out _)); clear hK K))) | ((first | apply gAsk_no1 | apply gAsk_no2); kernel_rfl; intro K hK; simp [go_sem]; refine hK _ ?_; clear hK K) | (apply gAsk_part; kernel_rfl; all_goals (intro h K hK; (try simp only [Bool.not_true] at h); (try simp only [Bool.not_false] at h); (try simp only [decide_eq_true_eq] at h); (try simp only [decide_eq_false_iff_not] at h); first | (exfalso; first | contradiction | omega) | (go_simp; (try (simp only [↓IntWalk.iteOmega]; try go_simp)); (try simp (disch := omega) only [IntWalk.i64_in]); (try simp (disch := omega) only [IntWalk.u64_in]); first | (refine hK _ ?_; clear hK K) | (apply Exists.intro; refine ⟨fun x => ?_, hK _ ?_⟩; (first | (go_at_call_of 79 ((ge E q).f); exact HD.out _) | (go_at_call_of 79 ((ge E q).t); exact HE.out _)); clear hK K))))))); all_goals ((apply gLex_end); intro x))
            go_wp2
            go_roundw
            case measure => simp [intOf]; omega
            case rel =>
              refine ⟨q + 1, by omega, by go_num, ⟨_, rfl⟩, fun j h1 => ?_⟩
              by_cases hj : j = q
              · rw [hj]; exact HP.out
              · exact HA.out j (by omega)

end Go.Proofs.Ytlgojmniidfgpaa

/- Contracts: rows of edges, by the program and by its answer. -/
namespace Go.Proofs.Ytlgojmniidfgpaa
open Go Go.RowKit
theorem gi_mem {l : List Int} {j : Nat} (h : j < l.length) : gi l j ∈ l := by
  unfold gi
  rw [List.getD_eq_getElem?_getD, List.getElem?_eq_getElem h]
  exact List.getElem_mem h
theorem mem_gi {l : List Int} {x : Int} (h : x ∈ l) : ∃ j, j < l.length ∧ gi l j = x := by
  obtain ⟨j, hj, rfl⟩ := List.mem_iff_getElem.1 h
  exact ⟨j, hj, by simp [gi, hj]⟩

def edgeB (m : Nat) (e : Int) : Bool := decide (0 ≤ e ∧ e < m)
set_option maxHeartbeats 400000 in
theorem gEdge (N e : Int) (A : Option Addr) (m c : Nat) (w : World) : Calls Try.prog 45 #[.agg #[.int .i64 N, .slice A m c], .int .i64 e] w fun x w' => x = .returned (.bool (edgeB m e)) ∧ Grows w w' := by
  go_enter Try.func45, Try.ntmps45
  go_wp2
  all_goals go_ret
  all_goals exact ⟨ret_bool (bool_ext (by unfold edgeB; simp; try omega)), (by repeat (first | exact Grows.refl _ | refine Grows.now ?_ _ | refine Grows.new ?_ _ | refine Grows.drewN ?_ _ | refine Grows.drew ?_ | assumption | (refine Grows.set ?_ (by first | omega | (simp; done) | (simp; omega)) _)))⟩

/-- Are all edges of a graph that may be? -/
def edgesB (N : Int) (E : List Edg) (l : List Int) : Bool := decide (rightF N E = 0) && !(l.any fun e => !edgeB E.length e)

end Go.Proofs.Ytlgojmniidfgpaa

/- Contracts: a graph copied; a graph with one weight changed. -/
namespace Go.Proofs.Ytlgojmniidfgpaa
open Go Go.RowKit
theorem es_one (E : List Edg) : ∀ u ∈ esCells E, u.oneCell' = true := by
  intro u hu
  obtain ⟨e, _, h⟩ := List.mem_flatMap.1 hu
  unfold eCells at h
  simp at h
  rcases h with rfl | rfl | rfl <;> rfl
set_option maxRecDepth 20000 in
set_option maxHeartbeats 2000000 in
theorem cloneE (A : Option Addr) (n c : Nat) (E : List Edg) (w : World) (h : Rd w A 3 n (esCells E)) (hn : n ≤ 1000000) :
    Calls Try.prog 47 #[.slice A n c] w fun e w' => ∃ A' c', e = .returned (.slice A' n c') ∧ Own w' w.heap.size 82 3 A' n c' (esCells E) ∧ Grows w w' := by
  cases A with
  | none =>
    have hn0 : n = 0 := by
      rcases Nat.eq_zero_or_pos n with h0 | h0
      · exact h0
      · obtain ⟨_, _, e, _⟩ := h.2 h0 (by omega); cases e
    subst hn0
    have hE : E = [] := List.eq_nil_of_length_eq_zero h.elen
    subst hE
    clear h
    have hnil := fun (w : World) (a : Option Addr) (n c n' c' : Nat) => Lib.run_eql_slice_nil (P := Try.prog) w 22 82 a n c n' c' Try.underlying22
    go_enter Try.func47, Try.ntmps47
    go_wp2
    go_ret
    exact ⟨none, 0, rfl, Own.nil _ _ _ _, (by repeat (first | exact Grows.refl _ | refine Grows.now ?_ _ | refine Grows.new ?_ _ | refine Grows.drewN ?_ _ | refine Grows.drew ?_ | assumption | (refine Grows.set ?_ (by first | omega | (simp; done) | (simp; omega)) _)))⟩
  | some ad =>
    have HR := hide h
    clear h
    have hnil := fun (w : World) (a : Option Addr) (n c n' c' : Nat) => Lib.run_eql_slice_nil (P := Try.prog) w 22 82 a n c n' c' Try.underlying22
    go_enter Try.func47, Try.ntmps47
    go_wp2_with (at_builtin; refine wp_appAll elemEdge rfl _ _ rfl w (by repeat (first | exact Grows.refl _ | refine Grows.now ?_ _ | refine Grows.new ?_ _ | refine Grows.drewN ?_ _ | refine Grows.drew ?_ | assumption | (refine Grows.set ?_ (by first | omega | (simp; done) | (simp; omega)) _))) 0 0 _ [] rfl (Own.empty _ _ _ _ (Nat.le_refl _)) ad n c _ rfl (HR.out.grows (by repeat (first | exact Grows.refl _ | refine Grows.now ?_ _ | refine Grows.new ?_ _ | refine Grows.drewN ?_ _ | refine Grows.drew ?_ | assumption | (refine Grows.set ?_ (by first | omega | (simp; done) | (simp; omega)) _)))) (es_one E) (by omega) ?_; intro A3 c3 y3 hown3; have HO3 := hide hown3; clear hown3)
    go_ret
    exact ⟨A3, c3, by first | rfl | (simp; done) | (rw [Nat.zero_add]; rfl), by have := HO3.out; rwa [Nat.zero_add, List.nil_append] at this, (by repeat (first | exact Grows.refl _ | refine Grows.now ?_ _ | refine Grows.new ?_ _ | refine Grows.drewN ?_ _ | refine Grows.drew ?_ | assumption | (refine Grows.set ?_ (by first | omega | (simp; done) | (simp; omega)) _)))⟩
theorem Own.low {w : World} {B n c size : Nat} {e : TypeId} {A : Option Addr} {xs : List Value} (h : Own w B e size A n c xs) {q : Addr} (hq : q.block < B) (u : Value) : Own (w.setCell q u) B e size A n c xs := by
  refine ⟨h.1, ?_⟩
  rcases h.2 with h1 | ⟨g, cap, cur, h1, h2, h3, h4⟩
  · exact .inl h1
  · refine .inr ⟨g, cap, cur, h1, h2, ?_, h4⟩
    rw [← h3]
    simp [World.setCell, Array.getElem?_modify]
    intro e
    omega
theorem Own.base {w : World} {B B' n c size : Nat} {e : TypeId} {A : Option Addr} {xs : List Value} (h : Own w B e size A n c xs) (hB : B' ≤ B) : Own w B' e size A n c xs := by
  refine ⟨h.1, ?_⟩
  rcases h.2 with h1 | ⟨g, cap, cur, h1, h2, h3⟩
  · exact .inl h1
  · exact .inr ⟨g, cap, cur, h1, Nat.le_trans hB h2, h3⟩
/-- A graph in memory of the call's own. -/
def GiveOG (w : World) (N : Int) (E : List Edg) (e : Ending) (w' : World) : Prop := ∃ A c, e = .returned (.agg #[.int .i64 N, .slice A E.length c]) ∧ Own w' w.heap.size 82 3 A E.length c (esCells E) ∧ Grows w w'
set_option maxRecDepth 20000 in
set_option maxHeartbeats 2000000 in
theorem gClone (N : Int) (A : Option Addr) (n c : Nat) (E : List Edg) (w : World) (h : Rd w A 3 n (esCells E)) (hn : n ≤ 1000000) :
    Calls Try.prog 36 #[.agg #[.int .i64 N, .slice A n c]] w (GiveOG w N E) := by
  have HL := hide h.elen
  have HC := hide (fun W (g : Grows w W) => cloneE A n c E W (h.grows g) hn)
  clear h
  go_enter Try.func36, Try.ntmps36
  go_upto_region 1 with fail
  go_region_with (go_at_call 47; refine (HC.out _ (by repeat (first | exact Grows.refl _ | refine Grows.now ?_ _ | refine Grows.new ?_ _ | refine Grows.drewN ?_ _ | refine Grows.drew ?_ | assumption | (refine Grows.set ?_ (by first | omega | (simp; done) | (simp; omega)) _)))).mono ?_; rintro e w' ⟨A1, c1, rfl, ho1, hg⟩; obtain ⟨x1, rfl⟩ := hg.later; have HO1 := hide ho1; clear hg ho1)
  all_goals go_wp2_with fail
  all_goals refine bodyPost_ret (v := .agg #[.int .i64 N, .slice A1 n c1]) (by simp (maxDischargeDepth := 6) [results, Try.results36, go_sem, *]) rfl ⟨A1, c1, by rw [HL.out], ?_, (by repeat (first | exact Grows.refl _ | refine Grows.now ?_ _ | refine Grows.new ?_ _ | refine Grows.drewN ?_ _ | refine Grows.drew ?_ | assumption | (refine Grows.set ?_ (by first | omega | (simp; done) | (simp; omega)) _)))⟩
  all_goals rw [HL.out]
  all_goals exact ((HO1.out.low (by simp) _).low (by simp) _).base (by simp; omega)
end Go.Proofs.Ytlgojmniidfgpaa

/- What a step may turn: of what was there, only the blocks of a set. -/
namespace Go.Proofs.Ytlgojmniidfgpaa
open Go Go.RowKit

/-- Of what was there, only blocks of S have turned; new memory may have come. -/
structure Touch (S : Nat → Prop) (w w' : World) : Prop where
  os : w'.os = w.os
  tape : w'.tape = w.tape
  output : w'.output = w.output
  size : w.heap.size ≤ w'.heap.size
  block : ∀ k, k < w.heap.size → ¬ S k → w'.heap[k]? = w.heap[k]?

/-- The new blocks between two worlds. -/
def New (w w' : World) (k : Nat) : Prop := w.heap.size ≤ k ∧ k < w'.heap.size

section
variable {S S' : Nat → Prop} {a b c w w' : World}
theorem Touch.refl (S : Nat → Prop) (w : World) : Touch S w w := ⟨rfl, rfl, rfl, Nat.le_refl _, fun _ _ _ => rfl⟩
theorem Grows.touch (h : Grows w w') (S : Nat → Prop) : Touch S w w' := ⟨h.os, h.tape, h.output, h.size, fun k hk _ => h.block k hk⟩
theorem Touch.trans2 (h : Touch S a b) (k : Touch S' b c) (hs : ∀ k, S' k → S k ∨ a.heap.size ≤ k) : Touch S a c :=
  ⟨k.os.trans h.os, k.tape.trans h.tape, k.output.trans h.output, Nat.le_trans h.size k.size, fun i hi hn =>
    (k.block i (Nat.lt_of_lt_of_le hi h.size) fun e => by rcases hs i e with h1 | h1; exact hn h1; omega).trans (h.block i hi hn)⟩
theorem Touch.trans (h : Touch S a b) (k : Touch S b c) : Touch S a c := h.trans2 k fun _ h => .inl h
theorem Touch.mono (h : Touch S a b) (hs : ∀ k, S k → S' k) : Touch S' a b := ⟨h.os, h.tape, h.output, h.size, fun k hk hn => h.block k hk fun e => hn (hs k e)⟩
theorem Touch.grows (h : Touch S a b) (k : Grows b c) : Touch S a c := h.trans (k.touch S)
theorem Touch.now (h : Touch S a b) (x : Later b) : Touch S a x.now := h.grows x.grows
theorem Touch.new (h : Touch S a b) (o : Obj) : Touch S a (b.alloc o) := h.grows ((Grows.refl b).new o)
theorem Touch.drew (h : Touch S a b) : Touch S a b.drew := h.grows (Grows.refl b).drew
theorem Touch.drewN (h : Touch S a b) (n : Nat) : Touch S a (b.drewN n) := h.grows ((Grows.refl b).drewN n)
theorem heap_setCell (w : World) (p : Addr) (u : Value) (k : Nat) (h : k ≠ p.block) : (w.setCell p u).heap[k]? = w.heap[k]? := Below.heap_setCell w p u k h
theorem size_setCell (w : World) (p : Addr) (u : Value) : (w.setCell p u).heap.size = w.heap.size := by simp [World.setCell]
theorem Touch.set (h : Touch S a b) {p : Addr} (hp : S p.block ∨ a.heap.size ≤ p.block) (u : Value) : Touch S a (b.setCell p u) := by
  refine ⟨h.os, h.tape, h.output, by rw [size_setCell]; exact h.size, fun k hk hn => ?_⟩
  rw [heap_setCell _ _ _ _ (fun e => by subst e; rcases hp with hp | hp; exact hn hp; omega)]
  exact h.block k hk hn
theorem Touch.put (h : Touch S a b) {r : Nat} (hr : S r ∨ a.heap.size ≤ r) (o : Obj) : Touch S a (b.putObj r o) := by
  refine ⟨h.os, h.tape, h.output, by simp; exact h.size, fun k hk hn => ?_⟩
  rw [World.putObj_heap_other (fun e => by subst e; rcases hr with hp | hp; exact hn hp; omega)]
  exact h.block k hk hn
theorem Touch.grown {row : Option Nat} (h : Touch S a b) (hg : b.grownBy c row) (hr : ∀ k, row = some k → S k ∨ a.heap.size ≤ k) : Touch S a c := by
  refine ⟨hg.os.trans h.os, hg.tape.trans h.tape, hg.output.trans h.output, Nat.le_trans h.size hg.size, fun k hk hn => ?_⟩
  refine (hg.block k (Nat.lt_of_lt_of_le hk h.size) fun e => ?_).trans (h.block k hk hn)
  rcases hr k e.symm with h1 | h1
  · exact hn h1
  · omega
/-- Below n all is as it was, where S lies above n. -/
theorem Touch.below (h : Touch S a b) {n : Nat} (hs : ∀ k, S k → n ≤ k) (hn : n ≤ a.heap.size) : Below n a b :=
  ⟨h.os, h.tape, h.output, h.size, fun k hk => h.block k (by omega) fun e => by have := hs k e; omega⟩
theorem Touch.later {w0 : World} (hw0 : Grows w0 a) (h : Touch S a b) (hs : ∀ k, S k → w0.heap.size ≤ k) : Grows w0 b :=
  Below.trans hw0 (h.below hs hw0.size)
theorem Touch.cell (h : Touch S a b) {p : Addr} (hp : ¬ S p.block) {u : Value} (hc : a.cell? p = some u) : b.cell? p = some u := by
  rw [← hc]
  exact World.cell?_of_block (w := a) (h.block p.block (World.block_lt_of_cell? a p hc) hp)
theorem Touch.frozen (h : Touch S a b) {p : Addr} (hp : ¬ S p.block) {u : Value} (hc : a.cell? p = some u) : b.frozen? p = a.frozen? p :=
  World.frozen?_of_block (w := a) (h.block p.block (World.block_lt_of_cell? a p hc) hp)
theorem Touch.at (h : Touch S a b) {k : Nat} {o : Obj} (hp : ¬ S k) (hc : a.heap[k]? = some o) : b.heap[k]? = some o :=
  (h.block k (Array.getElem?_eq_some_iff.1 hc).1 hp).trans hc
theorem Mine.touch {p : Addr} {v : Value} (h : Mine a p v) (ht : Touch S a b) (hp : ¬ S p.block) : Mine b p v :=
  ⟨ht.cell hp h.cell, (ht.frozen hp h.cell).trans h.free⟩
theorem Holds.touch {p : Addr} {v : Value} (h : Holds a p v) (ht : Touch S a b) (hp : ¬ S p.block) : Holds b p v := ⟨ht.cell hp h.cell⟩
theorem Rd.touch {A : Option Addr} {size n : Nat} {xs : List Value} (h : Rd a A size n xs) (ht : Touch S a b) (hp : ∀ p, A = some p → ¬ S p.block) : Rd b A size n xs :=
  ⟨h.1, fun h1 h2 => by
    obtain ⟨g, off, e, hc⟩ := h.2 h1 h2
    exact ⟨g, off, e, fun j u hu => ht.cell (p := ⟨g, off + j, none⟩) (hp ⟨g, off, none⟩ e) (hc j u hu)⟩⟩
end

/-- The blocks of B and of M are as they were. -/
def Keeps (B M : Nat → Prop) (w w' : World) : Prop := Touch (fun k => ¬ (B k ∨ M k)) w w'
section
variable {B M M' S : Nat → Prop} {a b c : World}
theorem Keeps.refl (B M : Nat → Prop) (a : World) : Keeps B M a a := Touch.refl _ _
theorem Keeps.trans (h : Keeps B M a b) (k : Keeps B M b c) : Keeps B M a c := Touch.trans h k
theorem Keeps.mono (h : Keeps B M a b) (hM : ∀ k, M' k → M k) : Keeps B M' a b := Touch.mono h fun k h1 e => h1 (e.elim .inl fun e => .inr (hM k e))
theorem Touch.keeps (h : Touch S a b) (hs : ∀ k, S k → ¬ (B k ∨ M k)) : Keeps B M a b := Touch.mono h hs
theorem Keeps.at (h : Keeps B M a b) {k : Nat} {o : Obj} (hk : B k ∨ M k) (hc : a.heap[k]? = some o) : b.heap[k]? = some o :=
  Touch.at h (fun h1 => h1 hk) hc
theorem Keeps.cell (h : Keeps B M a b) {p : Addr} (hk : B p.block ∨ M p.block) {u : Value} (hc : a.cell? p = some u) : b.cell? p = some u :=
  Touch.cell h (fun h1 => h1 hk) hc
end
end Go.Proofs.Ytlgojmniidfgpaa

/- Objects in memory that are known whole: structs, boxes, own slices with their block. -/
namespace Go.Proofs.Ytlgojmniidfgpaa
open Go Go.RowKit
/-- Block g is made of just these cells. -/
class Arr (w : World) (g : Nat) (t : outParam TypeId) (cs : outParam (List Value)) : Prop where
  is : w.heap[g]? = some (.cells cs.toArray t (0, 0))
section
variable {w w' w0 : World} {g g' : Nat} {t t' : TypeId} {cs cs' : List Value} {S : Nat → Prop}
theorem Arr.lt (h : Arr w g t cs) : g < w.heap.size := (Array.getElem?_eq_some_iff.1 h.is).1
theorem Arr.cell (h : Arr w g t cs) (j : Nat) : w.cell? ⟨g, j, none⟩ = cs[j]? := by simp [World.cell?, h.is]
theorem Arr.free (h : Arr w g t cs) (j : Nat) : w.frozen? ⟨g, j, none⟩ = false := by simp [World.frozen?, h.is]
theorem Arr.mine (h : Arr w g t cs) (j : Nat) {u : Value} (hu : cs[j]? = some u) : Mine w ⟨g, j, none⟩ u := ⟨by rw [h.cell, hu], h.free j⟩
theorem Arr.grow (h : Arr w g t cs) (k : Grows w w') : Arr w' g t cs := ⟨(k.block g h.lt).trans h.is⟩
theorem Arr.touch (h : Arr w g t cs) (k : Touch S w w') (hS : ¬ S g) : Arr w' g t cs := ⟨k.at hS h.is⟩
theorem Arr.set (h : Arr w g t cs) (j : Nat) (u : Value) : Arr (w.setCell ⟨g, j, none⟩ u) g t (cs.set j u) :=
  ⟨by have := h.is; simp [World.setCell, Array.getElem?_modify, this]⟩
theorem Arr.other (h : Arr w g t cs) {p : Addr} (hp : p.block ≠ g) (u : Value) : Arr (w.setCell p u) g t cs :=
  ⟨by rw [heap_setCell _ _ _ _ (Ne.symm hp)]; exact h.is⟩
theorem Arr.put (h : Arr w g t cs) {r : Nat} (hr : g ≠ r) (o : Obj) : Arr (w.putObj r o) g t cs := ⟨(World.putObj_heap_other hr).trans h.is⟩
theorem Arr.ne (h : Arr w g t cs) (k : Arr w g' t' cs') (ht : t ≠ t') : g ≠ g' := fun e => by
  subst e
  have := h.is.symm.trans k.is
  injection this with this
  injection this with _ this
  exact ht this
theorem Arr.same (h : Arr w g t cs) (k : Arr w g t' cs') : t = t' ∧ cs = cs' := by
  have := h.is.symm.trans k.is
  injection this with this
  injection this with h1 h2
  exact ⟨h2, by simpa using h1⟩
theorem Arr.rd (h : Arr w g t cs) {size n : Nat} (hl : cs.length = n * size) : Rd w (some ⟨g, 0, none⟩) size n cs :=
  ⟨hl, fun _ _ => ⟨g, 0, rfl, fun j u hu => by rw [Nat.zero_add, h.cell]; exact hu⟩⟩
theorem Arr.make (w : World) (cs : List Value) (t : TypeId) : Arr (w.alloc (.cells cs.toArray t)) w.heap.size t cs := ⟨World.alloc_heap_new w _⟩
theorem Arr.own (h : Arr w g t cs) {B size n : Nat} (hB : B ≤ g) (hl : cs.length = n * size) (hn : n ≤ 1000000000) : Own w B t size (some ⟨g, 0, none⟩) n n cs :=
  ⟨hl, .inr ⟨g, n, cs.toArray, rfl, hB, h.is, Nat.le_refl _, by unfold maxLen; omega, by simpa using hl, by simp [← hl]⟩⟩
instance Arr.now (x : Later w) [h : Arr w g t cs] : Arr x.now g t cs := h.grow x.grows
instance Arr.alloc (o : Obj) [h : Arr w g t cs] : Arr (w.alloc o) g t cs := h.grow ((Grows.refl w).new o)
instance Arr.drew [h : Arr w g t cs] : Arr w.drew g t cs := h.grow (Grows.refl w).drew
instance Arr.drewN (n : Nat) [h : Arr w g t cs] : Arr (w.drewN n) g t cs := h.grow ((Grows.refl w).drewN n)
instance Arr.m0 {v : Value} {l : List Value} [h : Arr w g t (v :: l)] : Mine w ⟨g, 0, none⟩ v := h.mine 0 rfl
instance Arr.m1 {v0 v : Value} {l : List Value} [h : Arr w g t (v0 :: v :: l)] : Mine w ⟨g, 1, none⟩ v := h.mine 1 rfl
instance Arr.m2 {v0 v1 v : Value} {l : List Value} [h : Arr w g t (v0 :: v1 :: v :: l)] : Mine w ⟨g, 2, none⟩ v := h.mine 2 rfl
instance Arr.m3 {v0 v1 v2 v : Value} {l : List Value} [h : Arr w g t (v0 :: v1 :: v2 :: v :: l)] : Mine w ⟨g, 3, none⟩ v := h.mine 3 rfl
instance Arr.m4 {v0 v1 v2 v3 v : Value} {l : List Value} [h : Arr w g t (v0 :: v1 :: v2 :: v3 :: v :: l)] : Mine w ⟨g, 4, none⟩ v := h.mine 4 rfl
instance Arr.m5 {v0 v1 v2 v3 v4 v : Value} {l : List Value} [h : Arr w g t (v0 :: v1 :: v2 :: v3 :: v4 :: v :: l)] : Mine w ⟨g, 5, none⟩ v := h.mine 5 rfl
end

/-- The slice of n elements in block g, with room for c, begins with these cells. -/
structure Row1 (w : World) (g : Nat) (e : TypeId) (size n c : Nat) (xs : List Value) : Prop where
  len : xs.length = n * size
  is : ∃ cur, w.heap[g]? = some (.cells cur e (0, 0)) ∧ n ≤ c ∧ c ≤ maxLen ∧ cur.size = c * size ∧ cur.toList.take (n * size) = xs
section
variable {w w' w0 : World} {B g g' n c size : Nat} {e t' : TypeId} {xs cs' : List Value} {S : Nat → Prop}
theorem Row1.own (h : Row1 w g e size n c xs) (hB : B ≤ g) : Own w B e size (some ⟨g, 0, none⟩) n c xs := by
  obtain ⟨cur, h1, h2, h3, h4, h5⟩ := h.is
  exact ⟨h.len, .inr ⟨g, c, cur, rfl, hB, h1, h2, h3, h4, h5⟩⟩
theorem Own.row (h : Own w B e size (some ⟨g, 0, none⟩) n c xs) : Row1 w g e size n c xs ∧ B ≤ g := by
  rcases h.2 with ⟨h1, _⟩ | ⟨g', cap, cur, h1, h2, h3, h4, h5, h6, h7⟩
  · cases h1
  · injection h1 with h1 _ h8
    injection h1 with h1
    injection h1 with h1
    subst h1 h8
    exact ⟨⟨h.1, cur, h3, h4, h5, h6, h7⟩, h2⟩
theorem Row1.lt (h : Row1 w g e size n c xs) : g < w.heap.size := by
  obtain ⟨cur, h1, _⟩ := h.is
  exact (Array.getElem?_eq_some_iff.1 h1).1
theorem Row1.mine (h : Row1 w g e size n c xs) {j : Nat} {u : Value} (hu : xs[j]? = some u) : Mine w ⟨g, j, none⟩ u := by
  obtain ⟨cur, h1, _, _, _, h5⟩ := h.is
  refine ⟨?_, by simp [World.frozen?, h1]⟩
  simp only [World.cell?, h1]
  rw [← h5] at hu
  have : j < n * size := by
    rcases Nat.lt_or_ge j (n * size) with h | h
    · exact h
    · rw [List.getElem?_eq_none (by simp; omega)] at hu; cases hu
  rw [List.getElem?_take, if_pos this] at hu
  simpa using hu
theorem Row1.grow (h : Row1 w g e size n c xs) (k : Grows w w') : Row1 w' g e size n c xs := by
  have hl := h.lt
  obtain ⟨cur, h1, h2⟩ := h.is
  exact ⟨h.len, cur, (k.block g hl).trans h1, h2⟩
theorem Row1.touch (h : Row1 w g e size n c xs) (k : Touch S w w') (hS : ¬ S g) : Row1 w' g e size n c xs := by
  obtain ⟨cur, h1, h2⟩ := h.is
  exact ⟨h.len, cur, k.at hS h1, h2⟩
theorem Row1.other (h : Row1 w g e size n c xs) {p : Addr} (hp : p.block ≠ g) (u : Value) : Row1 (w.setCell p u) g e size n c xs := by
  obtain ⟨cur, h1, h2⟩ := h.is
  exact ⟨h.len, cur, by rw [heap_setCell _ _ _ _ (Ne.symm hp)]; exact h1, h2⟩
theorem Row1.set (h : Row1 w g e size n c xs) (j : Nat) (u : Value) : Row1 (w.setCell ⟨g, j, none⟩ u) g e size n c (xs.set j u) := by
  obtain ⟨cur, h1, h2, h3, h4, h5⟩ := h.is
  refine ⟨by rw [List.length_set]; exact h.len, cur.setIfInBounds j u, by simp [World.setCell, Array.getElem?_modify, h1], h2, h3, by simpa using h4, ?_⟩
  rw [← h5]
  simp [List.take_set]
theorem Row1.ne (h : Row1 w g e size n c xs) (k : Arr w g' t' cs') (ht : e ≠ t') : g ≠ g' := fun e' => by
  subst e'
  obtain ⟨cur, h1, _⟩ := h.is
  have := h1.symm.trans k.is
  injection this with this
  injection this with _ this
  exact ht this
theorem Row1.ne2 {size' n' c' : Nat} (h : Row1 w g e size n c xs) (k : Row1 w g' t' size' n' c' cs') (ht : e ≠ t') : g ≠ g' := fun e' => by
  subst e'
  obtain ⟨cur, h1, _⟩ := h.is
  obtain ⟨cur', h2, _⟩ := k.is
  have := h1.symm.trans h2
  injection this with this
  injection this with _ this
  exact ht this
theorem Row1.rd (h : Row1 w g e size n c xs) : Rd w (some ⟨g, 0, none⟩) size n xs := (h.own (Nat.zero_le _)).rd
theorem Row1.cap (h : Row1 w g e size n c xs) : n ≤ c := by obtain ⟨cur, _, h2, _⟩ := h.is; exact h2
theorem Arr.row (h : Arr w g e xs) (hl : xs.length = n * size) (hn : n ≤ 1000000000) : Row1 w g e size n n xs :=
  ⟨hl, xs.toArray, h.is, Nat.le_refl _, by unfold maxLen; omega, by simpa using hl, by simp [← hl]⟩
/-- A cell of a row of numbers. -/
theorem Row1.int {k : IntKind} {ys : List Int} (h : Row1 w g e 1 n c (ys.map (.int k))) {j : Nat} (hj : j < n) : Mine w ⟨g, j, none⟩ (.int k (gi ys j)) := by
  have hl := h.len
  simp at hl
  exact h.mine (by simp [gi, show j < ys.length by omega])
theorem gi_set (ys : List Int) (j k : Nat) (v : Int) (hj : j < ys.length) : gi (ys.set j v) k = if k = j then v else gi ys k := by
  unfold gi
  by_cases h : k = j
  · subst h; simp [hj]
  · simp [h, Ne.symm h]
end
/-- make of n numbers, as it runs. -/
theorem run_makeInts (n : Nat) (hn : n ≤ 1000000000) (w : World) : (Instr.makeSlice 45 (.int .i64 (n : Int)) (.int .i64 (n : Int))).run Try.prog w = .ok (.slice (some ⟨w.heap.size, 0, none⟩) n n) (w.alloc (.cells (List.replicate n (Value.int .i64 0)).toArray 3)) := by
  obtain ⟨i, h1, h2, h3, h4⟩ := elemInt1.info
  have := run_make_row (P := Try.prog) 45 3 i (.int .i64 0) Try.underlying45 h1 h2 h3 rfl .i64 .i64 n (by have := Nat.mul_le_mul h4 hn; omega) (by omega) w
  have e : madeCells #[Value.int .i64 0] n = (List.replicate n (Value.int .i64 0)).toArray := Array.ext' (by rw [toList_madeCells_one])
  rw [e] at this
  exact this
end Go.Proofs.Ytlgojmniidfgpaa

/- What an argument that can be read is: graphs, rows of rows. -/
namespace Go.Proofs.Ytlgojmniidfgpaa
open Go Go.ChangeShapes Go.WideShapes Go.ChangeAt Go.RowKit

theorem flat_at {F : Nat → List Value} {size : Nat} (hs : 0 < size) : ∀ n, (∀ i, i < n → (F i).length = size) → ((List.range n).flatMap F).length = n * size ∧ ∀ i j, i < n → j < size → ((List.range n).flatMap F)[i * size + j]? = (F i)[j]?
  | 0, _ => ⟨by simp, fun i j h => by omega⟩
  | n + 1, h => by
    obtain ⟨ih1, ih2⟩ := flat_at hs n fun i hi => h i (by omega)
    have e : (List.range (n + 1)).flatMap F = (List.range n).flatMap F ++ F n := by rw [List.range_succ, List.flatMap_append]; simp
    rw [e]
    refine ⟨by rw [List.length_append, ih1, h n (by omega), Nat.succ_mul], fun i j hi hj => ?_⟩
    by_cases hin : i < n
    · have : i * size + j < n * size := by
        have := Nat.mul_le_mul_right size (show i + 1 ≤ n by omega)
        rw [Nat.succ_mul] at this
        omega
      rw [List.getElem?_append_left (by omega)]
      exact ih2 i j hin hj
    · obtain rfl : i = n := by omega
      rw [List.getElem?_append_right (by omega), ih1, show i * size + j - i * size = j by omega]

theorem add_plain (b off i : Nat) : (⟨b, off, none⟩ : Addr).add i = ⟨b, off + i, none⟩ := by
  unfold Addr.add
  split
  · rename_i h0; rw [h0]; rfl
  · rfl

section
variable {H : Type} {enc : TypeId × Value → H} {P : Program} {w : World} {base b0 : Nat} {held : Bool} {r : Reach} {t : TypeId} {v : Value} {d : DataW H} {p : List MemPlace}

/-- A slice of whatever: its elements' cells, and that each can be read. -/
theorem open_elems {e : TypeId} {sz fuel : Nat} {x : DataW H × List MemPlace} {cs : List Value} (ht : P.underlying t = some (.slice e)) (hc : P.cellsOf e = sz) (hsz : 0 < sz) (h : DataW.trod enc P w base (fun _ => true) held fuel t cs = some x) :
    ∃ (A : Option Addr) (n c : Nat) (F : Nat → List Value), cs = [.slice A n c] ∧ n ≤ c ∧ c ≤ maxLen ∧ Rd w A sz n ((List.range n).flatMap F) ∧ ∀ i, i < n → (F i).length = sz ∧ ∃ m y, DataW.trod enc P w base (fun _ => true) held m e (F i) = some y := by
  rcases Deep.open_slice ht h with ⟨rfl, _⟩ | ⟨a, n, c, m, k, D, Pl, rfl, _, hl, hm, hmm, _, hx⟩
  · exact ⟨none, 0, 0, fun _ => [], rfl, Nat.le_refl _, by unfold maxLen; omega, ⟨by simp, fun h => by omega⟩, fun i hi => by omega⟩
  · simp only [if_true] at hmm
    subst hmm
    rw [hc] at hx
    obtain ⟨F, hF⟩ := Deep.choose_lt (α := List Value) (p := fun i cs' => w.cells? base (a.add (i * sz)) sz = some cs' ∧ DataW.trod enc P w base (fun _ => true) held k e cs' = some (D i, Pl i)) hx
    have hlen : ∀ i, i < m → (F i).length = sz := fun i hi => (World.cells?_some (hF i hi).1).2.1
    refine ⟨_, n, m, F, rfl, hl, hm, ?_, fun i hi => ⟨hlen i (by omega), k, _, (hF i (by omega)).2⟩⟩
    obtain ⟨fl1, fl2⟩ := flat_at hsz n fun i hi => hlen i (by omega)
    refine ⟨fl1, fun hn _ => ?_⟩
    obtain ⟨b, off, spot⟩ := a
    have hcell : ∀ i j u, i < n → (F i)[j]? = some u → w.cell? (((⟨b, off, spot⟩ : Addr).add (i * sz)).add j) = some u := fun i j u hi hu => by
      have hj : j < sz := by
        rcases Nat.lt_or_ge j sz with h | h
        · exact h
        · rw [List.getElem?_eq_none (by rw [hlen i (by omega)]; exact h)] at hu; cases hu
      have := (World.cells?_some (hF i (by omega)).1).2.2 j hj
      rw [hu] at this
      exact this
    have hs : spot = none := by
      have h0 : ∃ u, (F 0)[0]? = some u := ⟨_, List.getElem?_eq_getElem (by rw [hlen 0 (by omega)]; exact hsz)⟩
      obtain ⟨u, hu⟩ := h0
      have := spot_none (hcell 0 0 u hn hu)
      simpa [Addr.add] using this
    subst hs
    refine ⟨b, off, rfl, fun q u hu => ?_⟩
    have hq : q < n * sz := by
      rcases Nat.lt_or_ge q (n * sz) with h | h
      · exact h
      · rw [List.getElem?_eq_none (by rw [fl1]; exact h)] at hu; cases hu
    have e : q = q / sz * sz + q % sz := (Nat.div_add_mod' q sz).symm
    have hi : q / sz < n := (Nat.div_lt_iff_lt_mul hsz).2 hq
    have hj : q % sz < sz := Nat.mod_lt _ hsz
    rw [e, fl2 _ _ hi hj] at hu
    have := hcell _ _ u hi hu
    rw [add_plain, add_plain, Nat.add_assoc, ← e] at this
    exact this

/-- All that is known of an edge that came in. -/
def edgOk (e : Edg) : Prop := I64 e.f ∧ I64 e.t ∧ U64 e.w

theorem open_edges {te : TypeId} {f0 f1 f2 : Field} {fuel : Nat} {x : DataW H × List MemPlace} {cs : List Value} (ht : P.underlying t = some (.slice te)) (hs : P.underlying te = some (.struct #[f0, f1, f2]))
    (h0 : P.underlying f0.type = some (.int .i64)) (h1 : P.underlying f1.type = some (.int .i64)) (h2 : P.underlying f2.type = some (.int .u64)) (ho : f0.offset = 0 ∧ f1.offset = 1 ∧ f2.offset = 2)
    (hcs : P.cellsOf f0.type = 1 ∧ P.cellsOf f1.type = 1 ∧ P.cellsOf f2.type = 1) (hc : P.cellsOf te = 3) (h : DataW.trod enc P w base (fun _ => true) held fuel t cs = some x) :
    ∃ (A : Option Addr) (n c : Nat) (E : List Edg), cs = [.slice A n c] ∧ n ≤ c ∧ Rd w A 3 n (esCells E) ∧ ∀ k, k < n → edgOk (ge E k) := by
  obtain ⟨A, n, c, F, rfl, hl, _, hr, hF⟩ := open_elems ht hc (by omega) h
  have hE : ∀ i, i < n → ∃ e : Edg, F i = eCells e ∧ edgOk e := fun i hi => by
    obtain ⟨hlen, m, y, hy⟩ := hF i hi
    obtain ⟨y0, y1, y2, k, _, _, e0, e1, e2⟩ := Deep.trod_struct3 hs hy
    rw [ho.1, hcs.1] at e0
    rw [ho.2.1, hcs.2.1] at e1
    rw [ho.2.2, hcs.2.2] at e2
    obtain ⟨c0, c1, c2, hFi⟩ : ∃ c0 c1 c2, F i = [c0, c1, c2] := by
      match F i, hlen with
      | [c0, c1, c2], _ => exact ⟨c0, c1, c2, rfl⟩
    rw [hFi] at e0 e1 e2 ⊢
    obtain ⟨a, ha, _, wa⟩ := DataW.trod_int h0 e0
    obtain ⟨b, hb, _, wb⟩ := DataW.trod_int h1 e1
    obtain ⟨g, hg, _, wg⟩ := DataW.trod_int h2 e2
    simp at ha hb hg
    subst ha hb hg
    exact ⟨⟨a, b, g⟩, rfl, wf_i64 wa, wf_i64 wb, wf_u64 wg⟩
  obtain ⟨f, hf⟩ := Deep.choose_lt (α := Option Edg) (p := fun i o => ∃ e, o = some e ∧ F i = eCells e ∧ edgOk e) (fun i hi => by obtain ⟨e, h⟩ := hE i hi; exact ⟨some e, e, rfl, h⟩)
  let f' : Nat → Edg := fun i => (f i).getD ⟨0, 0, 0⟩
  have hf' : ∀ i, i < n → F i = eCells (f' i) ∧ edgOk (f' i) := fun i hi => by
    obtain ⟨e, h1, h2⟩ := hf i hi
    simp only [f', h1, Option.getD_some]
    exact h2
  refine ⟨A, n, c, (List.range n).map f', rfl, hl, ?_, fun k hk => ?_⟩
  · have e : esCells ((List.range n).map f') = (List.range n).flatMap F := by
      unfold esCells
      rw [List.flatMap_map, List.flatMap_def, List.flatMap_def]
      exact congrArg List.flatten (List.map_congr_left fun i hi => ((hf' i (List.mem_range.1 hi)).1).symm)
    rw [e]
    exact hr
  · have : ge ((List.range n).map f') k = f' k := by simp [ge, hk]
    rw [this]
    exact (hf' k hk).2

theorem open_graph {f0 f1 g0 g1 g2 : Field} {te : TypeId} (ht : P.underlying t = some (.struct #[f0, f1])) (h0 : P.underlying f0.type = some (.int .i64)) (h1 : P.underlying f1.type = some (.slice te)) (hs : P.underlying te = some (.struct #[g0, g1, g2]))
    (k0 : P.underlying g0.type = some (.int .i64)) (k1 : P.underlying g1.type = some (.int .i64)) (k2 : P.underlying g2.type = some (.int .u64)) (ho : g0.offset = 0 ∧ g1.offset = 1 ∧ g2.offset = 2)
    (hcs : P.cellsOf g0.type = 1 ∧ P.cellsOf g1.type = 1 ∧ P.cellsOf g2.type = 1) (hc : P.cellsOf te = 3) (hone : Deep.oneCellFields P #[f0, f1] = true) (hC : P.cellsOf t = 2)
    (hv : Value.okWide P w r b0 t v) (h : DataW.Trod enc P w base (fun _ => true) held t v d p) :
    ∃ (N : Int) (A : Option Addr) (n c : Nat) (E : List Edg), v = .agg #[.int .i64 N, .slice A n c] ∧ I64 N ∧ n ≤ c ∧ Rd w A 3 n (esCells E) ∧ ∀ k, k < n → edgOk (ge E k) := by
  obtain ⟨c0, c1, y0, y1, m, rfl, rfl, rfl, e0, e1⟩ := Joins.open_agg2 ht hone hC hv h
  obtain ⟨x, hx, _, wx⟩ := DataW.trod_int h0 e0
  simp at hx
  subst hx
  obtain ⟨A, n, c, E, he, hl, hr, hE⟩ := open_edges h1 hs k0 k1 k2 ho hcs hc e1
  simp at he
  subst he
  exact ⟨x, A, n, c, E, rfl, wf_i64 wx, hl, hr, hE⟩

/-- All that is known of a row that came in. -/
def rowIn (w : World) (r : Row) : Prop := rowOk w r ∧ (∀ z ∈ r.xs, I64 z) ∧ (r.A = none → r.n = 0 ∧ r.c = 0)

theorem open_rows {e i : TypeId} (ht : P.underlying t = some (.slice e)) (he : P.underlying e = some (.slice i)) (hi : P.underlying i = some (.int .i64)) (hce : P.cellsOf e = 1) (hci : P.cellsOf i = 1)
    (hv : Value.okWide P w r b0 t v) (h : DataW.Trod enc P w base (fun _ => true) held t v d p) :
    ∃ (A : Option Addr) (n c : Nat) (R : List Row), v = .slice A n c ∧ n ≤ c ∧ Rd w A 1 n (R.map rowVal) ∧ ∀ k, k < n → rowIn w (gr R k) := by
  obtain ⟨A, n, c, rfl⟩ := okWide_slice ht hv
  obtain ⟨fuel, hf⟩ := h
  obtain ⟨A', n', c', F, hcs, hl, _, hr, hF⟩ := open_elems ht hce (by omega) hf
  simp [Value.cells] at hcs
  obtain ⟨rfl, rfl, rfl⟩ := hcs
  have hE : ∀ k, k < n → ∃ r : Row, F k = [rowVal r] ∧ rowIn w r := fun k hk => by
    obtain ⟨hlen, m, y, hy⟩ := hF k hk
    rcases open_ints he hi hci hy with ⟨hcs, _⟩ | ⟨x, l, c', zs, hcs, _, hl, hm, hz, _, hcell, hwz⟩
    · exact ⟨⟨none, 0, 0, []⟩, hcs, ⟨⟨rfl, fun h => absurd h (by simp)⟩, Nat.le_refl _⟩, fun z hz => (by cases hz), fun _ => ⟨rfl, rfl⟩⟩
    · obtain ⟨b, off, spot⟩ := x
      simp only [if_true] at hz
      refine ⟨⟨some ⟨b, off, spot⟩, l, c', zs.take l⟩, hcs, ⟨⟨by simp; omega, fun h1 _ => ?_⟩, hl⟩, fun z hz => wf_i64 (hwz z (List.mem_of_mem_take hz)), fun h => (by cases h)⟩
      dsimp only at h1
      have h0 := hcell 0 (by omega)
      have hs : spot = none := by simpa [Addr.add] using spot_none h0
      subst hs
      refine ⟨b, off, rfl, fun j u hu => ?_⟩
      have hj : j < l := by
        rcases Nat.lt_or_ge j l with h | h
        · exact h
        · rw [List.getElem?_eq_none (by simp; omega)] at hu; cases hu
      have hcj := hcell j (by omega)
      have hjz : j < zs.length := by omega
      have hu' : u = .int .i64 (zs.getD j 0) := by
        simp [hj, List.getElem?_eq_getElem hjz] at hu
        simp [← hu, List.getElem?_eq_getElem hjz]
      rw [hu']
      rw [add_plain] at hcj
      exact hcj
  obtain ⟨f, hf⟩ := Deep.choose_lt (α := Option Row) (p := fun i o => ∃ e, o = some e ∧ F i = [rowVal e] ∧ rowIn w e) (fun i hi => by obtain ⟨e, h⟩ := hE i hi; exact ⟨some e, e, rfl, h⟩)
  let f' : Nat → Row := fun i => (f i).getD ⟨none, 0, 0, []⟩
  have hf' : ∀ i, i < n → F i = [rowVal (f' i)] ∧ rowIn w (f' i) := fun i hi => by
    obtain ⟨e, h1, h2⟩ := hf i hi
    simp only [f', h1, Option.getD_some]
    exact h2
  refine ⟨A, n, c, (List.range n).map f', rfl, hl, ?_, fun k hk => ?_⟩
  · have e : ((List.range n).map f').map rowVal = (List.range n).flatMap F := by
      rw [List.map_map, List.flatMap_def]
      have : (List.range n).map F = (List.range n).map fun i => [rowVal (f' i)] := List.map_congr_left fun i hi => (hf' i (List.mem_range.1 hi)).1
      rw [this, ← List.flatMap_def]
      exact List.map_eq_flatMap
    rw [e]
    exact hr
  · have : gr ((List.range n).map f') k = f' k := by simp [gr, hk]
    rw [this]
    exact (hf' k hk).2
theorem open_numsC {e : TypeId} {k : IntKind} (ht : P.underlying t = some (.slice e)) (he : P.underlying e = some (.int k)) (hc : P.cellsOf e = 1)
    (hv : Value.okWide P w r b0 t v) (h : DataW.Trod enc P w base (fun _ => true) held t v d p) :
    ∃ (A : Option Addr) (n c : Nat) (zs : List Int), v = .slice A n c ∧ n ≤ c ∧ Rd w A 1 n (zs.map (.int k)) ∧ ∀ z ∈ zs, (Lit.int k z).wf = true := by
  obtain ⟨A, n, c, zs, rfl, h1, h2⟩ := open_nums ht he hc hv h
  obtain ⟨fuel, hf⟩ := h
  rcases open_ints ht he hc hf with ⟨hcs, _⟩ | ⟨x, l, c', zs', hcs, _, hl, _⟩
  · simp [Value.cells] at hcs
    obtain ⟨rfl, rfl, rfl⟩ := hcs
    exact ⟨none, 0, 0, zs, rfl, Nat.le_refl _, h1, h2⟩
  · simp [Value.cells] at hcs
    obtain ⟨rfl, rfl, rfl⟩ := hcs
    exact ⟨_, n, c, zs, rfl, hl, h1, h2⟩
theorem open_numsN {e : TypeId} {k : IntKind} (ht : P.underlying t = some (.slice e)) (he : P.underlying e = some (.int k)) (hc : P.cellsOf e = 1)
    (hv : Value.okWide P w r b0 t v) (h : DataW.Trod enc P w base (fun _ => true) held t v d p) :
    ∃ (A : Option Addr) (n c : Nat) (zs : List Int), v = .slice A n c ∧ (n ≤ c ∧ (A = none → n = 0 ∧ c = 0)) ∧ Rd w A 1 n (zs.map (.int k)) ∧ ∀ z ∈ zs, (Lit.int k z).wf = true := by
  obtain ⟨A, n, c, zs, rfl, h1, h2⟩ := open_nums ht he hc hv h
  obtain ⟨fuel, hf⟩ := h
  rcases open_ints ht he hc hf with ⟨hcs, _⟩ | ⟨x, l, c', zs', hcs, _, hl, _⟩
  · simp [Value.cells] at hcs
    obtain ⟨rfl, rfl, rfl⟩ := hcs
    exact ⟨none, 0, 0, zs, rfl, ⟨Nat.le_refl _, fun _ => ⟨rfl, rfl⟩⟩, h1, h2⟩
  · simp [Value.cells] at hcs
    obtain ⟨rfl, rfl, rfl⟩ := hcs
    exact ⟨_, n, c, zs, rfl, ⟨hl, fun h => by cases h⟩, h1, h2⟩
end

end Go.Proofs.Ytlgojmniidfgpaa
