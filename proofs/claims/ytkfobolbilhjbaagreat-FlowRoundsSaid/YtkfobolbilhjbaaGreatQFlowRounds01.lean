/- More rules for worlds that come later: what a cell holds, found by looking back as far as need be. -/
import Derived.OwnWalk
import Derived.Lib.AppendZeros
import Derived.Shelf.Small.Bits
import Derived.Shelf.Strconv.Itoa0
import Derived.Shelf.Bits.Mul64
import Derived.Ground.Names2Prog
import Derived.Shelf.Slices.Clone
import Derived.Ground.SlgnProg
import Derived.Shelf.SlicesE.Clone
import Derived.Test.YtkfobolbilhjbaaGreatProg
import Derived.Laws.Bits64b
import Derived.Deep.Cut
import Derived.BigQuiet
import Derived.WalkMore
import Derived.Test.YtkfobolbilhjbaaGreatRows
import Derived.Test.YtkfobolbilhjbaaGreatQFlowRounds00
namespace Go.Proofs.YtkfobolbilhjbaaGreat
open Go Go.RowKit
theorem alloc_fz (w : World) (o : Obj) {p : Addr} (h : (w.cell? p).isSome = true) : (w.alloc o).frozen? p = w.frozen? p := Below.frozen ((Grows.refl w).new o) (cell_lt h)
attribute [go_sem] alloc_fz
class Holds (w : World) (p : Addr) (v : outParam Value) : Prop where
  cell : w.cell? p = some v
class Mine (w : World) (p : Addr) (v : outParam Value) : Prop where
  cell : w.cell? p = some v
  free : w.frozen? p = false
section
variable {w : World} {p : Addr} {v : Value}
instance Mine.holds [h : Mine w p v] : Holds w p v := ⟨h.cell⟩
instance Holds.now (x : Later w) [h : Holds w p v] : Holds x.now p v := ⟨x.grows.keeps h.cell⟩
instance Holds.alloc (o : Obj) [h : Holds w p v] : Holds (w.alloc o) p v := ⟨((Grows.refl w).new o).keeps h.cell⟩
instance Holds.drew [h : Holds w p v] : Holds w.drew p v := ⟨(Grows.refl w).drew.keeps h.cell⟩
instance Holds.drewN (n : Nat) [h : Holds w p v] : Holds (w.drewN n) p v := ⟨((Grows.refl w).drewN n).keeps h.cell⟩
theorem Mine.grow {w' : World} (h : Mine w p v) (g : Grows w w') : Mine w' p v := ⟨g.keeps h.cell, (Below.frozen g (cell_lt (by rw [h.cell]; rfl))).trans h.free⟩
instance Mine.now (x : Later w) [h : Mine w p v] : Mine x.now p v := h.grow x.grows
instance Mine.alloc (o : Obj) [h : Mine w p v] : Mine (w.alloc o) p v := h.grow ((Grows.refl w).new o)
instance Mine.drew [h : Mine w p v] : Mine w.drew p v := h.grow (Grows.refl w).drew
instance Mine.drewN (n : Nat) [h : Mine w p v] : Mine (w.drewN n) p v := h.grow ((Grows.refl w).drewN n)
theorem Mine.fresh (w : World) (l : List Value) (t : TypeId) (k : Nat) (v : Value) (h : l[k]? = some v) : Mine (w.alloc (.cells l.toArray t)) ⟨w.heap.size, k, none⟩ v := ⟨by simpa [go_sem] using h, by simp [go_sem]⟩
instance Mine.new0 (w : World) (v : Value) (l : List Value) (t : TypeId) : Mine (w.alloc (.cells (v :: l).toArray t)) ⟨w.heap.size, 0, none⟩ v := Mine.fresh w _ t 0 v rfl
instance Mine.new1 (w : World) (v0 v : Value) (l : List Value) (t : TypeId) : Mine (w.alloc (.cells (v0 :: v :: l).toArray t)) ⟨w.heap.size, 1, none⟩ v := Mine.fresh w _ t 1 v rfl
instance Mine.new2 (w : World) (v0 v1 v : Value) (l : List Value) (t : TypeId) : Mine (w.alloc (.cells (v0 :: v1 :: v :: l).toArray t)) ⟨w.heap.size, 2, none⟩ v := Mine.fresh w _ t 2 v rfl
instance Mine.new3 (w : World) (v0 v1 v2 v : Value) (l : List Value) (t : TypeId) : Mine (w.alloc (.cells (v0 :: v1 :: v2 :: v :: l).toArray t)) ⟨w.heap.size, 3, none⟩ v := Mine.fresh w _ t 3 v rfl
theorem Mine.fresh1 (w : World) (o : Obj) (l : List Value) (t : TypeId) (k : Nat) (v : Value) (h : l[k]? = some v) : Mine ((w.alloc o).alloc (.cells l.toArray t)) ⟨w.heap.size + 1, k, none⟩ v := by
  have := Mine.fresh (w.alloc o) l t k v h
  rwa [show (w.alloc o).heap.size = w.heap.size + 1 by simp] at this
instance Mine.newA0 (w : World) (o : Obj) (v : Value) (l : List Value) (t : TypeId) : Mine ((w.alloc o).alloc (.cells (v :: l).toArray t)) ⟨w.heap.size + 1, 0, none⟩ v := Mine.fresh1 w o _ t 0 v rfl
instance Mine.newA1 (w : World) (o : Obj) (v0 v : Value) (l : List Value) (t : TypeId) : Mine ((w.alloc o).alloc (.cells (v0 :: v :: l).toArray t)) ⟨w.heap.size + 1, 1, none⟩ v := Mine.fresh1 w o _ t 1 v rfl
instance Mine.newA2 (w : World) (o : Obj) (v0 v1 v : Value) (l : List Value) (t : TypeId) : Mine ((w.alloc o).alloc (.cells (v0 :: v1 :: v :: l).toArray t)) ⟨w.heap.size + 1, 2, none⟩ v := Mine.fresh1 w o _ t 2 v rfl
theorem Mine.fresh2 (w : World) (o o' : Obj) (l : List Value) (t : TypeId) (k : Nat) (v : Value) (h : l[k]? = some v) : Mine (((w.alloc o).alloc o').alloc (.cells l.toArray t)) ⟨w.heap.size + 1 + 1, k, none⟩ v := by
  have := Mine.fresh ((w.alloc o).alloc o') l t k v h
  rwa [show ((w.alloc o).alloc o').heap.size = w.heap.size + 1 + 1 by simp] at this
instance Mine.newB0 (w : World) (o o' : Obj) (v : Value) (l : List Value) (t : TypeId) : Mine (((w.alloc o).alloc o').alloc (.cells (v :: l).toArray t)) ⟨w.heap.size + 1 + 1, 0, none⟩ v := Mine.fresh2 w o o' _ t 0 v rfl
instance Mine.newB1 (w : World) (o o' : Obj) (v0 v : Value) (l : List Value) (t : TypeId) : Mine (((w.alloc o).alloc o').alloc (.cells (v0 :: v :: l).toArray t)) ⟨w.heap.size + 1 + 1, 1, none⟩ v := Mine.fresh2 w o o' _ t 1 v rfl
theorem Mine.set_other {q : Addr} (h : Mine w p v) (u : Value) (hne : q ≠ p) : Mine (w.setCell q u) p v := ⟨by rw [World.cell?_setCell_other _ _ _ _ hne]; exact h.cell, by have := h.free; simpa using this⟩
theorem cell_holds [h : Holds w p v] : w.cell? p = some v := h.cell
theorem free_mine [h : Mine w p v] : w.frozen? p = false := h.free
end
attribute [go_sem] cell_holds free_mine
example (w : World) (x : Later ((w.alloc (.cells #[.bool true] 3)).alloc (.cells #[.bool true, .bool false] 4))) (y : Later (x.now.alloc (.cells #[.bool true, .int .i64 5] 4))) (z : Later y.now) : z.now.cell? ⟨x.now.heap.size, 1, none⟩ = some (.int .i64 5) := by simp [go_sem]
example (w : World) (x : Later ((w.alloc (.cells #[.bool true] 3)).alloc (.cells #[.bool true, .bool false] 4))) (y : Later (x.now.alloc (.cells #[.bool true, .int .i64 5] 4))) (z : Later y.now) : z.now.cell? ⟨w.heap.size + 1, 1, none⟩ = some (.bool false) := by simp [go_sem]
example (w : World) (p : Addr) (h : Holds w p (.bool true)) (x : Later ((w.alloc (.cells #[.bool true] 3)).alloc (.cells #[.bool true, .bool false] 4))) (y : Later (x.now.alloc (.cells #[.bool true, .int .i64 5] 4))) (z : Later y.now) : z.now.cell? p = some (.bool true) := by simp [go_sem]
end Go.Proofs.YtkfobolbilhjbaaGreat

namespace Go.Proofs.YtkfobolbilhjbaaGreat
open Go Go.RowKit
theorem elemInt : Elem 48 3 1 := by
  have h : (Tryz.prog.info? 3).map (fun i => (i.zero, i.size, i.bytes)) = some (some (.int .i64 0), 1, 8) := by kernel_rfl
  obtain ⟨i, hi, hz, hs, hb⟩ := info_parts h
  exact ⟨Tryz.underlying48, ⟨i, _, 8, hi, hz, hs, hb, rfl, by omega⟩, by omega⟩
theorem Rd.intsH {w : World} {A : Option Addr} {n : Nat} {k : IntKind} {xs : List Int} (h : Rd w A 1 n (xs.map (.int k))) (hn : 0 < n) :
    ∃ b off, A = some ⟨b, off, none⟩ ∧ ∀ j, j < n → Holds w ⟨b, off + j, none⟩ (.int k (gi xs j)) := by
  obtain ⟨b, off, e, hc⟩ := h.ints hn
  exact ⟨b, off, e, fun j hj => ⟨hc j hj⟩⟩
theorem Rd.edgesH {w : World} {A : Option Addr} {n : Nat} {E : List Edg} (h : Rd w A 3 n (esCells E)) (hn : 0 < n) :
    ∃ b off, A = some ⟨b, off, none⟩ ∧ ∀ k, k < n → Holds w ⟨b, off + k * 3, none⟩ (.int .i64 (ge E k).f) ∧ Holds w ⟨b, off + k * 3 + 1, none⟩ (.int .i64 (ge E k).t) ∧ Holds w ⟨b, off + k * 3 + 2, none⟩ (.int .u64 (ge E k).w) := by
  obtain ⟨b, off, e, hc⟩ := h.edges hn
  exact ⟨b, off, e, fun j hj => ⟨⟨(hc j hj).1⟩, ⟨(hc j hj).2.1⟩, ⟨(hc j hj).2.2⟩⟩⟩
theorem Own.at {w : World} {B n c : Nat} {e : TypeId} {A : Option Addr} {xs : List Value} (h : Own w B e 1 A n c xs) (hn : 0 < n) : ∃ g, A = some ⟨g, 0, none⟩ ∧ B ≤ g ∧ ∀ j u, xs[j]? = some u → Mine w ⟨g, j, none⟩ u := by
  obtain ⟨g, cur, rfl, hB, _⟩ := h.at_ hn
  exact ⟨g, rfl, hB, fun j u hu => ⟨h.cell rfl hu, h.frozen rfl hn j⟩⟩
section
variable {P : Program} {w : World} {e : TypeId} {ops : Array Oper} {rest : List Oper} {o : Oper} {a : Act} {Q : Exit → Act → World → Prop}
theorem wp_app1 {t : TypeId} (E : Elem t e 1) (hgd : o.guard = none) (s x : Operand) (ho : o.op = .call { callee := .builtin .append, args := #[s, x], argTypes := #[t, t] })
    (w0 : World) (hw0 : Grows w0 w) (n c : Nat) (A : Option Addr) (xs : List Value) (hs : a.eval s = .slice A n c) (hown : Own w w0.heap.size e 1 A n c xs) (g c' : Nat) (v : Value) (hx : a.eval x = .slice (some ⟨g, 0, none⟩) 1 c')
    (hv : Holds w ⟨g, 0, none⟩ v) (h1 : v.oneCell' = true) (hnm : n + 1 ≤ 1000000000000)
    (h : ∀ A' c'' (y : Later w0), Own y.now w0.heap.size e 1 A' (n + 1) c'' (xs ++ [v]) → wpList Tryz.prog ops Q rest (a.put o.dst (.slice A' (n + 1) c'')) y.now) :
    wpList Tryz.prog ops Q (o :: rest) a w := by
  refine wp_app E hgd s x ho w0.heap.size n c A xs hs hown g 1 c' [v] hx rfl ?_ (by intro u hu; simp at hu; rw [hu]; exact h1) hnm hw0.size ?_
  · intro j u hu
    have hj : j = 0 := by
      have := (List.getElem?_eq_some_iff.1 hu).1
      simpa using this
    subst hj
    simp at hu
    subst hu
    exact hv.cell
  · intro A' c'' w' ho hg
    obtain ⟨y, rfl⟩ := (hg w0 hw0 (Nat.le_refl _)).later
    exact h A' c'' y ho
end
end Go.Proofs.YtkfobolbilhjbaaGreat

namespace Go.Proofs.YtkfobolbilhjbaaGreat
open Go Go.RowKit
structure Elem1 (t e : TypeId) (z : Value) : Prop where
  under : Tryz.prog.underlying t = some (.slice e)
  info : ∃ i, Tryz.prog.info? e = some i ∧ i.zero = some z ∧ i.size = 1 ∧ i.bytes ≤ 64
  one : z.cells = #[z]
theorem Elem1.elem {t e : TypeId} {z : Value} (h : Elem1 t e z) : Elem t e 1 := by
  obtain ⟨i, h1, h2, h3, h4⟩ := h.info
  exact ⟨h.under, ⟨i, z, i.bytes, h1, h2, h3, rfl, by rw [h.one]; rfl, h4⟩, by omega⟩
theorem elemInt1 : Elem1 48 3 (.int .i64 0) := by
  have h : (Tryz.prog.info? 3).map (fun i => (i.zero, i.size, i.bytes)) = some (some (.int .i64 0), 1, 8) := by kernel_rfl
  obtain ⟨i, hi, hz, hs, hb⟩ := info_parts h
  exact ⟨Tryz.underlying48, ⟨i, hi, hz, hs, by omega⟩, rfl⟩
theorem elemU64 : Elem1 29 26 (.int .u64 0) := by
  have h : (Tryz.prog.info? 26).map (fun i => (i.zero, i.size, i.bytes)) = some (some (.int .u64 0), 1, 8) := by kernel_rfl
  obtain ⟨i, hi, hz, hs, hb⟩ := info_parts h
  exact ⟨Tryz.underlying29, ⟨i, hi, hz, hs, by omega⟩, rfl⟩
section
variable {w : World} {e : TypeId} {ops : Array Oper} {rest : List Oper} {o : Oper} {a : Act} {Q : Exit → Act → World → Prop}
theorem wp_make1 {t : TypeId} {z : Value} (E : Elem1 t e z) (hgd : o.guard = none) (l c : Operand) (ho : o.op = Op.makeSlice t l c) (w0 : World) (hw0 : Grows w0 w) (n : Nat) {L C : Int} (hl : a.eval l = .int .i64 L) (hc : a.eval c = .int .i64 C)
    (hL : L = (n : Int)) (hC : C = (n : Int)) (hn : n ≤ 1000000000)
    (h : ∀ g (y : Later w0), w0.heap.size ≤ g → Own y.now w0.heap.size e 1 (some ⟨g, 0, none⟩) n n (List.replicate n z) → wpList Tryz.prog ops Q rest (a.put o.dst (.slice (some ⟨g, 0, none⟩) n n)) y.now) :
    wpList Tryz.prog ops Q (o :: rest) a w := by
  obtain ⟨i, h1, h2, h3, h4⟩ := E.info
  refine wpList_make_full w hgd l c t ho w0.heap.size e i z 1 E.under h1 h2 h3 .i64 .i64 L C n hl hc hL hC ?_ (by unfold maxLen; omega) hw0.size ?_
  · have := Nat.mul_le_mul h4 hn; omega
  · intro w' hown hg
    have hg' : Grows w w' := ⟨hg.os, hg.tape, hg.output, hg.size, fun k hk => hg.block k hk (by simp)⟩
    obtain ⟨y, rfl⟩ := (hw0.trans hg').later
    rw [E.one, toList_madeCells_one, Nat.mul_one] at hown
    exact h _ y hw0.size hown
end
section
variable {w : World} {e : TypeId} {ops : Array Oper} {rest : List Oper} {o : Oper} {a : Act} {Q : Exit → Act → World → Prop}
theorem wp_appS {t : TypeId} {size : Nat} (E : Elem t e size) (hgd : o.guard = none) (s x : Operand) (ho : o.op = .call { callee := .builtin .append, args := #[s, x], argTypes := #[t, t] })
    (w0 : World) (hw0 : Grows w0 w) (n c : Nat) (A : Option Addr) (xs : List Value) (hs : a.eval s = .slice A n c) (hown : Own w w0.heap.size e size A n c xs) (g c' : Nat) (news : List Value) (hx : a.eval x = .slice (some ⟨g, 0, none⟩) 1 c')
    (hl : news.length = size) (hv : ∀ j u, news[j]? = some u → w.cell? ⟨g, j, none⟩ = some u) (h1 : ∀ u ∈ news, u.oneCell' = true) (hnm : n + 1 ≤ 1000000000000)
    (h : ∀ A' c'' (y : Later w0), Own y.now w0.heap.size e size A' (n + 1) c'' (xs ++ news) → wpList Tryz.prog ops Q rest (a.put o.dst (.slice A' (n + 1) c'')) y.now) :
    wpList Tryz.prog ops Q (o :: rest) a w := by
  refine wp_app E hgd s x ho w0.heap.size n c A xs hs hown g 1 c' news hx (by omega) hv h1 hnm hw0.size ?_
  intro A' c'' w' ho hg
  obtain ⟨y, rfl⟩ := (hg w0 hw0 (Nat.le_refl _)).later
  exact h A' c'' y ho
end
theorem MapII.row {w w' : World} {b n s B n' c size : Nat} {f : Int → Option Int} {e : TypeId} {A : Option Addr} {xs : List Value} (h : MapII w b n s f) (ho : Own w B e size A n' c xs) (hg : w.grownBy w' (Value.slice A n' c).ownBlock) : MapII w' b n s f := by
  obtain ⟨D, h1, h2⟩ := h
  refine ⟨D, h1.kept hg ?_, h2⟩
  obtain ⟨es, clock, hb, _⟩ := h1
  intro hc
  rcases ho.2 with ⟨h3, _⟩ | ⟨g, cap, cur, h3, _, h4, _⟩
  · injection h3 with h3
    subst h3
    simp [Value.ownBlock] at hc
  · injection h3 with h3
    subst h3
    simp [Value.ownBlock] at hc
    subst hc
    rw [hb] at h4
    cases h4
section
variable {w : World} {e : TypeId} {ops : Array Oper} {rest : List Oper} {o : Oper} {a : Act} {Q : Exit → Act → World → Prop}
theorem wp_app1M {t : TypeId} (E : Elem t e 1) (hgd : o.guard = none) (s x : Operand) (ho : o.op = .call { callee := .builtin .append, args := #[s, x], argTypes := #[t, t] })
    (w0 : World) (hw0 : Grows w0 w) (n c : Nat) (A : Option Addr) (xs : List Value) (hs : a.eval s = .slice A n c) (hown : Own w w0.heap.size e 1 A n c xs) (g c' : Nat) (v : Value) (hx : a.eval x = .slice (some ⟨g, 0, none⟩) 1 c')
    (hv : Holds w ⟨g, 0, none⟩ v) (h1 : v.oneCell' = true) (hnm : n + 1 ≤ 1000000000000)
    (h : ∀ A' c'' (y : Later w0), Own y.now w0.heap.size e 1 A' (n + 1) c'' (xs ++ [v]) → w.grownBy y.now (Value.slice A n c).ownBlock → wpList Tryz.prog ops Q rest (a.put o.dst (.slice A' (n + 1) c'')) y.now) :
    wpList Tryz.prog ops Q (o :: rest) a w := by
  obtain ⟨i, z, bytes, hi, hz, hsz, hby, hzs, hb64⟩ := E.info
  refine wpList_append_own w hgd s x t ho w0.heap.size e i z 1 bytes E.under hi hz hsz hby hzs E.pos (.slice A n c) n xs hs hown ⟨g, 0, none⟩ 1 c' [v] hx rfl (fun j u hu => ?_) (by intro u hu; simp at hu; rw [hu]; exact h1) (by unfold maxLen; omega) ?_ hw0.size ?_
  · have hj : j = 0 := by
      have := (List.getElem?_eq_some_iff.1 hu).1
      simpa using this
    subst hj
    simp at hu
    subst hu
    simpa [Addr.add] using hv.cell
  · exact Nat.le_trans (Nat.mul_le_mul hnm hb64) (by omega)
  · intro v' w' hown' hgr _
    obtain ⟨A', c'', rfl⟩ := own_form hown'
    have hgw : Grows w0 w' := by
      refine ⟨hgr.os.trans hw0.os, hgr.tape.trans hw0.tape, hgr.output.trans hw0.output, Nat.le_trans hw0.size hgr.size, fun k hk => ?_⟩
      refine (hgr.block k (Nat.lt_of_lt_of_le hk hw0.size) fun e => ?_).trans (hw0.block k hk)
      have := World.ownsRow.lt hown k e.symm
      omega
    obtain ⟨y, rfl⟩ := hgw.later
    exact h A' c'' y hown' hgr
end
theorem Own.put {w w0 : World} {n c j g : Nat} {e : TypeId} {xs : List Value} (h : Own w w0.heap.size e 1 (some ⟨g, 0, none⟩) n c xs) (hw0 : Grows w0 w) (hn : 0 < n) (u : Value) :
    ∃ y : Later w0, w.setCell ⟨g, j, none⟩ u = y.now ∧ Own y.now w0.heap.size e 1 (some ⟨g, 0, none⟩) n c (xs.set j u) := by
  obtain ⟨g', hA, hB, _⟩ := h.at hn
  injection hA with hA
  injection hA with hA
  subst hA
  exact ⟨⟨_, hw0.set hB u⟩, rfl, h.set rfl hn j u⟩
end Go.Proofs.YtkfobolbilhjbaaGreat

namespace Go.Proofs.YtkfobolbilhjbaaGreat
open Go Go.RowKit
theorem flat_len {α : Type} (f : α → List Value) (s : Nat) (hf : ∀ a, (f a).length = s) (L : List α) : (L.flatMap f).length = L.length * s := by
  induction L with
  | nil => simp
  | cons a L ih => rw [List.flatMap_cons, List.length_append, ih, hf, List.length_cons, Nat.succ_mul]; omega
theorem flat_get {α : Type} (f : α → List Value) (s : Nat) (hf : ∀ a, (f a).length = s) (d : α) : ∀ (L : List α) (k j : Nat), k < L.length → j < s → (L.flatMap f)[k * s + j]? = (f (L.getD k d))[j]?
  | a :: L, 0, j, _, hj => by rw [List.flatMap_cons, Nat.zero_mul, Nat.zero_add, List.getElem?_append_left (by rw [hf]; exact hj)]; rfl
  | a :: L, k + 1, j, hk, hj => by
    rw [List.flatMap_cons, List.getElem?_append_right (by rw [hf, Nat.succ_mul]; omega), hf]
    have := flat_get f s hf d L k j (by simpa using hk) hj
    rw [show (k + 1) * s + j - s = k * s + j by rw [Nat.succ_mul]; omega, this]
    rfl
theorem elemEdge : Elem 22 53 3 := by
  have h : (Tryz.prog.info? 53).map (fun i => (i.zero, i.size, i.bytes)) = some (some (.agg #[.int .i64 0, .int .i64 0, .int .u64 0]), 3, 24) := by kernel_rfl
  obtain ⟨i, hi, hz, hs, hb⟩ := info_parts h
  exact ⟨Tryz.underlying22, ⟨i, _, 24, hi, hz, hs, hb, rfl, by omega⟩, by omega⟩
theorem Own.empty (w : World) (e : TypeId) (B size : Nat) (hB : B ≤ w.heap.size) : Own (w.alloc (.cells #[] e)) B e size (some ⟨w.heap.size, 0, none⟩) 0 0 [] :=
  ⟨by simp, .inr ⟨w.heap.size, 0, #[], rfl, hB, (by show (w.heap.push _)[w.heap.size]? = _; simp), Nat.le_refl _, by unfold maxLen; omega, by simp, by simp⟩⟩
theorem add_pl2 (b off i : Nat) : (⟨b, off, none⟩ : Addr).add i = ⟨b, off + i, none⟩ := by
  unfold Addr.add
  split
  · rename_i h; rw [h, Nat.add_zero]
  · rfl
section
variable {w : World} {e : TypeId} {ops : Array Oper} {rest : List Oper} {o : Oper} {a : Act} {Q : Exit → Act → World → Prop}
theorem wp_appAll {t : TypeId} {size : Nat} (E : Elem t e size) (hgd : o.guard = none) (s x : Operand) (ho : o.op = .call { callee := .builtin .append, args := #[s, x], argTypes := #[t, t] })
    (w0 : World) (hw0 : Grows w0 w) (n c : Nat) (A : Option Addr) (xs : List Value) (hs : a.eval s = .slice A n c) (hown : Own w w0.heap.size e size A n c xs) (ad : Addr) (m d : Nat) (ys : List Value) (hx : a.eval x = .slice (some ad) m d)
    (hr : Rd w (some ad) size m ys) (h1 : ∀ u ∈ ys, u.oneCell' = true) (hnm : n + m ≤ 1000000000000)
    (h : ∀ A' c'' (y : Later w0), Own y.now w0.heap.size e size A' (n + m) c'' (xs ++ ys) → wpList Tryz.prog ops Q rest (a.put o.dst (.slice A' (n + m) c'')) y.now) :
    wpList Tryz.prog ops Q (o :: rest) a w := by
  obtain ⟨i, z, bytes, hi, hz, hsz, hby, hzs, hb64⟩ := E.info
  refine wpList_append_own w hgd s x t ho w0.heap.size e i z size bytes E.under hi hz hsz hby hzs E.pos (.slice A n c) n xs hs hown ad m d ys hx hr.1 (fun j u hu => ?_) h1 (by unfold maxLen; omega) ?_ hw0.size ?_
  · have hj := (List.getElem?_eq_some_iff.1 hu).1
    have hl := hr.1
    have hm : 0 < m := by
      rcases Nat.eq_zero_or_pos m with h0 | h0
      · subst h0; simp at hl; subst hl; simp at hj
      · exact h0
    obtain ⟨b, off, he, hc⟩ := hr.2 hm E.pos
    obtain rfl : ad = ⟨b, off, none⟩ := Option.some.inj he
    rw [add_pl2]
    exact hc j u hu
  · exact Nat.le_trans (Nat.mul_le_mul hnm hb64) (by omega)
  · intro v' w' hown' hgr _
    obtain ⟨A', c'', rfl⟩ := own_form hown'
    have hgw : Grows w0 w' := by
      refine ⟨hgr.os.trans hw0.os, hgr.tape.trans hw0.tape, hgr.output.trans hw0.output, Nat.le_trans hw0.size hgr.size, fun k hk => ?_⟩
      refine (hgr.block k (Nat.lt_of_lt_of_le hk hw0.size) fun e => ?_).trans (hw0.block k hk)
      have := World.ownsRow.lt hown k e.symm
      omega
    obtain ⟨y, rfl⟩ := hgw.later
    exact h A' c'' y hown'
end
section
variable {w : World} {e : TypeId} {ops : Array Oper} {o : Oper} {a : Act} {K : Act → World → Prop} {Q : Exit → Act → World → Prop} {F : Prop}
end
section
variable {P : Program}
end
section
variable {w : World} {e : TypeId} {ops : Array Oper} {o : Oper} {a : Act} {K : Act → World → Prop} {Q : Exit → Act → World → Prop} {F : Prop}
end
theorem Holds.other {w : World} {p q : Addr} {v : Value} (h : Holds w p v) (u : Value) (hne : q.block ≠ p.block) : Holds (w.setCell q u) p v :=
  ⟨by rw [World.cell?_setCell_other _ _ _ _ (fun e => hne (by rw [e]))]; exact h.cell⟩
theorem Rd.other {w : World} {A : Option Addr} {size n : Nat} {xs : List Value} {q : Addr} (h : Rd w A size n xs) (u : Value) (hne : ∀ b off, A = some ⟨b, off, none⟩ → q.block ≠ b) : Rd (w.setCell q u) A size n xs :=
  ⟨h.1, fun h1 h2 => by
    obtain ⟨b, off, e, hc⟩ := h.2 h1 h2
    exact ⟨b, off, e, fun j v hv => by rw [World.cell?_setCell_other _ _ _ _ (fun e' => hne b off e (by rw [e']))]; exact hc j v hv⟩⟩
end Go.Proofs.YtkfobolbilhjbaaGreat

namespace Go.Proofs.YtkfobolbilhjbaaGreat
open Go Go.RowKit
theorem div_two {b W y yn un32 un1 un0 q1 r1 q0 r0 : Nat} (hW : W = un32 * (b * b) + un1 * b + un0) (hy : y = yn * b) (h0 : un0 < b)
    (e1 : un32 = q1 * yn + r1) (e2 : r1 * b + un1 = q0 * yn + r0) (hr0 : r0 < yn) : W / y = q1 * b + q0 ∧ W % y = r0 * b + un0 := by
  have key : W = y * (q1 * b + q0) + (r0 * b + un0) := by
    have h3 : r1 * b * b + un1 * b = q0 * yn * b + r0 * b := by rw [← Nat.add_mul, e2, Nat.add_mul]
    rw [hW, hy, e1]
    have h2 : yn * b * (q1 * b + q0) = q1 * yn * (b * b) + q0 * yn * b := by
      rw [Nat.mul_add]
      congr 1
      · rw [Nat.mul_comm q1 yn]; simp only [Nat.mul_assoc]; congr 1; rw [← Nat.mul_assoc, Nat.mul_comm b q1, Nat.mul_assoc]
      · rw [Nat.mul_comm q0 yn]; simp only [Nat.mul_assoc]; congr 1; rw [Nat.mul_comm]
    have h4 : (q1 * yn + r1) * (b * b) = q1 * yn * (b * b) + r1 * b * b := by rw [Nat.add_mul, Nat.mul_assoc r1]
    rw [h2, h4]
    omega
  have hlt : r0 * b + un0 < y := by
    rw [hy]
    have h1 : (r0 + 1) * b ≤ yn * b := Nat.mul_le_mul_right _ hr0
    rw [Nat.succ_mul] at h1
    omega
  have hy0 : 0 < y := by omega
  rw [key]
  exact ⟨by rw [Nat.mul_add_div hy0, Nat.div_eq_of_lt hlt, Nat.add_zero], by rw [Nat.mul_add_mod, Nat.mod_eq_of_lt hlt]⟩
theorem div_shift {V d p W y : Nat} (hp : 0 < p) (_ : 0 < d) (hW : W = V * p) (hy : y = d * p) : W / y = V / d ∧ (W % y) / p = V % d := by
  rw [hW, hy]
  exact ⟨Nat.mul_div_mul_right _ _ hp, by rw [Nat.mul_mod_mul_right, Nat.mul_div_cancel _ hp]⟩
end Go.Proofs.YtkfobolbilhjbaaGreat

namespace Go.Proofs
open Go.Shelf
def Tryz.lays134_ren : Go.Shelf.Ren := ⟨fun | 134 => 60 | 129 => 74 | n => n, fun | 53 => 26 | 3 => 3 | 4 => 4 | 46 => 88 | 5 => 5 | 9 => 9 | n => n, fun | n => n⟩
theorem Tryz.lays134 : Go.Proofs.Lays.n134 Tryz.prog Tryz.lays134_ren := {
  mixed := by kernel_rfl
  f129 := Tryz.func74.trans (congrArg some (by kernel_rfl))
  f134 := Tryz.func60.trans (congrArg some (by kernel_rfl))
  t3 := Tryz.underlying3
  a3 := Tryz.isAgg3
  z3 := Tryz.sizeOf3
  v3 := Tryz.zeroValue3
  t4 := Tryz.underlying4
  a4 := Tryz.isAgg4
  z4 := Tryz.sizeOf4
  v4 := Tryz.zeroValue4
  t5 := Tryz.underlying5
  a5 := Tryz.isAgg5
  z5 := Tryz.sizeOf5
  v5 := Tryz.zeroValue5
  t9 := Tryz.underlying9
  a9 := Tryz.isAgg9
  z9 := Tryz.sizeOf9
  v9 := Tryz.zeroValue9
  t46 := Tryz.underlying88
  a46 := Tryz.isAgg88
  z46 := Tryz.sizeOf88
  v46 := Tryz.zeroValue88
  t53 := Tryz.underlying26
  a53 := Tryz.isAgg26
  z53 := Tryz.sizeOf26
  v53 := Tryz.zeroValue26 }
theorem Tryz.bits_LeadingZeros64 (x : Int) (w : World) (h0 : 0 ≤ x) (h1 : x ≤ 18446744073709551615) :
    Calls Tryz.prog 60 #[.int .u64 x] w fun e w' => e = .returned (.int .i64 (64 - (Lib.bitLen x.toNat : Int))) ∧ w' = w := Any.bits_LeadingZeros64 Tryz.lays134 x w h0 h1
def Tryz.lays129_ren : Go.Shelf.Ren := ⟨fun | 129 => 74 | n => n, fun | 53 => 26 | 3 => 3 | 4 => 4 | 46 => 88 | 5 => 5 | 9 => 9 | n => n, fun | n => n⟩
theorem Tryz.lays129 : Go.Proofs.Lays.n129 Tryz.prog Tryz.lays129_ren := {
  mixed := by kernel_rfl
  f129 := Tryz.func74.trans (congrArg some (by kernel_rfl))
  t3 := Tryz.underlying3
  a3 := Tryz.isAgg3
  z3 := Tryz.sizeOf3
  v3 := Tryz.zeroValue3
  t4 := Tryz.underlying4
  a4 := Tryz.isAgg4
  z4 := Tryz.sizeOf4
  v4 := Tryz.zeroValue4
  t5 := Tryz.underlying5
  a5 := Tryz.isAgg5
  z5 := Tryz.sizeOf5
  v5 := Tryz.zeroValue5
  t9 := Tryz.underlying9
  a9 := Tryz.isAgg9
  z9 := Tryz.sizeOf9
  v9 := Tryz.zeroValue9
  t46 := Tryz.underlying88
  a46 := Tryz.isAgg88
  z46 := Tryz.sizeOf88
  v46 := Tryz.zeroValue88
  t53 := Tryz.underlying26
  a53 := Tryz.isAgg26
  z53 := Tryz.sizeOf26
  v53 := Tryz.zeroValue26 }
theorem Tryz.bits_Len64 (x : Int) (w : World) (h0 : 0 ≤ x) (h1 : x ≤ 18446744073709551615) :
    Calls Tryz.prog 74 #[.int .u64 x] w fun e w' => e = .returned (.int .i64 (Lib.bitLen x.toNat)) ∧ w' = w := Any.bits_Len64 Tryz.lays129 x w h0 h1
def Tryz.lays264_ren : Go.Shelf.Ren := ⟨fun | 264 => 59 | n => n, fun | 53 => 26 | 46 => 88 | n => n, fun | n => n⟩
theorem Tryz.lays264 : Go.Proofs.Lays.n264 Tryz.prog Tryz.lays264_ren := {
  mixed := by kernel_rfl
  f264 := Tryz.func59.trans (congrArg some (by kernel_rfl))
  t46 := Tryz.underlying88
  a46 := Tryz.isAgg88
  z46 := Tryz.sizeOf88
  v46 := Tryz.zeroValue88
  t53 := Tryz.underlying26
  a53 := Tryz.isAgg26
  z53 := Tryz.sizeOf26
  v53 := Tryz.zeroValue26 }
open Go.RowKit Go.Lib in
theorem Tryz.bits_Mul64 (x y : Nat) (hx : x < 18446744073709551616) (hy : y < 18446744073709551616) (w : World) :
    Calls Tryz.prog 59 #[.int .u64 x, .int .u64 y] w fun e w' => e = .returned (.tuple #[.int .u64 ((x * y / 18446744073709551616 : Nat) : Int), .int .u64 ((x * y % 18446744073709551616 : Nat) : Int)]) ∧ w' = w := Any.bits_Mul64 Tryz.lays264 x y hx hy w
def Tryz.lays212_ren : Go.Shelf.Ren := ⟨fun | 212 => 75 | 263 => 88 | 264 => 59 | n => n, fun | 46 => 88 | 51 => 144 | 146 => 145 | 53 => 26 | 148 => 84 | n => n, fun | n => n⟩
theorem Tryz.lays212 : Go.Proofs.Lays.n212 Tryz.prog Tryz.lays212_ren := {
  mixed := by kernel_rfl
  f212 := Tryz.func75.trans (congrArg some (by kernel_rfl))
  f263 := Tryz.func88.trans (congrArg some (by kernel_rfl))
  f264 := Tryz.func59.trans (congrArg some (by kernel_rfl))
  t46 := Tryz.underlying88
  a46 := Tryz.isAgg88
  z46 := Tryz.sizeOf88
  v46 := Tryz.zeroValue88
  t51 := Tryz.underlying144
  a51 := Tryz.isAgg144
  z51 := Tryz.sizeOf144
  v51 := Tryz.zeroValue144
  t53 := Tryz.underlying26
  a53 := Tryz.isAgg26
  z53 := Tryz.sizeOf26
  v53 := Tryz.zeroValue26
  t146 := Tryz.underlying145
  a146 := Tryz.isAgg145
  z146 := Tryz.sizeOf145
  v146 := Tryz.zeroValue145
  t148 := Tryz.underlying84
  a148 := Tryz.isAgg84
  z148 := Tryz.sizeOf84
  v148 := Tryz.zeroValue84 }
open Go.RowKit Go.Lib in
theorem Tryz.bits_Mul (x y : Nat) (hx : x < 18446744073709551616) (hy : y < 18446744073709551616) (w : World) :
    Calls Tryz.prog 75 #[.int .u64 x, .int .u64 y] w fun e w' => e = .returned (.tuple #[.int .u64 ((x * y / 18446744073709551616 : Nat) : Int), .int .u64 ((x * y % 18446744073709551616 : Nat) : Int)]) ∧ w' = w := Any.bits_Mul Tryz.lays212 x y hx hy w
def Tryz.laysNm215_ren : Go.Shelf.Ren := ⟨fun | 15 => 84 | n => n, fun | 22 => 48 | 3 => 3 | 4 => 4 | n => n, fun | n => n⟩
theorem Tryz.laysNm215 : Go.Proofs.Lays2.n15 Tryz.prog Tryz.laysNm215_ren := {
  mixed := by kernel_rfl
  f15 := Tryz.func84.trans (congrArg some (by kernel_rfl))
  t3 := Tryz.underlying3
  a3 := Tryz.isAgg3
  z3 := Tryz.sizeOf3
  v3 := Tryz.zeroValue3
  t4 := Tryz.underlying4
  a4 := Tryz.isAgg4
  z4 := Tryz.sizeOf4
  v4 := Tryz.zeroValue4
  t22 := Tryz.underlying48
  a22 := Tryz.isAgg48
  z22 := Tryz.sizeOf48
  v22 := Tryz.zeroValue48
  i3 := by kernel_rfl }
open Go.RowKit Go.Lib in
theorem Tryz.slices_Clone_int (b off n c : Nat) (zs : List Int) (w : World) (hz : n ≤ zs.length) (hbig : n * 8 ≤ 140737488355328) (hc : ∀ j, j < zs.length → w.cell? ⟨b, off + j, none⟩ = some (.int .i64 (zs.getD j 0))) :
    Calls Tryz.prog 84 #[.slice (some ⟨b, off, none⟩) n c] w fun e w' => ∃ v', e = .returned v' ∧ w'.ownsRow w.heap.size 3 1 v' n ((zs.take n).map (Value.int .i64)) ∧ v' ≠ .slice none 0 0 ∧ Below w.heap.size w w' := Any.slices_Clone_int Tryz.laysNm215 b off n c zs w hz hbig hc
open Go.RowKit Go.Lib in
theorem Tryz.slices_Clone_int_nil (n c : Nat) (w : World) :
    Calls Tryz.prog 84 #[.slice none n c] w fun e w' => e = .returned (.slice none 0 0) ∧ w' = w := Any.slices_Clone_int_nil Tryz.laysNm215 n c w
open Go.RowKit Go.Lib in
theorem Tryz.slices_Clone_int_zero (a : Addr) (c : Nat) (w : World) :
    Calls Tryz.prog 84 #[.slice (some a) 0 c] w fun e w' => ∃ v', e = .returned v' ∧ w'.ownsRow w.heap.size 3 1 v' 0 [] ∧ v' ≠ .slice none 0 0 ∧ Below w.heap.size w w' := Any.slices_Clone_int_zero Tryz.laysNm215 a c w
def Tryz.laysSlE041_f71_ren : Go.Shelf.Ren := ⟨fun | 41 => 71 | n => n, fun | 22 => 29 | 23 => 26 | 4 => 4 | n => n, fun | n => n⟩
theorem Tryz.laysSlE041_f71 : Go.Proofs.SlLaysE0.n41 Tryz.prog Tryz.laysSlE041_f71_ren := {
  mixed := by kernel_rfl
  f41 := ⟨Tryz.f71.name, by decide, Tryz.func71.trans (congrArg some (by kernel_rfl))⟩
  t4 := Tryz.underlying4
  a4 := Tryz.isAgg4
  z4 := Tryz.sizeOf4
  v4 := Tryz.zeroValue4
  t22 := Tryz.underlying29
  a22 := Tryz.isAgg29
  z22 := Tryz.sizeOf29
  v22 := Tryz.zeroValue29 }
open Go.RowKit Go.Lib in
theorem Tryz.slices_Clone_f71 (i0 : TypeInfo) (z : Value) (size bytes : Nat) (hi : Tryz.prog.info? 26 = some i0) (hz0 : i0.zero = some z) (hz1 : i0.size = size) (hz2 : i0.bytes = bytes) (hzs : z.cells.size = size) (hsz : 0 < size) (z23 : ∀ w, (Go.sizeOf 26).run Tryz.prog w = .ok size w) (b off n c : Nat) (news : List Value) (w : World) (hl : news.length = n * size) (hn : n ≤ maxLen) (hbig : n * bytes ≤ 140737488355328) (hc : ∀ j u, news[j]? = some u → w.cell? ⟨b, off + j, none⟩ = some u) (h1 : ∀ u ∈ news, u.oneCell' = true) :
    Calls Tryz.prog 71 #[.slice (some ⟨b, off, none⟩) n c] w fun e w' => ∃ v', e = .returned v' ∧ w'.ownsRow w.heap.size 26 size v' n news ∧ v' ≠ .slice none 0 0 ∧ Below w.heap.size w w' := AnyE.slices_Clone Tryz.laysSlE041_f71 i0 z size bytes hi hz0 hz1 hz2 hzs hsz z23 b off n c news w hl hn hbig hc h1
def Tryz.laysSlE041_f84_ren : Go.Shelf.Ren := ⟨fun | 41 => 84 | n => n, fun | 22 => 48 | 23 => 3 | 4 => 4 | n => n, fun | n => n⟩
theorem Tryz.laysSlE041_f84 : Go.Proofs.SlLaysE0.n41 Tryz.prog Tryz.laysSlE041_f84_ren := {
  mixed := by kernel_rfl
  f41 := ⟨Tryz.f84.name, by decide, Tryz.func84.trans (congrArg some (by kernel_rfl))⟩
  t4 := Tryz.underlying4
  a4 := Tryz.isAgg4
  z4 := Tryz.sizeOf4
  v4 := Tryz.zeroValue4
  t22 := Tryz.underlying48
  a22 := Tryz.isAgg48
  z22 := Tryz.sizeOf48
  v22 := Tryz.zeroValue48 }
open Go.RowKit Go.Lib in
theorem Tryz.slices_Clone_f84 (i0 : TypeInfo) (z : Value) (size bytes : Nat) (hi : Tryz.prog.info? 3 = some i0) (hz0 : i0.zero = some z) (hz1 : i0.size = size) (hz2 : i0.bytes = bytes) (hzs : z.cells.size = size) (hsz : 0 < size) (z23 : ∀ w, (Go.sizeOf 3).run Tryz.prog w = .ok size w) (b off n c : Nat) (news : List Value) (w : World) (hl : news.length = n * size) (hn : n ≤ maxLen) (hbig : n * bytes ≤ 140737488355328) (hc : ∀ j u, news[j]? = some u → w.cell? ⟨b, off + j, none⟩ = some u) (h1 : ∀ u ∈ news, u.oneCell' = true) :
    Calls Tryz.prog 84 #[.slice (some ⟨b, off, none⟩) n c] w fun e w' => ∃ v', e = .returned v' ∧ w'.ownsRow w.heap.size 3 size v' n news ∧ v' ≠ .slice none 0 0 ∧ Below w.heap.size w w' := AnyE.slices_Clone Tryz.laysSlE041_f84 i0 z size bytes hi hz0 hz1 hz2 hzs hsz z23 b off n c news w hl hn hbig hc h1
open Go.RowKit Go.Lib in
theorem Tryz.slices_Clone_nil_f71 (n c : Nat) (w : World) :
    Calls Tryz.prog 71 #[.slice none n c] w fun e w' => e = .returned (.slice none 0 0) ∧ w' = w := AnyE.slices_Clone_nil Tryz.laysSlE041_f71 n c w
open Go.RowKit Go.Lib in
theorem Tryz.slices_Clone_nil_f84 (n c : Nat) (w : World) :
    Calls Tryz.prog 84 #[.slice none n c] w fun e w' => e = .returned (.slice none 0 0) ∧ w' = w := AnyE.slices_Clone_nil Tryz.laysSlE041_f84 n c w
end Go.Proofs

namespace Go.Proofs.YtkfobolbilhjbaaGreat
open Go Go.RowKit
attribute [local go_sem] Oper.semAt_some
theorem bitLen_spec : ∀ x : Nat, 0 < x → x < 2 ^ 64 → 2 ^ (Lib.bitLen x - 1) ≤ x ∧ x < 2 ^ (Lib.bitLen x) ∧ 1 ≤ Lib.bitLen x := by
  intro x
  induction x using Nat.strongRecOn with
  | ind x ih =>
    intro h0 h1
    rw [Lib.bitLen_half x (by omega) h1]
    rcases Nat.eq_zero_or_pos (x / 2) with h2 | h2
    · rw [h2, show Lib.bitLen 0 = 0 from rfl]
      simp
      omega
    · obtain ⟨a1, a2, a3⟩ := ih (x / 2) (by omega) h2 (by omega)
      generalize Lib.bitLen (x / 2) = b at *
      obtain ⟨b', rfl⟩ : ∃ b', b = b' + 1 := ⟨b - 1, by omega⟩
      rw [show 1 + (b' + 1) - 1 = b' + 1 by omega, show 1 + (b' + 1) = b' + 1 + 1 by omega]
      rw [Nat.add_sub_cancel] at a1
      refine ⟨?_, ?_, by omega⟩
      · rw [Nat.pow_succ]; omega
      · rw [Nat.pow_succ 2 (b' + 1)]; omega
structure DivF (hi lo d s Y yn H s' L1 u32 L0 u1 u0 q1 P r1 u21 q0 P0 r0 R : Nat) : Prop where
  e3 : d * 2 ^ s = Y
  y2 : Y < 18446744073709551616
  yn1 : Y = yn * 4294967296
  yn2 : 0 < yn ∧ yn < 4294967296
  e6 : hi * 2 ^ s = H
  e7 : s + s' = 64 ∧ 43 ≤ s ∧ s ≤ 63
  e9 : lo / 2 ^ s' = L1
  e10 : u32 = H + L1 ∧ u32 < Y
  or_ : L1 < 2 ^ s
  e11 : L0 = lo * 2 ^ s % 18446744073709551616
  l0 : L0 = u1 * 4294967296 + u0 ∧ u0 < 4294967296 ∧ u1 < 4294967296
  e14 : u32 / yn = q1 ∧ q1 < 4294967296
  e15 : q1 * yn = P ∧ u32 = P + r1 ∧ r1 < yn
  e22 : u21 = r1 * 4294967296 + u1
  e23 : u21 / yn = q0 ∧ q0 < 4294967296
  e24 : q0 * yn = P0 ∧ u21 = P0 + r0 ∧ r0 < yn
  e25 : R = r0 * 4294967296 + u0
  quo : (hi * 18446744073709551616 + lo) / d = q1 * 4294967296 + q0
  rem : (hi * 18446744073709551616 + lo) % d = R / 2 ^ s
theorem divF (hi lo d s : Nat) (hd : 1 ≤ d) (hd2 : d ≤ 1048576) (hh : hi < d) (hl : lo < 18446744073709551616) (hs : s = 64 - Lib.bitLen d) : ∃ Y yn H s' L1 u32 L0 u1 u0 q1 P r1 u21 q0 P0 r0 R, DivF hi lo d s Y yn H s' L1 u32 L0 u1 u0 q1 P r1 u21 q0 P0 r0 R := by
  obtain ⟨b1, b2, b3⟩ := bitLen_spec d hd (by omega)
  have b4 := Lib.bitLen_le d 21 (by omega) (by omega)
  generalize Lib.bitLen d = b at *
  have hs1 : 43 ≤ s ∧ s ≤ 63 ∧ s + b = 64 := by omega
  have p0 : 0 < 2 ^ s := Nat.pow_pos (by omega)
  have p1 : 2 ^ s = 2 ^ (s - 32) * 4294967296 := by rw [show (4294967296 : Nat) = 2 ^ 32 by decide, ← Nat.pow_add]; congr 1; omega
  have p2 : 2 ^ s * 2 ^ b = 18446744073709551616 := by rw [← Nat.pow_add, hs1.2.2]
  have hY : d * 2 ^ s < 18446744073709551616 := by
    rw [← p2, Nat.mul_comm (2 ^ s)]
    exact Nat.mul_lt_mul_of_pos_right b2 p0
  have hyn : d * 2 ^ s = d * 2 ^ (s - 32) * 4294967296 := by rw [p1, Nat.mul_assoc]
  have hyp : 0 < d * 2 ^ (s - 32) := Nat.mul_pos (by omega) (Nat.pow_pos (by omega))
  -- the parts of lo
  have hb0 : 0 < 2 ^ b := Nat.pow_pos (by omega)
  have l1 : lo / 2 ^ b < 2 ^ s := by
    rw [Nat.div_lt_iff_lt_mul hb0, p2]
    exact hl
  have l2 : lo * 2 ^ s = lo / 2 ^ b * 18446744073709551616 + lo % 2 ^ b * 2 ^ s := by
    have h1 := Nat.div_add_mod lo (2 ^ b)
    rw [← p2]
    have h2 : lo * 2 ^ s = (2 ^ b * (lo / 2 ^ b) + lo % 2 ^ b) * 2 ^ s := by rw [h1]
    rw [h2, Nat.add_mul, Nat.mul_comm (2 ^ b) (lo / 2 ^ b), Nat.mul_assoc, Nat.mul_comm (2 ^ b) (2 ^ s)]
  have l3 : lo % 2 ^ b * 2 ^ s < 18446744073709551616 := by
    rw [← p2, Nat.mul_comm (2 ^ s)]
    exact Nat.mul_lt_mul_of_pos_right (Nat.mod_lt _ hb0) p0
  have hu : hi * 2 ^ s + lo / 2 ^ b < d * 2 ^ s := by
    have h1 : (hi + 1) * 2 ^ s ≤ d * 2 ^ s := Nat.mul_le_mul_right _ hh
    rw [Nat.succ_mul] at h1
    omega
  obtain ⟨Y, eY⟩ : ∃ Y, Y = d * 2 ^ s := ⟨_, rfl⟩
  obtain ⟨yn, eyn⟩ : ∃ yn, yn = d * 2 ^ (s - 32) := ⟨_, rfl⟩
  obtain ⟨L0, eL0⟩ : ∃ L0, L0 = lo % 2 ^ b * 2 ^ s := ⟨_, rfl⟩
  obtain ⟨u32, eu⟩ : ∃ u, u = hi * 2 ^ s + lo / 2 ^ b := ⟨_, rfl⟩
  have hL0 : L0 = lo * 2 ^ s % 18446744073709551616 := by rw [l2, ← eL0]; omega
  rw [← eY] at hY hyn hu
  rw [← eyn] at hyn hyp
  rw [← eL0] at l2 l3
  rw [← eu] at hu
  have d1 := Nat.div_add_mod u32 yn
  have m1 := Nat.mod_lt u32 hyp
  have q1lt : u32 / yn < 4294967296 := by rw [Nat.div_lt_iff_lt_mul hyp, Nat.mul_comm, ← hyn]; exact hu
  obtain ⟨u21, eu21⟩ : ∃ u, u = u32 % yn * 4294967296 + L0 / 4294967296 := ⟨_, rfl⟩
  have d2 := Nat.div_add_mod u21 yn
  have m2 := Nat.mod_lt u21 hyp
  have q0lt : u21 / yn < 4294967296 := by
    rw [Nat.div_lt_iff_lt_mul hyp, Nat.mul_comm]
    have : L0 / 4294967296 < 4294967296 := by omega
    omega
  have hW : (hi * 18446744073709551616 + lo) * 2 ^ s = u32 * (4294967296 * 4294967296) + L0 / 4294967296 * 4294967296 + L0 % 4294967296 := by
    rw [Nat.add_mul, l2, eu]
    have h1 : hi * 18446744073709551616 * 2 ^ s = hi * 2 ^ s * 18446744073709551616 := by rw [Nat.mul_assoc, Nat.mul_comm 18446744073709551616, ← Nat.mul_assoc]
    rw [h1]
    generalize hi * 2 ^ s = a
    omega
  obtain ⟨t1, t2⟩ := div_two hW hyn (by omega) (show u32 = u32 / yn * yn + u32 % yn by rw [Nat.mul_comm]; omega) (show u32 % yn * 4294967296 + L0 / 4294967296 = u21 / yn * yn + u21 % yn by rw [← eu21, Nat.mul_comm]; omega) m2
  obtain ⟨t3, t4⟩ := div_shift (V := hi * 18446744073709551616 + lo) (d := d) (p := 2 ^ s) (y := Y) p0 (by omega) rfl eY
  rw [t1] at t3
  rw [t2] at t4
  exact ⟨Y, yn, hi * 2 ^ s, b, lo / 2 ^ b, u32, L0, L0 / 4294967296, L0 % 4294967296, u32 / yn, u32 / yn * yn, u32 % yn, u21, u21 / yn, u21 / yn * yn, u21 % yn, u21 % yn * 4294967296 + L0 % 4294967296,
    eY.symm, hY, hyn, ⟨hyp, by omega⟩, rfl, ⟨by omega, by omega, by omega⟩, rfl, ⟨eu, hu⟩, l1, hL0, ⟨by omega, by omega, by omega⟩, ⟨rfl, q1lt⟩, ⟨rfl, by rw [Nat.mul_comm]; omega, m1⟩, eu21, ⟨rfl, q0lt⟩, ⟨rfl, by rw [Nat.mul_comm]; omega, m2⟩, rfl, t3.symm, t4.symm⟩
end Go.Proofs.YtkfobolbilhjbaaGreat

namespace Go.Proofs.YtkfobolbilhjbaaGreat
open Go Go.RowKit
attribute [local go_sem] Oper.semAt_some
theorem wrapN (a : Nat) : IntKind.u64.wrap (a : Int) = ((a % 18446744073709551616 : Nat) : Int) := by rw [IntKind.wrap_u64]; omega
theorem wrapI {a : Nat} (h : a < 18446744073709551616) : IntKind.u64.wrap (a : Int) = (a : Int) := by rw [IntKind.wrap_u64]; omega
theorem wrap3 (A B C : Int) : IntKind.u64.wrap (IntKind.u64.wrap (IntKind.u64.wrap A + B) - IntKind.u64.wrap C) = IntKind.u64.wrap (A + B - C) := by
  simp only [IntKind.wrap_u64]
  rw [Int.emod_add_emod, ← Int.sub_emod]
theorem wrap2 (A B : Int) : IntKind.u64.wrap (IntKind.u64.wrap A + B) = IntKind.u64.wrap (A + B) := by
  simp only [IntKind.wrap_u64]
  rw [Int.emod_add_emod]
set_option maxRecDepth 20000 in
set_option maxHeartbeats 4000000 in
theorem bDiv64 (hi lo d : Nat) (hd : 1 ≤ d) (hd2 : d ≤ 1048576) (hh : hi < d) (hl : lo < 18446744073709551616) (w : World) : Calls Tryz.prog 41 #[.int .u64 (hi : Int), .int .u64 (lo : Int), .int .u64 (d : Int)] w fun e w' => e = .returned (.tuple #[.int .u64 (((hi * 18446744073709551616 + lo) / d : Nat) : Int), .int .u64 (((hi * 18446744073709551616 + lo) % d : Nat) : Int)]) ∧ Grows w w' := by
  have hd0 : ((d : Int) == 0) = false := beq_eq_false_iff_ne.2 (by omega)
  by_cases h0 : hi = 0
  · subst h0
    have hy0 : ¬ d ≤ 0 := by omega
    have hlt : lo / d < 18446744073709551616 := Nat.lt_of_le_of_lt (Nat.div_le_self _ _) hl
    have hlm : lo % d < 18446744073709551616 := by have := Nat.mod_lt lo (show 0 < d by omega); omega
    have E1 : IntKind.u64.wrap ((lo : Int).tdiv (d : Int)) = ((lo / d : Nat) : Int) := by
      rw [Int.tdiv_eq_ediv_of_nonneg (by omega), ← Int.natCast_ediv]
      exact wrapI hlt
    have E2 : (lo : Int).tmod (d : Int) = ((lo % d : Nat) : Int) := by
      rw [Int.tmod_eq_emod_of_nonneg (by omega), ← Int.natCast_emod]
    rw [Nat.zero_mul, Nat.zero_add]
    have hdn : ¬ (d : Int) = 0 := by omega
    have hd9 : decide ((d : Int) ≤ 0) = false := decide_eq_false (by omega)
    generalize lo / d = quo at *
    generalize lo % d = rem at *
    clear hd hd2 hl hlt hlm hy0 hh
    generalize (lo : Int) = loI at *
    generalize (d : Int) = dI at *
    generalize (quo : Int) = quoI at *
    generalize (rem : Int) = remI at *
    go_enter Tryz.func41, Tryz.ntmps41
    go_wp2_with fail
    ((first | refine wp_region_gen (by kernel_rfl) (by kernel_rfl) ?_); (repeat' ((first | refine gLex_val0 rfl (by kernel_rfl) (fun K hK => ?_) | refine gLex_undef rfl rfl rfl (by kernel_rfl) (fun K hK => ?_) | (refine gLex_ask rfl rfl rfl ?_; first | (apply gAsk_yes; kernel_rfl; intro K hK) | ((first | apply gAsk_no1 | apply gAsk_no2); kernel_rfl; intro K hK) | (apply gAsk_part; kernel_rfl; all_goals (intro h K hK; (try simp only [Bool.not_true] at h); (try simp only [Bool.not_false] at h); (try simp only [decide_eq_true_eq] at h); (try simp only [decide_eq_false_iff_not] at h); try (exfalso; first | contradiction | omega))))) <;> (go_simp; (try (simp only [↓IntWalk.iteOmega]; try go_simp)); (try simp (disch := omega) only [IntWalk.i64_in]); (try simp (disch := omega) only [IntWalk.u64_in]); refine hK _ ?_; clear hK K))); all_goals ((apply gLex_end); intro x1))
    go_wp2_with fail
    exact bodyPost_ret (v := .tuple #[.int .u64 quoI, .int .u64 remI]) (by simp (maxDischargeDepth := 6) [results, Tryz.results41, go_sem]) rfl ⟨rfl, x1.grows⟩
  · have hne : ((hi : Int) == 0) = false := beq_eq_false_iff_ne.2 (by omega)
    have hnl : ¬ d ≤ hi := by omega
    obtain ⟨s, hs⟩ : ∃ s, s = 64 - Lib.bitLen d := ⟨_, rfl⟩
    have CL := hide (fun (X : World) => show Calls Tryz.prog 60 #[.int .u64 (d : Int)] X fun e w' => e = .returned (.int .i64 (s : Int)) ∧ X = w' from by
      refine (Tryz.bits_LeadingZeros64 (d : Int) X (by omega) (by omega)).mono ?_
      rintro e w' ⟨rfl, rfl⟩
      have := Lib.bitLen_le d 64 (Nat.le_refl _) (by omega)
      rw [Int.toNat_natCast, hs]
      exact ⟨by rw [Int.natCast_sub this]; rfl, rfl⟩)
    obtain ⟨Y, yn, H, s', L1, u32, L0, u1, u0, q1, P, r1, u21, q0, P0, r0, R, F⟩ := divF hi lo d s hd hd2 hh hl hs
    have hF := hide F
    obtain ⟨quo, hquo⟩ : ∃ quo, quo = q1 * 4294967296 + q0 := ⟨_, rfl⟩
    obtain ⟨rem, hrem⟩ : ∃ rem, rem = R / 2 ^ s := ⟨_, rfl⟩
    rw [F.quo, F.rem, ← hquo, ← hrem]
    have f1 := F.e7
    have f2 := F.y2
    have f3 := F.yn2
    have f4 := F.e10
    have f5 := F.l0
    have f6 := F.e14
    have f7 := F.e15
    have f8 := F.e23
    have f9 := F.e24
    have f10 := F.e25
    have f11 := F.yn1
    have f12 := F.e22
    have E1 : IntKind.u64.wrap (s : Int) = (s : Int) := wrapI (by omega)
    have E2 : min s 64 = s := by omega
    have E3 : IntKind.u64.wrap ((d : Int) * 2 ^ s) = (Y : Int) := by
      rw [show (d : Int) * 2 ^ s = ((d * 2 ^ s : Nat) : Int) by simp, F.e3]
      exact wrapI F.y2
    have E4 : (Y : Int) / 4294967296 = (yn : Int) := by rw [F.yn1]; omega
    have E5 : bits .and .u64 (Y : Int) 4294967295 = 0 := by rw [Go.Proofs.Mul64.maskN Y F.y2]; omega
    have E6 : IntKind.u64.wrap ((hi : Int) * 2 ^ s) = (H : Int) := by
      rw [show (hi : Int) * 2 ^ s = ((hi * 2 ^ s : Nat) : Int) by simp, F.e6]
      exact wrapI (by omega)
    have E7 : IntKind.u64.wrap (64 - (s : Int)) = (s' : Int) := by rw [show (64 : Int) - (s : Int) = (s' : Int) by omega]; exact wrapI (by omega)
    have E8 : min s' 64 = s' := by omega
    have E9 : (lo : Int) / 2 ^ s' = (L1 : Int) := by rw [show (2 : Int) ^ s' = ((2 ^ s' : Nat) : Int) by simp, ← Int.natCast_ediv, F.e9]
    have E10 : bits .or .u64 (H : Int) (L1 : Int) = (u32 : Int) := by
      rw [bits_or_u64_nat H L1 (by omega) (by omega), ← F.e6, Nat.mul_comm, ← Nat.two_pow_add_eq_or_of_lt F.or_, Nat.mul_comm, F.e6, f4.1]
    have E11 : IntKind.u64.wrap ((lo : Int) * 2 ^ s) = (L0 : Int) := by
      rw [show (lo : Int) * 2 ^ s = ((lo * 2 ^ s : Nat) : Int) by simp, wrapN, ← F.e11]
    have E12 : (L0 : Int) / 4294967296 = (u1 : Int) := by omega
    have E13 : bits .and .u64 (L0 : Int) 4294967295 = (u0 : Int) := by rw [Go.Proofs.Mul64.maskN L0 (by omega)]; omega
    have E14 : IntKind.u64.wrap ((u32 : Int).tdiv (yn : Int)) = (q1 : Int) := by
      rw [Int.tdiv_eq_ediv_of_nonneg (by omega), ← Int.natCast_ediv, f6.1]
      exact wrapI (by omega)
    have E15 : IntKind.u64.wrap ((q1 : Int) * (yn : Int)) = (P : Int) := by rw [← Int.natCast_mul, f7.1]; exact wrapI (by omega)
    have E16 : IntKind.u64.wrap ((u32 : Int) - (P : Int)) = (r1 : Int) := by rw [show (u32 : Int) - (P : Int) = (r1 : Int) by omega]; exact wrapI (by omega)
    obtain ⟨R1, hR1⟩ : ∃ R1 : Nat, IntKind.u64.wrap (4294967296 * (r1 : Int)) = (R1 : Int) ∧ R1 < 18446744073709551616 := ⟨4294967296 * r1 % 18446744073709551616, by rw [show (4294967296 : Int) * (r1 : Int) = ((4294967296 * r1 : Nat) : Int) by omega]; exact wrapN _, Nat.mod_lt _ (by omega)⟩
    obtain ⟨E17, _⟩ := hR1
    obtain ⟨R2, E18⟩ : ∃ R2 : Nat, IntKind.u64.wrap ((R1 : Int) + (u1 : Int)) = (R2 : Int) := ⟨(R1 + u1) % 18446744073709551616, by rw [← Int.natCast_add]; exact wrapN _⟩
    have E19 : IntKind.u64.wrap (IntKind.u64.wrap (IntKind.u64.wrap ((u32 : Int) * 4294967296) + (u1 : Int)) - IntKind.u64.wrap ((q1 : Int) * (Y : Int))) = (u21 : Int) := by
      have h1 : (q1 : Int) * (Y : Int) = (P : Int) * 4294967296 := by rw [f11, Int.natCast_mul, ← Int.mul_assoc, ← Int.natCast_mul, f7.1]; rfl
      rw [h1, wrap3, show (u32 : Int) * 4294967296 + (u1 : Int) - (P : Int) * 4294967296 = (u21 : Int) by omega]
      exact wrapI (by omega)
    have E23 : IntKind.u64.wrap ((u21 : Int).tdiv (yn : Int)) = (q0 : Int) := by
      rw [Int.tdiv_eq_ediv_of_nonneg (by omega), ← Int.natCast_ediv, f8.1]
      exact wrapI (by omega)
    have E24 : IntKind.u64.wrap ((q0 : Int) * (yn : Int)) = (P0 : Int) := by rw [← Int.natCast_mul, f9.1]; exact wrapI (by omega)
    have E25 : IntKind.u64.wrap ((u21 : Int) - (P0 : Int)) = (r0 : Int) := by rw [show (u21 : Int) - (P0 : Int) = (r0 : Int) by omega]; exact wrapI (by omega)
    obtain ⟨R3, hR3⟩ : ∃ R3 : Nat, IntKind.u64.wrap (4294967296 * (r0 : Int)) = (R3 : Int) ∧ R3 < 18446744073709551616 := ⟨4294967296 * r0 % 18446744073709551616, by rw [show (4294967296 : Int) * (r0 : Int) = ((4294967296 * r0 : Nat) : Int) by omega]; exact wrapN _, Nat.mod_lt _ (by omega)⟩
    obtain ⟨E26, _⟩ := hR3
    obtain ⟨R4, E27⟩ : ∃ R4 : Nat, IntKind.u64.wrap ((R3 : Int) + (u0 : Int)) = (R4 : Int) := ⟨(R3 + u0) % 18446744073709551616, by rw [← Int.natCast_add]; exact wrapN _⟩
    have E28 : IntKind.u64.wrap (IntKind.u64.wrap ((q1 : Int) * 4294967296) + (q0 : Int)) = (quo : Int) := by
      rw [wrap2, show (q1 : Int) * 4294967296 + (q0 : Int) = (quo : Int) by omega]
      exact wrapI (by omega)
    have E29 : IntKind.u64.wrap (IntKind.u64.wrap (IntKind.u64.wrap ((u21 : Int) * 4294967296) + (u0 : Int)) - IntKind.u64.wrap ((q0 : Int) * (Y : Int))) = (R : Int) := by
      have h1 : (q0 : Int) * (Y : Int) = (P0 : Int) * 4294967296 := by rw [f11, Int.natCast_mul, ← Int.mul_assoc, ← Int.natCast_mul, f9.1]; rfl
      rw [h1, wrap3, show (u21 : Int) * 4294967296 + (u0 : Int) - (P0 : Int) * 4294967296 = (R : Int) by omega]
      exact wrapI (by omega)
    have E30 : (R : Int) / 2 ^ s = (rem : Int) := by rw [hrem, Int.natCast_ediv]; simp
    have hyn0 : ((yn : Int) == 0) = false := beq_eq_false_iff_ne.2 (by omega)
    have hyn1 : ¬ (yn : Int) = 0 := by omega
    have hq1 : decide ((4294967296 : Int) ≤ (q1 : Int)) = false := decide_eq_false (by omega)
    have hq0 : decide ((4294967296 : Int) ≤ (q0 : Int)) = false := decide_eq_false (by omega)
    have hR2 : decide ((R2 : Int) < 0) = false := decide_eq_false (by omega)
    have hR4 : decide ((R4 : Int) < 0) = false := decide_eq_false (by omega)
    have hdl : decide ((d : Int) ≤ (hi : Int)) = false := decide_eq_false (by omega)
    have T1 : (s : Int).toNat = s := Int.toNat_natCast s
    have T2 : (s' : Int).toNat = s' := Int.toNat_natCast s'
    have W0 : IntKind.u64.wrap 0 = 0 := rfl
    have P1 : (0 : Int) ≤ (u32 : Int) := by omega
    have P2 : (0 : Int) ≤ (u21 : Int) := by omega
    have P3 : (0 : Int) ≤ (yn : Int) := by omega
    have P4 : ¬ (s : Int) < 0 := by omega
    have P5 : ¬ (s' : Int) < 0 := by omega
    clear f1 f2 f3 f4 f5 f6 f7 f8 f9 f10 f11 f12 F hs hF hquo hrem hd hd2 hl hh hnl h0
    generalize (hi : Int) = hiI at *
    generalize (lo : Int) = loI at *
    generalize (d : Int) = dI at *
    generalize (s : Int) = sI at *
    generalize (s' : Int) = spI at *
    generalize (Y : Int) = YI at *
    generalize (yn : Int) = ynI at *
    generalize (H : Int) = HI at *
    generalize (L1 : Int) = L1I at *
    generalize (u32 : Int) = u32I at *
    generalize (L0 : Int) = L0I at *
    generalize (u1 : Int) = u1I at *
    generalize (u0 : Int) = u0I at *
    generalize (q1 : Int) = q1I at *
    generalize (P : Int) = PI at *
    generalize (r1 : Int) = r1I at *
    generalize (R1 : Int) = R1I at *
    generalize (R2 : Int) = R2I at *
    generalize (u21 : Int) = u21I at *
    generalize (q0 : Int) = q0I at *
    generalize (P0 : Int) = P0I at *
    generalize (r0 : Int) = r0I at *
    generalize (R3 : Int) = R3I at *
    generalize (R4 : Int) = R4I at *
    generalize (R : Int) = RI at *
    generalize (rem : Int) = remI at *
    generalize (quo : Int) = quoI at *
    go_enter Tryz.func41, Tryz.ntmps41
    go_wp2_with (go_at_call 60; refine (CL.out _).mono ?_; rintro e w' ⟨rfl, rfl⟩)
    go_loopw [15, 16] (fun a b wr => a = .int .u64 q1I ∧ b = .int .u64 r1I ∧ wr = w) (fun _ _ _ => 0)
    case atStart => exact ⟨rfl, rfl, rfl⟩
    case round =>
      obtain ⟨rfl, rfl, rfl⟩ := hrel
      go_wp2_with fail
      go_loopw [16, 18] (fun a b wr' => a = .int .u64 r0I ∧ b = .int .u64 q0I ∧ wr' = wr) (fun _ _ _ => 0)
      case atStart => exact ⟨rfl, rfl, rfl⟩
      case round =>
        obtain ⟨rfl, rfl, rfl⟩ := hrel
        go_wp2_with fail
        exact bodyPost_ret (v := .tuple #[.int .u64 quoI, .int .u64 remI]) (by simp (maxDischargeDepth := 6) [results, Tryz.results41, go_sem]) rfl ⟨rfl, Grows.refl _⟩
end Go.Proofs.YtkfobolbilhjbaaGreat

namespace Go.Proofs.YtkfobolbilhjbaaGreat
open Go Go.RowKit
set_option maxHeartbeats 400000 in
theorem ratioRight1 (n l : Int) (w : World) :
    Calls Tryz.prog 33 #[.int .u64 n, .int .u64 l] w fun e w' => e = .returned (.bool (decide (l ≤ n ∧ n ≤ 1048576))) ∧ w = w' := by
  go_enter Tryz.func33, Tryz.ntmps33
  go_wp2
  all_goals go_ret
  all_goals exact ⟨ret_bool (by simp; try omega), rfl⟩

def rrB (a b : Int) : Bool := decide (0 ≤ a ∧ a ≤ 1048576 ∧ 1 ≤ b ∧ b ≤ 1048576)
set_option maxHeartbeats 400000 in
theorem ratioRight (a b : Int) (w : World) :
    Calls Tryz.prog 16 #[.agg #[.int .u64 a, .int .u64 b]] w fun e w' => e = .returned (.bool (rrB a b)) ∧ Grows w w' := by
  go_enter Tryz.func16, Tryz.ntmps16
  go_wp2_with (first | (go_at_call 33; refine (ratioRight1 _ _ _).mono ?_; rintro e w' ⟨rfl, rfl⟩))
  all_goals go_ret
  all_goals exact ⟨ret_bool (bool_ext (by unfold rrB; simp; try omega)), GG⟩

def hiP (a b : Int) : Int := a * b / 18446744073709551616
def loP (a b : Int) : Int := a * b % 18446744073709551616

set_option maxHeartbeats 400000 in
theorem ratioTimes (a b : Int) (w : World) (ha : U64 a) (hb : U64 b) :
    Calls Tryz.prog 40 #[.int .u64 a, .int .u64 b] w fun e w' => e = .returned (.agg #[.int .u64 (hiP a b), .int .u64 (loP a b)]) ∧ Grows w w' := by
  obtain ⟨a, rfl, ha'⟩ := ha.nat
  obtain ⟨b, rfl, hb'⟩ := hb.nat
  have H := hide ha'
  have K := hide hb'
  clear ha hb ha' hb'
  go_enter Tryz.func40, Tryz.ntmps40
  go_wp2_with (go_at_call 59; refine (Tryz.bits_Mul64 _ _ H.out K.out _).mono ?_; rintro e w' ⟨rfl, rfl⟩)
  exact bodyPost_ret (v := .agg #[.int .u64 (hiP a b), .int .u64 (loP a b)]) (by simp [results, Tryz.results40, go_sem, hiP, loP]) rfl ⟨rfl, GG⟩

end Go.Proofs.YtkfobolbilhjbaaGreat

namespace Go.Proofs.YtkfobolbilhjbaaGreat
open Go Go.RowKit
set_option maxHeartbeats 400000 in
theorem rRight (a b : Int) (w : World) (ha : U64 a) :
    Calls Tryz.prog 18 #[.agg #[.int .u64 a, .int .u64 b]] w fun e w' => e = .returned (.bool (rrB a b)) ∧ Grows w w' := by
  have H := hide ha
  clear ha
  go_enter Tryz.func18, Tryz.ntmps18
  go_wp2
  all_goals go_ret
  all_goals exact ⟨ret_bool (bool_ext (by have := H.out.1; unfold rrB; simp; try omega)), GG⟩

theorem times_plain (a b : Int) (ha : U64 a) (hb : 0 ≤ b ∧ b ≤ 2097152) :
    IntKind.u64.wrap (IntKind.u64.wrap (a / 4294967296 * b) / 4294967296 + IntKind.u64.wrap ((IntKind.u64.wrap (a / 4294967296 * b)).tmod 4294967296 + IntKind.u64.wrap (a.tmod 4294967296 * b) / 4294967296) / 4294967296) = a * b / 18446744073709551616 ∧
    (IntKind.u64.wrap ((IntKind.u64.wrap (a / 4294967296 * b)).tmod 4294967296 + IntKind.u64.wrap (a.tmod 4294967296 * b) / 4294967296)).tmod 4294967296 = a * b / 4294967296 % 4294967296 ∧
    (IntKind.u64.wrap (a.tmod 4294967296 * b)).tmod 4294967296 = a * b % 4294967296 := by
  obtain ⟨h0, h1⟩ := ha
  obtain ⟨b0, b1⟩ := hb
  have e1 : a.tmod 4294967296 = a % 4294967296 := Int.tmod_eq_emod_of_nonneg h0
  have hp : ∀ x : Int, 0 ≤ x → x < 4294967296 → 0 ≤ x * b ∧ x * b ≤ 4294967295 * 2097152 := fun x hx hx' =>
    ⟨Int.mul_nonneg hx b0, Int.mul_le_mul (by omega) b1 b0 (by omega)⟩
  have p1 := hp (a / 4294967296) (by omega) (by omega)
  have p2 := hp (a % 4294967296) (by omega) (by omega)
  have hab : a * b = (a / 4294967296 * b) * 4294967296 + a % 4294967296 * b := by
    have : a = a / 4294967296 * 4294967296 + a % 4294967296 := by omega
    conv => lhs; rw [this]
    rw [Int.add_mul, Int.mul_assoc, Int.mul_comm 4294967296 b, Int.mul_assoc]
  rw [hab, e1]
  generalize a / 4294967296 * b = x at *
  generalize a % 4294967296 * b = y at *
  rw [IntWalk.u64_in x (by omega), IntWalk.u64_in y (by omega), Int.tmod_eq_emod_of_nonneg p1.1, Int.tmod_eq_emod_of_nonneg p2.1, IntWalk.u64_in (x % 4294967296 + y / 4294967296) (by omega),
    Int.tmod_eq_emod_of_nonneg (by omega), IntWalk.u64_in _ (by omega)]
  refine ⟨by omega, by omega, by omega⟩

set_option maxHeartbeats 400000 in
theorem rTimes (a b : Int) (w : World) (ha : U64 a) (hb : 0 ≤ b ∧ b ≤ 2097152) :
    Calls Tryz.prog 45 #[.int .u64 a, .int .u64 b] w fun e w' => e = .returned (.agg #[.int .u64 (a * b / 18446744073709551616), .int .u64 (a * b / 4294967296 % 4294967296), .int .u64 (a * b % 4294967296)]) ∧ Grows w w' := by
  have H := hide ha
  have K := hide hb
  clear ha hb
  go_enter Tryz.func45, Tryz.ntmps45
  go_wp2
  refine bodyPost_ret (v := .agg #[.int .u64 (a * b / 18446744073709551616), .int .u64 (a * b / 4294967296 % 4294967296), .int .u64 (a * b % 4294967296)]) ?_ rfl ⟨rfl, GG⟩
  obtain ⟨h1, h2, h3⟩ := times_plain a b H.out K.out
  simp [results, Tryz.results45, go_sem, h1, h2, h3]
theorem rrB_spec {a b : Int} (h : rrB a b = true) : 0 ≤ a ∧ a ≤ 1048576 ∧ 1 ≤ b ∧ b ≤ 1048576 := by simpa [rrB] using h

end Go.Proofs.YtkfobolbilhjbaaGreat

