/- More rules for worlds that come later: what a cell holds, found by looking back as far as need be. -/
import Derived.Test.YtpnncadglhlclaaMem
namespace Go.Proofs.Ytpnncadglhlclaa
open Go Go.RowKit
theorem alloc_fz (w : World) (o : Obj) {p : Addr} (h : (w.cell? p).isSome = true) : (w.alloc o).frozen? p = w.frozen? p := Below.frozen ((Grows.refl w).new o) (cell_lt h)
attribute [go_sem] alloc_fz
theorem Grows.later3 {w w' : World} {y : Later w} {o : Obj} (h : Grows (y.now.alloc o) w') : ∃ x : Later w, w' = x.now := ⟨⟨w', (y.grows.new o).trans h⟩, rfl⟩
theorem Grows.later4 {w w' : World} {y : Later w} {o o' : Obj} (h : Grows ((y.now.alloc o).alloc o') w') : ∃ x : Later w, w' = x.now := ⟨⟨w', ((y.grows.new o).new o').trans h⟩, rfl⟩

/-- The cell at p holds v. -/
class Holds (w : World) (p : Addr) (v : outParam Value) : Prop where
  cell : w.cell? p = some v
/-- The cell at p holds v and may be written. -/
class Mine (w : World) (p : Addr) (v : outParam Value) : Prop where
  cell : w.cell? p = some v
  free : w.frozen? p = false
section
variable {w : World} {p : Addr} {v : Value}
instance Mine.holds [h : Mine w p v] : Holds w p v := ⟨h.cell⟩
instance Holds.now (x : Later w) [h : Holds w p v] : Holds x.now p v := ⟨x.grows.keeps h.cell⟩
instance Holds.alloc (o : Obj) [h : Holds w p v] : Holds (w.alloc o) p v := ⟨((Grows.refl w).new o).keeps h.cell⟩
instance Holds.drew [h : Holds w p v] : Holds w.drew p v := ⟨(Grows.refl w).drew.keeps h.cell⟩
instance Holds.drewN (n : Nat) [h : Holds w p v] : Holds (w.drewN n) p v := ⟨((Grows.refl w).drewN n).keeps h.cell⟩
theorem Mine.grow {w' : World} (h : Mine w p v) (g : Grows w w') : Mine w' p v := ⟨g.keeps h.cell, (Below.frozen g (cell_lt (by rw [h.cell]; rfl))).trans h.free⟩
instance Mine.now (x : Later w) [h : Mine w p v] : Mine x.now p v := h.grow x.grows
instance Mine.alloc (o : Obj) [h : Mine w p v] : Mine (w.alloc o) p v := h.grow ((Grows.refl w).new o)
instance Mine.drew [h : Mine w p v] : Mine w.drew p v := h.grow (Grows.refl w).drew
instance Mine.drewN (n : Nat) [h : Mine w p v] : Mine (w.drewN n) p v := h.grow ((Grows.refl w).drewN n)
theorem Mine.fresh (w : World) (l : List Value) (t : TypeId) (k : Nat) (v : Value) (h : l[k]? = some v) : Mine (w.alloc (.cells l.toArray t)) ⟨w.heap.size, k, none⟩ v := ⟨by simpa [go_sem] using h, by simp [go_sem]⟩
instance Mine.new0 (w : World) (v : Value) (l : List Value) (t : TypeId) : Mine (w.alloc (.cells (v :: l).toArray t)) ⟨w.heap.size, 0, none⟩ v := Mine.fresh w _ t 0 v rfl
instance Mine.new1 (w : World) (v0 v : Value) (l : List Value) (t : TypeId) : Mine (w.alloc (.cells (v0 :: v :: l).toArray t)) ⟨w.heap.size, 1, none⟩ v := Mine.fresh w _ t 1 v rfl
instance Mine.new2 (w : World) (v0 v1 v : Value) (l : List Value) (t : TypeId) : Mine (w.alloc (.cells (v0 :: v1 :: v :: l).toArray t)) ⟨w.heap.size, 2, none⟩ v := Mine.fresh w _ t 2 v rfl
instance Mine.new3 (w : World) (v0 v1 v2 v : Value) (l : List Value) (t : TypeId) : Mine (w.alloc (.cells (v0 :: v1 :: v2 :: v :: l).toArray t)) ⟨w.heap.size, 3, none⟩ v := Mine.fresh w _ t 3 v rfl
theorem Mine.fresh1 (w : World) (o : Obj) (l : List Value) (t : TypeId) (k : Nat) (v : Value) (h : l[k]? = some v) : Mine ((w.alloc o).alloc (.cells l.toArray t)) ⟨w.heap.size + 1, k, none⟩ v := by
  have := Mine.fresh (w.alloc o) l t k v h
  rwa [show (w.alloc o).heap.size = w.heap.size + 1 by simp] at this
instance Mine.newA0 (w : World) (o : Obj) (v : Value) (l : List Value) (t : TypeId) : Mine ((w.alloc o).alloc (.cells (v :: l).toArray t)) ⟨w.heap.size + 1, 0, none⟩ v := Mine.fresh1 w o _ t 0 v rfl
instance Mine.newA1 (w : World) (o : Obj) (v0 v : Value) (l : List Value) (t : TypeId) : Mine ((w.alloc o).alloc (.cells (v0 :: v :: l).toArray t)) ⟨w.heap.size + 1, 1, none⟩ v := Mine.fresh1 w o _ t 1 v rfl
instance Mine.newA2 (w : World) (o : Obj) (v0 v1 v : Value) (l : List Value) (t : TypeId) : Mine ((w.alloc o).alloc (.cells (v0 :: v1 :: v :: l).toArray t)) ⟨w.heap.size + 1, 2, none⟩ v := Mine.fresh1 w o _ t 2 v rfl
theorem Mine.fresh2 (w : World) (o o' : Obj) (l : List Value) (t : TypeId) (k : Nat) (v : Value) (h : l[k]? = some v) : Mine (((w.alloc o).alloc o').alloc (.cells l.toArray t)) ⟨w.heap.size + 1 + 1, k, none⟩ v := by
  have := Mine.fresh ((w.alloc o).alloc o') l t k v h
  rwa [show ((w.alloc o).alloc o').heap.size = w.heap.size + 1 + 1 by simp] at this
instance Mine.newB0 (w : World) (o o' : Obj) (v : Value) (l : List Value) (t : TypeId) : Mine (((w.alloc o).alloc o').alloc (.cells (v :: l).toArray t)) ⟨w.heap.size + 1 + 1, 0, none⟩ v := Mine.fresh2 w o o' _ t 0 v rfl
instance Mine.newB1 (w : World) (o o' : Obj) (v0 v : Value) (l : List Value) (t : TypeId) : Mine (((w.alloc o).alloc o').alloc (.cells (v0 :: v :: l).toArray t)) ⟨w.heap.size + 1 + 1, 1, none⟩ v := Mine.fresh2 w o o' _ t 1 v rfl
/-- Two cells in blocks that are unlike. -/
theorem Mine.set_same [h : Mine w p v] (u : Value) : Mine (w.setCell p u) p u := ⟨World.cell?_setCell_same w p u h.cell, by have := h.free; simpa using this⟩
theorem Mine.set_other {q : Addr} (h : Mine w p v) (u : Value) (hne : q ≠ p) : Mine (w.setCell q u) p v := ⟨by rw [World.cell?_setCell_other _ _ _ _ hne]; exact h.cell, by have := h.free; simpa using this⟩
theorem cell_holds [h : Holds w p v] : w.cell? p = some v := h.cell
theorem free_mine [h : Mine w p v] : w.frozen? p = false := h.free
end
attribute [go_sem] cell_holds free_mine
example (w : World) (x : Later ((w.alloc (.cells #[.bool true] 3)).alloc (.cells #[.bool true, .bool false] 4))) (y : Later (x.now.alloc (.cells #[.bool true, .int .i64 5] 4))) (z : Later y.now) : z.now.cell? ⟨x.now.heap.size, 1, none⟩ = some (.int .i64 5) := by simp [go_sem]
example (w : World) (x : Later ((w.alloc (.cells #[.bool true] 3)).alloc (.cells #[.bool true, .bool false] 4))) (y : Later (x.now.alloc (.cells #[.bool true, .int .i64 5] 4))) (z : Later y.now) : z.now.cell? ⟨w.heap.size + 1, 1, none⟩ = some (.bool false) := by simp [go_sem]
example (w : World) (p : Addr) (h : Holds w p (.bool true)) (x : Later ((w.alloc (.cells #[.bool true] 3)).alloc (.cells #[.bool true, .bool false] 4))) (y : Later (x.now.alloc (.cells #[.bool true, .int .i64 5] 4))) (z : Later y.now) : z.now.cell? p = some (.bool true) := by simp [go_sem]
end Go.Proofs.Ytpnncadglhlclaa
