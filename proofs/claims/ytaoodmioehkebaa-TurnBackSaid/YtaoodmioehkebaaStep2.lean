/- More rules for worlds that come later. -/
import Derived.Test.YtaoodmioehkebaaMem
namespace Go.Proofs.Ytaoodmioehkebaa
open Go Go.RowKit
theorem alloc_fz (w : World) (o : Obj) {p : Addr} (h : (w.cell? p).isSome = true) : (w.alloc o).frozen? p = w.frozen? p := Below.frozen ((Grows.refl w).new o) (cell_lt h)
attribute [go_sem] alloc_fz
theorem Grows.later3 {w w' : World} {y : Later w} {o : Obj} (h : Grows (y.now.alloc o) w') : ∃ x : Later w, w' = x.now := ⟨⟨w', (y.grows.new o).trans h⟩, rfl⟩
theorem Grows.later4 {w w' : World} {y : Later w} {o o' : Obj} (h : Grows ((y.now.alloc o).alloc o') w') : ∃ x : Later w, w' = x.now := ⟨⟨w', ((y.grows.new o).new o').trans h⟩, rfl⟩
end Go.Proofs.Ytaoodmioehkebaa
