/- Slices of rows of numbers. -/
import Derived.Test.YtpnncadglhlclaaMap
namespace Go.Proofs.Ytpnncadglhlclaa
open Go Go.RowKit Go.Maps

/-- A row of numbers as it lies. -/
structure Row where
  A : Option Addr
  n : Nat
  c : Nat
  xs : List Int
def rowVal (r : Row) : Value := .slice r.A r.n r.c
def rowOk (w : World) (r : Row) : Prop := Rd w r.A 1 r.n (r.xs.map (.int .i64)) ∧ r.n ≤ r.c
def gr (R : List Row) (k : Nat) : Row := R.getD k ⟨none, 0, 0, []⟩
def rowsOk (w : World) (R : List Row) : Prop := ∀ k, k < R.length → rowOk w (gr R k)
theorem rowsOk.grows {w w' : World} {R : List Row} (h : rowsOk w R) (hg : Grows w w') : rowsOk w' R := fun k hk => ⟨(h k hk).1.grows hg, (h k hk).2⟩
/-- Of a slice of rows: each row's value. -/
theorem Rd.rows {w : World} {A : Option Addr} {n : Nat} {R : List Row} (h : Rd w A 1 n (R.map rowVal)) (hn : 0 < n) :
    ∃ b off, A = some ⟨b, off, none⟩ ∧ ∀ j, j < n → w.cell? ⟨b, off + j, none⟩ = some (.slice (gr R j).A (gr R j).n (gr R j).c) := by
  have hl := h.len
  obtain ⟨b, off, e, hc⟩ := h.at_ hn
  refine ⟨b, off, e, fun j hj => hc j _ ?_⟩
  have : j < R.length := by simpa using (show j < (R.map rowVal).length by omega)
  simp [this, gr, rowVal]

end Go.Proofs.Ytpnncadglhlclaa
