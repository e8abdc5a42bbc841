/- Memory in words: a slice that reads as a list of cells. -/
import Derived.Test.YtpnncadglhlclaaStep
namespace Go.Proofs.Ytpnncadglhlclaa
open Go Go.RowKit

/-- The slice of n elements of 'size' cells at A holds these cells. -/
def Rd (w : World) (A : Option Addr) (size n : Nat) (xs : List Value) : Prop :=
  xs.length = n * size ∧ (0 < n → 0 < size → ∃ b off, A = some ⟨b, off, none⟩ ∧ ∀ j u, xs[j]? = some u → w.cell? ⟨b, off + j, none⟩ = some u)

theorem Rd.len {w : World} {A : Option Addr} {n : Nat} {xs : List Value} (h : Rd w A 1 n xs) : xs.length = n := by have := h.1; omega

theorem Grows.keeps {w w' : World} (h : Grows w w') {p : Addr} {u : Value} (hp : w.cell? p = some u) : w'.cell? p = some u := by
  rw [h.cell (cell_lt (by rw [hp]; rfl)), hp]

theorem Rd.grows {w w' : World} {A : Option Addr} {size n : Nat} {xs : List Value} (h : Rd w A size n xs) (hg : Grows w w') : Rd w' A size n xs :=
  ⟨h.1, fun h1 h2 => by
    obtain ⟨b, off, e, hc⟩ := h.2 h1 h2
    exact ⟨b, off, e, fun j u hu => hg.keeps (hc j u hu)⟩⟩
theorem Rd.now {w : World} {A : Option Addr} {size n : Nat} {xs : List Value} (h : Rd w A size n xs) (x : Later w) : Rd x.now A size n xs := h.grows x.grows
theorem Rd.new {w : World} {A : Option Addr} {size n : Nat} {xs : List Value} (h : Rd w A size n xs) (o : Obj) : Rd (w.alloc o) A size n xs := h.grows ((Grows.refl w).new o)

/-- A block that was just made. -/
theorem Rd.made {w : World} {t : TypeId} {size n : Nat} (cs : List Value) (h : cs.length = n * size) : Rd (w.alloc (.cells cs.toArray t)) (some ⟨w.heap.size, 0, none⟩) size n cs :=
  ⟨h, fun _ _ => ⟨_, _, rfl, fun j u hu => by simpa using hu⟩⟩

/-- Where the slice lies, if there is anything in it. -/
theorem Rd.at_ {w : World} {A : Option Addr} {n : Nat} {xs : List Value} (h : Rd w A 1 n xs) (hn : 0 < n) : ∃ b off, A = some ⟨b, off, none⟩ ∧ ∀ j u, xs[j]? = some u → w.cell? ⟨b, off + j, none⟩ = some u :=
  h.2 hn (by omega)

/-- Element i of a list of numbers. -/
def gi (xs : List Int) (i : Nat) : Int := xs.getD i 0

/-- Of a slice of numbers: each of its cells. -/
theorem Rd.ints {w : World} {A : Option Addr} {n : Nat} {k : IntKind} {xs : List Int} (h : Rd w A 1 n (xs.map (.int k))) (hn : 0 < n) :
    ∃ b off, A = some ⟨b, off, none⟩ ∧ ∀ j, j < n → w.cell? ⟨b, off + j, none⟩ = some (.int k (gi xs j)) := by
  have hl := h.len
  obtain ⟨b, off, e, hc⟩ := h.at_ hn
  refine ⟨b, off, e, fun j hj => hc j _ ?_⟩
  have : j < xs.length := by simpa using (show j < (xs.map (Value.int k)).length by omega)
  simp [this, gi]

theorem Rd.take {w : World} {A : Option Addr} {n k : Nat} {j : IntKind} {xs : List Int} (h : Rd w A 1 n (xs.map (.int j))) (hk : k ≤ n) : Rd w A 1 k ((xs.take k).map (.int j)) := by
  have hl := h.len
  simp at hl
  refine ⟨by simp; omega, fun h1 h2 => ?_⟩
  obtain ⟨b, off, e, hc⟩ := h.at_ (by omega)
  refine ⟨b, off, e, fun i u hu => hc i u ?_⟩
  have hi : i < k := by
    rcases Nat.lt_or_ge i k with h | h
    · exact h
    · rw [List.getElem?_eq_none (by simp; omega)] at hu; cases hu
  rw [List.map_take, List.getElem?_take, if_pos hi] at hu
  exact hu

end Go.Proofs.Ytpnncadglhlclaa
