/- What an argument that can be read is: the shapes of the laws' parameters. -/
import Derived.Test.YtpnncadglhlclaaMem
import Derived.ProofKit
import Derived.OpenShut
import Derived.ShutString
import Derived.ChangeOld
import Derived.Lib.SmallJoins
import Derived.Deep.Slices
namespace Go.Proofs.Ytpnncadglhlclaa
open Go Go.ChangeShapes Go.WideShapes Go.ChangeAt Go.RowKit

/-- A number of 64 bits with a sign. -/
def I64 (n : Int) : Prop := -9223372036854775808 ≤ n ∧ n < 9223372036854775808

theorem wf_i64 {n : Int} (h : (Lit.int .i64 n).wf = true) : I64 n := by
  have := bounds_i64 h
  unfold I64
  omega
theorem wf_u64 {n : Int} (h : (Lit.int .u64 n).wf = true) : U64 n := by
  have := bounds_u64 h
  unfold U64
  omega

section
variable {H : Type} {enc : TypeId × Value → H} {P : Program} {w : World} {base b0 : Nat} {spare : Nat → Bool} {held : Bool} {r : Reach} {t : TypeId} {v : Value} {d : DataW H} {p : List MemPlace}

theorem open_i64 (ht : P.underlying t = some (.int .i64)) (hv : Value.okWide P w r b0 t v) (h : DataW.Trod enc P w base spare held t v d p) : ∃ x, v = .int .i64 x ∧ I64 x := by
  obtain ⟨x, rfl, rfl, rfl, wx⟩ := open_int ht hv h
  exact ⟨x, rfl, wf_i64 wx⟩
theorem open_u64 (ht : P.underlying t = some (.int .u64)) (hv : Value.okWide P w r b0 t v) (h : DataW.Trod enc P w base spare held t v d p) : ∃ x, v = .int .u64 x ∧ U64 x := by
  obtain ⟨x, rfl, rfl, rfl, wx⟩ := open_int ht hv h
  exact ⟨x, rfl, wf_u64 wx⟩

theorem open_uu {f0 f1 : Field} (ht : P.underlying t = some (.struct #[f0, f1])) (h0 : P.underlying f0.type = some (.int .u64)) (h1 : P.underlying f1.type = some (.int .u64)) (hone : Deep.oneCellFields P #[f0, f1] = true) (hC : P.cellsOf t = 2)
    (hv : Value.okWide P w r b0 t v) (h : DataW.Trod enc P w base spare held t v d p) : ∃ x y, v = .agg #[.int .u64 x, .int .u64 y] ∧ U64 x ∧ U64 y := by
  obtain ⟨c0, c1, y0, y1, m, rfl, rfl, rfl, e0, e1⟩ := Joins.open_agg2 ht hone hC hv h
  obtain ⟨x, f0, rfl, wx⟩ := DataW.trod_int h0 e0
  obtain ⟨y, f1, rfl, wy⟩ := DataW.trod_int h1 e1
  simp at f0 f1
  subst f0 f1
  exact ⟨x, y, rfl, wf_u64 wx, wf_u64 wy⟩
theorem open_ii {f0 f1 : Field} (ht : P.underlying t = some (.struct #[f0, f1])) (h0 : P.underlying f0.type = some (.int .i64)) (h1 : P.underlying f1.type = some (.int .i64)) (hone : Deep.oneCellFields P #[f0, f1] = true) (hC : P.cellsOf t = 2)
    (hv : Value.okWide P w r b0 t v) (h : DataW.Trod enc P w base spare held t v d p) : ∃ x y, v = .agg #[.int .i64 x, .int .i64 y] ∧ I64 x ∧ I64 y := by
  obtain ⟨c0, c1, y0, y1, m, rfl, rfl, rfl, e0, e1⟩ := Joins.open_agg2 ht hone hC hv h
  obtain ⟨x, f0, rfl, wx⟩ := DataW.trod_int h0 e0
  obtain ⟨y, f1, rfl, wy⟩ := DataW.trod_int h1 e1
  simp at f0 f1
  subst f0 f1
  exact ⟨x, y, rfl, wf_i64 wx, wf_i64 wy⟩

theorem spot_none {w : World} {a : Addr} {u : Value} (h : w.cell? a = some u) : a.spot = none := World.cell?_spot h

theorem open_nums {e : TypeId} {k : IntKind} (ht : P.underlying t = some (.slice e)) (he : P.underlying e = some (.int k)) (hc : P.cellsOf e = 1)
    (hv : Value.okWide P w r b0 t v) (h : DataW.Trod enc P w base (fun _ => true) held t v d p) :
    ∃ (A : Option Addr) (n c : Nat) (zs : List Int), v = .slice A n c ∧ Rd w A 1 n (zs.map (.int k)) ∧ ∀ z ∈ zs, (Lit.int k z).wf = true := by
  obtain ⟨A, n, c, rfl⟩ := okWide_slice ht hv
  obtain ⟨fuel, hf⟩ := h
  rcases open_ints ht he hc hf with ⟨hcs, _⟩ | ⟨x, l, c', zs, hcs, _, hl, hm, hz, _, hcell, hwz⟩
  · simp [Value.cells] at hcs
    obtain ⟨rfl, rfl, rfl⟩ := hcs
    exact ⟨none, 0, 0, [], rfl, ⟨rfl, fun h => by omega⟩, fun z hz => by cases hz⟩
  · simp [Value.cells] at hcs
    obtain ⟨rfl, rfl, rfl⟩ := hcs
    have hz' : zs.length = c := by simpa using hz
    refine ⟨_, n, c, zs.take n, rfl, ⟨by simp; omega, fun h1 _ => ?_⟩, fun z hz => hwz z (List.mem_of_mem_take hz)⟩
    obtain ⟨b, off, spot⟩ := x
    have h0 := hcell 0 (by omega)
    have hs : spot = none := by simpa [Addr.add] using spot_none h0
    subst hs
    refine ⟨b, off, rfl, fun j u hu => ?_⟩
    have hj : j < n := by
      rcases Nat.lt_or_ge j n with h | h
      · exact h
      · rw [List.getElem?_eq_none (by simp; omega)] at hu; cases hu
    have hcj := hcell j (by omega)
    have hjz : j < zs.length := by omega
    have hu' : u = .int k (zs.getD j 0) := by
      simp [hj, List.getElem?_eq_getElem hjz] at hu
      simp [← hu, List.getElem?_eq_getElem hjz]
    rw [hu']
    have ha : (⟨b, off, none⟩ : Addr).add j = ⟨b, off + j, none⟩ := by
      unfold Addr.add
      split
      · rename_i h0; rw [h0]; rfl
      · rfl
    rw [ha] at hcj
    exact hcj
end

end Go.Proofs.Ytpnncadglhlclaa
