/- What an argument that can be read is: slices of changes. -/
import Derived.Test.YtpnncadglhlclaaOpenB
import Derived.Test.YtpnncadglhlclaaChg
namespace Go.Proofs.Ytpnncadglhlclaa
open Go Go.ChangeShapes Go.WideShapes Go.ChangeAt Go.RowKit
/-- All that is known of a change that came in. -/
def chOk (e : Chg) : Prop := I64 e.e ∧ U64 e.w
section
variable {H : Type} {enc : TypeId × Value → H} {P : Program} {w : World} {base b0 : Nat} {held : Bool} {r : Reach} {t : TypeId} {v : Value} {d : DataW H} {p : List MemPlace}

theorem open_chgsC {te : TypeId} {f0 f1 : Field} {fuel : Nat} {x : DataW H × List MemPlace} {cs : List Value} (ht : P.underlying t = some (.slice te)) (hs : P.underlying te = some (.struct #[f0, f1]))
    (h0 : P.underlying f0.type = some (.int .i64)) (h1 : P.underlying f1.type = some (.int .u64)) (ho : f0.offset = 0 ∧ f1.offset = 1)
    (hcs : P.cellsOf f0.type = 1 ∧ P.cellsOf f1.type = 1) (hc : P.cellsOf te = 2) (h : DataW.trod enc P w base (fun _ => true) held fuel t cs = some x) :
    ∃ (A : Option Addr) (n c : Nat) (E : List Chg), cs = [.slice A n c] ∧ n ≤ c ∧ Rd w A 2 n (csCells E) ∧ ∀ k, k < n → chOk (gc E k) := by
  obtain ⟨A, n, c, F, rfl, hl, _, hr, hF⟩ := open_elems ht hc (by omega) h
  have hE : ∀ i, i < n → ∃ e : Chg, F i = cCells e ∧ chOk e := fun i hi => by
    obtain ⟨hlen, m, y, hy⟩ := hF i hi
    obtain ⟨y0, y1, k, _, _, e0, e1⟩ := trod_struct2 hs hy
    rw [ho.1, hcs.1] at e0
    rw [ho.2, hcs.2] at e1
    obtain ⟨c0, c1, hFi⟩ : ∃ c0 c1, F i = [c0, c1] := by
      match F i, hlen with
      | [c0, c1], _ => exact ⟨c0, c1, rfl⟩
    rw [hFi] at e0 e1 ⊢
    obtain ⟨a, ha, _, wa⟩ := DataW.trod_int h0 e0
    obtain ⟨b, hb, _, wb⟩ := DataW.trod_int h1 e1
    simp at ha hb
    subst ha hb
    exact ⟨⟨a, b⟩, rfl, wf_i64 wa, wf_u64 wb⟩
  obtain ⟨f, hf⟩ := Deep.choose_lt (α := Option Chg) (p := fun i o => ∃ e, o = some e ∧ F i = cCells e ∧ chOk e) (fun i hi => by obtain ⟨e, h⟩ := hE i hi; exact ⟨some e, e, rfl, h⟩)
  let f' : Nat → Chg := fun i => (f i).getD ⟨0, 0⟩
  have hf' : ∀ i, i < n → F i = cCells (f' i) ∧ chOk (f' i) := fun i hi => by
    obtain ⟨e, h1, h2⟩ := hf i hi
    simp only [f', h1, Option.getD_some]
    exact h2
  refine ⟨A, n, c, (List.range n).map f', rfl, hl, ?_, fun k hk => ?_⟩
  · have e : csCells ((List.range n).map f') = (List.range n).flatMap F := by
      unfold csCells
      rw [List.flatMap_map, List.flatMap_def, List.flatMap_def]
      exact congrArg List.flatten (List.map_congr_left fun i hi => ((hf' i (List.mem_range.1 hi)).1).symm)
    rw [e]
    exact hr
  · have : gc ((List.range n).map f') k = f' k := by simp [gc, hk]
    rw [this]
    exact (hf' k hk).2
theorem open_chgs {te : TypeId} {f0 f1 : Field} (ht : P.underlying t = some (.slice te)) (hs : P.underlying te = some (.struct #[f0, f1]))
    (h0 : P.underlying f0.type = some (.int .i64)) (h1 : P.underlying f1.type = some (.int .u64)) (ho : f0.offset = 0 ∧ f1.offset = 1)
    (hcs : P.cellsOf f0.type = 1 ∧ P.cellsOf f1.type = 1) (hc : P.cellsOf te = 2)
    (hv : Value.okWide P w r b0 t v) (h : DataW.Trod enc P w base (fun _ => true) held t v d p) :
    ∃ (A : Option Addr) (n c : Nat) (E : List Chg), v = .slice A n c ∧ n ≤ c ∧ Rd w A 2 n (csCells E) ∧ ∀ k, k < n → chOk (gc E k) := by
  obtain ⟨A, n, c, rfl⟩ := okWide_slice ht hv
  obtain ⟨fuel, hf⟩ := h
  obtain ⟨A', n', c', E, hcs', hl, hr, hE⟩ := open_chgsC ht hs h0 h1 ho hcs hc hf
  simp [Value.cells] at hcs'
  obtain ⟨rfl, rfl, rfl⟩ := hcs'
  exact ⟨A, n, c, E, rfl, hl, hr, hE⟩
end
theorem fin5 {w : World} {n : Nat} {A : Option Addr} {xs : List Value} {B : Nat} (h : Rd w A 3 n xs) (hf : ∀ b off, A = some ⟨b, off, none⟩ → 0 < n → B ≤ b) {p q : Addr} (hp : p.block < B) (hq : q.block < B) (u v : Value) : Rd ((w.setCell p u).setCell q v) A 3 n xs := by
  rcases Nat.eq_zero_or_pos n with h0 | h0
  · subst h0
    exact ⟨h.1, fun h => absurd h (by omega)⟩
  · exact (h.other _ (fun b off e => by have := hf b off e h0; omega)).other _ (fun b off e => by have := hf b off e h0; omega)
end Go.Proofs.Ytpnncadglhlclaa
