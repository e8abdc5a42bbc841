/- Maps from numbers to numbers that a call makes. -/
import Derived.Test.YtomednfddpggaaaGreatQDagLooks00
import Derived.Test.YtomednfddpggaaaGreatRows
import Derived.Maps.Own
import Derived.Maps.OwnOps
import Derived.Maps.OwnSet
import Derived.Maps.Views
import Derived.Deep.Strs
import Derived.RangeFuncRecord
import Derived.Laws.OwnMore
import Derived.OwnWalk
/- Maps from numbers to numbers that a call makes. -/
namespace Go.Proofs.YtomednfddpggaaaGreat
open Go Go.RowKit Go.Maps

theorem i64_wf {n : Int} (h : I64 n) : (Lit.int .i64 n).wf = true := by
  unfold I64 at h
  simp [Lit.wf, IntKind.min, IntKind.max, IntKind.bits, IntKind.signed]
  omega

def MapII (w : World) (b n s : Nat) (f : Int → Option Int) : Prop :=
  ∃ D : DataW Unit, w.ownsMap Tryz.prog 3 (plainElem Tryz.prog 3) b n D ∧ Maps.size D = s ∧ (∀ k, Maps.has D (.int .i64 k) = (f k).isSome) ∧
    ∀ k, D.atKey (.int .i64 k) (.lit (.int .i64 0)) = .lit (.int .i64 ((f k).getD 0))

theorem keyedI : Keyed Tryz.prog 3 := int_keyed Tryz.underlying3
theorem zeroI (w : World) : (zeroValue 3).run Tryz.prog w = .ok (.int .i64 0) w := by kernel_rfl

theorem MapII.made (w : World) : MapII (w.alloc (.map #[] 0)) w.heap.size 0 0 (fun _ => none) :=
  ⟨.map [], World.ownsMap_made _ _ _ _, rfl, fun _ => rfl, fun _ => rfl⟩

theorem keyLit (k : Int) : WideAt.IsKeyLit (.int .i64 k) := by trivial

theorem Grows.row {w0 w w' : World} {b : Nat} (h : Grows w0 w) (hb : w0.heap.size ≤ b) (hg : w.grownBy w' (some b)) : Grows w0 w' :=
  ⟨hg.os.trans h.os, hg.tape.trans h.tape, hg.output.trans h.output, Nat.le_trans h.size hg.size, fun i hi => (hg.block i (Nat.lt_of_lt_of_le hi h.size) (by simp; omega)).trans (h.block i hi)⟩

theorem MapII.grows {w w' : World} {b n s : Nat} {f : Int → Option Int} (h : MapII w b n s f) (hg : Grows w w') : MapII w' b n s f := by
  obtain ⟨D, h1, h2⟩ := h
  exact ⟨D, h1.kept (row := none) ⟨hg.os, hg.tape, hg.output, hg.size, fun i hi _ => hg.block i hi⟩ (by simp), h2⟩

section
variable {w : World} {ops : Array Oper} {rest : List Oper} {o : Oper} {a : Act} {Q : Exit → Act → World → Prop}

end

end Go.Proofs.YtomednfddpggaaaGreat

/- Slices of rows of numbers. -/
namespace Go.Proofs.YtomednfddpggaaaGreat
open Go Go.RowKit Go.Maps

structure Row where
  A : Option Addr
  n : Nat
  c : Nat
  xs : List Int
def rowVal (r : Row) : Value := .slice r.A r.n r.c
def rowOk (w : World) (r : Row) : Prop := Rd w r.A 1 r.n (r.xs.map (.int .i64)) ∧ r.n ≤ r.c
def gr (R : List Row) (k : Nat) : Row := R.getD k ⟨none, 0, 0, []⟩
def rowsOk (w : World) (R : List Row) : Prop := ∀ k, k < R.length → rowOk w (gr R k)
theorem rowsOk.grows {w w' : World} {R : List Row} (h : rowsOk w R) (hg : Grows w w') : rowsOk w' R := fun k hk => ⟨(h k hk).1.grows hg, (h k hk).2⟩
theorem Rd.rows {w : World} {A : Option Addr} {n : Nat} {R : List Row} (h : Rd w A 1 n (R.map rowVal)) (hn : 0 < n) :
    ∃ b off, A = some ⟨b, off, none⟩ ∧ ∀ j, j < n → w.cell? ⟨b, off + j, none⟩ = some (.slice (gr R j).A (gr R j).n (gr R j).c) := by
  have hl := h.len
  obtain ⟨b, off, e, hc⟩ := h.at_ hn
  refine ⟨b, off, e, fun j hj => hc j _ ?_⟩
  have : j < R.length := by simpa using (show j < (R.map rowVal).length by omega)
  simp [this, gr, rowVal]

end Go.Proofs.YtomednfddpggaaaGreat

/- What an argument that can be read is: graphs, rows of rows. -/
namespace Go.Proofs.YtomednfddpggaaaGreat
open Go Go.ChangeShapes Go.WideShapes Go.ChangeAt Go.RowKit

theorem flat_at {F : Nat → List Value} {size : Nat} (hs : 0 < size) : ∀ n, (∀ i, i < n → (F i).length = size) → ((List.range n).flatMap F).length = n * size ∧ ∀ i j, i < n → j < size → ((List.range n).flatMap F)[i * size + j]? = (F i)[j]?
  | 0, _ => ⟨by simp, fun i j h => by omega⟩
  | n + 1, h => by
    obtain ⟨ih1, ih2⟩ := flat_at hs n fun i hi => h i (by omega)
    have e : (List.range (n + 1)).flatMap F = (List.range n).flatMap F ++ F n := by rw [List.range_succ, List.flatMap_append]; simp
    rw [e]
    refine ⟨by rw [List.length_append, ih1, h n (by omega), Nat.succ_mul], fun i j hi hj => ?_⟩
    by_cases hin : i < n
    · have : i * size + j < n * size := by
        have := Nat.mul_le_mul_right size (show i + 1 ≤ n by omega)
        rw [Nat.succ_mul] at this
        omega
      rw [List.getElem?_append_left (by omega)]
      exact ih2 i j hin hj
    · obtain rfl : i = n := by omega
      rw [List.getElem?_append_right (by omega), ih1, show i * size + j - i * size = j by omega]

theorem add_plain (b off i : Nat) : (⟨b, off, none⟩ : Addr).add i = ⟨b, off + i, none⟩ := by
  unfold Addr.add
  split
  · rename_i h0; rw [h0]; rfl
  · rfl

section
variable {H : Type} {enc : TypeId × Value → H} {P : Program} {w : World} {base b0 : Nat} {held : Bool} {r : Reach} {t : TypeId} {v : Value} {d : DataW H} {p : List MemPlace}

theorem open_elems {e : TypeId} {sz fuel : Nat} {x : DataW H × List MemPlace} {cs : List Value} (ht : P.underlying t = some (.slice e)) (hc : P.cellsOf e = sz) (hsz : 0 < sz) (h : DataW.trod enc P w base (fun _ => true) held fuel t cs = some x) :
    ∃ (A : Option Addr) (n c : Nat) (F : Nat → List Value), cs = [.slice A n c] ∧ n ≤ c ∧ c ≤ maxLen ∧ Rd w A sz n ((List.range n).flatMap F) ∧ ∀ i, i < n → (F i).length = sz ∧ ∃ m y, DataW.trod enc P w base (fun _ => true) held m e (F i) = some y := by
  rcases Deep.open_slice ht h with ⟨rfl, _⟩ | ⟨a, n, c, m, k, D, Pl, rfl, _, hl, hm, hmm, _, hx⟩
  · exact ⟨none, 0, 0, fun _ => [], rfl, Nat.le_refl _, by unfold maxLen; omega, ⟨by simp, fun h => by omega⟩, fun i hi => by omega⟩
  · simp only [if_true] at hmm
    subst hmm
    rw [hc] at hx
    obtain ⟨F, hF⟩ := Deep.choose_lt (α := List Value) (p := fun i cs' => w.cells? base (a.add (i * sz)) sz = some cs' ∧ DataW.trod enc P w base (fun _ => true) held k e cs' = some (D i, Pl i)) hx
    have hlen : ∀ i, i < m → (F i).length = sz := fun i hi => (World.cells?_some (hF i hi).1).2.1
    refine ⟨_, n, m, F, rfl, hl, hm, ?_, fun i hi => ⟨hlen i (by omega), k, _, (hF i (by omega)).2⟩⟩
    obtain ⟨fl1, fl2⟩ := flat_at hsz n fun i hi => hlen i (by omega)
    refine ⟨fl1, fun hn _ => ?_⟩
    obtain ⟨b, off, spot⟩ := a
    have hcell : ∀ i j u, i < n → (F i)[j]? = some u → w.cell? (((⟨b, off, spot⟩ : Addr).add (i * sz)).add j) = some u := fun i j u hi hu => by
      have hj : j < sz := by
        rcases Nat.lt_or_ge j sz with h | h
        · exact h
        · rw [List.getElem?_eq_none (by rw [hlen i (by omega)]; exact h)] at hu; cases hu
      have := (World.cells?_some (hF i (by omega)).1).2.2 j hj
      rw [hu] at this
      exact this
    have hs : spot = none := by
      have h0 : ∃ u, (F 0)[0]? = some u := ⟨_, List.getElem?_eq_getElem (by rw [hlen 0 (by omega)]; exact hsz)⟩
      obtain ⟨u, hu⟩ := h0
      have := spot_none (hcell 0 0 u hn hu)
      simpa [Addr.add] using this
    subst hs
    refine ⟨b, off, rfl, fun q u hu => ?_⟩
    have hq : q < n * sz := by
      rcases Nat.lt_or_ge q (n * sz) with h | h
      · exact h
      · rw [List.getElem?_eq_none (by rw [fl1]; exact h)] at hu; cases hu
    have e : q = q / sz * sz + q % sz := (Nat.div_add_mod' q sz).symm
    have hi : q / sz < n := (Nat.div_lt_iff_lt_mul hsz).2 hq
    have hj : q % sz < sz := Nat.mod_lt _ hsz
    rw [e, fl2 _ _ hi hj] at hu
    have := hcell _ _ u hi hu
    rw [add_plain, add_plain, Nat.add_assoc, ← e] at this
    exact this

def edgOk (e : Edg) : Prop := I64 e.f ∧ I64 e.t ∧ U64 e.w

theorem open_edges {te : TypeId} {f0 f1 f2 : Field} {fuel : Nat} {x : DataW H × List MemPlace} {cs : List Value} (ht : P.underlying t = some (.slice te)) (hs : P.underlying te = some (.struct #[f0, f1, f2]))
    (h0 : P.underlying f0.type = some (.int .i64)) (h1 : P.underlying f1.type = some (.int .i64)) (h2 : P.underlying f2.type = some (.int .u64)) (ho : f0.offset = 0 ∧ f1.offset = 1 ∧ f2.offset = 2)
    (hcs : P.cellsOf f0.type = 1 ∧ P.cellsOf f1.type = 1 ∧ P.cellsOf f2.type = 1) (hc : P.cellsOf te = 3) (h : DataW.trod enc P w base (fun _ => true) held fuel t cs = some x) :
    ∃ (A : Option Addr) (n c : Nat) (E : List Edg), cs = [.slice A n c] ∧ n ≤ c ∧ Rd w A 3 n (esCells E) ∧ ∀ k, k < n → edgOk (ge E k) := by
  obtain ⟨A, n, c, F, rfl, hl, _, hr, hF⟩ := open_elems ht hc (by omega) h
  have hE : ∀ i, i < n → ∃ e : Edg, F i = eCells e ∧ edgOk e := fun i hi => by
    obtain ⟨hlen, m, y, hy⟩ := hF i hi
    obtain ⟨y0, y1, y2, k, _, _, e0, e1, e2⟩ := Deep.trod_struct3 hs hy
    rw [ho.1, hcs.1] at e0
    rw [ho.2.1, hcs.2.1] at e1
    rw [ho.2.2, hcs.2.2] at e2
    obtain ⟨c0, c1, c2, hFi⟩ : ∃ c0 c1 c2, F i = [c0, c1, c2] := by
      match F i, hlen with
      | [c0, c1, c2], _ => exact ⟨c0, c1, c2, rfl⟩
    rw [hFi] at e0 e1 e2 ⊢
    obtain ⟨a, ha, _, wa⟩ := DataW.trod_int h0 e0
    obtain ⟨b, hb, _, wb⟩ := DataW.trod_int h1 e1
    obtain ⟨g, hg, _, wg⟩ := DataW.trod_int h2 e2
    simp at ha hb hg
    subst ha hb hg
    exact ⟨⟨a, b, g⟩, rfl, wf_i64 wa, wf_i64 wb, wf_u64 wg⟩
  obtain ⟨f, hf⟩ := Deep.choose_lt (α := Option Edg) (p := fun i o => ∃ e, o = some e ∧ F i = eCells e ∧ edgOk e) (fun i hi => by obtain ⟨e, h⟩ := hE i hi; exact ⟨some e, e, rfl, h⟩)
  let f' : Nat → Edg := fun i => (f i).getD ⟨0, 0, 0⟩
  have hf' : ∀ i, i < n → F i = eCells (f' i) ∧ edgOk (f' i) := fun i hi => by
    obtain ⟨e, h1, h2⟩ := hf i hi
    simp only [f', h1, Option.getD_some]
    exact h2
  refine ⟨A, n, c, (List.range n).map f', rfl, hl, ?_, fun k hk => ?_⟩
  · have e : esCells ((List.range n).map f') = (List.range n).flatMap F := by
      unfold esCells
      rw [List.flatMap_map, List.flatMap_def, List.flatMap_def]
      exact congrArg List.flatten (List.map_congr_left fun i hi => ((hf' i (List.mem_range.1 hi)).1).symm)
    rw [e]
    exact hr
  · have : ge ((List.range n).map f') k = f' k := by simp [ge, hk]
    rw [this]
    exact (hf' k hk).2

theorem open_graph {f0 f1 g0 g1 g2 : Field} {te : TypeId} (ht : P.underlying t = some (.struct #[f0, f1])) (h0 : P.underlying f0.type = some (.int .i64)) (h1 : P.underlying f1.type = some (.slice te)) (hs : P.underlying te = some (.struct #[g0, g1, g2]))
    (k0 : P.underlying g0.type = some (.int .i64)) (k1 : P.underlying g1.type = some (.int .i64)) (k2 : P.underlying g2.type = some (.int .u64)) (ho : g0.offset = 0 ∧ g1.offset = 1 ∧ g2.offset = 2)
    (hcs : P.cellsOf g0.type = 1 ∧ P.cellsOf g1.type = 1 ∧ P.cellsOf g2.type = 1) (hc : P.cellsOf te = 3) (hone : Deep.oneCellFields P #[f0, f1] = true) (hC : P.cellsOf t = 2)
    (hv : Value.okWide P w r b0 t v) (h : DataW.Trod enc P w base (fun _ => true) held t v d p) :
    ∃ (N : Int) (A : Option Addr) (n c : Nat) (E : List Edg), v = .agg #[.int .i64 N, .slice A n c] ∧ I64 N ∧ n ≤ c ∧ Rd w A 3 n (esCells E) ∧ ∀ k, k < n → edgOk (ge E k) := by
  obtain ⟨c0, c1, y0, y1, m, rfl, rfl, rfl, e0, e1⟩ := Joins.open_agg2 ht hone hC hv h
  obtain ⟨x, hx, _, wx⟩ := DataW.trod_int h0 e0
  simp at hx
  subst hx
  obtain ⟨A, n, c, E, he, hl, hr, hE⟩ := open_edges h1 hs k0 k1 k2 ho hcs hc e1
  simp at he
  subst he
  exact ⟨x, A, n, c, E, rfl, wf_i64 wx, hl, hr, hE⟩

def rowIn (w : World) (r : Row) : Prop := rowOk w r ∧ (∀ z ∈ r.xs, I64 z) ∧ (r.A = none → r.n = 0 ∧ r.c = 0)

theorem open_rows {e i : TypeId} (ht : P.underlying t = some (.slice e)) (he : P.underlying e = some (.slice i)) (hi : P.underlying i = some (.int .i64)) (hce : P.cellsOf e = 1) (hci : P.cellsOf i = 1)
    (hv : Value.okWide P w r b0 t v) (h : DataW.Trod enc P w base (fun _ => true) held t v d p) :
    ∃ (A : Option Addr) (n c : Nat) (R : List Row), v = .slice A n c ∧ n ≤ c ∧ Rd w A 1 n (R.map rowVal) ∧ ∀ k, k < n → rowIn w (gr R k) := by
  obtain ⟨A, n, c, rfl⟩ := okWide_slice ht hv
  obtain ⟨fuel, hf⟩ := h
  obtain ⟨A', n', c', F, hcs, hl, _, hr, hF⟩ := open_elems ht hce (by omega) hf
  simp [Value.cells] at hcs
  obtain ⟨rfl, rfl, rfl⟩ := hcs
  have hE : ∀ k, k < n → ∃ r : Row, F k = [rowVal r] ∧ rowIn w r := fun k hk => by
    obtain ⟨hlen, m, y, hy⟩ := hF k hk
    rcases open_ints he hi hci hy with ⟨hcs, _⟩ | ⟨x, l, c', zs, hcs, _, hl, hm, hz, _, hcell, hwz⟩
    · exact ⟨⟨none, 0, 0, []⟩, hcs, ⟨⟨rfl, fun h => absurd h (by simp)⟩, Nat.le_refl _⟩, fun z hz => (by cases hz), fun _ => ⟨rfl, rfl⟩⟩
    · obtain ⟨b, off, spot⟩ := x
      simp only [if_true] at hz
      refine ⟨⟨some ⟨b, off, spot⟩, l, c', zs.take l⟩, hcs, ⟨⟨by simp; omega, fun h1 _ => ?_⟩, hl⟩, fun z hz => wf_i64 (hwz z (List.mem_of_mem_take hz)), fun h => (by cases h)⟩
      dsimp only at h1
      have h0 := hcell 0 (by omega)
      have hs : spot = none := by simpa [Addr.add] using spot_none h0
      subst hs
      refine ⟨b, off, rfl, fun j u hu => ?_⟩
      have hj : j < l := by
        rcases Nat.lt_or_ge j l with h | h
        · exact h
        · rw [List.getElem?_eq_none (by simp; omega)] at hu; cases hu
      have hcj := hcell j (by omega)
      have hjz : j < zs.length := by omega
      have hu' : u = .int .i64 (zs.getD j 0) := by
        simp [hj, List.getElem?_eq_getElem hjz] at hu
        simp [← hu, List.getElem?_eq_getElem hjz]
      rw [hu']
      rw [add_plain] at hcj
      exact hcj
  obtain ⟨f, hf⟩ := Deep.choose_lt (α := Option Row) (p := fun i o => ∃ e, o = some e ∧ F i = [rowVal e] ∧ rowIn w e) (fun i hi => by obtain ⟨e, h⟩ := hE i hi; exact ⟨some e, e, rfl, h⟩)
  let f' : Nat → Row := fun i => (f i).getD ⟨none, 0, 0, []⟩
  have hf' : ∀ i, i < n → F i = [rowVal (f' i)] ∧ rowIn w (f' i) := fun i hi => by
    obtain ⟨e, h1, h2⟩ := hf i hi
    simp only [f', h1, Option.getD_some]
    exact h2
  refine ⟨A, n, c, (List.range n).map f', rfl, hl, ?_, fun k hk => ?_⟩
  · have e : ((List.range n).map f').map rowVal = (List.range n).flatMap F := by
      rw [List.map_map, List.flatMap_def]
      have : (List.range n).map F = (List.range n).map fun i => [rowVal (f' i)] := List.map_congr_left fun i hi => (hf' i (List.mem_range.1 hi)).1
      rw [this, ← List.flatMap_def]
      exact List.map_eq_flatMap
    rw [e]
    exact hr
  · have : gr ((List.range n).map f') k = f' k := by simp [gr, hk]
    rw [this]
    exact (hf' k hk).2
theorem open_numsC {e : TypeId} {k : IntKind} (ht : P.underlying t = some (.slice e)) (he : P.underlying e = some (.int k)) (hc : P.cellsOf e = 1)
    (hv : Value.okWide P w r b0 t v) (h : DataW.Trod enc P w base (fun _ => true) held t v d p) :
    ∃ (A : Option Addr) (n c : Nat) (zs : List Int), v = .slice A n c ∧ n ≤ c ∧ Rd w A 1 n (zs.map (.int k)) ∧ ∀ z ∈ zs, (Lit.int k z).wf = true := by
  obtain ⟨A, n, c, zs, rfl, h1, h2⟩ := open_nums ht he hc hv h
  obtain ⟨fuel, hf⟩ := h
  rcases open_ints ht he hc hf with ⟨hcs, _⟩ | ⟨x, l, c', zs', hcs, _, hl, _⟩
  · simp [Value.cells] at hcs
    obtain ⟨rfl, rfl, rfl⟩ := hcs
    exact ⟨none, 0, 0, zs, rfl, Nat.le_refl _, h1, h2⟩
  · simp [Value.cells] at hcs
    obtain ⟨rfl, rfl, rfl⟩ := hcs
    exact ⟨_, n, c, zs, rfl, hl, h1, h2⟩
theorem open_numsN {e : TypeId} {k : IntKind} (ht : P.underlying t = some (.slice e)) (he : P.underlying e = some (.int k)) (hc : P.cellsOf e = 1)
    (hv : Value.okWide P w r b0 t v) (h : DataW.Trod enc P w base (fun _ => true) held t v d p) :
    ∃ (A : Option Addr) (n c : Nat) (zs : List Int), v = .slice A n c ∧ (n ≤ c ∧ (A = none → n = 0 ∧ c = 0)) ∧ Rd w A 1 n (zs.map (.int k)) ∧ ∀ z ∈ zs, (Lit.int k z).wf = true := by
  obtain ⟨A, n, c, zs, rfl, h1, h2⟩ := open_nums ht he hc hv h
  obtain ⟨fuel, hf⟩ := h
  rcases open_ints ht he hc hf with ⟨hcs, _⟩ | ⟨x, l, c', zs', hcs, _, hl, _⟩
  · simp [Value.cells] at hcs
    obtain ⟨rfl, rfl, rfl⟩ := hcs
    exact ⟨none, 0, 0, zs, rfl, ⟨Nat.le_refl _, fun _ => ⟨rfl, rfl⟩⟩, h1, h2⟩
  · simp [Value.cells] at hcs
    obtain ⟨rfl, rfl, rfl⟩ := hcs
    exact ⟨_, n, c, zs, rfl, ⟨hl, fun h => by cases h⟩, h1, h2⟩
end

end Go.Proofs.YtomednfddpggaaaGreat

/- More rules for worlds that come later: what a cell holds, found by looking back as far as need be. -/
namespace Go.Proofs.YtomednfddpggaaaGreat
open Go Go.RowKit
theorem alloc_fz (w : World) (o : Obj) {p : Addr} (h : (w.cell? p).isSome = true) : (w.alloc o).frozen? p = w.frozen? p := Below.frozen ((Grows.refl w).new o) (cell_lt h)
attribute [go_sem] alloc_fz
theorem Grows.later3 {w w' : World} {y : Later w} {o : Obj} (h : Grows (y.now.alloc o) w') : ∃ x : Later w, w' = x.now := ⟨⟨w', (y.grows.new o).trans h⟩, rfl⟩
theorem Grows.later4 {w w' : World} {y : Later w} {o o' : Obj} (h : Grows ((y.now.alloc o).alloc o') w') : ∃ x : Later w, w' = x.now := ⟨⟨w', ((y.grows.new o).new o').trans h⟩, rfl⟩

class Holds (w : World) (p : Addr) (v : outParam Value) : Prop where
  cell : w.cell? p = some v
class Mine (w : World) (p : Addr) (v : outParam Value) : Prop where
  cell : w.cell? p = some v
  free : w.frozen? p = false
section
variable {w : World} {p : Addr} {v : Value}
instance Mine.holds [h : Mine w p v] : Holds w p v := ⟨h.cell⟩
instance Holds.now (x : Later w) [h : Holds w p v] : Holds x.now p v := ⟨x.grows.keeps h.cell⟩
instance Holds.alloc (o : Obj) [h : Holds w p v] : Holds (w.alloc o) p v := ⟨((Grows.refl w).new o).keeps h.cell⟩
instance Holds.drew [h : Holds w p v] : Holds w.drew p v := ⟨(Grows.refl w).drew.keeps h.cell⟩
instance Holds.drewN (n : Nat) [h : Holds w p v] : Holds (w.drewN n) p v := ⟨((Grows.refl w).drewN n).keeps h.cell⟩
theorem Mine.grow {w' : World} (h : Mine w p v) (g : Grows w w') : Mine w' p v := ⟨g.keeps h.cell, (Below.frozen g (cell_lt (by rw [h.cell]; rfl))).trans h.free⟩
instance Mine.now (x : Later w) [h : Mine w p v] : Mine x.now p v := h.grow x.grows
instance Mine.alloc (o : Obj) [h : Mine w p v] : Mine (w.alloc o) p v := h.grow ((Grows.refl w).new o)
instance Mine.drew [h : Mine w p v] : Mine w.drew p v := h.grow (Grows.refl w).drew
instance Mine.drewN (n : Nat) [h : Mine w p v] : Mine (w.drewN n) p v := h.grow ((Grows.refl w).drewN n)
theorem Mine.fresh (w : World) (l : List Value) (t : TypeId) (k : Nat) (v : Value) (h : l[k]? = some v) : Mine (w.alloc (.cells l.toArray t)) ⟨w.heap.size, k, none⟩ v := ⟨by simpa [go_sem] using h, by simp [go_sem]⟩
instance Mine.new0 (w : World) (v : Value) (l : List Value) (t : TypeId) : Mine (w.alloc (.cells (v :: l).toArray t)) ⟨w.heap.size, 0, none⟩ v := Mine.fresh w _ t 0 v rfl
instance Mine.new1 (w : World) (v0 v : Value) (l : List Value) (t : TypeId) : Mine (w.alloc (.cells (v0 :: v :: l).toArray t)) ⟨w.heap.size, 1, none⟩ v := Mine.fresh w _ t 1 v rfl
instance Mine.new2 (w : World) (v0 v1 v : Value) (l : List Value) (t : TypeId) : Mine (w.alloc (.cells (v0 :: v1 :: v :: l).toArray t)) ⟨w.heap.size, 2, none⟩ v := Mine.fresh w _ t 2 v rfl
instance Mine.new3 (w : World) (v0 v1 v2 v : Value) (l : List Value) (t : TypeId) : Mine (w.alloc (.cells (v0 :: v1 :: v2 :: v :: l).toArray t)) ⟨w.heap.size, 3, none⟩ v := Mine.fresh w _ t 3 v rfl
theorem Mine.fresh1 (w : World) (o : Obj) (l : List Value) (t : TypeId) (k : Nat) (v : Value) (h : l[k]? = some v) : Mine ((w.alloc o).alloc (.cells l.toArray t)) ⟨w.heap.size + 1, k, none⟩ v := by
  have := Mine.fresh (w.alloc o) l t k v h
  rwa [show (w.alloc o).heap.size = w.heap.size + 1 by simp] at this
instance Mine.newA0 (w : World) (o : Obj) (v : Value) (l : List Value) (t : TypeId) : Mine ((w.alloc o).alloc (.cells (v :: l).toArray t)) ⟨w.heap.size + 1, 0, none⟩ v := Mine.fresh1 w o _ t 0 v rfl
instance Mine.newA1 (w : World) (o : Obj) (v0 v : Value) (l : List Value) (t : TypeId) : Mine ((w.alloc o).alloc (.cells (v0 :: v :: l).toArray t)) ⟨w.heap.size + 1, 1, none⟩ v := Mine.fresh1 w o _ t 1 v rfl
instance Mine.newA2 (w : World) (o : Obj) (v0 v1 v : Value) (l : List Value) (t : TypeId) : Mine ((w.alloc o).alloc (.cells (v0 :: v1 :: v :: l).toArray t)) ⟨w.heap.size + 1, 2, none⟩ v := Mine.fresh1 w o _ t 2 v rfl
theorem Mine.fresh2 (w : World) (o o' : Obj) (l : List Value) (t : TypeId) (k : Nat) (v : Value) (h : l[k]? = some v) : Mine (((w.alloc o).alloc o').alloc (.cells l.toArray t)) ⟨w.heap.size + 1 + 1, k, none⟩ v := by
  have := Mine.fresh ((w.alloc o).alloc o') l t k v h
  rwa [show ((w.alloc o).alloc o').heap.size = w.heap.size + 1 + 1 by simp] at this
instance Mine.newB0 (w : World) (o o' : Obj) (v : Value) (l : List Value) (t : TypeId) : Mine (((w.alloc o).alloc o').alloc (.cells (v :: l).toArray t)) ⟨w.heap.size + 1 + 1, 0, none⟩ v := Mine.fresh2 w o o' _ t 0 v rfl
instance Mine.newB1 (w : World) (o o' : Obj) (v0 v : Value) (l : List Value) (t : TypeId) : Mine (((w.alloc o).alloc o').alloc (.cells (v0 :: v :: l).toArray t)) ⟨w.heap.size + 1 + 1, 1, none⟩ v := Mine.fresh2 w o o' _ t 1 v rfl
theorem Mine.set_same [h : Mine w p v] (u : Value) : Mine (w.setCell p u) p u := ⟨World.cell?_setCell_same w p u h.cell, by have := h.free; simpa using this⟩
theorem Mine.set_other {q : Addr} (h : Mine w p v) (u : Value) (hne : q ≠ p) : Mine (w.setCell q u) p v := ⟨by rw [World.cell?_setCell_other _ _ _ _ hne]; exact h.cell, by have := h.free; simpa using this⟩
theorem cell_holds [h : Holds w p v] : w.cell? p = some v := h.cell
theorem free_mine [h : Mine w p v] : w.frozen? p = false := h.free
end
attribute [go_sem] cell_holds free_mine
example (w : World) (x : Later ((w.alloc (.cells #[.bool true] 3)).alloc (.cells #[.bool true, .bool false] 4))) (y : Later (x.now.alloc (.cells #[.bool true, .int .i64 5] 4))) (z : Later y.now) : z.now.cell? ⟨x.now.heap.size, 1, none⟩ = some (.int .i64 5) := by simp [go_sem]
example (w : World) (x : Later ((w.alloc (.cells #[.bool true] 3)).alloc (.cells #[.bool true, .bool false] 4))) (y : Later (x.now.alloc (.cells #[.bool true, .int .i64 5] 4))) (z : Later y.now) : z.now.cell? ⟨w.heap.size + 1, 1, none⟩ = some (.bool false) := by simp [go_sem]
example (w : World) (p : Addr) (h : Holds w p (.bool true)) (x : Later ((w.alloc (.cells #[.bool true] 3)).alloc (.cells #[.bool true, .bool false] 4))) (y : Later (x.now.alloc (.cells #[.bool true, .int .i64 5] 4))) (z : Later y.now) : z.now.cell? p = some (.bool true) := by simp [go_sem]
end Go.Proofs.YtomednfddpggaaaGreat

/- What a step may turn: of what was there, only the blocks of a set. -/
namespace Go.Proofs.YtomednfddpggaaaGreat
open Go Go.RowKit

structure Touch (S : Nat → Prop) (w w' : World) : Prop where
  os : w'.os = w.os
  tape : w'.tape = w.tape
  output : w'.output = w.output
  size : w.heap.size ≤ w'.heap.size
  block : ∀ k, k < w.heap.size → ¬ S k → w'.heap[k]? = w.heap[k]?

def New (w w' : World) (k : Nat) : Prop := w.heap.size ≤ k ∧ k < w'.heap.size

section
variable {S S' : Nat → Prop} {a b c w w' : World}
theorem Touch.refl (S : Nat → Prop) (w : World) : Touch S w w := ⟨rfl, rfl, rfl, Nat.le_refl _, fun _ _ _ => rfl⟩
theorem Grows.touch (h : Grows w w') (S : Nat → Prop) : Touch S w w' := ⟨h.os, h.tape, h.output, h.size, fun k hk _ => h.block k hk⟩
theorem Touch.trans2 (h : Touch S a b) (k : Touch S' b c) (hs : ∀ k, S' k → S k ∨ a.heap.size ≤ k) : Touch S a c :=
  ⟨k.os.trans h.os, k.tape.trans h.tape, k.output.trans h.output, Nat.le_trans h.size k.size, fun i hi hn =>
    (k.block i (Nat.lt_of_lt_of_le hi h.size) fun e => by rcases hs i e with h1 | h1; exact hn h1; omega).trans (h.block i hi hn)⟩
theorem Touch.trans (h : Touch S a b) (k : Touch S b c) : Touch S a c := h.trans2 k fun _ h => .inl h
theorem Touch.mono (h : Touch S a b) (hs : ∀ k, S k → S' k) : Touch S' a b := ⟨h.os, h.tape, h.output, h.size, fun k hk hn => h.block k hk fun e => hn (hs k e)⟩
theorem Touch.grows (h : Touch S a b) (k : Grows b c) : Touch S a c := h.trans (k.touch S)
theorem Touch.now (h : Touch S a b) (x : Later b) : Touch S a x.now := h.grows x.grows
theorem Touch.new (h : Touch S a b) (o : Obj) : Touch S a (b.alloc o) := h.grows ((Grows.refl b).new o)
theorem Touch.drew (h : Touch S a b) : Touch S a b.drew := h.grows (Grows.refl b).drew
theorem Touch.drewN (h : Touch S a b) (n : Nat) : Touch S a (b.drewN n) := h.grows ((Grows.refl b).drewN n)
theorem heap_setCell (w : World) (p : Addr) (u : Value) (k : Nat) (h : k ≠ p.block) : (w.setCell p u).heap[k]? = w.heap[k]? := Below.heap_setCell w p u k h
theorem size_setCell (w : World) (p : Addr) (u : Value) : (w.setCell p u).heap.size = w.heap.size := by simp [World.setCell]
theorem Touch.set (h : Touch S a b) {p : Addr} (hp : S p.block ∨ a.heap.size ≤ p.block) (u : Value) : Touch S a (b.setCell p u) := by
  refine ⟨h.os, h.tape, h.output, by rw [size_setCell]; exact h.size, fun k hk hn => ?_⟩
  rw [heap_setCell _ _ _ _ (fun e => by subst e; rcases hp with hp | hp; exact hn hp; omega)]
  exact h.block k hk hn
theorem Touch.put (h : Touch S a b) {r : Nat} (hr : S r ∨ a.heap.size ≤ r) (o : Obj) : Touch S a (b.putObj r o) := by
  refine ⟨h.os, h.tape, h.output, by simp; exact h.size, fun k hk hn => ?_⟩
  rw [World.putObj_heap_other (fun e => by subst e; rcases hr with hp | hp; exact hn hp; omega)]
  exact h.block k hk hn
theorem Touch.grown {row : Option Nat} (h : Touch S a b) (hg : b.grownBy c row) (hr : ∀ k, row = some k → S k ∨ a.heap.size ≤ k) : Touch S a c := by
  refine ⟨hg.os.trans h.os, hg.tape.trans h.tape, hg.output.trans h.output, Nat.le_trans h.size hg.size, fun k hk hn => ?_⟩
  refine (hg.block k (Nat.lt_of_lt_of_le hk h.size) fun e => ?_).trans (h.block k hk hn)
  rcases hr k e.symm with h1 | h1
  · exact hn h1
  · omega
theorem Touch.below (h : Touch S a b) {n : Nat} (hs : ∀ k, S k → n ≤ k) (hn : n ≤ a.heap.size) : Below n a b :=
  ⟨h.os, h.tape, h.output, h.size, fun k hk => h.block k (by omega) fun e => by have := hs k e; omega⟩
theorem Touch.later {w0 : World} (hw0 : Grows w0 a) (h : Touch S a b) (hs : ∀ k, S k → w0.heap.size ≤ k) : Grows w0 b :=
  Below.trans hw0 (h.below hs hw0.size)
theorem Touch.cell (h : Touch S a b) {p : Addr} (hp : ¬ S p.block) {u : Value} (hc : a.cell? p = some u) : b.cell? p = some u := by
  rw [← hc]
  exact World.cell?_of_block (w := a) (h.block p.block (World.block_lt_of_cell? a p hc) hp)
theorem Touch.frozen (h : Touch S a b) {p : Addr} (hp : ¬ S p.block) {u : Value} (hc : a.cell? p = some u) : b.frozen? p = a.frozen? p :=
  World.frozen?_of_block (w := a) (h.block p.block (World.block_lt_of_cell? a p hc) hp)
theorem Touch.at (h : Touch S a b) {k : Nat} {o : Obj} (hp : ¬ S k) (hc : a.heap[k]? = some o) : b.heap[k]? = some o :=
  (h.block k (Array.getElem?_eq_some_iff.1 hc).1 hp).trans hc
theorem Mine.touch {p : Addr} {v : Value} (h : Mine a p v) (ht : Touch S a b) (hp : ¬ S p.block) : Mine b p v :=
  ⟨ht.cell hp h.cell, (ht.frozen hp h.cell).trans h.free⟩
theorem Holds.touch {p : Addr} {v : Value} (h : Holds a p v) (ht : Touch S a b) (hp : ¬ S p.block) : Holds b p v := ⟨ht.cell hp h.cell⟩
theorem Rd.touch {A : Option Addr} {size n : Nat} {xs : List Value} (h : Rd a A size n xs) (ht : Touch S a b) (hp : ∀ p, A = some p → ¬ S p.block) : Rd b A size n xs :=
  ⟨h.1, fun h1 h2 => by
    obtain ⟨g, off, e, hc⟩ := h.2 h1 h2
    exact ⟨g, off, e, fun j u hu => ht.cell (p := ⟨g, off + j, none⟩) (hp ⟨g, off, none⟩ e) (hc j u hu)⟩⟩
end

def Keeps (B M : Nat → Prop) (w w' : World) : Prop := Touch (fun k => ¬ (B k ∨ M k)) w w'
section
variable {B M M' S : Nat → Prop} {a b c : World}
theorem Keeps.refl (B M : Nat → Prop) (a : World) : Keeps B M a a := Touch.refl _ _
theorem Keeps.trans (h : Keeps B M a b) (k : Keeps B M b c) : Keeps B M a c := Touch.trans h k
theorem Keeps.mono (h : Keeps B M a b) (hM : ∀ k, M' k → M k) : Keeps B M' a b := Touch.mono h fun k h1 e => h1 (e.elim .inl fun e => .inr (hM k e))
theorem Touch.keeps (h : Touch S a b) (hs : ∀ k, S k → ¬ (B k ∨ M k)) : Keeps B M a b := Touch.mono h hs
theorem Keeps.at (h : Keeps B M a b) {k : Nat} {o : Obj} (hk : B k ∨ M k) (hc : a.heap[k]? = some o) : b.heap[k]? = some o :=
  Touch.at h (fun h1 => h1 hk) hc
theorem Keeps.cell (h : Keeps B M a b) {p : Addr} (hk : B p.block ∨ M p.block) {u : Value} (hc : a.cell? p = some u) : b.cell? p = some u :=
  Touch.cell h (fun h1 => h1 hk) hc
end
end Go.Proofs.YtomednfddpggaaaGreat

/- Slices that a call makes for itself: append to them, write into them. -/
namespace Go.Proofs.YtomednfddpggaaaGreat
open Go Go.RowKit

def Own (w : World) (B : Nat) (e : TypeId) (size : Nat) (A : Option Addr) (n c : Nat) (xs : List Value) : Prop := w.ownsRow B e size (.slice A n c) n xs

theorem own_form {w : World} {B : Nat} {e : TypeId} {size n : Nat} {v : Value} {xs : List Value} (h : w.ownsRow B e size v n xs) : ∃ A c, v = .slice A n c := by
  rcases h.2 with ⟨rfl, h0⟩ | ⟨g, cap, cur, rfl, _⟩
  · subst h0; exact ⟨none, 0, rfl⟩
  · exact ⟨_, _, rfl⟩

theorem Own.nil (w : World) (B : Nat) (e : TypeId) (size : Nat) : Own w B e size none 0 0 [] := World.ownsRow_nil _ _ _ _

structure Elem (t e : TypeId) (size : Nat) : Prop where
  under : Tryz.prog.underlying t = some (.slice e)
  info : ∃ i z bytes, Tryz.prog.info? e = some i ∧ i.zero = some z ∧ i.size = size ∧ i.bytes = bytes ∧ z.cells.size = size ∧ bytes ≤ 64
  pos : 0 < size

section
variable {w w' : World} {B n c size : Nat} {e : TypeId} {A : Option Addr} {xs : List Value}

theorem Own.len (h : Own w B e size A n c xs) : xs.length = n * size := h.1
theorem Own.grows (h : Own w B e size A n c xs) (hg : Grows w w') : Own w' B e size A n c xs :=
  World.ownsRow.kept (row := none) h ⟨hg.os, hg.tape, hg.output, hg.size, fun i hi _ => hg.block i hi⟩ (by cases hv : (Value.slice A n c).ownBlock <;> simp)
theorem Own.now (h : Own w B e size A n c xs) (x : Later w) : Own x.now B e size A n c xs := h.grows x.grows
theorem Own.new (h : Own w B e size A n c xs) (o : Obj) : Own (w.alloc o) B e size A n c xs := h.grows ((Grows.refl w).new o)
theorem Own.drewN (h : Own w B e size A n c xs) (k : Nat) : Own (w.drewN k) B e size A n c xs := h.grows ((Grows.refl w).drewN k)

theorem Own.at_ (h : Own w B e size A n c xs) (hn : 0 < n) : ∃ g cur, A = some ⟨g, 0, none⟩ ∧ B ≤ g ∧ w.heap[g]? = some (.cells cur e (0, 0)) ∧ n ≤ c ∧ cur.size = c * size ∧ cur.toList.take (n * size) = xs := by
  rcases h.2 with ⟨h1, h0⟩ | ⟨g, cap, cur, h1, h2, h3, h4, _, h5, h6⟩
  · omega
  · injection h1 with h1 _ h7
    subst h1 h7
    exact ⟨g, cur, rfl, h2, h3, h4, h5, h6⟩

theorem Own.cell (h : Own w B e size A n c xs) {g : Nat} (hA : A = some ⟨g, 0, none⟩) {j : Nat} {u : Value} (hu : xs[j]? = some u) : w.cell? ⟨g, j, none⟩ = some u := by
  subst hA
  have := World.ownsRow.cells h (g := g) rfl j u hu
  unfold Addr.add at this
  split at this
  · rename_i h0; rw [h0]; exact this
  · simpa using this

theorem Own.rd (h : Own w B e size A n c xs) : Rd w A size n xs :=
  ⟨h.len, fun hn _ => by
    obtain ⟨g, cur, rfl, _⟩ := h.at_ hn
    exact ⟨g, 0, rfl, fun j u hu => by rw [Nat.zero_add]; exact h.cell rfl hu⟩⟩

theorem Own.frozen (h : Own w B e size A n c xs) {g : Nat} (hA : A = some ⟨g, 0, none⟩) (hn : 0 < n) (j : Nat) : w.frozen? ⟨g, j, none⟩ = false := by
  obtain ⟨g', cur, e', _, hh, _⟩ := h.at_ hn
  rw [hA] at e'
  injection e' with e'
  injection e' with e'
  subst e'
  simp [World.frozen?, hh]

theorem Own.set (h : Own w B e size A n c xs) {g : Nat} (hA : A = some ⟨g, 0, none⟩) (hn : 0 < n) (j : Nat) (u : Value) : Own (w.setCell ⟨g, j, none⟩ u) B e size A n c (xs.set j u) := by
  obtain ⟨g', cur, e', hB, hh, hc, hs, ht⟩ := h.at_ hn
  rw [hA] at e'
  injection e' with e'
  injection e' with e'
  subst e' hA
  have hm : c ≤ maxLen := by
    rcases h.2 with ⟨h1, _⟩ | ⟨g2, cap, cur2, h1, _, _, _, h5, _⟩
    · cases h1
    · injection h1 with _ _ h7; subst h7; exact h5
  refine ⟨by rw [List.length_set]; exact h.len, .inr ⟨g, c, cur.setIfInBounds j u, rfl, hB, ?_, hc, hm, by simpa using hs, ?_⟩⟩
  · simp [World.setCell, Array.getElem?_modify, hh]
  · rw [← ht]
    simp [List.take_set]

variable {ops : Array Oper} {rest : List Oper} {o : Oper} {a : Act} {Q : Exit → Act → World → Prop}

theorem wp_app {t : TypeId} (E : Elem t e size) (hgd : o.guard = none) (s x : Operand) (ho : o.op = .call { callee := .builtin .append, args := #[s, x], argTypes := #[t, t] })
    (B n c : Nat) (A : Option Addr) (xs : List Value) (hs : a.eval s = .slice A n c) (hown : Own w B e size A n c xs) (g m c' : Nat) (news : List Value) (hx : a.eval x = .slice (some ⟨g, 0, none⟩) m c')
    (hl : news.length = m * size) (hnews : ∀ j u, news[j]? = some u → w.cell? ⟨g, j, none⟩ = some u) (h1 : ∀ u ∈ news, u.oneCell' = true) (hnm : n + m ≤ 1000000000000) (hbase : B ≤ w.heap.size)
    (h : ∀ A' c'' w', Own w' B e size A' (n + m) c'' (xs ++ news) → (∀ w0, Grows w0 w → w0.heap.size ≤ B → Grows w0 w') → wpList Tryz.prog ops Q rest (a.put o.dst (.slice A' (n + m) c'')) w') :
    wpList Tryz.prog ops Q (o :: rest) a w := by
  obtain ⟨i, z, bytes, hi, hz, hsz, hby, hzs, hb64⟩ := E.info
  refine wpList_append_own w hgd s x t ho B e i z size bytes E.under hi hz hsz hby hzs E.pos (.slice A n c) n xs hs hown ⟨g, 0, none⟩ m c' news hx hl (fun j u hu => ?_) h1 (by unfold maxLen; omega) ?_ hbase ?_
  · have := hnews j u hu
    unfold Addr.add
    split
    · rename_i h0; rw [h0] at this; exact this
    · simpa using this
  · exact Nat.le_trans (Nat.mul_le_mul hnm hb64) (by omega)
  · intro v' w' hown' hgr _
    obtain ⟨A', c'', rfl⟩ := own_form hown'
    refine h A' c'' w' hown' fun w0 hw0 hB => ?_
    refine ⟨hgr.os.trans hw0.os, hgr.tape.trans hw0.tape, hgr.output.trans hw0.output, Nat.le_trans hw0.size hgr.size, fun k hk => ?_⟩
    refine (hgr.block k (Nat.lt_of_lt_of_le hk hw0.size) fun e => ?_).trans (hw0.block k hk)
    have := World.ownsRow.lt hown k e.symm
    omega
end

end Go.Proofs.YtomednfddpggaaaGreat

/- Slices of a call's own, once more: appends of one element; slices that read as numbers and edges. -/
namespace Go.Proofs.YtomednfddpggaaaGreat
open Go Go.RowKit
theorem elemInt : Elem 36 3 1 := by
  have h : (Tryz.prog.info? 3).map (fun i => (i.zero, i.size, i.bytes)) = some (some (.int .i64 0), 1, 8) := by kernel_rfl
  obtain ⟨i, hi, hz, hs, hb⟩ := info_parts h
  exact ⟨Tryz.underlying36, ⟨i, _, 8, hi, hz, hs, hb, rfl, by omega⟩, by omega⟩
theorem Rd.intsH {w : World} {A : Option Addr} {n : Nat} {k : IntKind} {xs : List Int} (h : Rd w A 1 n (xs.map (.int k))) (hn : 0 < n) :
    ∃ b off, A = some ⟨b, off, none⟩ ∧ ∀ j, j < n → Holds w ⟨b, off + j, none⟩ (.int k (gi xs j)) := by
  obtain ⟨b, off, e, hc⟩ := h.ints hn
  exact ⟨b, off, e, fun j hj => ⟨hc j hj⟩⟩
theorem Rd.edgesH {w : World} {A : Option Addr} {n : Nat} {E : List Edg} (h : Rd w A 3 n (esCells E)) (hn : 0 < n) :
    ∃ b off, A = some ⟨b, off, none⟩ ∧ ∀ k, k < n → Holds w ⟨b, off + k * 3, none⟩ (.int .i64 (ge E k).f) ∧ Holds w ⟨b, off + k * 3 + 1, none⟩ (.int .i64 (ge E k).t) ∧ Holds w ⟨b, off + k * 3 + 2, none⟩ (.int .u64 (ge E k).w) := by
  obtain ⟨b, off, e, hc⟩ := h.edges hn
  exact ⟨b, off, e, fun j hj => ⟨⟨(hc j hj).1⟩, ⟨(hc j hj).2.1⟩, ⟨(hc j hj).2.2⟩⟩⟩
theorem Own.build (w : World) (e : TypeId) (l : List Value) (B : Nat) (hB : B ≤ w.heap.size) (hl : l.length ≤ 1000000) : Own (w.alloc (.cells l.toArray e)) B e 1 (some ⟨w.heap.size, 0, none⟩) l.length l.length l :=
  ⟨by omega, .inr ⟨w.heap.size, l.length, l.toArray, rfl, hB, (by show (w.heap.push _)[w.heap.size]? = _; simp), Nat.le_refl _, by unfold maxLen; omega, by simp, by simp⟩⟩
theorem Own.at {w : World} {B n c : Nat} {e : TypeId} {A : Option Addr} {xs : List Value} (h : Own w B e 1 A n c xs) (hn : 0 < n) : ∃ g, A = some ⟨g, 0, none⟩ ∧ B ≤ g ∧ ∀ j u, xs[j]? = some u → Mine w ⟨g, j, none⟩ u := by
  obtain ⟨g, cur, rfl, hB, _⟩ := h.at_ hn
  exact ⟨g, rfl, hB, fun j u hu => ⟨h.cell rfl hu, h.frozen rfl hn j⟩⟩
section
variable {P : Program} {w : World} {e : TypeId} {ops : Array Oper} {rest : List Oper} {o : Oper} {a : Act} {Q : Exit → Act → World → Prop}
theorem wp_app1 {t : TypeId} (E : Elem t e 1) (hgd : o.guard = none) (s x : Operand) (ho : o.op = .call { callee := .builtin .append, args := #[s, x], argTypes := #[t, t] })
    (w0 : World) (hw0 : Grows w0 w) (n c : Nat) (A : Option Addr) (xs : List Value) (hs : a.eval s = .slice A n c) (hown : Own w w0.heap.size e 1 A n c xs) (g c' : Nat) (v : Value) (hx : a.eval x = .slice (some ⟨g, 0, none⟩) 1 c')
    (hv : Holds w ⟨g, 0, none⟩ v) (h1 : v.oneCell' = true) (hnm : n + 1 ≤ 1000000000000)
    (h : ∀ A' c'' (y : Later w0), Own y.now w0.heap.size e 1 A' (n + 1) c'' (xs ++ [v]) → wpList Tryz.prog ops Q rest (a.put o.dst (.slice A' (n + 1) c'')) y.now) :
    wpList Tryz.prog ops Q (o :: rest) a w := by
  refine wp_app E hgd s x ho w0.heap.size n c A xs hs hown g 1 c' [v] hx rfl ?_ (by intro u hu; simp at hu; rw [hu]; exact h1) hnm hw0.size ?_
  · intro j u hu
    have hj : j = 0 := by
      have := (List.getElem?_eq_some_iff.1 hu).1
      simpa using this
    subst hj
    simp at hu
    subst hu
    exact hv.cell
  · intro A' c'' w' ho hg
    obtain ⟨y, rfl⟩ := (hg w0 hw0 (Nat.le_refl _)).later
    exact h A' c'' y ho
end
end Go.Proofs.YtomednfddpggaaaGreat

/- Slices that a call makes with make. -/
namespace Go.Proofs.YtomednfddpggaaaGreat
open Go Go.RowKit
structure Elem1 (t e : TypeId) (z : Value) : Prop where
  under : Tryz.prog.underlying t = some (.slice e)
  info : ∃ i, Tryz.prog.info? e = some i ∧ i.zero = some z ∧ i.size = 1 ∧ i.bytes ≤ 64
  one : z.cells = #[z]
theorem Elem1.elem {t e : TypeId} {z : Value} (h : Elem1 t e z) : Elem t e 1 := by
  obtain ⟨i, h1, h2, h3, h4⟩ := h.info
  exact ⟨h.under, ⟨i, z, i.bytes, h1, h2, h3, rfl, by rw [h.one]; rfl, h4⟩, by omega⟩
theorem elemInt1 : Elem1 36 3 (.int .i64 0) := by
  have h : (Tryz.prog.info? 3).map (fun i => (i.zero, i.size, i.bytes)) = some (some (.int .i64 0), 1, 8) := by kernel_rfl
  obtain ⟨i, hi, hz, hs, hb⟩ := info_parts h
  exact ⟨Tryz.underlying36, ⟨i, hi, hz, hs, by omega⟩, rfl⟩
theorem elemU64 : Elem1 31 38 (.int .u64 0) := by
  have h : (Tryz.prog.info? 38).map (fun i => (i.zero, i.size, i.bytes)) = some (some (.int .u64 0), 1, 8) := by kernel_rfl
  obtain ⟨i, hi, hz, hs, hb⟩ := info_parts h
  exact ⟨Tryz.underlying31, ⟨i, hi, hz, hs, by omega⟩, rfl⟩
section
variable {w : World} {e : TypeId} {ops : Array Oper} {rest : List Oper} {o : Oper} {a : Act} {Q : Exit → Act → World → Prop}
theorem wp_make1 {t : TypeId} {z : Value} (E : Elem1 t e z) (hgd : o.guard = none) (l c : Operand) (ho : o.op = Op.makeSlice t l c) (w0 : World) (hw0 : Grows w0 w) (n : Nat) {L C : Int} (hl : a.eval l = .int .i64 L) (hc : a.eval c = .int .i64 C)
    (hL : L = (n : Int)) (hC : C = (n : Int)) (hn : n ≤ 1000000000)
    (h : ∀ g (y : Later w0), w0.heap.size ≤ g → Own y.now w0.heap.size e 1 (some ⟨g, 0, none⟩) n n (List.replicate n z) → wpList Tryz.prog ops Q rest (a.put o.dst (.slice (some ⟨g, 0, none⟩) n n)) y.now) :
    wpList Tryz.prog ops Q (o :: rest) a w := by
  obtain ⟨i, h1, h2, h3, h4⟩ := E.info
  refine wpList_make_full w hgd l c t ho w0.heap.size e i z 1 E.under h1 h2 h3 .i64 .i64 L C n hl hc hL hC ?_ (by unfold maxLen; omega) hw0.size ?_
  · have := Nat.mul_le_mul h4 hn; omega
  · intro w' hown hg
    have hg' : Grows w w' := ⟨hg.os, hg.tape, hg.output, hg.size, fun k hk => hg.block k hk (by simp)⟩
    obtain ⟨y, rfl⟩ := (hw0.trans hg').later
    rw [E.one, toList_madeCells_one, Nat.mul_one] at hown
    exact h _ y hw0.size hown
end
section
variable {w : World} {e : TypeId} {ops : Array Oper} {rest : List Oper} {o : Oper} {a : Act} {Q : Exit → Act → World → Prop}
theorem wp_appS {t : TypeId} {size : Nat} (E : Elem t e size) (hgd : o.guard = none) (s x : Operand) (ho : o.op = .call { callee := .builtin .append, args := #[s, x], argTypes := #[t, t] })
    (w0 : World) (hw0 : Grows w0 w) (n c : Nat) (A : Option Addr) (xs : List Value) (hs : a.eval s = .slice A n c) (hown : Own w w0.heap.size e size A n c xs) (g c' : Nat) (news : List Value) (hx : a.eval x = .slice (some ⟨g, 0, none⟩) 1 c')
    (hl : news.length = size) (hv : ∀ j u, news[j]? = some u → w.cell? ⟨g, j, none⟩ = some u) (h1 : ∀ u ∈ news, u.oneCell' = true) (hnm : n + 1 ≤ 1000000000000)
    (h : ∀ A' c'' (y : Later w0), Own y.now w0.heap.size e size A' (n + 1) c'' (xs ++ news) → wpList Tryz.prog ops Q rest (a.put o.dst (.slice A' (n + 1) c'')) y.now) :
    wpList Tryz.prog ops Q (o :: rest) a w := by
  refine wp_app E hgd s x ho w0.heap.size n c A xs hs hown g 1 c' news hx (by omega) hv h1 hnm hw0.size ?_
  intro A' c'' w' ho hg
  obtain ⟨y, rfl⟩ := (hg w0 hw0 (Nat.le_refl _)).later
  exact h A' c'' y ho
end
theorem MapII.row {w w' : World} {b n s B n' c size : Nat} {f : Int → Option Int} {e : TypeId} {A : Option Addr} {xs : List Value} (h : MapII w b n s f) (ho : Own w B e size A n' c xs) (hg : w.grownBy w' (Value.slice A n' c).ownBlock) : MapII w' b n s f := by
  obtain ⟨D, h1, h2⟩ := h
  refine ⟨D, h1.kept hg ?_, h2⟩
  obtain ⟨es, clock, hb, _⟩ := h1
  intro hc
  rcases ho.2 with ⟨h3, _⟩ | ⟨g, cap, cur, h3, _, h4, _⟩
  · injection h3 with h3
    subst h3
    simp [Value.ownBlock] at hc
  · injection h3 with h3
    subst h3
    simp [Value.ownBlock] at hc
    subst hc
    rw [hb] at h4
    cases h4
section
variable {w : World} {e : TypeId} {ops : Array Oper} {rest : List Oper} {o : Oper} {a : Act} {Q : Exit → Act → World → Prop}
theorem wp_app1M {t : TypeId} (E : Elem t e 1) (hgd : o.guard = none) (s x : Operand) (ho : o.op = .call { callee := .builtin .append, args := #[s, x], argTypes := #[t, t] })
    (w0 : World) (hw0 : Grows w0 w) (n c : Nat) (A : Option Addr) (xs : List Value) (hs : a.eval s = .slice A n c) (hown : Own w w0.heap.size e 1 A n c xs) (g c' : Nat) (v : Value) (hx : a.eval x = .slice (some ⟨g, 0, none⟩) 1 c')
    (hv : Holds w ⟨g, 0, none⟩ v) (h1 : v.oneCell' = true) (hnm : n + 1 ≤ 1000000000000)
    (h : ∀ A' c'' (y : Later w0), Own y.now w0.heap.size e 1 A' (n + 1) c'' (xs ++ [v]) → w.grownBy y.now (Value.slice A n c).ownBlock → wpList Tryz.prog ops Q rest (a.put o.dst (.slice A' (n + 1) c'')) y.now) :
    wpList Tryz.prog ops Q (o :: rest) a w := by
  obtain ⟨i, z, bytes, hi, hz, hsz, hby, hzs, hb64⟩ := E.info
  refine wpList_append_own w hgd s x t ho w0.heap.size e i z 1 bytes E.under hi hz hsz hby hzs E.pos (.slice A n c) n xs hs hown ⟨g, 0, none⟩ 1 c' [v] hx rfl (fun j u hu => ?_) (by intro u hu; simp at hu; rw [hu]; exact h1) (by unfold maxLen; omega) ?_ hw0.size ?_
  · have hj : j = 0 := by
      have := (List.getElem?_eq_some_iff.1 hu).1
      simpa using this
    subst hj
    simp at hu
    subst hu
    simpa [Addr.add] using hv.cell
  · exact Nat.le_trans (Nat.mul_le_mul hnm hb64) (by omega)
  · intro v' w' hown' hgr _
    obtain ⟨A', c'', rfl⟩ := own_form hown'
    have hgw : Grows w0 w' := by
      refine ⟨hgr.os.trans hw0.os, hgr.tape.trans hw0.tape, hgr.output.trans hw0.output, Nat.le_trans hw0.size hgr.size, fun k hk => ?_⟩
      refine (hgr.block k (Nat.lt_of_lt_of_le hk hw0.size) fun e => ?_).trans (hw0.block k hk)
      have := World.ownsRow.lt hown k e.symm
      omega
    obtain ⟨y, rfl⟩ := hgw.later
    exact h A' c'' y hown' hgr
end
theorem Own.put {w w0 : World} {n c j g : Nat} {e : TypeId} {xs : List Value} (h : Own w w0.heap.size e 1 (some ⟨g, 0, none⟩) n c xs) (hw0 : Grows w0 w) (hn : 0 < n) (u : Value) :
    ∃ y : Later w0, w.setCell ⟨g, j, none⟩ u = y.now ∧ Own y.now w0.heap.size e 1 (some ⟨g, 0, none⟩) n c (xs.set j u) := by
  obtain ⟨g', hA, hB, _⟩ := h.at hn
  injection hA with hA
  injection hA with hA
  subst hA
  exact ⟨⟨_, hw0.set hB u⟩, rfl, h.set rfl hn j u⟩
end Go.Proofs.YtomednfddpggaaaGreat
