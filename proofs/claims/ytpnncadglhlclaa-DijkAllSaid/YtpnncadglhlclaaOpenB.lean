/- What an argument that can be read is: graphs, rows of rows. -/
import Derived.Test.YtpnncadglhlclaaOpen
import Derived.Test.YtpnncadglhlclaaGraph
import Derived.Test.YtpnncadglhlclaaRowsB
import Derived.Deep.Strs
namespace Go.Proofs.Ytpnncadglhlclaa
open Go Go.ChangeShapes Go.WideShapes Go.ChangeAt Go.RowKit

theorem flat_at {F : Nat → List Value} {size : Nat} (hs : 0 < size) : ∀ n, (∀ i, i < n → (F i).length = size) → ((List.range n).flatMap F).length = n * size ∧ ∀ i j, i < n → j < size → ((List.range n).flatMap F)[i * size + j]? = (F i)[j]?
  | 0, _ => ⟨by simp, fun i j h => by omega⟩
  | n + 1, h => by
    obtain ⟨ih1, ih2⟩ := flat_at hs n fun i hi => h i (by omega)
    have e : (List.range (n + 1)).flatMap F = (List.range n).flatMap F ++ F n := by rw [List.range_succ, List.flatMap_append]; simp
    rw [e]
    refine ⟨by rw [List.length_append, ih1, h n (by omega), Nat.succ_mul], fun i j hi hj => ?_⟩
    by_cases hin : i < n
    · have : i * size + j < n * size := by
        have := Nat.mul_le_mul_right size (show i + 1 ≤ n by omega)
        rw [Nat.succ_mul] at this
        omega
      rw [List.getElem?_append_left (by omega)]
      exact ih2 i j hin hj
    · obtain rfl : i = n := by omega
      rw [List.getElem?_append_right (by omega), ih1, show i * size + j - i * size = j by omega]

theorem add_plain (b off i : Nat) : (⟨b, off, none⟩ : Addr).add i = ⟨b, off + i, none⟩ := by
  unfold Addr.add
  split
  · rename_i h0; rw [h0]; rfl
  · rfl

section
variable {H : Type} {enc : TypeId × Value → H} {P : Program} {w : World} {base b0 : Nat} {held : Bool} {r : Reach} {t : TypeId} {v : Value} {d : DataW H} {p : List MemPlace}

/-- A slice of whatever: its elements' cells, and that each can be read. -/
theorem open_elems {e : TypeId} {sz fuel : Nat} {x : DataW H × List MemPlace} {cs : List Value} (ht : P.underlying t = some (.slice e)) (hc : P.cellsOf e = sz) (hsz : 0 < sz) (h : DataW.trod enc P w base (fun _ => true) held fuel t cs = some x) :
    ∃ (A : Option Addr) (n c : Nat) (F : Nat → List Value), cs = [.slice A n c] ∧ n ≤ c ∧ c ≤ maxLen ∧ Rd w A sz n ((List.range n).flatMap F) ∧ ∀ i, i < n → (F i).length = sz ∧ ∃ m y, DataW.trod enc P w base (fun _ => true) held m e (F i) = some y := by
  rcases Deep.open_slice ht h with ⟨rfl, _⟩ | ⟨a, n, c, m, k, D, Pl, rfl, _, hl, hm, hmm, _, hx⟩
  · exact ⟨none, 0, 0, fun _ => [], rfl, Nat.le_refl _, by unfold maxLen; omega, ⟨by simp, fun h => by omega⟩, fun i hi => by omega⟩
  · simp only [if_true] at hmm
    subst hmm
    rw [hc] at hx
    obtain ⟨F, hF⟩ := Deep.choose_lt (α := List Value) (p := fun i cs' => w.cells? base (a.add (i * sz)) sz = some cs' ∧ DataW.trod enc P w base (fun _ => true) held k e cs' = some (D i, Pl i)) hx
    have hlen : ∀ i, i < m → (F i).length = sz := fun i hi => (World.cells?_some (hF i hi).1).2.1
    refine ⟨_, n, m, F, rfl, hl, hm, ?_, fun i hi => ⟨hlen i (by omega), k, _, (hF i (by omega)).2⟩⟩
    obtain ⟨fl1, fl2⟩ := flat_at hsz n fun i hi => hlen i (by omega)
    refine ⟨fl1, fun hn _ => ?_⟩
    obtain ⟨b, off, spot⟩ := a
    have hcell : ∀ i j u, i < n → (F i)[j]? = some u → w.cell? (((⟨b, off, spot⟩ : Addr).add (i * sz)).add j) = some u := fun i j u hi hu => by
      have hj : j < sz := by
        rcases Nat.lt_or_ge j sz with h | h
        · exact h
        · rw [List.getElem?_eq_none (by rw [hlen i (by omega)]; exact h)] at hu; cases hu
      have := (World.cells?_some (hF i (by omega)).1).2.2 j hj
      rw [hu] at this
      exact this
    have hs : spot = none := by
      have h0 : ∃ u, (F 0)[0]? = some u := ⟨_, List.getElem?_eq_getElem (by rw [hlen 0 (by omega)]; exact hsz)⟩
      obtain ⟨u, hu⟩ := h0
      have := spot_none (hcell 0 0 u hn hu)
      simpa [Addr.add] using this
    subst hs
    refine ⟨b, off, rfl, fun q u hu => ?_⟩
    have hq : q < n * sz := by
      rcases Nat.lt_or_ge q (n * sz) with h | h
      · exact h
      · rw [List.getElem?_eq_none (by rw [fl1]; exact h)] at hu; cases hu
    have e : q = q / sz * sz + q % sz := (Nat.div_add_mod' q sz).symm
    have hi : q / sz < n := (Nat.div_lt_iff_lt_mul hsz).2 hq
    have hj : q % sz < sz := Nat.mod_lt _ hsz
    rw [e, fl2 _ _ hi hj] at hu
    have := hcell _ _ u hi hu
    rw [add_plain, add_plain, Nat.add_assoc, ← e] at this
    exact this

/-- All that is known of an edge that came in. -/
def edgOk (e : Edg) : Prop := I64 e.f ∧ I64 e.t ∧ U64 e.w

theorem open_edges {te : TypeId} {f0 f1 f2 : Field} {fuel : Nat} {x : DataW H × List MemPlace} {cs : List Value} (ht : P.underlying t = some (.slice te)) (hs : P.underlying te = some (.struct #[f0, f1, f2]))
    (h0 : P.underlying f0.type = some (.int .i64)) (h1 : P.underlying f1.type = some (.int .i64)) (h2 : P.underlying f2.type = some (.int .u64)) (ho : f0.offset = 0 ∧ f1.offset = 1 ∧ f2.offset = 2)
    (hcs : P.cellsOf f0.type = 1 ∧ P.cellsOf f1.type = 1 ∧ P.cellsOf f2.type = 1) (hc : P.cellsOf te = 3) (h : DataW.trod enc P w base (fun _ => true) held fuel t cs = some x) :
    ∃ (A : Option Addr) (n c : Nat) (E : List Edg), cs = [.slice A n c] ∧ n ≤ c ∧ Rd w A 3 n (esCells E) ∧ ∀ k, k < n → edgOk (ge E k) := by
  obtain ⟨A, n, c, F, rfl, hl, _, hr, hF⟩ := open_elems ht hc (by omega) h
  have hE : ∀ i, i < n → ∃ e : Edg, F i = eCells e ∧ edgOk e := fun i hi => by
    obtain ⟨hlen, m, y, hy⟩ := hF i hi
    obtain ⟨y0, y1, y2, k, _, _, e0, e1, e2⟩ := Deep.trod_struct3 hs hy
    rw [ho.1, hcs.1] at e0
    rw [ho.2.1, hcs.2.1] at e1
    rw [ho.2.2, hcs.2.2] at e2
    obtain ⟨c0, c1, c2, hFi⟩ : ∃ c0 c1 c2, F i = [c0, c1, c2] := by
      match F i, hlen with
      | [c0, c1, c2], _ => exact ⟨c0, c1, c2, rfl⟩
    rw [hFi] at e0 e1 e2 ⊢
    obtain ⟨a, ha, _, wa⟩ := DataW.trod_int h0 e0
    obtain ⟨b, hb, _, wb⟩ := DataW.trod_int h1 e1
    obtain ⟨g, hg, _, wg⟩ := DataW.trod_int h2 e2
    simp at ha hb hg
    subst ha hb hg
    exact ⟨⟨a, b, g⟩, rfl, wf_i64 wa, wf_i64 wb, wf_u64 wg⟩
  obtain ⟨f, hf⟩ := Deep.choose_lt (α := Option Edg) (p := fun i o => ∃ e, o = some e ∧ F i = eCells e ∧ edgOk e) (fun i hi => by obtain ⟨e, h⟩ := hE i hi; exact ⟨some e, e, rfl, h⟩)
  let f' : Nat → Edg := fun i => (f i).getD ⟨0, 0, 0⟩
  have hf' : ∀ i, i < n → F i = eCells (f' i) ∧ edgOk (f' i) := fun i hi => by
    obtain ⟨e, h1, h2⟩ := hf i hi
    simp only [f', h1, Option.getD_some]
    exact h2
  refine ⟨A, n, c, (List.range n).map f', rfl, hl, ?_, fun k hk => ?_⟩
  · have e : esCells ((List.range n).map f') = (List.range n).flatMap F := by
      unfold esCells
      rw [List.flatMap_map, List.flatMap_def, List.flatMap_def]
      exact congrArg List.flatten (List.map_congr_left fun i hi => ((hf' i (List.mem_range.1 hi)).1).symm)
    rw [e]
    exact hr
  · have : ge ((List.range n).map f') k = f' k := by simp [ge, hk]
    rw [this]
    exact (hf' k hk).2

theorem open_graph {f0 f1 g0 g1 g2 : Field} {te : TypeId} (ht : P.underlying t = some (.struct #[f0, f1])) (h0 : P.underlying f0.type = some (.int .i64)) (h1 : P.underlying f1.type = some (.slice te)) (hs : P.underlying te = some (.struct #[g0, g1, g2]))
    (k0 : P.underlying g0.type = some (.int .i64)) (k1 : P.underlying g1.type = some (.int .i64)) (k2 : P.underlying g2.type = some (.int .u64)) (ho : g0.offset = 0 ∧ g1.offset = 1 ∧ g2.offset = 2)
    (hcs : P.cellsOf g0.type = 1 ∧ P.cellsOf g1.type = 1 ∧ P.cellsOf g2.type = 1) (hc : P.cellsOf te = 3) (hone : Deep.oneCellFields P #[f0, f1] = true) (hC : P.cellsOf t = 2)
    (hv : Value.okWide P w r b0 t v) (h : DataW.Trod enc P w base (fun _ => true) held t v d p) :
    ∃ (N : Int) (A : Option Addr) (n c : Nat) (E : List Edg), v = .agg #[.int .i64 N, .slice A n c] ∧ I64 N ∧ n ≤ c ∧ Rd w A 3 n (esCells E) ∧ ∀ k, k < n → edgOk (ge E k) := by
  obtain ⟨c0, c1, y0, y1, m, rfl, rfl, rfl, e0, e1⟩ := Joins.open_agg2 ht hone hC hv h
  obtain ⟨x, hx, _, wx⟩ := DataW.trod_int h0 e0
  simp at hx
  subst hx
  obtain ⟨A, n, c, E, he, hl, hr, hE⟩ := open_edges h1 hs k0 k1 k2 ho hcs hc e1
  simp at he
  subst he
  exact ⟨x, A, n, c, E, rfl, wf_i64 wx, hl, hr, hE⟩

/-- All that is known of a row that came in. -/
def rowIn (w : World) (r : Row) : Prop := rowOk w r ∧ (∀ z ∈ r.xs, I64 z) ∧ (r.A = none → r.n = 0 ∧ r.c = 0)

theorem open_rows {e i : TypeId} (ht : P.underlying t = some (.slice e)) (he : P.underlying e = some (.slice i)) (hi : P.underlying i = some (.int .i64)) (hce : P.cellsOf e = 1) (hci : P.cellsOf i = 1)
    (hv : Value.okWide P w r b0 t v) (h : DataW.Trod enc P w base (fun _ => true) held t v d p) :
    ∃ (A : Option Addr) (n c : Nat) (R : List Row), v = .slice A n c ∧ n ≤ c ∧ Rd w A 1 n (R.map rowVal) ∧ ∀ k, k < n → rowIn w (gr R k) := by
  obtain ⟨A, n, c, rfl⟩ := okWide_slice ht hv
  obtain ⟨fuel, hf⟩ := h
  obtain ⟨A', n', c', F, hcs, hl, _, hr, hF⟩ := open_elems ht hce (by omega) hf
  simp [Value.cells] at hcs
  obtain ⟨rfl, rfl, rfl⟩ := hcs
  have hE : ∀ k, k < n → ∃ r : Row, F k = [rowVal r] ∧ rowIn w r := fun k hk => by
    obtain ⟨hlen, m, y, hy⟩ := hF k hk
    rcases open_ints he hi hci hy with ⟨hcs, _⟩ | ⟨x, l, c', zs, hcs, _, hl, hm, hz, _, hcell, hwz⟩
    · exact ⟨⟨none, 0, 0, []⟩, hcs, ⟨⟨rfl, fun h => absurd h (by simp)⟩, Nat.le_refl _⟩, fun z hz => (by cases hz), fun _ => ⟨rfl, rfl⟩⟩
    · obtain ⟨b, off, spot⟩ := x
      simp only [if_true] at hz
      refine ⟨⟨some ⟨b, off, spot⟩, l, c', zs.take l⟩, hcs, ⟨⟨by simp; omega, fun h1 _ => ?_⟩, hl⟩, fun z hz => wf_i64 (hwz z (List.mem_of_mem_take hz)), fun h => (by cases h)⟩
      dsimp only at h1
      have h0 := hcell 0 (by omega)
      have hs : spot = none := by simpa [Addr.add] using spot_none h0
      subst hs
      refine ⟨b, off, rfl, fun j u hu => ?_⟩
      have hj : j < l := by
        rcases Nat.lt_or_ge j l with h | h
        · exact h
        · rw [List.getElem?_eq_none (by simp; omega)] at hu; cases hu
      have hcj := hcell j (by omega)
      have hjz : j < zs.length := by omega
      have hu' : u = .int .i64 (zs.getD j 0) := by
        simp [hj, List.getElem?_eq_getElem hjz] at hu
        simp [← hu, List.getElem?_eq_getElem hjz]
      rw [hu']
      rw [add_plain] at hcj
      exact hcj
  obtain ⟨f, hf⟩ := Deep.choose_lt (α := Option Row) (p := fun i o => ∃ e, o = some e ∧ F i = [rowVal e] ∧ rowIn w e) (fun i hi => by obtain ⟨e, h⟩ := hE i hi; exact ⟨some e, e, rfl, h⟩)
  let f' : Nat → Row := fun i => (f i).getD ⟨none, 0, 0, []⟩
  have hf' : ∀ i, i < n → F i = [rowVal (f' i)] ∧ rowIn w (f' i) := fun i hi => by
    obtain ⟨e, h1, h2⟩ := hf i hi
    simp only [f', h1, Option.getD_some]
    exact h2
  refine ⟨A, n, c, (List.range n).map f', rfl, hl, ?_, fun k hk => ?_⟩
  · have e : ((List.range n).map f').map rowVal = (List.range n).flatMap F := by
      rw [List.map_map, List.flatMap_def]
      have : (List.range n).map F = (List.range n).map fun i => [rowVal (f' i)] := List.map_congr_left fun i hi => (hf' i (List.mem_range.1 hi)).1
      rw [this, ← List.flatMap_def]
      exact List.map_eq_flatMap
    rw [e]
    exact hr
  · have : gr ((List.range n).map f') k = f' k := by simp [gr, hk]
    rw [this]
    exact (hf' k hk).2
theorem open_numsC {e : TypeId} {k : IntKind} (ht : P.underlying t = some (.slice e)) (he : P.underlying e = some (.int k)) (hc : P.cellsOf e = 1)
    (hv : Value.okWide P w r b0 t v) (h : DataW.Trod enc P w base (fun _ => true) held t v d p) :
    ∃ (A : Option Addr) (n c : Nat) (zs : List Int), v = .slice A n c ∧ n ≤ c ∧ Rd w A 1 n (zs.map (.int k)) ∧ ∀ z ∈ zs, (Lit.int k z).wf = true := by
  obtain ⟨A, n, c, zs, rfl, h1, h2⟩ := open_nums ht he hc hv h
  obtain ⟨fuel, hf⟩ := h
  rcases open_ints ht he hc hf with ⟨hcs, _⟩ | ⟨x, l, c', zs', hcs, _, hl, _⟩
  · simp [Value.cells] at hcs
    obtain ⟨rfl, rfl, rfl⟩ := hcs
    exact ⟨none, 0, 0, zs, rfl, Nat.le_refl _, h1, h2⟩
  · simp [Value.cells] at hcs
    obtain ⟨rfl, rfl, rfl⟩ := hcs
    exact ⟨_, n, c, zs, rfl, hl, h1, h2⟩
theorem open_numsN {e : TypeId} {k : IntKind} (ht : P.underlying t = some (.slice e)) (he : P.underlying e = some (.int k)) (hc : P.cellsOf e = 1)
    (hv : Value.okWide P w r b0 t v) (h : DataW.Trod enc P w base (fun _ => true) held t v d p) :
    ∃ (A : Option Addr) (n c : Nat) (zs : List Int), v = .slice A n c ∧ (n ≤ c ∧ (A = none → n = 0 ∧ c = 0)) ∧ Rd w A 1 n (zs.map (.int k)) ∧ ∀ z ∈ zs, (Lit.int k z).wf = true := by
  obtain ⟨A, n, c, zs, rfl, h1, h2⟩ := open_nums ht he hc hv h
  obtain ⟨fuel, hf⟩ := h
  rcases open_ints ht he hc hf with ⟨hcs, _⟩ | ⟨x, l, c', zs', hcs, _, hl, _⟩
  · simp [Value.cells] at hcs
    obtain ⟨rfl, rfl, rfl⟩ := hcs
    exact ⟨none, 0, 0, zs, rfl, ⟨Nat.le_refl _, fun _ => ⟨rfl, rfl⟩⟩, h1, h2⟩
  · simp [Value.cells] at hcs
    obtain ⟨rfl, rfl, rfl⟩ := hcs
    exact ⟨_, n, c, zs, rfl, ⟨hl, fun h => by cases h⟩, h1, h2⟩
end

end Go.Proofs.Ytpnncadglhlclaa
