/- Plain: a witness that is found is a way through the net. -/
import Derived.Test.YteodapefimlakaaQContractBuilds08
import Derived.Test.YteodapefimlakaaQContractBuilds01
import Derived.Deep.Strs
import Derived.Test.YteodapefimlakaaQContractBuilds07
import Derived.Test.YteodapefimlakaaQContractBuilds03
import Derived.WalkMore
import Derived.Test.YteodapefimlakaaQContractBuilds06
import Derived.Test.YteodapefimlakaaQContractBuilds02
import Derived.Laws.CopyOwn
import Derived.Deep.RegionLaw
/- Plain: a witness that is found is a way through the net. -/
namespace Go.Proofs.Yteodapefimlakaa
open Go Go.RowKit
abbrev NetO := List (List Itm)
def ga (O : NetO) (v : Nat) : List Itm := O.getD v []
structure WS where
  L : List (Nat × Nat)
  s : HS
  k : List Nat
def wsArc (G : List Bool) (v d : Nat) (st : WS) (a : Itm) : WS :=
  if bb G a.1 = false ∧ lessB (stD st.L a.1) (d + a.2) = true then ⟨st.L.set a.1 (d + a.2, 1), (st.s.put a.1 (d + a.2)).1, st.k.set a.1 (gn st.k v + 1)⟩ else st
def wsArcs (_ : NetO) (G : List Bool) (v d : Nat) (st : WS) (l : List Itm) : WS := l.foldl (wsArc G v d) st
theorem wsArcs_snoc (O : NetO) (G : List Bool) (v d : Nat) (st : WS) (l : List Itm) (a : Itm) : wsArcs O G v d st (l ++ [a]) = wsArc G v d (wsArcs O G v d st l) a := by
  unfold wsArcs
  rw [List.foldl_append]
  rfl
def WS.pop (st : WS) : WS := ⟨st.L, st.s.drop (gi2 st.s.L 0).1, st.k⟩
def wsRun (O : NetO) (G : List Bool) (tn below hops : Nat) : Nat → WS → Option Nat
  | 0, _ => none
  | n + 1, st =>
    if st.s.L.length = 0 then none
    else if below ≤ (gi2 st.s.L 0).2 then none
    else if (gi2 st.s.L 0).1 = tn then some (gi2 st.s.L 0).2
    else if hops ≤ gn st.k (gi2 st.s.L 0).1 then wsRun O G tn below hops n st.pop
    else wsRun O G tn below hops n (wsArcs O G (gi2 st.s.L 0).1 (gi2 st.s.L 0).2 st.pop (ga O (gi2 st.s.L 0).1))
def ws0 (N s : Nat) : WS := ⟨(List.replicate N (0, 0)).set s (0, 1), ((⟨[], List.replicate N (-1)⟩ : HS).put s 0).1, List.replicate N 0⟩
def wsFind (O : NetO) (G : List Bool) (from_ tn below hops settles : Nat) : Option Nat :=
  if bb G from_ = true ∨ bb G tn = true then none else wsRun O G tn below hops settles (ws0 O.length from_)
inductive NWay (O : NetO) (G : List Bool) (s : Nat) : Nat → Nat → Prop
  | here : NWay O G s s 0
  | step {v d : Nat} {a : Itm} : NWay O G s v d → a ∈ ga O v → bb G a.1 = false → NWay O G s a.1 (d + a.2)
def NIn (O : NetO) : Prop := ∀ v a, a ∈ ga O v → a.1 < O.length
structure WInv (O : NetO) (G : List Bool) (s : Nat) (st : WS) : Prop where
  lk : st.s.Lk O.length
  ord : st.s.Or
  len : st.L.length = O.length
  klen : st.k.length = O.length
  heap : ∀ v d, st.s.Mem (v, d) → v < O.length ∧ stD st.L v = some d ∧ NWay O G s v d
theorem WInv.arc {O : NetO} {G : List Bool} {s v d : Nat} {st : WS} {a : Itm} (h : WInv O G s st) (hw : NWay O G s v d) (ha : a ∈ ga O v) (hin : a.1 < O.length) : WInv O G s (wsArc G v d st a) := by
  unfold wsArc
  split
  · rename_i hc
    obtain ⟨hg, hl⟩ := hc
    have hf : ∀ k, st.s.Mem (a.1, k) → d + a.2 < k := fun k hk => by
      have := (h.heap _ _ hk).2.1
      rw [this] at hl
      simpa [lessB] using hl
    obtain ⟨p1, p2, p3⟩ := HS.put_ok h.lk h.ord hin hf
    refine ⟨p1, p2, by simp [h.len], by simp [h.klen], fun u k hk => ?_⟩
    rw [stD_set _ _ _ _ (by rw [h.len]; exact hin)]
    rcases (p3 _).1 hk with ⟨hm, hne⟩ | e
    · obtain ⟨q1, q2, q3⟩ := h.heap _ _ hm
      have hne' : u ≠ a.1 := hne
      rw [if_neg hne']
      exact ⟨q1, q2, q3⟩
    · injection e with e1 e2
      subst e1 e2
      rw [if_pos rfl]
      exact ⟨hin, rfl, .step hw ha hg⟩
  · exact h
theorem WInv.arcs {O : NetO} {G : List Bool} {s v d : Nat} (hw : NWay O G s v d) (l : List Itm) : ∀ {st : WS}, WInv O G s st → (∀ a ∈ l, a ∈ ga O v ∧ a.1 < O.length) → WInv O G s (wsArcs O G v d st l) := by
  induction l with
  | nil => exact fun h _ => h
  | cons a l ih =>
    intro st h hl
    exact ih (h.arc hw (hl a (by simp)).1 (hl a (by simp)).2) (fun b hb => hl b (by simp [hb]))
theorem WInv.pop {O : NetO} {G : List Bool} {s : Nat} {st : WS} (h : WInv O G s st) (h0 : 0 < st.s.L.length) : WInv O G s st.pop := by
  obtain ⟨p1, p2, p3⟩ := HS.drop_ok h.lk h.ord h0 (f := (gi2 st.s.L 0).2) rfl
  exact ⟨p1, p2, h.len, h.klen, fun u k hk => h.heap _ _ ((p3 _).1 hk).1⟩
theorem WInv.top {O : NetO} {G : List Bool} {s : Nat} {st : WS} (h : WInv O G s st) (h0 : 0 < st.s.L.length) : NWay O G s (gi2 st.s.L 0).1 (gi2 st.s.L 0).2 := (h.heap _ _ ⟨0, h0, rfl⟩).2.2
theorem wsRun_sound {O : NetO} {G : List Bool} {s tn below hops d : Nat} (hN : NIn O) : ∀ (n : Nat) (st : WS), WInv O G s st → wsRun O G tn below hops n st = some d → d < below ∧ NWay O G s tn d
  | 0, _, _, h => by cases h
  | n + 1, st, hi, h => by
    unfold wsRun at h
    by_cases h1 : st.s.L.length = 0
    · rw [if_pos h1] at h; cases h
    rw [if_neg h1] at h
    by_cases h2 : below ≤ (gi2 st.s.L 0).2
    · rw [if_pos h2] at h; cases h
    rw [if_neg h2] at h
    have h0 : 0 < st.s.L.length := by omega
    by_cases h3 : (gi2 st.s.L 0).1 = tn
    · rw [if_pos h3] at h
      injection h with h
      have := hi.top h0
      rw [h3, h] at this
      exact ⟨by omega, this⟩
    rw [if_neg h3] at h
    split at h
    · exact wsRun_sound hN n _ (hi.pop h0) h
    · exact wsRun_sound hN n _ ((hi.pop h0).arcs (hi.top h0) _ fun a ha => ⟨ha, hN _ a ha⟩) h
theorem ws0_inv {O : NetO} {G : List Bool} {s : Nat} (hs : s < O.length) : WInv O G s (ws0 O.length s) := by
  have lk0 : (⟨[], List.replicate O.length (-1)⟩ : HS).Lk O.length := (st0_lk O.length)
  have or0 : (⟨[], List.replicate O.length (-1)⟩ : HS).Or := fun j _ hj => by simp at hj
  have no0 : ∀ p, ¬ (⟨[], List.replicate O.length (-1)⟩ : HS).Mem p := fun p ⟨i, hi, _⟩ => by simp at hi
  obtain ⟨p1, p2, p3⟩ := HS.put_ok (f := 0) lk0 or0 hs (fun k hk => absurd hk (no0 _))
  refine ⟨p1, p2, by simp [ws0], by simp [ws0], fun u k hk => ?_⟩
  rcases (p3 _).1 hk with ⟨hm, _⟩ | e
  · exact absurd hm (no0 _)
  · injection e with e1 e2
    subst e1 e2
    refine ⟨hs, ?_, .here⟩
    show stD ((List.replicate O.length (0, 0)).set u (0, 1)) u = some 0
    rw [stD_set _ _ _ _ (by simpa using hs), if_pos rfl]
theorem wsFind_sound {O : NetO} {G : List Bool} {s tn below hops settles d : Nat} (hN : NIn O) (hs : s < O.length) (h : wsFind O G s tn below hops settles = some d) : d < below ∧ NWay O G s tn d := by
  unfold wsFind at h
  split at h
  · cases h
  · exact wsRun_sound hN settles _ (ws0_inv hs) h
end Go.Proofs.Yteodapefimlakaa

/- What an argument that can be read is: graphs, rows of rows. -/
namespace Go.Proofs.Yteodapefimlakaa
open Go Go.ChangeShapes Go.WideShapes Go.ChangeAt Go.RowKit

theorem flat_at {F : Nat → List Value} {size : Nat} (hs : 0 < size) : ∀ n, (∀ i, i < n → (F i).length = size) → ((List.range n).flatMap F).length = n * size ∧ ∀ i j, i < n → j < size → ((List.range n).flatMap F)[i * size + j]? = (F i)[j]?
  | 0, _ => ⟨by simp, fun i j h => by omega⟩
  | n + 1, h => by
    obtain ⟨ih1, ih2⟩ := flat_at hs n fun i hi => h i (by omega)
    have e : (List.range (n + 1)).flatMap F = (List.range n).flatMap F ++ F n := by rw [List.range_succ, List.flatMap_append]; simp
    rw [e]
    refine ⟨by rw [List.length_append, ih1, h n (by omega), Nat.succ_mul], fun i j hi hj => ?_⟩
    by_cases hin : i < n
    · have : i * size + j < n * size := by
        have := Nat.mul_le_mul_right size (show i + 1 ≤ n by omega)
        rw [Nat.succ_mul] at this
        omega
      rw [List.getElem?_append_left (by omega)]
      exact ih2 i j hin hj
    · obtain rfl : i = n := by omega
      rw [List.getElem?_append_right (by omega), ih1, show i * size + j - i * size = j by omega]

theorem add_plain (b off i : Nat) : (⟨b, off, none⟩ : Addr).add i = ⟨b, off + i, none⟩ := by
  unfold Addr.add
  split
  · rename_i h0; rw [h0]; rfl
  · rfl

section
variable {H : Type} {enc : TypeId × Value → H} {P : Program} {w : World} {base b0 : Nat} {held : Bool} {r : Reach} {t : TypeId} {v : Value} {d : DataW H} {p : List MemPlace}

theorem open_elems {e : TypeId} {sz fuel : Nat} {x : DataW H × List MemPlace} {cs : List Value} (ht : P.underlying t = some (.slice e)) (hc : P.cellsOf e = sz) (hsz : 0 < sz) (h : DataW.trod enc P w base (fun _ => true) held fuel t cs = some x) :
    ∃ (A : Option Addr) (n c : Nat) (F : Nat → List Value), cs = [.slice A n c] ∧ n ≤ c ∧ c ≤ maxLen ∧ Rd w A sz n ((List.range n).flatMap F) ∧ ∀ i, i < n → (F i).length = sz ∧ ∃ m y, DataW.trod enc P w base (fun _ => true) held m e (F i) = some y := by
  rcases Deep.open_slice ht h with ⟨rfl, _⟩ | ⟨a, n, c, m, k, D, Pl, rfl, _, hl, hm, hmm, _, hx⟩
  · exact ⟨none, 0, 0, fun _ => [], rfl, Nat.le_refl _, by unfold maxLen; omega, ⟨by simp, fun h => by omega⟩, fun i hi => by omega⟩
  · simp only [if_true] at hmm
    subst hmm
    rw [hc] at hx
    obtain ⟨F, hF⟩ := Deep.choose_lt (α := List Value) (p := fun i cs' => w.cells? base (a.add (i * sz)) sz = some cs' ∧ DataW.trod enc P w base (fun _ => true) held k e cs' = some (D i, Pl i)) hx
    have hlen : ∀ i, i < m → (F i).length = sz := fun i hi => (World.cells?_some (hF i hi).1).2.1
    refine ⟨_, n, m, F, rfl, hl, hm, ?_, fun i hi => ⟨hlen i (by omega), k, _, (hF i (by omega)).2⟩⟩
    obtain ⟨fl1, fl2⟩ := flat_at hsz n fun i hi => hlen i (by omega)
    refine ⟨fl1, fun hn _ => ?_⟩
    obtain ⟨b, off, spot⟩ := a
    have hcell : ∀ i j u, i < n → (F i)[j]? = some u → w.cell? (((⟨b, off, spot⟩ : Addr).add (i * sz)).add j) = some u := fun i j u hi hu => by
      have hj : j < sz := by
        rcases Nat.lt_or_ge j sz with h | h
        · exact h
        · rw [List.getElem?_eq_none (by rw [hlen i (by omega)]; exact h)] at hu; cases hu
      have := (World.cells?_some (hF i (by omega)).1).2.2 j hj
      rw [hu] at this
      exact this
    have hs : spot = none := by
      have h0 : ∃ u, (F 0)[0]? = some u := ⟨_, List.getElem?_eq_getElem (by rw [hlen 0 (by omega)]; exact hsz)⟩
      obtain ⟨u, hu⟩ := h0
      have := spot_none (hcell 0 0 u hn hu)
      simpa [Addr.add] using this
    subst hs
    refine ⟨b, off, rfl, fun q u hu => ?_⟩
    have hq : q < n * sz := by
      rcases Nat.lt_or_ge q (n * sz) with h | h
      · exact h
      · rw [List.getElem?_eq_none (by rw [fl1]; exact h)] at hu; cases hu
    have e : q = q / sz * sz + q % sz := (Nat.div_add_mod' q sz).symm
    have hi : q / sz < n := (Nat.div_lt_iff_lt_mul hsz).2 hq
    have hj : q % sz < sz := Nat.mod_lt _ hsz
    rw [e, fl2 _ _ hi hj] at hu
    have := hcell _ _ u hi hu
    rw [add_plain, add_plain, Nat.add_assoc, ← e] at this
    exact this

def edgOk (e : Edg) : Prop := I64 e.f ∧ I64 e.t ∧ U64 e.w

theorem open_edges {te : TypeId} {f0 f1 f2 : Field} {fuel : Nat} {x : DataW H × List MemPlace} {cs : List Value} (ht : P.underlying t = some (.slice te)) (hs : P.underlying te = some (.struct #[f0, f1, f2]))
    (h0 : P.underlying f0.type = some (.int .i64)) (h1 : P.underlying f1.type = some (.int .i64)) (h2 : P.underlying f2.type = some (.int .u64)) (ho : f0.offset = 0 ∧ f1.offset = 1 ∧ f2.offset = 2)
    (hcs : P.cellsOf f0.type = 1 ∧ P.cellsOf f1.type = 1 ∧ P.cellsOf f2.type = 1) (hc : P.cellsOf te = 3) (h : DataW.trod enc P w base (fun _ => true) held fuel t cs = some x) :
    ∃ (A : Option Addr) (n c : Nat) (E : List Edg), cs = [.slice A n c] ∧ n ≤ c ∧ Rd w A 3 n (esCells E) ∧ ∀ k, k < n → edgOk (ge E k) := by
  obtain ⟨A, n, c, F, rfl, hl, _, hr, hF⟩ := open_elems ht hc (by omega) h
  have hE : ∀ i, i < n → ∃ e : Edg, F i = eCells e ∧ edgOk e := fun i hi => by
    obtain ⟨hlen, m, y, hy⟩ := hF i hi
    obtain ⟨y0, y1, y2, k, _, _, e0, e1, e2⟩ := Deep.trod_struct3 hs hy
    rw [ho.1, hcs.1] at e0
    rw [ho.2.1, hcs.2.1] at e1
    rw [ho.2.2, hcs.2.2] at e2
    obtain ⟨c0, c1, c2, hFi⟩ : ∃ c0 c1 c2, F i = [c0, c1, c2] := by
      match F i, hlen with
      | [c0, c1, c2], _ => exact ⟨c0, c1, c2, rfl⟩
    rw [hFi] at e0 e1 e2 ⊢
    obtain ⟨a, ha, _, wa⟩ := DataW.trod_int h0 e0
    obtain ⟨b, hb, _, wb⟩ := DataW.trod_int h1 e1
    obtain ⟨g, hg, _, wg⟩ := DataW.trod_int h2 e2
    simp at ha hb hg
    subst ha hb hg
    exact ⟨⟨a, b, g⟩, rfl, wf_i64 wa, wf_i64 wb, wf_u64 wg⟩
  obtain ⟨f, hf⟩ := Deep.choose_lt (α := Option Edg) (p := fun i o => ∃ e, o = some e ∧ F i = eCells e ∧ edgOk e) (fun i hi => by obtain ⟨e, h⟩ := hE i hi; exact ⟨some e, e, rfl, h⟩)
  let f' : Nat → Edg := fun i => (f i).getD ⟨0, 0, 0⟩
  have hf' : ∀ i, i < n → F i = eCells (f' i) ∧ edgOk (f' i) := fun i hi => by
    obtain ⟨e, h1, h2⟩ := hf i hi
    simp only [f', h1, Option.getD_some]
    exact h2
  refine ⟨A, n, c, (List.range n).map f', rfl, hl, ?_, fun k hk => ?_⟩
  · have e : esCells ((List.range n).map f') = (List.range n).flatMap F := by
      unfold esCells
      rw [List.flatMap_map, List.flatMap_def, List.flatMap_def]
      exact congrArg List.flatten (List.map_congr_left fun i hi => ((hf' i (List.mem_range.1 hi)).1).symm)
    rw [e]
    exact hr
  · have : ge ((List.range n).map f') k = f' k := by simp [ge, hk]
    rw [this]
    exact (hf' k hk).2

theorem open_graph {f0 f1 g0 g1 g2 : Field} {te : TypeId} (ht : P.underlying t = some (.struct #[f0, f1])) (h0 : P.underlying f0.type = some (.int .i64)) (h1 : P.underlying f1.type = some (.slice te)) (hs : P.underlying te = some (.struct #[g0, g1, g2]))
    (k0 : P.underlying g0.type = some (.int .i64)) (k1 : P.underlying g1.type = some (.int .i64)) (k2 : P.underlying g2.type = some (.int .u64)) (ho : g0.offset = 0 ∧ g1.offset = 1 ∧ g2.offset = 2)
    (hcs : P.cellsOf g0.type = 1 ∧ P.cellsOf g1.type = 1 ∧ P.cellsOf g2.type = 1) (hc : P.cellsOf te = 3) (hone : Deep.oneCellFields P #[f0, f1] = true) (hC : P.cellsOf t = 2)
    (hv : Value.okWide P w r b0 t v) (h : DataW.Trod enc P w base (fun _ => true) held t v d p) :
    ∃ (N : Int) (A : Option Addr) (n c : Nat) (E : List Edg), v = .agg #[.int .i64 N, .slice A n c] ∧ I64 N ∧ n ≤ c ∧ Rd w A 3 n (esCells E) ∧ ∀ k, k < n → edgOk (ge E k) := by
  obtain ⟨c0, c1, y0, y1, m, rfl, rfl, rfl, e0, e1⟩ := Joins.open_agg2 ht hone hC hv h
  obtain ⟨x, hx, _, wx⟩ := DataW.trod_int h0 e0
  simp at hx
  subst hx
  obtain ⟨A, n, c, E, he, hl, hr, hE⟩ := open_edges h1 hs k0 k1 k2 ho hcs hc e1
  simp at he
  subst he
  exact ⟨x, A, n, c, E, rfl, wf_i64 wx, hl, hr, hE⟩

def rowIn (w : World) (r : Row) : Prop := rowOk w r ∧ (∀ z ∈ r.xs, I64 z) ∧ (r.A = none → r.n = 0 ∧ r.c = 0)

theorem open_rows {e i : TypeId} (ht : P.underlying t = some (.slice e)) (he : P.underlying e = some (.slice i)) (hi : P.underlying i = some (.int .i64)) (hce : P.cellsOf e = 1) (hci : P.cellsOf i = 1)
    (hv : Value.okWide P w r b0 t v) (h : DataW.Trod enc P w base (fun _ => true) held t v d p) :
    ∃ (A : Option Addr) (n c : Nat) (R : List Row), v = .slice A n c ∧ n ≤ c ∧ Rd w A 1 n (R.map rowVal) ∧ ∀ k, k < n → rowIn w (gr R k) := by
  obtain ⟨A, n, c, rfl⟩ := okWide_slice ht hv
  obtain ⟨fuel, hf⟩ := h
  obtain ⟨A', n', c', F, hcs, hl, _, hr, hF⟩ := open_elems ht hce (by omega) hf
  simp [Value.cells] at hcs
  obtain ⟨rfl, rfl, rfl⟩ := hcs
  have hE : ∀ k, k < n → ∃ r : Row, F k = [rowVal r] ∧ rowIn w r := fun k hk => by
    obtain ⟨hlen, m, y, hy⟩ := hF k hk
    rcases open_ints he hi hci hy with ⟨hcs, _⟩ | ⟨x, l, c', zs, hcs, _, hl, hm, hz, _, hcell, hwz⟩
    · exact ⟨⟨none, 0, 0, []⟩, hcs, ⟨⟨rfl, fun h => absurd h (by simp)⟩, Nat.le_refl _⟩, fun z hz => (by cases hz), fun _ => ⟨rfl, rfl⟩⟩
    · obtain ⟨b, off, spot⟩ := x
      simp only [if_true] at hz
      refine ⟨⟨some ⟨b, off, spot⟩, l, c', zs.take l⟩, hcs, ⟨⟨by simp; omega, fun h1 _ => ?_⟩, hl⟩, fun z hz => wf_i64 (hwz z (List.mem_of_mem_take hz)), fun h => (by cases h)⟩
      dsimp only at h1
      have h0 := hcell 0 (by omega)
      have hs : spot = none := by simpa [Addr.add] using spot_none h0
      subst hs
      refine ⟨b, off, rfl, fun j u hu => ?_⟩
      have hj : j < l := by
        rcases Nat.lt_or_ge j l with h | h
        · exact h
        · rw [List.getElem?_eq_none (by simp; omega)] at hu; cases hu
      have hcj := hcell j (by omega)
      have hjz : j < zs.length := by omega
      have hu' : u = .int .i64 (zs.getD j 0) := by
        simp [hj, List.getElem?_eq_getElem hjz] at hu
        simp [← hu, List.getElem?_eq_getElem hjz]
      rw [hu']
      rw [add_plain] at hcj
      exact hcj
  obtain ⟨f, hf⟩ := Deep.choose_lt (α := Option Row) (p := fun i o => ∃ e, o = some e ∧ F i = [rowVal e] ∧ rowIn w e) (fun i hi => by obtain ⟨e, h⟩ := hE i hi; exact ⟨some e, e, rfl, h⟩)
  let f' : Nat → Row := fun i => (f i).getD ⟨none, 0, 0, []⟩
  have hf' : ∀ i, i < n → F i = [rowVal (f' i)] ∧ rowIn w (f' i) := fun i hi => by
    obtain ⟨e, h1, h2⟩ := hf i hi
    simp only [f', h1, Option.getD_some]
    exact h2
  refine ⟨A, n, c, (List.range n).map f', rfl, hl, ?_, fun k hk => ?_⟩
  · have e : ((List.range n).map f').map rowVal = (List.range n).flatMap F := by
      rw [List.map_map, List.flatMap_def]
      have : (List.range n).map F = (List.range n).map fun i => [rowVal (f' i)] := List.map_congr_left fun i hi => (hf' i (List.mem_range.1 hi)).1
      rw [this, ← List.flatMap_def]
      exact List.map_eq_flatMap
    rw [e]
    exact hr
  · have : gr ((List.range n).map f') k = f' k := by simp [gr, hk]
    rw [this]
    exact (hf' k hk).2
theorem open_numsC {e : TypeId} {k : IntKind} (ht : P.underlying t = some (.slice e)) (he : P.underlying e = some (.int k)) (hc : P.cellsOf e = 1)
    (hv : Value.okWide P w r b0 t v) (h : DataW.Trod enc P w base (fun _ => true) held t v d p) :
    ∃ (A : Option Addr) (n c : Nat) (zs : List Int), v = .slice A n c ∧ n ≤ c ∧ Rd w A 1 n (zs.map (.int k)) ∧ ∀ z ∈ zs, (Lit.int k z).wf = true := by
  obtain ⟨A, n, c, zs, rfl, h1, h2⟩ := open_nums ht he hc hv h
  obtain ⟨fuel, hf⟩ := h
  rcases open_ints ht he hc hf with ⟨hcs, _⟩ | ⟨x, l, c', zs', hcs, _, hl, _⟩
  · simp [Value.cells] at hcs
    obtain ⟨rfl, rfl, rfl⟩ := hcs
    exact ⟨none, 0, 0, zs, rfl, Nat.le_refl _, h1, h2⟩
  · simp [Value.cells] at hcs
    obtain ⟨rfl, rfl, rfl⟩ := hcs
    exact ⟨_, n, c, zs, rfl, hl, h1, h2⟩
theorem open_numsN {e : TypeId} {k : IntKind} (ht : P.underlying t = some (.slice e)) (he : P.underlying e = some (.int k)) (hc : P.cellsOf e = 1)
    (hv : Value.okWide P w r b0 t v) (h : DataW.Trod enc P w base (fun _ => true) held t v d p) :
    ∃ (A : Option Addr) (n c : Nat) (zs : List Int), v = .slice A n c ∧ (n ≤ c ∧ (A = none → n = 0 ∧ c = 0)) ∧ Rd w A 1 n (zs.map (.int k)) ∧ ∀ z ∈ zs, (Lit.int k z).wf = true := by
  obtain ⟨A, n, c, zs, rfl, h1, h2⟩ := open_nums ht he hc hv h
  obtain ⟨fuel, hf⟩ := h
  rcases open_ints ht he hc hf with ⟨hcs, _⟩ | ⟨x, l, c', zs', hcs, _, hl, _⟩
  · simp [Value.cells] at hcs
    obtain ⟨rfl, rfl, rfl⟩ := hcs
    exact ⟨none, 0, 0, zs, rfl, ⟨Nat.le_refl _, fun _ => ⟨rfl, rfl⟩⟩, h1, h2⟩
  · simp [Value.cells] at hcs
    obtain ⟨rfl, rfl, rfl⟩ := hcs
    exact ⟨_, n, c, zs, rfl, ⟨hl, fun h => by cases h⟩, h1, h2⟩
end

end Go.Proofs.Yteodapefimlakaa

/- Regions that draw their order and end in a call that all the rest leads to: the same one walk, and the call last. -/
namespace Go.Proofs.Yteodapefimlakaa
open Go Go.RowKit

def usersB (md : Region.Mode) (ops : Array Oper) (k : Nat) : Bool :=
  (List.range k).all fun i => (List.range (k + 1)).any fun j => decide (i < j) && match ops[j]? with
    | some oj => oj.after.any fun e => Region.binds md e && e.on == i
    | none => false
def lexTail (md : Region.Mode) (ops : Array Oper) (tail : Nat) : Nat → Nat → Array Bool → Bool
  | 0, _, listed => (Region.ready md ops listed == [tail]) && (Region.ready md ops (listed.setIfInBounds tail true)).isEmpty
  | fuel + 1, k, listed => (Region.ready md ops listed).contains k && Region.free md ops listed k && lexTail md ops tail fuel (k + 1) (listed.setIfInBounds k true)
def Closed (md : Region.Mode) (ops : Array Oper) (l : Array Bool) : Prop :=
  ∀ j oj, ops[j]? = some oj → l.getD j false = true → ∀ e ∈ oj.after, Region.binds md e = true → l.getD e.on false = true

section
variable {P : Program} {ops : Array Oper} {md : Region.Mode} {w0 : World} {k : Nat}

theorem users_spec (h : usersB md ops k = true) {i : Nat} (hi : i < k) : ∃ j oj, i < j ∧ j ≤ k ∧ ops[j]? = some oj ∧ ∃ e ∈ oj.after, Region.binds md e = true ∧ e.on = i := by
  unfold usersB at h
  rw [List.all_eq_true] at h
  have h1 := h i (List.mem_range.2 hi)
  rw [List.any_eq_true] at h1
  obtain ⟨j, hj, h2⟩ := h1
  rw [Bool.and_eq_true, decide_eq_true_eq] at h2
  obtain ⟨h3, h4⟩ := h2
  cases ho : ops[j]? with
  | none => rw [ho] at h4; cases h4
  | some oj =>
    rw [ho] at h4
    simp only at h4
    rw [Array.any_eq_true'] at h4
    obtain ⟨e, he, h5⟩ := h4
    rw [Bool.and_eq_true, beq_iff_eq] at h5
    exact ⟨j, oj, h3, by have := List.mem_range.1 hj; omega, ho, e, he, h5.1, h5.2⟩
theorem tail_last (hu : usersB md ops k = true) {l : Array Bool} (hc : Closed md ops l) (hk : k ∈ Region.ready md ops l) (d : Nat) : ∀ i, i < k → k - i ≤ d → l.getD i false = true := by
  obtain ⟨_, ok, hok, hall⟩ := mem_ready.1 hk
  induction d with
  | zero => intro i hi h; omega
  | succ d ih =>
    intro i hi h
    obtain ⟨j, oj, h1, h2, h3, e, he, hb, heq⟩ := users_spec hu hi
    rcases Nat.lt_or_ge j k with hj | hj
    · have := hc j oj h3 (ih j hj (by omega)) e he hb
      rw [heq] at this
      exact this
    · obtain rfl : j = k := by omega
      rw [h3] at hok
      obtain rfl := Option.some.inj hok
      have := hall e he hb
      rw [heq] at this
      exact this
theorem closed_step {l : Array Bool} (hc : Closed md ops l) {i : Nat} (hi : i ∈ Region.ready md ops l) : Closed md ops (l.setIfInBounds i true) := by
  obtain ⟨_, oi, hoi, hall⟩ := mem_ready.1 hi
  intro j oj hoj hj e he hb
  refine getD_set_true ?_
  by_cases h : i = j
  · subst h
    rw [hoi] at hoj
    obtain rfl := Option.some.inj hoj
    exact hall e he hb
  · rw [getD_set_ne false h] at hj
    exact hc j oj hoj hj e he hb

def gAnyU (P : Program) (md : Region.Mode) (ops : Array Oper) (w0 : World) (k : Nat) (T : Act → Env → Prop) : Nat → Array Bool → Act → Env → Prop
  | 0, l, a, G => Region.ready md ops l = [k] ∧ Region.ready md ops (l.setIfInBounds k true) = [] ∧ T a G
  | n + 1, l, a, G => Region.ready md ops l ≠ [] ∧ ∀ i ∈ Region.ready md ops l, i ≠ k ∧ gOp P ops w0 i (gAnyU P md ops w0 k T n (l.setIfInBounds i true)) a G

theorem gAnyU_first (hu : usersB md ops k = true) {T : Act → Env → Prop} {i : Nat} {oi : Oper} {r : Out} (hi : ops[i]? = some oi) (hik : i < k) : ∀ (n : Nat) (l : Array Bool) (a : Act) (G : Env), Closed md ops l →
    (∀ j oj, ops[j]? = some oj → j ≠ i → l.getD j true = false → (∀ e ∈ oj.after, Region.binds md e = true → e.on ≠ i) → oi.apart ops oj = true) →
    i ∈ Region.ready md ops l → Leaves P ops w0 oi a G r →
    gAnyU P md ops w0 k T n (l.setIfInBounds i true) (putA a oi.dst r) (putG G oi.dst r) → gAnyU P md ops w0 k T (n + 1) l a G := by
  intro n
  have notk : ∀ (l : Array Bool), Closed md ops l → i ∈ Region.ready md ops l → ∀ j ∈ Region.ready md ops l, j ≠ k := by
    intro l hc hr j hj e
    subst e
    have h1 := tail_last hu hc hj j i hik (by omega)
    have h2 := (mem_ready.1 hr).1
    rcases Nat.lt_or_ge i l.size with h' | h'
    · simp [h'] at h1 h2
      rw [h1] at h2; cases h2
    · simp [Array.getElem?_eq_none h'] at h1
  induction n with
  | zero =>
    intro l a G hc _ hr hy H
    refine ⟨fun h => (by rw [h] at hr; cases hr), fun j hj => ⟨notk l hc hr j hj, ?_⟩⟩
    by_cases hji : j = i
    · subst hji; unfold gOp; simp only [hi]; exact ⟨r, hy, H⟩
    · have := ready_mono hj hji
      rw [H.1] at this
      exact absurd (List.mem_singleton.1 this) (notk l hc hr j hj)
  | succ n ih =>
    intro l a G hc hfree hr hy H
    refine ⟨fun h => (by rw [h] at hr; cases hr), fun j hj => ⟨notk l hc hr j hj, ?_⟩⟩
    by_cases hji : j = i
    · subst hji; unfold gOp; simp only [hi]; exact ⟨r, hy, H⟩
    · have hstep := (H.2 j (ready_mono hj hji)).2
      obtain ⟨hun, oj, hoj, hall⟩ := mem_ready.1 hj
      have hi0 := (mem_ready.1 hr).1
      have hnot : ∀ e ∈ oj.after, Region.binds md e = true → e.on ≠ i := fun e he hb heq => by
        have hl := hall e he hb
        rw [heq] at hl
        rcases Nat.lt_or_ge i l.size with h' | h'
        · simp [h'] at hi0 hl; rw [hi0] at hl; cases hl
        · simp [Array.getElem?_eq_none h'] at hl
      have hcomm := gOp_put hoj (hfree j oj hoj hji hun hnot) hy hstep
      refine gOp_mono (fun a' G' hk => ?_) hcomm
      refine ih (l.setIfInBounds j true) a' G' (closed_step hc hj) (fun k ok hk' hki hunk hnok => hfree k ok hk' hki ?_ hnok) (ready_mono hr (Ne.symm hji)) hk.1 ?_
      · by_cases hjk : j = k
        · subst hjk; exact hun
        · rw [getD_set_ne true hjk] at hunk; exact hunk
      · rw [Array.setIfInBounds_comm _ _ hji]
        exact hk.2
theorem gAnyU_of_lex (hu : usersB md ops k = true) {T : Act → Env → Prop} : ∀ (l : List Oper) (i : Nat) (listed : Array Bool) (a : Act) (G : Env), (∀ j, j < l.length → l[j]? = ops[i + j]?) → i + l.length = k → Closed md ops listed →
    lexTail md ops k l.length i listed = true → gLex P ops w0 T l a G → gAnyU P md ops w0 k T l.length listed a G
  | [], _, _, _, _, _, _, _, hB, h => by
    simp only [List.length_nil, lexTail, Bool.and_eq_true, beq_iff_eq, List.isEmpty_iff] at hB
    exact ⟨hB.1, hB.2, h⟩
  | o :: l, i, listed, a, G, hl, hlen, hc, hB, h => by
    have h0 : ops[i]? = some o := by simpa using (hl 0 (by simp)).symm
    simp only [List.length_cons, lexTail, Bool.and_eq_true] at hB
    obtain ⟨⟨hr, hf⟩, hB'⟩ := hB
    obtain ⟨r, hy, hK⟩ := h
    have hr' : i ∈ Region.ready md ops listed := by simpa using hr
    exact gAnyU_first hu h0 (by simp at hlen; omega) l.length listed a G hc (Region.free_spec h0 hf) hr' hy
      (gAnyU_of_lex hu l (i + 1) _ _ _ (fun j hj => by have := hl (j + 1) (by simp; omega); simpa [Nat.add_assoc, Nat.add_comm 1 j] using this) (by simp at hlen; omega) (closed_step hc hr') hB' hK)

variable {F : Fence} {m : Nat}
theorem wpAnyIn_of_gAnyU (hF : WideF F) {o : Oper} (ho : ops[k]? = some o) (hg : o.guard = none) {Q : Exit → Act → World → Prop} : ∀ (n : Nat) (l : Array Bool) (a : Act) (G : Env) (a' : Act) (w : World), (∀ i oi, ops[i]? = some oi → i ≠ k → (match oi.op with | .defer _ => false | _ => true) = true) → Grows w0 w → AllLast G → Conc G a a' w →
    gAnyU P md ops w0 k (fun a G => ∀ w, Grows w0 w → ∀ a', Conc G a a' w → o.wpIn F m P a' w (fun a w => Q .normal a w) Q) n l a G → wpAnyIn F m P md ops Q (n + 1) l a' w
  | 0, l, a, G, a', w, _, hw, _, hc, h => by
    obtain ⟨h1, h2, h3⟩ := h
    refine ⟨fun h0 => (by rw [h1] at h0; cases h0), fun i hi => ?_⟩
    rw [h1] at hi
    obtain rfl := List.mem_singleton.1 hi
    unfold wpOpIn
    simp only [ho]
    have hwt : Region.wanted o (yielded ops a'.tmps) = true := by unfold Region.wanted; rw [hg]
    rw [if_pos hwt]
    exact Oper.wpIn_mono (fun a w h => ⟨h2, h⟩) (h3 w hw a' hc)
  | n + 1, l, a, G, a', w, hnd, hw, hG, hc, h => by
    refine ⟨fun h0 => absurd h0 h.1, fun i hi => ?_⟩
    obtain ⟨hik, h1⟩ := h.2 i hi
    unfold gOp at h1
    unfold wpOpIn
    split
    · rename_i ho
      simp only [ho] at h1
      exact wpAnyIn_of_gAnyU hF (by assumption) hg n _ a G a' w hnd hw hG hc h1
    · rename_i o2 ho2
      simp only [ho2] at h1
      obtain ⟨r, ⟨hgf, hd, hy⟩, hK⟩ := h1
      rw [wanted_conc hgf hc]
      rcases hy with ⟨hwant, hl, hf, howe⟩ | ⟨hwant, rfl⟩
      · rw [if_pos hwant]
        exact wpIn_of_runs hF (hnd i o2 ho2 hik) (howe w hw a' (fun t _ => hc.2 t)) fun u w' hq =>
          wpAnyIn_of_gAnyU hF (by assumption) hg n _ _ _ _ _ hnd (hw.trans hq.1) (hG.putG hl) (hc.step hG hq.1 hd hf hq.2) hK
      · rw [hwant]
        simp only [Bool.false_eq_true, if_false]
        refine ⟨fun f _ => hF.fn f, ?_⟩
        have hG0 : putG G o2.dst (.inl undef) = G := by cases o2.dst <;> rfl
        rw [hG0] at hK
        have hc0 := hc.step hG (Grows.refl w) hd (r := .inl undef) (u := undef) trivial rfl
        rw [hG0] at hc0
        exact wpAnyIn_of_gAnyU hF (by assumption) hg n _ _ _ _ _ hnd hw hG hc0 hK

theorem wpIn_region_tail (hF : WideF F) {id : Nat} {Q : Exit → Act → World → Prop} {a : Act} {w : World} {l : List Oper} {o : Oper} (hm : P.follows .mixedOrders = true) (hB : lexTail .any (l ++ [o]).toArray l.length l.length 0 (Array.replicate (l.length + 1) false) = true)
    (hu : usersB .any (l ++ [o]).toArray l.length = true) (hnd : noDefer l = true) (hg : o.guard = none)
    (h : gLex P (l ++ [o]).toArray w (fun a G => ∀ w', Grows w w' → ∀ a', Conc G a a' w' → o.wpIn F m P a' w' (fun a w => Q .normal a w) Q) l a Env.no) : (Code.region id (l ++ [o]).toArray true).wpIn F m P Q a w := by
  have hsz : (l ++ [o]).toArray.size = l.length + 1 := by simp
  refine wpIn_region_any hm ?_
  rw [hsz]
  refine wpAnyIn_of_gAnyU (w0 := w) (k := l.length) hF (o := o) (by simp) hg l.length _ a Env.no _ _ (fun i oi hi hik => ?_) (Grows.drawn w _) (fun t p h => by cases h) ⟨rfl, fun t => rfl⟩ ?_
  · have hlt : i < l.length := by
      have := (Array.getElem?_eq_some_iff.1 hi).1
      rw [hsz] at this
      omega
    have h2 : l[i]? = some oi := by
      rw [List.getElem?_toArray, List.getElem?_append_left hlt] at hi
      exact hi
    have h3 : oi ∈ l := List.mem_of_getElem? h2
    unfold noDefer at hnd
    rw [List.all_eq_true] at hnd
    exact hnd oi h3
  · refine gAnyU_of_lex hu l 0 _ a Env.no (fun j hj => ?_) (by omega) (fun j oj _ hj => ?_) hB h
    · rw [Nat.zero_add, List.getElem?_toArray, List.getElem?_append_left hj]
    · exfalso
      by_cases hj2 : j < l.length + 1
      · simp [hj2] at hj
      · simp [hj2] at hj
theorem wpIn_region_tailN (n : Nat) (hF : WideF F) {id : Nat} {Q : Exit → Act → World → Prop} {a : Act} {w : World} {ls : List Oper} {o : Oper} (ho : ls.drop n = [o]) (hm : P.follows .mixedOrders = true) (hB : lexTail .any ls.toArray n n 0 (Array.replicate (n + 1) false) = true)
    (hu : usersB .any ls.toArray n = true) (hnd : noDefer ls = true) (hg : o.guard = none)
    (h : gLex P ls.toArray w (fun a G => ∀ w', Grows w w' → ∀ a', Conc G a a' w' → o.wpIn F m P a' w' (fun a w => Q .normal a w) Q) (ls.take n) a Env.no) : (Code.region id ls.toArray true).wpIn F m P Q a w := by
  have hs : ls = ls.take n ++ [o] := by rw [← ho, List.take_append_drop]
  have hl : (ls.take n).length = n := by
    have h1 : (ls.drop n).length = 1 := by rw [ho]; rfl
    rw [List.length_drop] at h1
    rw [List.length_take]
    omega
  have hnd2 : noDefer (ls.take n) = true := by
    unfold noDefer at *
    rw [List.all_eq_true] at *
    exact fun x hx => hnd x (List.mem_of_mem_take hx)
  have key := wpIn_region_tail (m := m) (id := id) (Q := Q) (a := a) (w := w) (l := ls.take n) (o := o) hF hm (by rw [hl, ← hs]; exact hB) (by rw [hl, ← hs]; exact hu) hnd2 hg (by rw [← hs]; exact h)
  rw [← hs] at key
  exact key
theorem gLex_tail {Q : Exit → Act → World → Prop} {a : Act} {o : Oper} (h : ∀ x : Later w0, o.wpIn F m P a x.now (fun a w => Q .normal a w) Q) :
    gLex P ops w0 (fun a G => ∀ w', Grows w0 w' → ∀ a', Conc G a a' w' → o.wpIn F m P a' w' (fun a w => Q .normal a w) Q) [] a Env.no :=
  fun w' hw a' hc => by
    rw [conc_no hc]
    exact h ⟨w', hw⟩
end
end Go.Proofs.Yteodapefimlakaa

/- Contract: a search, node by node; till it is told to end. -/
namespace Go.Proofs.Yteodapefimlakaa
open Go Go.RowKit
attribute [local go_sem] Oper.semAt_some
def RunR (J Jx : List (Nat × Nat) → (Nat → Prop) → World → Prop) (all : List (Nat × Nat)) (e : Ending) (W' : World) : Prop :=
  (∃ v, e = .returned v) ∧ ((∃ M, J all M W') ∨ (∃ pre y rest M, all = pre ++ y :: rest ∧ Jx (pre ++ [y]) M W'))
theorem gLex_endQ1 {P : Program} {w0 : World} {ops : Array Oper} {Q : Exit → Act → World → Prop} {a : Act} {t : Tmp} {p : Pr} (hlt : t < a.tmps.size) (h : ∀ (x : Later w0) v, p v x.now → Q .normal (a.put (some t) v) x.now) :
    gLex P ops w0 (fun a G => ∀ w', Grows w0 w' → ∀ a', Conc G a a' w' → Q .normal a' w') [] a (Env.no.upd t p) :=
  fun w' hw a' hc => by
    obtain ⟨v, hv⟩ := conc_upd hc hlt
    rcases hv with ⟨hp, hc2⟩ | hne
    · rw [conc_no hc2]
      exact h ⟨w', hw⟩ v hp
    · exact absurd rfl hne
def FrameIn (bx l b2 b5 b8 i : Nat) (a' : Act) : Prop := ∃ v3 v4 v6 v9 v10 v11 v12 v13 v14 v15 v16 v17 v18 v19 v20 v21 v22 v23 v24 v25 v26 v27 v28 v29 v30 v31 v32 v33 v34 v35 v36 v37 v38 v39 v40 v41 v42 v43 v44 v45 v46 v47 v48 v49 v50 v51 v52 v53 v54 v55 v56 v57 v58 v59 v60 v61 v62 v63 v64 v65 : Value, a' = { tmps := #[.pointer (some ⟨bx, 0, none⟩), .func (.yield l) #[] #[], .pointer (some ⟨b2, 0, none⟩), v3, v4, .pointer (some ⟨b5, 0, none⟩), v6, .int .i64 (i : Int), .pointer (some ⟨b8, 0, none⟩), v9, v10, v11, v12, v13, v14, v15, v16, v17, v18, v19, v20, v21, v22, v23, v24, v25, v26, v27, v28, v29, v30, v31, v32, v33, v34, v35, v36, v37, v38, v39, v40, v41, v42, v43, v44, v45, v46, v47, v48, v49, v50, v51, v52, v53, v54, v55, v56, v57, v58, v59, v60, v61, v62, v63, v64, v65], defers := [] }
end Go.Proofs.Yteodapefimlakaa

/- Contracts: what may be searched, and the weights that count, by the program and by its answer. -/
namespace Go.Proofs.Yteodapefimlakaa
open Go Go.RowKit
theorem Rd.wordsH {w : World} {A : Option Addr} {n : Nat} {W : List Nat} (h : Rd w A 1 n (wv W)) (hn : 0 < n) : W.length = n ∧ ∃ b off, A = some ⟨b, off, none⟩ ∧ ∀ k, k < n → Holds w ⟨b, off + k, none⟩ (.int .u64 (gn W k : Int)) := by
  have hl : W.length = n := by have := h.len; rw [wv_len] at this; omega
  obtain ⟨b, off, e, hc⟩ := h.at_ hn
  exact ⟨hl, b, off, e, fun k hk => ⟨hc k _ (wv_at (by omega))⟩⟩
theorem Rd.wlen {w : World} {A : Option Addr} {n : Nat} {W : List Nat} (h : Rd w A 1 n (wv W)) : W.length = n := by have := h.len; rw [wv_len] at this; omega
theorem wv_one (W : List Nat) : ∀ u ∈ wv W, u.oneCell' = true := by
  intro u hu
  unfold wv at hu
  obtain ⟨x, _, rfl⟩ := List.mem_map.1 hu
  rfl
def penB (w : Nat) : Bool := decide (w < 1 ∨ 17592186044416 < w)
def dcF (N s : Int) (E : List Edg) (W : List Nat) : Int := if rightF N E ≠ 0 then 1 else if nodeB N s = false then 7 else if 0 < W.length ∧ W.length ≠ E.length then 1 else if W.any penB then 2 else 0
abbrev oVal (back : Bool) (nn ne : Value) (Aw : Option Addr) (nw cw most : Nat) : Value := .agg #[.bool back, nn, ne, .slice Aw nw cw, .int .u64 (most : Int)]
end Go.Proofs.Yteodapefimlakaa

/- Contracts: the weights that count, by the program and by its answer; are two rows of wide numbers the same? -/
namespace Go.Proofs.Yteodapefimlakaa
open Go Go.RowKit
def GiveU (w : World) (L : List Nat) (e : Ending) (w' : World) : Prop := ∃ A c, e = .returned (.slice A L.length c) ∧ Own w' w.heap.size 43 1 A L.length c (wv L) ∧ Grows w w'
theorem GiveU.nil (w : World) {w' : World} (h : Grows w w') : GiveU w [] (.returned (.slice none 0 0)) w' := ⟨none, 0, rfl, Own.nil _ _ _ _, h⟩
def eW (E : List Edg) : List Nat := E.map fun e => e.w.toNat
theorem eW_take (E : List Edg) (k : Nat) (hk : k < E.length) : (eW E).take (k + 1) = (eW E).take k ++ [(ge E k).w.toNat] := by
  have : k < (eW E).length := by simpa [eW] using hk
  rw [List.take_succ_eq_append_getElem this]
  simp [eW, ge, hk]
def wtF (N : Int) (E : List Edg) (W : List Nat) : List Nat := if rightF N E ≠ 0 then [] else if 0 < W.length ∧ W.length ≠ E.length then [] else if 0 < W.length then W else eW E
set_option maxRecDepth 20000 in
set_option maxHeartbeats 4000000 in
theorem r14Weights (N : Int) (A : Option Addr) (n c : Nat) (E : List Edg) (back : Bool) (nn ne : Value) (Aw : Option Addr) (nw cw most : Nat) (W : List Nat) (w : World) (h : Rd w A 3 n (esCells E)) (hW : Rd w Aw 1 nw (wv W)) (hn : n ≤ 1000000) (hnw : nw ≤ 1000000) :
    Calls Try.prog 95 #[.agg #[.int .i64 N, .slice A n c], oVal back nn ne Aw nw cw most] w (GiveU w (wtF N E W)) := by
  unfold oVal
  have HL := hide h.elen
  have HLW := hide hW.wlen
  have HR := hide h
  have HRW := hide hW
  have C1 := hide (fun (W : World) (g : Grows w W) => r5Right N A n c E W (h.grows g) hn)
  clear h hW
  by_cases hr : rightF N E = 0
  · rw [hr] at C1
    by_cases hl : 0 < nw ∧ nw ≠ n
    · have HD := hide (show wtF N E W = [] from by unfold wtF; rw [if_neg (show ¬ rightF N E ≠ 0 by omega), HLW.out, HL.out, if_pos hl])
      obtain ⟨hl1, hl2⟩ := hl
      have hl3 : ((nw : Int) != (n : Int)) = true := bne_iff_ne.2 (by omega)
      have hl4 : ((nw : Int) != 0) = true := bne_iff_ne.2 (by omega)
      clear hr hl2
      rw [HD.out]
      go_enter Try.func95, Try.ntmps95
      go_wp2_with (go_at_call 29; refine (C1.out _ GG).mono ?_; rintro e w' ⟨rfl, hg⟩; obtain ⟨x1, rfl⟩ := hg.later; clear hg)
      go_ret
      exact GiveU.nil w GG
    · have HD := hide (show ∃ L, wtF N E W = L ∧ L.length = n ∧ ∀ k, k < n → if 0 < nw then gn L k = gn W k else (gn L k : Int) = (ge E k).w from by
        obtain ⟨r1, r2, r3, r4, r5⟩ := right_in hr
        unfold wtF
        rw [if_neg (show ¬ rightF N E ≠ 0 by omega), HLW.out, HL.out, if_neg hl]
        by_cases hz : 0 < nw
        · rw [if_pos hz]
          exact ⟨W, rfl, by rw [HLW.out]; omega, fun k _ => by rw [if_pos hz]⟩
        · rw [if_neg hz]
          refine ⟨eW E, rfl, by simp [eW, HL.out], fun k hk => ?_⟩
          rw [if_neg hz]
          have h1 := (r5 k (by rw [HL.out]; exact hk)).1
          have h2 : gn (eW E) k = (ge E k).w.toNat := by
            have h3 : k < E.length := by rw [HL.out]; exact hk
            simp [gn, eW, ge, h3]
          rw [h2]; omega)
      obtain ⟨L, e1, e2, e3⟩ := HD.out
      rw [e1]
      have HLL := hide e2
      have HAT := hide e3
      have hnw2 : nw = 0 ∨ nw = n := by omega
      clear hr e1 e2 e3 HD hl
      rcases hnw2 with rfl | rfl
      · clear HRW
        go_enter Try.func95, Try.ntmps95
        go_wp2_with (go_at_call 29; refine (C1.out _ GG).mono ?_; rintro e w' ⟨rfl, hg⟩; obtain ⟨x1, rfl⟩ := hg.later; clear hg)
        go_loopw [6, 5] (fun i u wr => ∃ k : Nat, k ≤ n ∧ i = .int .i64 (k : Int) ∧ ∃ y : Later x1.now, wr = y.now ∧ ∃ A' c', u = .slice A' k c' ∧ Own y.now x1.now.heap.size 43 1 A' k c' (wv (L.take k))) (fun i _ _ => n - (Go.RowKit.intOf i).toNat)
        case atStart => exact ⟨0, by omega, by go_num, ⟨_, Grows.refl _⟩, rfl, none, 0, by go_num, Own.nil _ _ _ _⟩
        case round =>
          obtain ⟨k, hk, rfl, y, rfl, A', c', rfl, hown⟩ := hrel
          have HO := hide hown
          clear hown
          by_cases hend : n ≤ k
          · obtain rfl : k = n := by omega
            go_wp2
            go_ret
            have hl := HLL.out
            have ho := HO.out
            rw [List.take_of_length_le (by omega)] at ho
            exact ⟨A', c', by rw [hl]; rfl, by rw [hl]; exact ho.base (by have := x1.size; simp at this; omega), GG⟩
          · have HT : Hid (L.take (k + 1) = L.take k ++ [gn L k]) := by
              have : k < L.length := by rw [HLL.out]; omega
              show _ = _
              rw [List.take_succ_eq_append_getElem this]
              simp [gn, this]
            have hat := HAT.out k (by omega)
            rw [if_neg (by omega)] at hat
            obtain ⟨b2, off2, rfl, hc2⟩ := HR.out.edgesH (by omega)
            obtain ⟨_, _, c4⟩ := hc2 k (by omega)
            rw [← hat] at c4
            clear hc2
            clear hat
            generalize gn L k = v at *
            go_wp2_with (at_builtin; refine wp_app1 elemU64.elem rfl _ _ rfl _ GG k c' A' _ rfl (HO.out.new _) _ _ _ rfl inferInstance rfl (by omega) ?_; intro A3 c3 y3 hown3; have HO3 := hide hown3; clear hown3)
            go_roundw
            case measure => simp [Go.RowKit.intOf]; omega
            case rel =>
              refine ⟨k + 1, by omega, by go_num, y3, rfl, A3, c3, rfl, ?_⟩
              rw [HT.out]
              have := HO3.out
              simpa [wv] using this
      · by_cases hz : nw = 0
        · subst hz
          clear HRW
          go_enter Try.func95, Try.ntmps95
          go_wp2_with (go_at_call 29; refine (C1.out _ GG).mono ?_; rintro e w' ⟨rfl, hg⟩; obtain ⟨x1, rfl⟩ := hg.later; clear hg)
          go_loopw [6, 5] (fun i u wr => ∃ k : Nat, k ≤ 0 ∧ i = .int .i64 (k : Int) ∧ ∃ y : Later x1.now, wr = y.now ∧ ∃ A' c', u = .slice A' k c' ∧ Own y.now x1.now.heap.size 43 1 A' k c' (wv (L.take k))) (fun i _ _ => 0 - (Go.RowKit.intOf i).toNat)
          case atStart => exact ⟨0, by omega, by go_num, ⟨_, Grows.refl _⟩, rfl, none, 0, by go_num, Own.nil _ _ _ _⟩
          case round =>
            obtain ⟨k, hk, rfl, y, rfl, A', c', rfl, hown⟩ := hrel
            have HO := hide hown
            clear hown
            by_cases hend : 0 ≤ k
            · obtain rfl : k = 0 := by omega
              go_wp2
              go_ret
              have hl := HLL.out
              have ho := HO.out
              rw [List.take_of_length_le (by omega)] at ho
              exact ⟨A', c', by rw [hl]; rfl, by rw [hl]; exact ho.base (by have := x1.size; simp at this; omega), GG⟩
            · exact absurd (Nat.zero_le k) hend
        · have hp : 0 < nw := by omega
          have hl4 : ((nw : Int) == 0) = false := beq_eq_false_iff_ne.2 (by omega)
          clear hz
          go_enter Try.func95, Try.ntmps95
          go_wp2_with (go_at_call 29; refine (C1.out _ GG).mono ?_; rintro e w' ⟨rfl, hg⟩; obtain ⟨x1, rfl⟩ := hg.later; clear hg)
          go_loopw [6, 5] (fun i u wr => ∃ k : Nat, k ≤ nw ∧ i = .int .i64 (k : Int) ∧ ∃ y : Later x1.now, wr = y.now ∧ ∃ A' c', u = .slice A' k c' ∧ Own y.now x1.now.heap.size 43 1 A' k c' (wv (L.take k))) (fun i _ _ => nw - (Go.RowKit.intOf i).toNat)
          case atStart => exact ⟨0, by omega, by go_num, ⟨_, Grows.refl _⟩, rfl, none, 0, by go_num, Own.nil _ _ _ _⟩
          case round =>
            obtain ⟨k, hk, rfl, y, rfl, A', c', rfl, hown⟩ := hrel
            have HO := hide hown
            clear hown
            by_cases hend : nw ≤ k
            · obtain rfl : k = nw := by omega
              go_wp2
              go_ret
              have hl := HLL.out
              have ho := HO.out
              rw [List.take_of_length_le (by omega)] at ho
              exact ⟨A', c', by rw [hl]; rfl, by rw [hl]; exact ho.base (by have := x1.size; simp at this; omega), GG⟩
            · have HT : Hid (L.take (k + 1) = L.take k ++ [gn L k]) := by
                have : k < L.length := by rw [HLL.out]; omega
                show _ = _
                rw [List.take_succ_eq_append_getElem this]
                simp [gn, this]
              have hat := HAT.out k (by omega)
              rw [if_pos (by omega)] at hat
              obtain ⟨_, b2, off2, rfl, hc2⟩ := HRW.out.wordsH (by omega)
              have c4 := hc2 k (by omega)
              rw [← hat] at c4
              clear hc2
              clear hat
              generalize gn L k = v at *
              go_wp2_with (at_builtin; refine wp_app1 elemU64.elem rfl _ _ rfl _ GG k c' A' _ rfl (HO.out.new _) _ _ _ rfl inferInstance rfl (by omega) ?_; intro A3 c3 y3 hown3; have HO3 := hide hown3; clear hown3)
              go_roundw
              case measure => simp [Go.RowKit.intOf]; omega
              case rel =>
                refine ⟨k + 1, by omega, by go_num, y3, rfl, A3, c3, rfl, ?_⟩
                rw [HT.out]
                have := HO3.out
                simpa [wv] using this
  · have hr2 : (rightF N E == 0) = false := beq_eq_false_iff_ne.2 hr
    have HD := hide (show wtF N E W = [] from by unfold wtF; rw [if_pos hr])
    rw [HD.out]
    generalize rightF N E = r at *
    go_enter Try.func95, Try.ntmps95
    go_wp2_with (go_at_call 29; refine (C1.out _ GG).mono ?_; rintro e w' ⟨rfl, hg⟩; obtain ⟨x1, rfl⟩ := hg.later; clear hg)
    go_ret
    exact GiveU.nil w GG
theorem same_false {L M : List Nat} {j : Nat} (hl : L.length = M.length) (_ : j < L.length) (h : gn L j ≠ gn M j) : decide (L = M) = false := by
  rw [decide_eq_false_iff_not]
  rintro rfl
  exact h rfl
theorem same_true {L M : List Nat} (hl : L.length = M.length) (h : ∀ j, j < L.length → gn L j = gn M j) : decide (L = M) = true := by
  rw [decide_eq_true_eq]
  refine List.ext_getElem hl fun j h1 h2 => ?_
  have := h j h1
  simpa [gn, h1, h2] using this
end Go.Proofs.Yteodapefimlakaa

/- Contract: a search's iterator: it hands over each node and how far it is, rising. -/
namespace Go.Proofs.Yteodapefimlakaa
open Go Go.RowKit
attribute [local go_sem] Oper.semAt_some
def Ty (w : World) (k : Nat) (t : TypeId) : Prop := ∃ cur, w.heap[k]? = some (.cells cur t (0, 0))
theorem Ty.one {w : World} {k : Nat} {t u : TypeId} (h : Ty w k t) (h' : Ty w k u) : t = u := by
  obtain ⟨c, h⟩ := h
  obtain ⟨d, h'⟩ := h'
  rw [h] at h'
  injection h' with h'
  injection h' with _ h'
theorem Ty.grow {w w' : World} {k : Nat} {t : TypeId} (h : Ty w k t) (hg : Grows w w') : Ty w' k t := by
  obtain ⟨c, h⟩ := h
  exact ⟨c, (hg.block k (Array.getElem?_eq_some_iff.1 h).1).trans h⟩
theorem Ty.lt {w : World} {k : Nat} {t : TypeId} (h : Ty w k t) : k < w.heap.size := by
  obtain ⟨c, h⟩ := h
  exact (Array.getElem?_eq_some_iff.1 h).1
theorem Arr.ty {w : World} {g : Nat} {t : TypeId} {cs : List Value} (h : Arr w g t cs) : Ty w g t := ⟨_, h.is⟩
theorem Row1.ty {w : World} {g size n c : Nat} {t : TypeId} {xs : List Value} (h : Row1 w g t size n c xs) : Ty w g t := by
  obtain ⟨cur, h1, _⟩ := h.is
  exact ⟨cur, h1⟩
theorem Own.ty {w : World} {B n c size : Nat} {t : TypeId} {A : Option Addr} {xs : List Value} (h : Own w B t size A n c xs) : ∀ p, A = some p → B ≤ p.block ∧ Ty w p.block t := by
  intro p hp
  rcases h.2 with ⟨h1, _⟩ | ⟨g, cap, cur, h1, h2, h3, _⟩
  · rw [hp] at h1; cases h1
  · rw [hp] at h1
    injection h1 with h1 _ _
    injection h1 with h1
    subst h1
    exact ⟨h2, cur, h3⟩
section
variable {P : Program} {w0 : World}
def AtW (P : Program) (ops : Array Oper) (Q : Exit → Act → World → Prop) (tail : List Oper) (a : Act) (G : Env) (w' : World) : Prop := ∀ a', Conc G a a' w' → wpList P ops Q tail a' w'
theorem AtW.pop {ops : Array Oper} {Q : Exit → Act → World → Prop} {tail : List Oper} {a : Act} {G : Env} {w' : World} {t : Tmp} {p : Pr} (hG : G t = none) (ht : t < a.tmps.size)
    (h : ∀ v, p v w' → AtW P ops Q tail (a.put (some t) v) G w') : AtW P ops Q tail a (G.upd t p) w' := fun a' hc => by
  obtain ⟨v, hv⟩ := conc_upd hc ht
  rcases hv with ⟨hp, hc2⟩ | hne
  · exact h v hp a' hc2
  · exact absurd hG hne
theorem AtW.base {ops : Array Oper} {Q : Exit → Act → World → Prop} {tail : List Oper} {a : Act} {w' : World} (h : wpList P ops Q tail a w') : AtW P ops Q tail a Env.no w' := fun a' hc => by rw [conc_no hc]; exact h
theorem gLex_endW {ops : Array Oper} {Q : Exit → Act → World → Prop} {tail : List Oper} {a : Act} {G : Env} (h : ∀ x : Later w0, AtW P ops Q tail a G x.now) :
    gLex P ops w0 (fun a G => ∀ w', Grows w0 w' → ∀ a', Conc G a a' w' → wpList P ops Q tail a' w') [] a G := fun w' hw a' hc => h ⟨w', hw⟩ a' hc
end
def WtP (lo : Nat) (L : List Nat) : Pr := fun u w => ∃ A c, u = .slice A L.length c ∧ Own w lo 43 1 A L.length c (wv L)
theorem WtP.lasts (lo : Nat) (L : List Nat) : Lasts (WtP lo L) := fun _ _ _ hg ⟨A, c, e, h⟩ => ⟨A, c, e, h.grows hg⟩
def StP (lo N : Nat) : Pr := fun u w => ∃ b g, u = .pointer (some ⟨b, 0, none⟩) ∧ StL w b g (List.replicate N (0, 0)) 0 ∧ lo ≤ b ∧ lo ≤ g
theorem StP.lasts (lo N : Nat) : Lasts (StP lo N) := fun _ _ _ hg ⟨b, g, e, h, l⟩ => ⟨b, g, e, h.grow hg, l⟩
def HpT (w : World) (lo : Nat) (S2 : Nat → Prop) : Prop := ∀ k, S2 k → lo ≤ k ∧ ∃ t, Ty w k t ∧ (t = 168 ∨ t = 3 ∨ t = 170)
def HpP (lo N : Nat) : Pr := fun u w => ∃ b S2, u = .pointer (some ⟨b, 0, none⟩) ∧ HpAt w S2 b (st0 N).2 ∧ HpT w lo S2
theorem HpP.lasts (lo N : Nat) : Lasts (HpP lo N) := fun _ _ _ hg ⟨b, S2, e, h, l⟩ => ⟨b, S2, e, h.grow hg, fun k hk => ⟨(l k hk).1, by obtain ⟨_, t, h1, h2⟩ := l k hk; exact ⟨t, h1.grow hg, h2⟩⟩⟩
theorem hpNewP (n lo : Nat) (w : World) (hn : n ≤ 65536) (hlo : lo ≤ w.heap.size) : Calls Try.prog 89 #[.int .i64 (n : Int)] w fun e w' => ∃ u, e = .returned u ∧ Grows w w' ∧ HpP lo n u w' := by
  refine (hpNew n w hn).mono ?_
  rintro e w' ⟨b, T, rfl, ⟨A, c, G, h1, h2, h3, h4, h5, h6⟩, ht, htn, hb, hg⟩
  have hT : T = List.replicate n (-1) := by
    refine List.ext_getElem (by simpa using ht) fun j h7 h8 => ?_
    have := htn j (by omega)
    unfold gz at this
    rw [List.getD_eq_getElem?_getD, List.getElem?_eq_getElem h7] at this
    simpa using this
  subst hT
  refine ⟨_, rfl, hg, b, fun k => k = b ∨ k = G ∨ ∃ p, A = some p ∧ p.block = k, rfl, ⟨A, c, G, h1, h2, h3, .inl rfl, .inr (.inl rfl), fun p hp => .inr (.inr ⟨p, hp, rfl⟩)⟩, fun k hk => ?_⟩
  rcases hk with rfl | rfl | ⟨p, hp, rfl⟩
  · exact ⟨Nat.le_trans hlo h4.1, _, h1.ty, .inl rfl⟩
  · exact ⟨Nat.le_trans hlo h5.1, _, h3.ty, .inr (.inl rfl)⟩
  · exact ⟨Nat.le_trans hlo (h6 p hp).1, _, (h2.ty p hp).2, .inr (.inr rfl)⟩
def WkS (w : World) (lo : Nat) (k : Nat) : Prop := lo ≤ k ∧ ∃ t, Ty w k t ∧ (t = 184 ∨ t = 188 ∨ t = 168 ∨ t = 3 ∨ t = 170)
theorem Rd.touch0 {w w' : World} {S : Nat → Prop} {A : Option Addr} {size n : Nat} {xs : List Value} (h : Rd w A size n xs) (ht : Touch S w w') (hp : 0 < n → ∀ p, A = some p → ¬ S p.block) : Rd w' A size n xs := by
  rcases Nat.eq_zero_or_pos n with h0 | h0
  · exact ⟨h.1, fun h1 => absurd h0 (Nat.ne_of_gt h1)⟩
  · exact h.touch ht (hp h0)
theorem Rd.block_lt {w : World} {A : Option Addr} {size n : Nat} {xs : List Value} (h : Rd w A size n xs) (hs : 0 < size) : 0 < n → ∀ p, A = some p → p.block < w.heap.size := by
  intro hn p hp
  obtain ⟨b, off, e, hc⟩ := h.2 hn hs
  rw [e] at hp
  obtain rfl := Option.some.inj hp
  have hl : 0 < xs.length := by rw [h.1]; exact Nat.mul_pos hn hs
  have := hc 0 _ (List.getElem?_eq_getElem hl)
  rcases Nat.lt_or_ge b w.heap.size with h1 | h1
  · exact h1
  · simp [World.cell?, Array.getElem?_eq_none h1] at this
structure DOpt where
  back : Bool
  nn : List Int
  ne : List Int
  W : List Nat
  most : Nat
def srchOf (N : Nat) (E : List Edg) (o : DOpt) : Srch := ⟨N, E, o.back, o.most, wtF N E o.W, fun j => decide ((j : Int) ∈ o.nn), fun j => decide ((j : Int) ∈ o.ne)⟩
structure WalkOk (N s : Nat) (E : List Edg) (o : DOpt) : Prop where
  right : rightF N E = 0
  node : s < N
  wts : o.W.length = 0 ∨ o.W.length = E.length
  most : o.most < 18446744073709551616
  nns : o.nn.length ≤ 1000000
  nes : o.ne.length ≤ 1000000
theorem WalkOk.wlen {N s : Nat} {E : List Edg} {o : DOpt} (h : WalkOk N s E o) : (wtF N E o.W).length = E.length := by
  have hr := h.right
  have hw := h.wts
  unfold wtF
  rw [if_neg (by omega), if_neg (by omega)]
  split
  · omega
  · simp [eW]
theorem WalkOk.srch {N s : Nat} {E : List Edg} {o : DOpt} (h : WalkOk N s E o) : SrchOk (srchOf N E o) := by
  obtain ⟨r1, r2, r3, r4, r5⟩ := right_in h.right
  rw [Int.toNat_natCast] at r4
  exact ⟨r4, by show E.length ≤ _; omega, by show N ≤ _; omega, h.wlen, h.most⟩
end Go.Proofs.Yteodapefimlakaa

/- Contract: a number, repeated. -/
namespace Go.Proofs.Yteodapefimlakaa
open Go Go.RowKit
def RepAt (w : World) (G n z k : Nat) (wr : World) : Prop := ∃ y : Later w, wr = y.now ∧ ∃ cs : List Value, Arr y.now G 43 cs ∧ cs.length = n ∧ cs.take k = List.replicate k (Value.int .u64 (z : Int))
theorem RepAt.copied {w : World} {G n z k m : Nat} {y : Later w} {cs : List Value} (ha : Arr y.now G 43 cs) (hl : cs.length = n) (hk : cs.take k = List.replicate k (.int .u64 (z : Int))) (hm : k + m ≤ n) (hG : w.heap.size ≤ G) :
    RepAt w G n z (k + m) (y.now.setRow G (cs.take k ++ (List.replicate m (Value.int .u64 (z : Int)) ++ cs.drop (k + m))).toArray) := by
  refine ⟨⟨_, below_setRow y.grows hG _⟩, rfl, _, ⟨setRow_heap _ _ _ _ _ _ ha.is⟩, ?_, ?_⟩
  · simp; omega
  · rw [hk, ← List.append_assoc, List.replicate_append_replicate, List.take_left' (by simp)]
end Go.Proofs.Yteodapefimlakaa
