/- What an argument that can be read is: what counts for a search. -/
import Derived.Test.YtpnncadglhlclaaOpenB
import Derived.Test.YtpnncadglhlclaaAlive14
namespace Go.Proofs.Ytpnncadglhlclaa
open Go Go.ChangeShapes Go.WideShapes Go.ChangeAt Go.RowKit Go.Deep
theorem wv_of {z : List Int} (h : ∀ x ∈ z, (Lit.int .u64 x).wf = true) : z.map (Value.int .u64) = wv (z.map Int.toNat) := by
  unfold wv
  rw [List.map_map]
  refine List.map_congr_left fun x hx => ?_
  have := wf_u64 (h x hx)
  unfold U64 at this
  show Value.int .u64 x = .int .u64 ((x.toNat : Nat) : Int)
  rw [Int.toNat_of_nonneg this.1]
theorem law14Of (back : Bool) (nn ne : Value) (h1 : ∃ A n c, nn = .slice A n c) (h2 : ∃ A n c, ne = .slice A n c) (Aw : Option Addr) (nw cw most : Nat) (w : World) : Calls Try.prog 28 #[oVal back nn ne Aw nw cw most] w fun e w' => e = .returned (oVal back nn ne Aw nw cw most) ∧ Grows w w' := by
  obtain ⟨A1, n1, c1, rfl⟩ := h1
  obtain ⟨A2, n2, c2, rfl⟩ := h2
  unfold oVal
  go_enter Try.func28, Try.ntmps28
  go_wp2
  refine bodyPost_ret (v := .agg #[.bool back, .slice A1 n1 c1, .slice A2 n2 c2, .slice Aw nw cw, .int .u64 (most : Int)]) (by simp (maxDischargeDepth := 6) [results, Try.results28, go_sem, *]) rfl ?_
  exact ⟨rfl, (by repeat (first | exact Grows.refl _ | refine Grows.now ?_ _ | refine Grows.new ?_ _ | refine Grows.drewN ?_ _ | refine Grows.drew ?_ | assumption | (refine Grows.set ?_ (by first | omega | (simp; done) | (simp; omega)) _)))⟩
theorem dc_ok {N s : Int} {E : List Edg} {W : List Nat} (h : dcF N s E W = 0) : rightF N E = 0 ∧ 0 ≤ s ∧ s < N ∧ (W.length = 0 ∨ W.length = E.length) ∧ ∀ i, i < E.length → 1 ≤ gn (wtF N E W) i ∧ gn (wtF N E W) i ≤ 17592186044416 := by
  unfold dcF at h
  split at h
  · cases h
  split at h
  · cases h
  split at h
  · cases h
  split at h
  · cases h
  rename_i h1 h2 h3 h4
  have h1 : rightF N E = 0 := by omega
  have hb : nodeB N s = true := by cases hb : nodeB N s with | false => exact absurd hb h2 | true => rfl
  unfold nodeB at hb
  have hs := of_decide_eq_true hb
  obtain ⟨r1, r2, r3, r4, r5⟩ := right_in h1
  refine ⟨h1, hs.1, hs.2, by omega, fun i hi => ?_⟩
  unfold wtF
  rw [if_neg (by omega), if_neg h3]
  split
  · have hl : i < W.length := by omega
    have hm : gn W i ∈ W := by unfold gn; rw [List.getD_eq_getElem?_getD, List.getElem?_eq_getElem hl]; exact List.getElem_mem hl
    have : penB (gn W i) = false := by
      cases hp : penB (gn W i) with
      | false => rfl
      | true => exact absurd (List.any_eq_true.2 ⟨_, hm, hp⟩) h4
    unfold penB at this
    have := of_decide_eq_false this
    omega
  · have := r5 i hi
    have h2 : gn (eW E) i = (ge E i).w.toNat := by simp [gn, eW, ge, hi]
    rw [h2]
    omega
section
variable {H : Type} {enc : TypeId × Value → H} {P : Program} {w : World} {base b0 : Nat} {held : Bool} {r : Reach} {t : TypeId} {v : Value} {d : DataW H} {p : List MemPlace}
/-- A slice of numbers within another value. -/
theorem open_numsF {e : TypeId} {k : IntKind} {fuel : Nat} {x : DataW H × List MemPlace} {cs : List Value} (ht : P.underlying t = some (.slice e)) (he : P.underlying e = some (.int k)) (hc : P.cellsOf e = 1)
    (h : DataW.trod enc P w base (fun _ => true) held fuel t cs = some x) :
    ∃ (A : Option Addr) (n c : Nat) (zs : List Int), cs = [.slice A n c] ∧ n ≤ c ∧ Rd w A 1 n (zs.map (.int k)) ∧ ∀ z ∈ zs, (Lit.int k z).wf = true := by
  obtain ⟨A, n, c, F, rfl, hl, _, hr, hF⟩ := open_elems ht hc (by omega) h
  have hE : ∀ i, i < n → ∃ z : Int, F i = [.int k z] ∧ (Lit.int k z).wf = true := fun i hi => by
    obtain ⟨_, m, y, hy⟩ := hF i hi
    obtain ⟨z, hz, _, hw⟩ := DataW.trod_int he hy
    exact ⟨z, hz, hw⟩
  obtain ⟨f, hf⟩ := Deep.choose_lt (α := Option Int) (p := fun i o => ∃ z, o = some z ∧ F i = [.int k z] ∧ (Lit.int k z).wf = true) (fun i hi => by obtain ⟨z, h⟩ := hE i hi; exact ⟨some z, z, rfl, h⟩)
  have hf' : ∀ i, i < n → F i = [.int k ((f i).getD 0)] ∧ (Lit.int k ((f i).getD 0)).wf = true := fun i hi => by
    obtain ⟨z, h1, h2⟩ := hf i hi
    rw [h1]
    exact h2
  refine ⟨A, n, c, (List.range n).map fun i => (f i).getD 0, rfl, hl, ?_, fun z hz => ?_⟩
  · have e : ((List.range n).map fun i => (f i).getD 0).map (Value.int k) = (List.range n).flatMap F := by
      rw [List.map_map, List.flatMap_def]
      have h2 : (List.range n).map F = (List.range n).map fun i => [Value.int k ((f i).getD 0)] := List.map_congr_left fun i hi => (hf' i (List.mem_range.1 hi)).1
      rw [h2, ← List.flatMap_def]
      clear h2 hr hF hE hf hf' h
      generalize List.range n = l
      induction l with
      | nil => rfl
      | cons a l ih => rw [List.map_cons, List.flatMap_cons, ih]; rfl
    rw [e]
    exact hr
  · obtain ⟨i, hi, rfl⟩ := List.mem_map.1 hz
    exact (hf' i (List.mem_range.1 hi)).2
/-- All that is known of what counts. -/
theorem open_opt {f0 f1 f2 f3 f4 : Field} {ei eu : TypeId} (hs : P.underlying t = some (.struct #[f0, f1, f2, f3, f4])) (k0 : P.underlying f0.type = some .bool) (k1 : P.underlying f1.type = some (.slice ei)) (k2 : P.underlying f2.type = some (.slice ei)) (k3 : P.underlying f3.type = some (.slice eu)) (k4 : P.underlying f4.type = some (.int .u64))
    (hi : P.underlying ei = some (.int .i64)) (hu : P.underlying eu = some (.int .u64)) (hci : P.cellsOf ei = 1) (hcu : P.cellsOf eu = 1) (hone : oneCellFields P #[f0, f1, f2, f3, f4] = true) (hC : P.cellsOf t = 5)
    (hv : Value.okWide P w r b0 t v) (h : DataW.Trod enc P w base (fun _ => true) held t v d p) :
    ∃ (back : Bool) (A1 : Option Addr) (n1 c1 : Nat) (z1 : List Int) (A2 : Option Addr) (n2 c2 : Nat) (z2 : List Int) (A3 : Option Addr) (n3 c3 : Nat) (z3 : List Int) (most : Int), v = .agg #[.bool back, .slice A1 n1 c1, .slice A2 n2 c2, .slice A3 n3 c3, .int .u64 most] ∧
      (Rd w A1 1 n1 (z1.map (.int .i64)) ∧ ∀ z ∈ z1, (Lit.int .i64 z).wf = true) ∧ (Rd w A2 1 n2 (z2.map (.int .i64)) ∧ ∀ z ∈ z2, (Lit.int .i64 z).wf = true) ∧ (Rd w A3 1 n3 (z3.map (.int .u64)) ∧ ∀ z ∈ z3, (Lit.int .u64 z).wf = true) ∧ U64 most := by
  obtain ⟨cs, rfl, hsz⟩ := okWide_struct hs hv
  obtain ⟨l⟩ := cs
  match l, hsz.trans hC with
  | [c0, c1, c2, c3, c4], _ =>
    obtain ⟨fuel, hf⟩ := h
    obtain ⟨xs, n, _, hx, _, hlen, hg⟩ := DataW.trod_struct hs hf
    obtain ⟨o0, m0⟩ := hone_of hone 0 f0 rfl
    obtain ⟨o1, m1⟩ := hone_of hone 1 f1 rfl
    obtain ⟨o2, m2⟩ := hone_of hone 2 f2 rfl
    obtain ⟨o3, m3⟩ := hone_of hone 3 f3 rfl
    obtain ⟨o4, m4⟩ := hone_of hone 4 f4 rfl
    match xs, hlen with
    | [y0, y1, y2, y3, y4], _ =>
      have t0 : DataW.trod enc P w base (fun _ => true) held n f0.type [c0] = some y0 := by simpa [Value.cells, o0, m0] using hg 0 f0 rfl
      have t1 : DataW.trod enc P w base (fun _ => true) held n f1.type [c1] = some y1 := by simpa [Value.cells, o1, m1] using hg 1 f1 rfl
      have t2 : DataW.trod enc P w base (fun _ => true) held n f2.type [c2] = some y2 := by simpa [Value.cells, o2, m2] using hg 2 f2 rfl
      have t3 : DataW.trod enc P w base (fun _ => true) held n f3.type [c3] = some y3 := by simpa [Value.cells, o3, m3] using hg 3 f3 rfl
      have t4 : DataW.trod enc P w base (fun _ => true) held n f4.type [c4] = some y4 := by simpa [Value.cells, o4, m4] using hg 4 f4 rfl
      obtain ⟨b, hb, _⟩ := DataW.trod_bool k0 t0
      obtain ⟨A1, n1, d1, z1, e1, _, r1, w1⟩ := open_numsF k1 hi hci t1
      obtain ⟨A2, n2, d2, z2, e2, _, r2, w2⟩ := open_numsF k2 hi hci t2
      obtain ⟨A3, n3, d3, z3, e3, _, r3, w3⟩ := open_numsF k3 hu hcu t3
      obtain ⟨mo, em, _, wm⟩ := DataW.trod_int k4 t4
      simp at hb e1 e2 e3 em
      subst hb e1 e2 e3 em
      exact ⟨b, A1, n1, d1, z1, A2, n2, d2, z2, A3, n3, d3, z3, mo, rfl, ⟨r1, w1⟩, ⟨r2, w2⟩, ⟨r3, w3⟩, wf_u64 wm⟩
end
end Go.Proofs.Ytpnncadglhlclaa
