/- The law HierLooks: for every input it returns true, and each argument reads as before. No condition. -/
import Derived.Test.YteodapefimlakaaQHierLooks05
import Derived.Test.YteodapefimlakaaQContractBuilds25
import Derived.Test.YteodapefimlakaaQContractBuilds24
import Derived.Test.YteodapefimlakaaQContractBuilds09
/- The law's walk, of any graph and any hierarchy. -/
namespace Go.Proofs.Yteodapefimlakaa
open Go Go.RowKit
theorem hierLooksW (N : Int) (A : Option Addr) (n c : Nat) (E : List Edg) (B : Option Addr) (m d : Nat) (l : List Int) (A2 : Option Addr) (n2 c2 : Nat) (S : List SI) (v i : Int) (w : World) (_ : I64 N) (_ : n ≤ c) (h : Rd w A 3 n (esCells E)) (_ : ∀ k, k < n → edgOk (ge E k)) (_ : m ≤ d) (hl : Rd w B 1 m (l.map (.int .i64))) (hcap : n2 ≤ c2) (hS : Rd w A2 6 n2 (sis S)) (_ : I64 v) (_ : I64 i) :
    Calls Try.prog 3 #[.agg #[.int .i64 N, .slice A n c], .agg #[.slice B m d, .slice A2 n2 c2], .int .i64 v, .int .i64 i] w fun e w' => e = .returned (.bool true) ∧ Grows w w' := by
  cases hlb : light20B N n with
  | false => exact hlNo N A n c E B m d l A2 n2 c2 S v i w h hl hS hcap (.inl hlb)
  | true =>
    cases hl2 : (decide (m ≤ 60) && decide (n2 ≤ 100)) with
    | false => exact hlNo N A n c E B m d l A2 n2 c2 S v i w h hl hS hcap (.inr (.inl hl2))
    | true =>
      have hn := (light20_of hlb).2
      have h3 := hl2
      simp only [Bool.and_eq_true, decide_eq_true_eq] at h3
      cases hf : (hmR N E l S).2 with
      | false => exact hlNo N A n c E B m d l A2 n2 c2 S v i w h hl hS hcap (.inr (.inr ⟨hlb, hl2, hn, h3.1, h3.2, hf⟩))
      | true =>
        have hok : rightF N E = 0 := Decidable.byContradiction fun e => by rw [hmR_graph e] at hf; cases hf
        have hrk : (l.length : Int) = N ∧ rkB l = true := Decidable.byContradiction fun e => by rw [hmR_rank hok e] at hf; cases hf
        have hmade : madeSB N E l S = true := by
          unfold madeSB
          rw [decide_eq_true hrk.1, hrk.2, Bool.true_and, Bool.true_and]
          refine decide_eq_true fun j => ?_
          have hall : ∀ q, q ≤ S.length → ∀ j, j < q → madeOne E l S j = true := by
            intro q
            induction q with
            | zero => intro _ j hj; omega
            | succ q ih =>
              intro hq j hj
              by_cases e : j = q
              · subst e
                cases hj1 : madeOne E l S j with
                | true => rfl
                | false =>
                  rw [hmR_at hok hrk (k := j) (by omega) (ih (by omega)) hj1] at hf
                  cases hf
              · exact ih (by omega) j (by omega)
          exact fun hj => hall S.length (Nat.le_refl _) j hj
        have hlm : l.length = m := by simpa using hl.len
        obtain ⟨r, rfl, _, _⟩ := rk_nat hrk.2
        have hN : N = (m : Int) := by rw [← hlm]; exact hrk.1.symm
        subst hN
        exact hlMade m A n c E B d r A2 n2 c2 S v i w h (by rw [nvI_vals]; exact hl) hS hcap hlb h3.1 hn h3.2 hok hmade
end Go.Proofs.Yteodapefimlakaa

/- What is known of a hierarchy that came in. -/
namespace Go.Proofs.Yteodapefimlakaa
open Go Go.ChangeShapes Go.WideShapes Go.ChangeAt Go.RowKit Go.Deep
section
variable {H : Type} {enc : TypeId × Value → H} {P : Program} {w : World} {base b0 : Nat} {held : Bool} {r : Reach} {t : TypeId} {v : Value} {d : DataW H} {p : List MemPlace}
theorem open_scs {te : TypeId} {f0 f1 f2 f3 f4 f5 : Field} {fuel : Nat} {x : DataW H × List MemPlace} {cs : List Value} (ht : P.underlying t = some (.slice te)) (hs : P.underlying te = some (.struct #[f0, f1, f2, f3, f4, f5]))
    (h0 : P.underlying f0.type = some (.int .i64)) (h1 : P.underlying f1.type = some (.int .i64)) (h2 : P.underlying f2.type = some (.int .u64)) (h3 : P.underlying f3.type = some (.int .i64)) (h4 : P.underlying f4.type = some (.int .i64)) (h5 : P.underlying f5.type = some (.int .i64))
    (hone : oneCellFields P #[f0, f1, f2, f3, f4, f5] = true) (hc : P.cellsOf te = 6) (h : DataW.trod enc P w base (fun _ => true) held fuel t cs = some x) :
    ∃ (A : Option Addr) (n c : Nat) (S : List SI), cs = [.slice A n c] ∧ n ≤ c ∧ Rd w A 6 n (sis S) := by
  obtain ⟨A, n, c, F, rfl, hl, _, hr, hF⟩ := open_elems ht hc (by omega) h
  have hE : ∀ i, i < n → ∃ e : SI, F i = siCells e := fun i hi => by
    obtain ⟨hlen, m, y, hy⟩ := hF i hi
    obtain ⟨c0, c1, c2, c3, c4, c5, hFi⟩ : ∃ c0 c1 c2 c3 c4 c5, F i = [c0, c1, c2, c3, c4, c5] := by
      match F i, hlen with
      | [c0, c1, c2, c3, c4, c5], _ => exact ⟨c0, c1, c2, c3, c4, c5, rfl⟩
    rw [hFi] at hy
    rw [hFi]
    obtain ⟨xs, k, _, _, _, hlen2, hg⟩ := DataW.trod_struct hs hy
    obtain ⟨o0, m0⟩ := hone_of hone 0 f0 rfl
    obtain ⟨o1, m1⟩ := hone_of hone 1 f1 rfl
    obtain ⟨o2, m2⟩ := hone_of hone 2 f2 rfl
    obtain ⟨o3, m3⟩ := hone_of hone 3 f3 rfl
    obtain ⟨o4, m4⟩ := hone_of hone 4 f4 rfl
    obtain ⟨o5, m5⟩ := hone_of hone 5 f5 rfl
    match xs, hlen2 with
    | [y0, y1, y2, y3, y4, y5], _ =>
      have t0 : DataW.trod enc P w base (fun _ => true) held k f0.type [c0] = some y0 := by simpa [o0, m0] using hg 0 f0 rfl
      have t1 : DataW.trod enc P w base (fun _ => true) held k f1.type [c1] = some y1 := by simpa [o1, m1] using hg 1 f1 rfl
      have t2 : DataW.trod enc P w base (fun _ => true) held k f2.type [c2] = some y2 := by simpa [o2, m2] using hg 2 f2 rfl
      have t3 : DataW.trod enc P w base (fun _ => true) held k f3.type [c3] = some y3 := by simpa [o3, m3] using hg 3 f3 rfl
      have t4 : DataW.trod enc P w base (fun _ => true) held k f4.type [c4] = some y4 := by simpa [o4, m4] using hg 4 f4 rfl
      have t5 : DataW.trod enc P w base (fun _ => true) held k f5.type [c5] = some y5 := by simpa [o5, m5] using hg 5 f5 rfl
      obtain ⟨a0, e0, _, _⟩ := DataW.trod_int h0 t0
      obtain ⟨a1, e1, _, _⟩ := DataW.trod_int h1 t1
      obtain ⟨a2, e2, _, _⟩ := DataW.trod_int h2 t2
      obtain ⟨a3, e3, _, _⟩ := DataW.trod_int h3 t3
      obtain ⟨a4, e4, _, _⟩ := DataW.trod_int h4 t4
      obtain ⟨a5, e5, _, _⟩ := DataW.trod_int h5 t5
      simp at e0 e1 e2 e3 e4 e5
      subst e0 e1 e2 e3 e4 e5
      exact ⟨⟨a0, a1, a2, a3, a4, a5⟩, rfl⟩
  obtain ⟨f, hf⟩ := Deep.choose_lt (α := Option SI) (p := fun i o => ∃ e, o = some e ∧ F i = siCells e) (fun i hi => by obtain ⟨e, h⟩ := hE i hi; exact ⟨some e, e, rfl, h⟩)
  let f' : Nat → SI := fun i => (f i).getD si0
  have hf' : ∀ i, i < n → F i = siCells (f' i) := fun i hi => by
    obtain ⟨e, h1, h2⟩ := hf i hi
    simp only [f', h1, Option.getD_some]
    exact h2
  refine ⟨A, n, c, (List.range n).map f', rfl, hl, ?_⟩
  have e : sis ((List.range n).map f') = (List.range n).flatMap F := by
    unfold sis
    rw [List.flatMap_map, List.flatMap_def, List.flatMap_def]
    exact congrArg List.flatten (List.map_congr_left fun i hi => (hf' i (List.mem_range.1 hi)).symm)
  rw [e]
  exact hr
theorem open_hier {g0 g1 f0 f1 f2 f3 f4 f5 : Field} {ei te : TypeId} (hs : P.underlying t = some (.struct #[g0, g1])) (k0 : P.underlying g0.type = some (.slice ei)) (hi : P.underlying ei = some (.int .i64)) (k1 : P.underlying g1.type = some (.slice te)) (hss : P.underlying te = some (.struct #[f0, f1, f2, f3, f4, f5]))
    (h0 : P.underlying f0.type = some (.int .i64)) (h1 : P.underlying f1.type = some (.int .i64)) (h2 : P.underlying f2.type = some (.int .u64)) (h3 : P.underlying f3.type = some (.int .i64)) (h4 : P.underlying f4.type = some (.int .i64)) (h5 : P.underlying f5.type = some (.int .i64))
    (hci : P.cellsOf ei = 1) (hone : oneCellFields P #[f0, f1, f2, f3, f4, f5] = true) (hc : P.cellsOf te = 6) (hone2 : oneCellFields P #[g0, g1] = true) (hC : P.cellsOf t = 2)
    (hv : Value.okWide P w r b0 t v) (h : DataW.Trod enc P w base (fun _ => true) held t v d p) :
    ∃ (B : Option Addr) (m e : Nat) (z : List Int) (A : Option Addr) (n c : Nat) (S : List SI), v = .agg #[.slice B m e, .slice A n c] ∧ m ≤ e ∧ Rd w B 1 m (z.map (.int .i64)) ∧ n ≤ c ∧ Rd w A 6 n (sis S) := by
  obtain ⟨c0, c1, y0, y1, m, rfl, rfl, rfl, e0, e1⟩ := Joins.open_agg2 hs hone2 hC hv h
  obtain ⟨A, n2, d2, z, e2, hl, r2, w2⟩ := open_numsF k0 hi hci e0
  obtain ⟨A', n, c, S, e3, hl3, r3⟩ := open_scs k1 hss h0 h1 h2 h3 h4 h5 hone hc e1
  simp at e2 e3
  subst e2 e3
  exact ⟨A, n2, d2, z, A', n, c, S, rfl, hl, r2, hl3, r3⟩
end
end Go.Proofs.Yteodapefimlakaa

/- The law HierLooks: for every input it returns true, and each argument reads as before. No condition. -/
namespace Go.Proofs.Yteodapefimlakaa.lawHierLooks
open Go Go.ChangeShapes Go.WideShapes Go.ChangeAt Go.RowKit Go.Proofs.Yteodapefimlakaa

theorem own : ownKnob Try.prog.godebug = none := by kernel_rfl
theorem laidOut : laidOutB Try.prog = true := by kernel_rfl

set_option maxRecDepth 100000 in
theorem lifted (os : Os) (started : os.Started) (H : Type) (enc : TypeId × Value → H) :
    ReturnsInHanded {} Try.checked os 3 .any (Rows.hierLooksSpec.pre6 enc Try.prog Try.f3 Rows.hierLooksRow.domain false) (Rows.hierLooksSpec.post enc Try.prog Try.f3 false true false false) := by
  refine returnsInHanded_of_change (C := Try.checked) own started (by kernel_rfl) Try.func3
    (ChangeSpec.witness6 (enc := enc) (C := Try.checked) false ⟨#[], #[.agg #[.int .i64 0, .slice none 0 0], .agg #[.slice none 0 0, .slice none 0 0], .int .i64 0, .int .i64 0], []⟩ 8 (by kernel_rfl) (by kernel_rfl) (by kernel_rfl) (by kernel_rfl)) ?_
  intro W base args ds gs before hval0 hW hcnd _
  have hval : ∀ (j : Nat) t v, Try.f3.params[j]? = some t → args[j]? = some v → Value.okWide Try.prog W .any base t v := hval0
  have hW' := hW
  obtain ⟨p, q, hA0, hV, rfl, hfz, hnd⟩ := hW
  have hA : DataW.TrodAll enc Try.prog W 0 (fun _ => true) true Try.f3.params.toList args.toList ds p := hA0
  rw [Try.params3] at hA hval
  obtain ⟨v0, vs0, d0, ds0, p0, q0, hargs, rfl, rfl, h0, r0⟩ := trodAll_cons hA
  obtain ⟨v1, vs1, d1, ds1, p1, q1, rfl, rfl, rfl, h1, r1⟩ := trodAll_cons r0
  obtain ⟨v2, vs2, d2, ds2, p2, q2, rfl, rfl, rfl, h2, r2⟩ := trodAll_cons r1
  obtain ⟨v3, vs3, d3, ds3, p3, q3, rfl, rfl, rfl, h3, r3⟩ := trodAll_cons r2
  obtain ⟨rfl, rfl, rfl⟩ := trodAll_nil r3
  obtain rfl : args = #[v0, v1, v2, v3] := by cases args; simp_all
  obtain ⟨rfl, rfl⟩ := trodVars_none hV
  have k0 := h0
  have lt0 : ∀ x ∈ p0, x.block < W.heap.size := by obtain ⟨m, hm⟩ := k0; exact DataW.trod_lt m _ _ _ hm
  obtain ⟨a0, A0, n0, c0, z0, rfl, x0, l0, w0, u0⟩ := open_graph Try.underlying24 Try.underlying3 Try.underlying22 Try.underlying96 Try.underlying3 Try.underlying3 Try.underlying43 ⟨rfl, rfl, rfl⟩ ⟨by kernel_rfl, by kernel_rfl, by kernel_rfl⟩ (by kernel_rfl) (by kernel_rfl) (by kernel_rfl) (hval 0 24 v0 rfl rfl) h0
  have k1 := h1
  have lt1 : ∀ x ∈ p1, x.block < W.heap.size := by obtain ⟨m, hm⟩ := k1; exact DataW.trod_lt m _ _ _ hm
  obtain ⟨B1, m1, e1, y1, A1, n1, c1, z1, rfl, l1a, w1a, l1b, w1b⟩ := open_hier Try.underlying28 Try.underlying25 Try.underlying3 Try.underlying26 Try.underlying45 Try.underlying3 Try.underlying3 Try.underlying43 Try.underlying3 Try.underlying3 Try.underlying3 (by kernel_rfl) (by kernel_rfl) (by kernel_rfl) (by kernel_rfl) (by kernel_rfl) (hval 1 28 v1 rfl rfl) h1
  have k2 := h2
  have lt2 : ∀ x ∈ p2, x.block < W.heap.size := by obtain ⟨m, hm⟩ := k2; exact DataW.trod_lt m _ _ _ hm
  obtain ⟨a2, rfl, w2⟩ := open_i64 Try.underlying3 (hval 2 3 v2 rfl rfl) h2
  have k3 := h3
  have lt3 : ∀ x ∈ p3, x.block < W.heap.size := by obtain ⟨m, hm⟩ := k3; exact DataW.trod_lt m _ _ _ hm
  obtain ⟨a3, rfl, w3⟩ := open_i64 Try.underlying3 (hval 3 3 v3 rfl rfl) h3
  clear hA0 hval0
  refine (hierLooksW a0 A0 n0 c0 z0 B1 m1 e1 y1 A1 n1 c1 z1 a2 a3 W x0 l0 w0 u0 l1a w1a l1b w1b w2 w3).mono fun e W' ⟨he, bel⟩ => ?_
  subst he
  exact ⟨_, rfl, _, _, _, [], _, [], hW', trodAll_mk1 (shut_bool Try.underlying4 _), (trodAll_cons_mk (Below.trod laidOut (by kernel_rfl) (of_decide_eq_true (by kernel_rfl)) k0 bel lt0) (trodAll_cons_mk (Below.trod laidOut (by kernel_rfl) (of_decide_eq_true (by kernel_rfl)) k1 bel lt1) (trodAll_cons_mk (Below.trod laidOut (by kernel_rfl) (of_decide_eq_true (by kernel_rfl)) k2 bel lt2) (trodAll_cons_mk (Below.trod laidOut (by kernel_rfl) (of_decide_eq_true (by kernel_rfl)) k3 bel lt3) trodAll_mk0)))), rfl, Below.frame bel _, fun h => by cases h⟩

theorem over : Rows.hierLooksRow.holds Try.pinned (OpenSpec.ofChange Rows.hierLooksSpec) :=
  OpenClaim.holds_of_wide 3 Try.f3 rfl rfl rfl rfl rfl rfl rfl ⟨rfl, rfl, rfl, rfl, rfl⟩ rfl rfl rfl rfl rfl (by kernel_rfl) Try.func3 (by kernel_rfl)
    (of_decide_eq_true (by kernel_rfl)) (by unfold Func.isWrapper; first | (rw [if_pos (by decide +kernel)]; kernel_rfl) | (rw [if_neg (by decide +kernel)]; exact ⟨rfl, rfl⟩))
    (fun os started H enc _ => lifted os started H enc)

end Go.Proofs.Yteodapefimlakaa.lawHierLooks
namespace Go.Proofs.Yteodapefimlakaa
theorem hierLooks_proved : Rows.HierLooksSaid := lawHierLooks.over
#print axioms hierLooks_proved
end Go.Proofs.Yteodapefimlakaa
