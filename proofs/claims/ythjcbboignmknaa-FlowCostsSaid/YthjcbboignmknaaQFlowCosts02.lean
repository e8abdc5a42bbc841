/- The law FlowCosts: for every input it returns true, and each argument reads as before. No condition. -/
import Derived.Test.YthjcbboignmknaaQFlowCosts01
import Derived.Test.YthjcbboignmknaaQCanonAll15
/- The law FlowCosts, walked: what any loads cost, and which edge has the greatest. -/
namespace Go.Proofs.Ythjcbboignmknaa
open Go Go.RowKit
theorem costV_form (N : Int) (E : List Edg) (L : List Nat) : ∃ a f : Int, costV N E L = .tuple #[.int .u64 a, .int .i64 f] := by
  unfold costV ckV
  split
  · exact ⟨_, _, rfl⟩
  · split
    · exact ⟨_, _, rfl⟩
    · exact ⟨_, _, rfl⟩
theorem bsV_form (L : List Nat) : ∃ (a : Int) (b : Bool), bsV L = .tuple #[.int .i64 a, .bool b] := by
  unfold bsV
  split
  · exact ⟨_, _, rfl⟩
  · exact ⟨_, _, rfl⟩
set_option maxRecDepth 40000 in
set_option maxHeartbeats 8000000 in
theorem flowCostsW (N : Int) (A : Option Addr) (n c : Nat) (E : List Edg) (Bl : Option Addr) (m d : Nat) (z : List Int) (w : World)
    (_ : I64 N) (_ : n ≤ c) (h : Rd w A 3 n (esCells E)) (_ : ∀ k, k < n → edgOk (ge E k)) (_ : m ≤ d) (hz : Rd w Bl 1 m (z.map (.int .u64))) (hwf : ∀ x ∈ z, (Lit.int .u64 x).wf = true) :
    Calls Try.prog 9 #[.agg #[.int .i64 N, .slice A n c], .slice Bl m d] w fun e w' => e = .returned (.bool true) ∧ Grows w w' := by
  rw [wv_of hwf] at hz
  have hb0 : ∀ k, k < (z.map Int.toNat).length → gn (z.map Int.toNat) k < 18446744073709551616 := fun k hk => by
    have hk2 : k < z.length := by simpa using hk
    have := wf_u64 (hwf _ (List.getElem_mem hk2))
    unfold U64 at this
    have e : gn (z.map Int.toNat) k = (z[k]).toNat := by simp [gn, hk2]
    rw [e]
    omega
  generalize z.map Int.toNat = L at hz hb0
  clear hwf
  have e4 : E.length = n := h.elen
  have e5 : L.length = m := hz.wlen
  subst e4 e5
  have CM := fun (W1 : World) => lLight47 N A E.length c none 0 0 W1
  cases hq0 : light47 N E.length 0 with
  | false =>
    rw [hq0] at CM
    have H0 := hide CM
    clear CM hq0 h hz hb0
    go_enter Try.func9, Try.ntmps9
    go_wp2_with (first | (go_at_call 36; refine (H0.out _).mono ?_; rintro e w' ⟨rfl, hg⟩; (first | obtain ⟨x, rfl⟩ := Grows.later2 hg | obtain ⟨x, rfl⟩ := Grows.later hg); clear hg) | (go_at_call 37; refine (alive47 _).mono ?_; rintro e w' ⟨rfl, hg⟩; (first | obtain ⟨x, rfl⟩ := Grows.later2 hg | obtain ⟨x, rfl⟩ := Grows.later hg); clear hg))
    go_ret
    exact ⟨rfl, (by repeat (first | exact Grows.refl _ | refine Grows.now ?_ _ | refine Grows.new ?_ _ | refine Grows.drewN ?_ _ | refine Grows.drew ?_ | assumption | (refine Grows.set ?_ (by first | omega | (simp; done) | (simp; omega)) _)))⟩
  | true =>
  rw [hq0] at CM
  have H0 := hide CM
  have hsz : E.length ≤ 60 := by
    unfold light47 at hq0
    simp at hq0
    omega
  have hn : E.length ≤ 1000000 := by omega
  clear CM hq0
  by_cases hbig : 100 < L.length
  · have hb1 : decide ((100 : Int) < (L.length : Int)) = true := decide_eq_true (by omega)
    clear h hz hb0
    go_enter Try.func9, Try.ntmps9
    go_wp2_with (first | (go_at_call 36; refine (H0.out _).mono ?_; rintro e w' ⟨rfl, hg⟩; (first | obtain ⟨x, rfl⟩ := Grows.later2 hg | obtain ⟨x, rfl⟩ := Grows.later hg); clear hg) | (go_at_call 37; refine (alive47 _).mono ?_; rintro e w' ⟨rfl, hg⟩; (first | obtain ⟨x, rfl⟩ := Grows.later2 hg | obtain ⟨x, rfl⟩ := Grows.later hg); clear hg))
    go_ret
    exact ⟨rfl, (by repeat (first | exact Grows.refl _ | refine Grows.now ?_ _ | refine Grows.new ?_ _ | refine Grows.drewN ?_ _ | refine Grows.drew ?_ | assumption | (refine Grows.set ?_ (by first | omega | (simp; done) | (simp; omega)) _)))⟩
  · have hm : L.length ≤ 1000000 := by omega
    have K1 := hide (fun (W1 : World) (g : Grows w W1) => fCost N A c E Bl d L W1 (h.grows g) (hz.grows g) hn hm hb0)
    have K2 := hide (fun (W1 : World) (g : Grows w W1) => r47Cost N A c E Bl d L W1 (h.grows g) (hz.grows g) hn hb0)
    have K3 := hide (fun (W1 : World) (g : Grows w W1) => (fBusiest Bl d L W1 (hz.grows g) hm).mono (fun e w' q => show e = .returned (bsV L) ∧ Grows W1 w' from ⟨q.1, by rw [← q.2]; exact Grows.refl _⟩))
    have K4 := hide (fun (W1 : World) (g : Grows w W1) => r47Busiest Bl d L W1 (hz.grows g) hm)
    obtain ⟨a, f, e1⟩ := costV_form N E L
    obtain ⟨a2, b2, e2⟩ := bsV_form L
    rw [e1] at K1 K2
    rw [e2] at K3 K4
    clear e1 e2 h hz hb0 hm hn hsz
    go_enter Try.func9, Try.ntmps9
    go_wp2_with fail
    refine (H0.out _).mono ?_; rintro e w' ⟨rfl, hg⟩; obtain ⟨x1, rfl⟩ := hg.later; clear hg
    have b1 : Arr x1.now w.heap.size 24 [.int .i64 N, .slice A E.length c] := Arr.grow ⟨by simp [heap_push]⟩ x1.grows
    go_wp2_with fail
    refine (K1.out _ (by repeat (first | exact Grows.refl _ | refine Grows.now ?_ _ | refine Grows.new ?_ _ | refine Grows.drewN ?_ _ | refine Grows.drew ?_ | assumption | (refine Grows.set ?_ (by first | omega | (simp; done) | (simp; omega)) _)))).mono ?_; rintro e w' ⟨rfl, hg⟩; obtain ⟨x2, hx2⟩ : ∃ x2 : Later x1.now, w' = x2.now := hg.later; subst hx2; clear hg
    go_wp2_with fail
    refine (K2.out _ (by repeat (first | exact Grows.refl _ | refine Grows.now ?_ _ | refine Grows.new ?_ _ | refine Grows.drewN ?_ _ | refine Grows.drew ?_ | assumption | (refine Grows.set ?_ (by first | omega | (simp; done) | (simp; omega)) _)))).mono ?_; rintro e w' ⟨rfl, hg⟩; obtain ⟨x3, hx3⟩ : ∃ x3 : Later x2.now, w' = x3.now := hg.later; subst hx3; clear hg
    go_wp2_with fail
    refine (K3.out _ (by repeat (first | exact Grows.refl _ | refine Grows.now ?_ _ | refine Grows.new ?_ _ | refine Grows.drewN ?_ _ | refine Grows.drew ?_ | assumption | (refine Grows.set ?_ (by first | omega | (simp; done) | (simp; omega)) _)))).mono ?_; rintro e w' ⟨rfl, hg⟩; obtain ⟨x4, hx4⟩ : ∃ x4 : Later x3.now, w' = x4.now := hg.later; subst hx4; clear hg
    go_wp2_with fail
    refine (K4.out _ (by repeat (first | exact Grows.refl _ | refine Grows.now ?_ _ | refine Grows.new ?_ _ | refine Grows.drewN ?_ _ | refine Grows.drew ?_ | assumption | (refine Grows.set ?_ (by first | omega | (simp; done) | (simp; omega)) _)))).mono ?_; rintro e w' ⟨rfl, hg⟩; obtain ⟨x5, hx5⟩ : ∃ x5 : Later x4.now, w' = x5.now := hg.later; subst hx5; clear hg
    go_wp2_with fail
    refine (alive47 _).mono ?_; rintro e w' ⟨rfl, hg⟩; obtain ⟨x6, hx6⟩ : ∃ x6 : Later x5.now, w' = x6.now := hg.later; subst hx6; clear hg
    go_wp2_with fail
    go_ret
    exact ⟨rfl, (by repeat (first | exact Grows.refl _ | refine Grows.now ?_ _ | refine Grows.new ?_ _ | refine Grows.drewN ?_ _ | refine Grows.drew ?_ | assumption | (refine Grows.set ?_ (by first | omega | (simp; done) | (simp; omega)) _)))⟩
end Go.Proofs.Ythjcbboignmknaa

/- The law FlowCosts: for every input it returns true, and each argument reads as before. No condition. -/
namespace Go.Proofs.Ythjcbboignmknaa.lawFlowCosts
open Go Go.ChangeShapes Go.WideShapes Go.ChangeAt Go.RowKit Go.Proofs.Ythjcbboignmknaa

theorem own : ownKnob Try.prog.godebug = none := by kernel_rfl
theorem laidOut : laidOutB Try.prog = true := by kernel_rfl

set_option maxRecDepth 100000 in
theorem lifted (os : Os) (started : os.Started) (H : Type) (enc : TypeId × Value → H) :
    ReturnsInHanded {} Try.checked os 9 .any (Rows.flowCostsSpec.pre6 enc Try.prog Try.f9 Rows.flowCostsRow.domain false) (Rows.flowCostsSpec.post enc Try.prog Try.f9 false true false false) := by
  refine returnsInHanded_of_change (C := Try.checked) own started (by kernel_rfl) Try.func9
    (ChangeSpec.witness6 (enc := enc) (C := Try.checked) false ⟨#[], #[.agg #[.int .i64 0, .slice none 0 0], .slice none 0 0], []⟩ 8 (by kernel_rfl) (by kernel_rfl) (by kernel_rfl) (by kernel_rfl)) ?_
  intro W base args ds gs before hval0 hW hcnd _
  have hval : ∀ (j : Nat) t v, Try.f9.params[j]? = some t → args[j]? = some v → Value.okWide Try.prog W .any base t v := hval0
  have hW' := hW
  obtain ⟨p, q, hA0, hV, rfl, hfz, hnd⟩ := hW
  have hA : DataW.TrodAll enc Try.prog W 0 (fun _ => true) true Try.f9.params.toList args.toList ds p := hA0
  rw [Try.params9] at hA hval
  obtain ⟨v0, vs0, d0, ds0, p0, q0, hargs, rfl, rfl, h0, r0⟩ := trodAll_cons hA
  obtain ⟨v1, vs1, d1, ds1, p1, q1, rfl, rfl, rfl, h1, r1⟩ := trodAll_cons r0
  obtain ⟨rfl, rfl, rfl⟩ := trodAll_nil r1
  obtain rfl : args = #[v0, v1] := by cases args; simp_all
  obtain ⟨rfl, rfl⟩ := trodVars_none hV
  have k0 := h0
  have lt0 : ∀ x ∈ p0, x.block < W.heap.size := by obtain ⟨m, hm⟩ := k0; exact DataW.trod_lt m _ _ _ hm
  obtain ⟨a0, A0, n0, c0, z0, rfl, x0, l0, w0, u0⟩ := open_graph Try.underlying24 Try.underlying3 Try.underlying22 Try.underlying62 Try.underlying3 Try.underlying3 Try.underlying37 ⟨rfl, rfl, rfl⟩ ⟨by kernel_rfl, by kernel_rfl, by kernel_rfl⟩ (by kernel_rfl) (by kernel_rfl) (by kernel_rfl) (hval 0 24 v0 rfl rfl) h0
  have k1 := h1
  have lt1 : ∀ x ∈ p1, x.block < W.heap.size := by obtain ⟨m, hm⟩ := k1; exact DataW.trod_lt m _ _ _ hm
  obtain ⟨A1, n1, c1, z1, rfl, l1, w1, u1⟩ := open_numsC Try.underlying36 Try.underlying37 (by kernel_rfl) (hval 1 36 v1 rfl rfl) h1
  clear hA0 hval0
  refine (flowCostsW a0 A0 n0 c0 z0 A1 n1 c1 z1 W x0 l0 w0 u0 l1 w1 u1).mono fun e W' ⟨he, bel⟩ => ?_
  subst he
  exact ⟨_, rfl, _, _, _, [], _, [], hW', trodAll_mk1 (shut_bool Try.underlying4 _), (trodAll_cons_mk (Below.trod laidOut (by kernel_rfl) (of_decide_eq_true (by kernel_rfl)) k0 bel lt0) (trodAll_cons_mk (Below.trod laidOut (by kernel_rfl) (of_decide_eq_true (by kernel_rfl)) k1 bel lt1) trodAll_mk0)), rfl, Below.frame bel _, fun h => by cases h⟩

theorem over : Rows.flowCostsRow.holds Try.pinned (OpenSpec.ofChange Rows.flowCostsSpec) :=
  OpenClaim.holds_of_wide 9 Try.f9 rfl rfl rfl rfl rfl rfl rfl ⟨rfl, rfl, rfl, rfl, rfl⟩ rfl rfl rfl rfl rfl (by kernel_rfl) Try.func9 (by kernel_rfl)
    (of_decide_eq_true (by kernel_rfl)) (by unfold Func.isWrapper; first | (rw [if_pos (by decide +kernel)]; kernel_rfl) | (rw [if_neg (by decide +kernel)]; exact ⟨rfl, rfl⟩))
    (fun os started H enc _ => lifted os started H enc)

end Go.Proofs.Ythjcbboignmknaa.lawFlowCosts
namespace Go.Proofs.Ythjcbboignmknaa
/-- The statement. -/
theorem flowCosts_proved : Rows.FlowCostsSaid := lawFlowCosts.over
#print axioms flowCosts_proved
end Go.Proofs.Ythjcbboignmknaa
