/- Contracts: how three places turn. -/
import Derived.Test.YtaoodmioehkebaaPlaces
namespace Go.Proofs.Ytaoodmioehkebaa
open Go Go.RowKit
set_option maxHeartbeats 400000 in
theorem tuConj (x y : Nat) (w : World) : Calls Try.prog 53 #[.complex .f64 x y] w fun e w' => e = .returned (.complex .f64 x (Op.negFloat .f64 y)) ∧ w = w' := by
  go_enter Try.func53, Try.ntmps53
  go_wp2
  go_ret
  exact ⟨rfl, rfl⟩
def crossI (a b c : Pl) : Int := (c.y - b.y) * (b.x - a.x) - (c.x - b.x) * (b.y - a.y)
def dotI (a b c : Pl) : Int := (c.x - b.x) * (b.x - a.x) + (c.y - b.y) * (b.y - a.y)
def signT (cr dt : Int) : Int := if 0 < cr then 1 else if cr < 0 then 2 else if 0 < dt then 0 else if dt < 0 then 3 else 4
/-- How three places turn. -/
def turnI (a b c : Pl) : Int := if [a, b, c].all okP then signT (crossI a b c) (dotI a b c) else 4
theorem zero_int : IsI 0 0 := ⟨false, 0, -1074, by decide +kernel, by rw [LP_eq]; omega, by simp, fun h => absurd rfl h⟩
theorem turn_facts {a b c : Pl} (h1 : okP a = true) (h2 : okP b = true) (h3 : okP c = true) : ∃ ux uy vx vy re im : Nat,
    cSumBits .sub .f64 (FloatKind.f64.nearest b.x) (FloatKind.f64.nearest b.y) (FloatKind.f64.nearest a.x) (FloatKind.f64.nearest a.y) = some (ux, uy) ∧
    cSumBits .sub .f64 (FloatKind.f64.nearest c.x) (FloatKind.f64.nearest c.y) (FloatKind.f64.nearest b.x) (FloatKind.f64.nearest b.y) = some (vx, vy) ∧
    cMulBits vx vy ux (Op.negFloat .f64 uy) = some (re, im) ∧
    FloatKind.f64.format.order im 0 = some (compare (crossI a b c) 0) ∧ FloatKind.f64.format.order re 0 = some (compare (dotI a b c) 0) := by
  unfold okP oneB at h1 h2 h3
  simp only [decide_eq_true_eq] at h1 h2 h3
  obtain ⟨ux, q1, i1⟩ := sub_int (nearest_int (n := b.x) (by omega)) (nearest_int (n := a.x) (by omega)) (by omega)
  obtain ⟨uy, q2, i2⟩ := sub_int (nearest_int (n := b.y) (by omega)) (nearest_int (n := a.y) (by omega)) (by omega)
  obtain ⟨vx, q3, i3⟩ := sub_int (nearest_int (n := c.x) (by omega)) (nearest_int (n := b.x) (by omega)) (by omega)
  obtain ⟨vy, q4, i4⟩ := sub_int (nearest_int (n := c.y) (by omega)) (nearest_int (n := b.y) (by omega)) (by omega)
  have i5 := neg_int i2
  have bd : ∀ u v : Int, u.natAbs ≤ 2097152 → v.natAbs ≤ 2097152 → (u * v).natAbs ≤ 4398046511104 := fun u v hu hv => by
    rw [Int.natAbs_mul]; exact Nat.mul_le_mul hu hv
  have b1 := bd (c.x - b.x) (b.x - a.x) (by omega) (by omega)
  have b2 := bd (c.y - b.y) (-(b.y - a.y)) (by omega) (by omega)
  have b3 := bd (c.x - b.x) (-(b.y - a.y)) (by omega) (by omega)
  have b4 := bd (c.y - b.y) (b.x - a.x) (by omega) (by omega)
  obtain ⟨ac, q5, i6⟩ := mul_int i3 i1 (by omega)
  obtain ⟨bd', q6, i7⟩ := mul_int i4 i5 (by omega)
  obtain ⟨re, q7, i8⟩ := sub_int i6 i7 (by omega)
  obtain ⟨ad, q8, i9⟩ := mul_int i3 i5 (by omega)
  obtain ⟨bc, q9, i10⟩ := mul_int i4 i1 (by omega)
  obtain ⟨im, q10, i11⟩ := add_int i9 i10 (by omega)
  refine ⟨ux, uy, vx, vy, re, im, ?_, ?_, ?_, ?_, ?_⟩
  · simp only [cSumBits, floatBits, show FloatKind.f64.format = Ieee.double from rfl, q1, q2, Option.bind_some]
  · simp only [cSumBits, floatBits, show FloatKind.f64.format = Ieee.double from rfl, q3, q4, Option.bind_some]
  · simp only [cMulBits, floatBits, show FloatKind.f64.format = Ieee.double from rfl, q5, q6, q7, q8, q9, q10, Option.bind_some]
  · have e : (c.x - b.x) * -(b.y - a.y) + (c.y - b.y) * (b.x - a.x) = crossI a b c := by unfold crossI; rw [Int.mul_neg]; omega
    rw [e] at i11
    exact order_int i11 zero_int
  · have e : (c.x - b.x) * (b.x - a.x) - (c.y - b.y) * -(b.y - a.y) = dotI a b c := by unfold dotI; rw [Int.mul_neg]; omega
    rw [e] at i8
    exact order_int i8 zero_int
theorem ord_gt {n : Int} : (some (compare n 0) == some Ordering.gt) = decide (0 < n) := by
  simp only [compare, compareOfLessAndEq]
  by_cases h : n < 0
  · rw [if_pos h, decide_eq_false (by omega)]; rfl
  · rw [if_neg h]
    by_cases h' : n = 0
    · rw [if_pos h', decide_eq_false (by omega)]; rfl
    · rw [if_neg h', decide_eq_true (by omega)]; rfl
theorem ord_lt {n : Int} : (some (compare n 0) == some Ordering.lt) = decide (n < 0) := by
  simp only [compare, compareOfLessAndEq]
  by_cases h : n < 0
  · rw [if_pos h, decide_eq_true h]; rfl
  · rw [if_neg h, decide_eq_false h]
    by_cases h' : n = 0
    · rw [if_pos h']; rfl
    · rw [if_neg h']; rfl
theorem rd_three (a b c : Pl) (W : World) (T : TypeId) (g : Nat) (hg : W.heap.size = g) : Rd (W.alloc (.cells #[.int .i64 a.x, .int .i64 a.y, .int .i64 b.x, .int .i64 b.y, .int .i64 c.x, .int .i64 c.y] T)) (some ⟨g, 0, none⟩) 2 3 (psCells [a, b, c]) := by
  subst hg
  refine ⟨by simp [psCells, pCells], fun _ _ => ⟨W.heap.size, 0, rfl, fun i v h => ?_⟩⟩
  have hi : i < 6 := by
    have := (List.getElem?_eq_some_iff.1 h).1
    simpa [psCells, pCells] using this
  have : i = 0 ∨ i = 1 ∨ i = 2 ∨ i = 3 ∨ i = 4 ∨ i = 5 := by omega
  rcases this with rfl | rfl | rfl | rfl | rfl | rfl <;> (simp [psCells, pCells] at h; subst h; simp [go_sem])
def bx (a : Pl) (T : TypeId) : Obj := .cells #[.int .i64 a.x, .int .i64 a.y] T
def bx3 (a b c : Pl) (T : TypeId) : Obj := .cells #[.int .i64 a.x, .int .i64 a.y, .int .i64 b.x, .int .i64 b.y, .int .i64 c.x, .int .i64 c.y] T
theorem three_cells (a b c : Pl) (w : World) (T : TypeId) : ∀ W, ((((w.alloc (bx a T)).alloc (bx b T)).alloc (bx c T)).alloc (bx3 a b c T)) = W →
    W.cell? ⟨w.heap.size, 0, none⟩ = some (.int .i64 a.x) ∧ W.cell? ⟨w.heap.size, 1, none⟩ = some (.int .i64 a.y) ∧
    W.cell? ⟨w.heap.size + 1, 0, none⟩ = some (.int .i64 b.x) ∧ W.cell? ⟨w.heap.size + 1, 1, none⟩ = some (.int .i64 b.y) ∧
    W.cell? ⟨w.heap.size + 1 + 1, 0, none⟩ = some (.int .i64 c.x) ∧ W.cell? ⟨w.heap.size + 1 + 1, 1, none⟩ = some (.int .i64 c.y) := by
  rintro W rfl
  unfold bx bx3
  refine ⟨?_, ?_, ?_, ?_, ?_, ?_⟩ <;> simp [go_sem]
set_option maxRecDepth 20000 in
set_option maxHeartbeats 4000000 in
theorem tuOf (a b c : Pl) (w : World) : Calls Try.prog 12 #[pVal a, pVal b, pVal c] w fun e w' => e = .returned (.int .i64 (turnI a b c)) ∧ Grows w w' := by
  have C1 := fun W T g (hg : W.heap.size = g) => plRight _ 3 3 [a, b, c] _ (rd_three a b c W T g hg) (by omega)
  cases hr : [a, b, c].all okP with
  | false =>
    have HW : Hid (turnI a b c = 4) := by unfold turnI; rw [hr]; rfl
    rw [hr] at C1
    have H1 := hide C1
    clear C1 hr
    unfold pVal
    go_enter Try.func12, Try.ntmps12
    go_wp2_with (first | (go_at_call 41; refine (H1.out _ _ _ (by simp [go_sem])).mono ?_; rintro e w' ⟨rfl, hg⟩; (first | obtain ⟨x, rfl⟩ := Grows.later2 hg | obtain ⟨x, rfl⟩ := Grows.later hg); clear hg))
    go_ret
    exact ⟨ret_int HW.out.symm, (by repeat (first | exact Grows.refl _ | refine Grows.now ?_ _ | refine Grows.new ?_ _ | refine Grows.drewN ?_ _ | refine Grows.drew ?_ | assumption | (refine Grows.set ?_ (by first | omega | (simp; done) | (simp; omega)) _)))⟩
  | true =>
    have HW : Hid (turnI a b c = signT (crossI a b c) (dotI a b c)) := by unfold turnI; rw [hr]; rfl
    rw [hr] at C1
    have H1 := hide C1
    obtain ⟨h1, h2, h3⟩ : okP a = true ∧ okP b = true ∧ okP c = true := by simpa using hr
    obtain ⟨ux, uy, vx, vy, re, im, q1, q2, q3, q4, q5⟩ := turn_facts h1 h2 h3
    have A1 := hide (fun W => plAt a.x a.y W h1)
    have A2 := hide (fun W => plAt b.x b.y W h2)
    have A3 := hide (fun W => plAt c.x c.y W h3)
    have o1 := hide (fun t w => run_complex_sum (P := Try.prog) w .sub (Or.inr rfl) t .f64 _ _ _ _ _ _ q1)
    have o2 := hide (fun t w => run_complex_sum (P := Try.prog) w .sub (Or.inr rfl) t .f64 _ _ _ _ _ _ q2)
    have o3 := hide (fun t w => run_complex_mul (P := Try.prog) w t _ _ _ _ _ _ q3)
    clear C1 hr h1 h2 h3 q1 q2 q3
    unfold atV at A1 A2 A3
    unfold signT at HW
    generalize crossI a b c = cr at *
    generalize dotI a b c = dt at *
    have d1 : (FloatKind.f64.format.order im 0 == some .gt) = decide (0 < cr) := by rw [q4, ord_gt]
    have d2 : (FloatKind.f64.format.order im 0 == some .lt) = decide (cr < 0) := by rw [q4, ord_lt]
    have d3 : (FloatKind.f64.format.order re 0 == some .gt) = decide (0 < dt) := by rw [q5, ord_gt]
    have d4 : (FloatKind.f64.format.order re 0 == some .lt) = decide (dt < 0) := by rw [q5, ord_lt]
    clear q4 q5
    obtain ⟨k1, k2, k3, k4, k5, k6⟩ := three_cells a b c w 23 _ rfl
    unfold bx bx3 at k1 k2 k3 k4 k5 k6
    unfold pVal
    go_enter Try.func12, Try.ntmps12
    go_wp2_with (first | (go_at_call 41; refine (H1.out _ _ _ (by simp [go_sem])).mono ?_; rintro e w' ⟨rfl, hg⟩; (first | obtain ⟨x, rfl⟩ := Grows.later2 hg | obtain ⟨x, rfl⟩ := Grows.later hg); clear hg))
    ((first | refine wp_region_gen2 (by kernel_rfl) (by kernel_rfl) ?_ | refine wp_region_gen (by kernel_rfl) (by kernel_rfl) ?_); (repeat' (first | (refine gLex_val0 rfl (by kernel_rfl) (fun K hK => ?_); (go_simp; (try (simp only [↓IntWalk.iteOmega]; try go_simp)); (try simp (disch := omega) only [IntWalk.i64_in]); (try simp (disch := omega) only [IntWalk.u64_in]); first | (refine hK _ ?_; clear hK K) | (apply Exists.intro; refine ⟨fun x => ?_, hK _ ?_⟩; (first | (go_at_call 40; first | with_reducible exact A1.out _ | with_reducible exact A2.out _ | with_reducible exact A3.out _) | (simp only [o1.out]; refine ⟨Grows.refl _, rfl⟩) | (simp only [o2.out]; refine ⟨Grows.refl _, rfl⟩)); clear hK K))) | (refine gLex_undef rfl rfl rfl (by kernel_rfl) (fun K hK => ?_); go_simp; refine hK _ ?_; clear hK K) | (refine gLex_ask rfl rfl rfl ?_; first | (apply gAsk_yes; kernel_rfl; intro K hK; (go_simp; (try (simp only [↓IntWalk.iteOmega]; try go_simp)); (try simp (disch := omega) only [IntWalk.i64_in]); (try simp (disch := omega) only [IntWalk.u64_in]); first | (refine hK _ ?_; clear hK K) | (apply Exists.intro; refine ⟨fun x => ?_, hK _ ?_⟩; (first | (go_at_call 40; first | with_reducible exact A1.out _ | with_reducible exact A2.out _ | with_reducible exact A3.out _) | (simp only [o1.out]; refine ⟨Grows.refl _, rfl⟩) | (simp only [o2.out]; refine ⟨Grows.refl _, rfl⟩)); clear hK K))) | ((first | apply gAsk_no1 | apply gAsk_no2); kernel_rfl; intro K hK; simp [go_sem]; refine hK _ ?_; clear hK K) | (apply gAsk_part; kernel_rfl; all_goals (intro h K hK; (try simp only [Bool.not_true] at h); (try simp only [Bool.not_false] at h); (try simp only [decide_eq_true_eq] at h); (try simp only [decide_eq_false_iff_not] at h); first | (exfalso; first | contradiction | omega) | (go_simp; (try (simp only [↓IntWalk.iteOmega]; try go_simp)); (try simp (disch := omega) only [IntWalk.i64_in]); (try simp (disch := omega) only [IntWalk.u64_in]); first | (refine hK _ ?_; clear hK K) | (apply Exists.intro; refine ⟨fun x => ?_, hK _ ?_⟩; (first | (go_at_call 40; first | with_reducible exact A1.out _ | with_reducible exact A2.out _ | with_reducible exact A3.out _) | (simp only [o1.out]; refine ⟨Grows.refl _, rfl⟩) | (simp only [o2.out]; refine ⟨Grows.refl _, rfl⟩)); clear hK K))))))); all_goals ((apply gLex_end); intro x))
    go_wp2_with (first | (go_at_call 53; refine (tuConj _ _ _).mono ?_; rintro e w' ⟨rfl, rfl⟩) | (simp only [o3.out]))
    all_goals go_ret
    all_goals exact ⟨ret_int (by rw [HW.out]; (repeat' split) <;> omega), (by repeat (first | exact Grows.refl _ | refine Grows.now ?_ _ | refine Grows.new ?_ _ | refine Grows.drewN ?_ _ | refine Grows.drew ?_ | assumption | (refine Grows.set ?_ (by first | omega | (simp; done) | (simp; omega)) _)))⟩
set_option maxRecDepth 20000 in
set_option maxHeartbeats 4000000 in
theorem r10Of (a b c : Pl) (w : World) : Calls Try.prog 13 #[pVal a, pVal b, pVal c] w fun e w' => e = .returned (.int .i64 (turnI a b c)) ∧ Grows w w' := by
  have C1 := fun W T g (hg : W.heap.size = g) => r9Right _ 3 3 [a, b, c] _ (rd_three a b c W T g hg) (by omega)
  cases hr : [a, b, c].all okP with
  | false =>
    have HW : Hid (turnI a b c = 4) := by unfold turnI; rw [hr]; rfl
    rw [hr] at C1
    have H1 := hide C1
    clear C1 hr
    unfold pVal
    go_enter Try.func13, Try.ntmps13
    go_wp2_with (first | (go_at_call 27; refine (H1.out _ _ _ (by simp [go_sem])).mono ?_; rintro e w' ⟨rfl, hg⟩; (first | obtain ⟨x, rfl⟩ := Grows.later2 hg | obtain ⟨x, rfl⟩ := Grows.later hg); clear hg))
    go_ret
    exact ⟨ret_int HW.out.symm, (by repeat (first | exact Grows.refl _ | refine Grows.now ?_ _ | refine Grows.new ?_ _ | refine Grows.drewN ?_ _ | refine Grows.drew ?_ | assumption | (refine Grows.set ?_ (by first | omega | (simp; done) | (simp; omega)) _)))⟩
  | true =>
    have HW : Hid (turnI a b c = signT (crossI a b c) (dotI a b c)) := by unfold turnI; rw [hr]; rfl
    rw [hr] at C1
    have H1 := hide C1
    obtain ⟨h1, h2, h3⟩ : okP a = true ∧ okP b = true ∧ okP c = true := by simpa using hr
    clear C1 hr
    unfold okP oneB at h1 h2 h3
    simp only [decide_eq_true_eq] at h1 h2 h3
    have bd : ∀ u v : Int, u.natAbs ≤ 2097152 → v.natAbs ≤ 2097152 → -4398046511104 ≤ u * v ∧ u * v ≤ 4398046511104 := fun u v hu hv => by
      have : (u * v).natAbs ≤ 4398046511104 := by rw [Int.natAbs_mul]; exact Nat.mul_le_mul hu hv
      omega
    obtain ⟨b1, b1'⟩ := bd (c.y - b.y) (b.x - a.x) (by omega) (by omega)
    obtain ⟨b2, b2'⟩ := bd (c.x - b.x) (b.y - a.y) (by omega) (by omega)
    obtain ⟨b3, b3'⟩ := bd (c.x - b.x) (b.x - a.x) (by omega) (by omega)
    obtain ⟨b4, b4'⟩ := bd (c.y - b.y) (b.y - a.y) (by omega) (by omega)
    clear bd
    unfold signT crossI dotI at HW
    obtain ⟨k1, k2, k3, k4, k5, k6⟩ := three_cells a b c w 23 _ rfl
    unfold bx bx3 at k1 k2 k3 k4 k5 k6
    unfold pVal
    go_enter Try.func13, Try.ntmps13
    go_wp2_with (first | (go_at_call 27; refine (H1.out _ _ _ (by simp [go_sem])).mono ?_; rintro e w' ⟨rfl, hg⟩; (first | obtain ⟨x, rfl⟩ := Grows.later2 hg | obtain ⟨x, rfl⟩ := Grows.later hg); clear hg))
    ((first | refine wp_region_gen2 (by kernel_rfl) (by kernel_rfl) ?_ | refine wp_region_gen (by kernel_rfl) (by kernel_rfl) ?_); (repeat' (first | (refine gLex_val0 rfl (by kernel_rfl) (fun K hK => ?_); (go_simp; (try (simp only [↓IntWalk.iteOmega]; try go_simp)); (try simp (disch := omega) only [IntWalk.i64_in]); (try simp (disch := omega) only [IntWalk.u64_in]); first | (refine hK _ ?_; clear hK K) | (apply Exists.intro; refine ⟨fun x => ?_, hK _ ?_⟩; (first | fail); clear hK K))) | (refine gLex_undef rfl rfl rfl (by kernel_rfl) (fun K hK => ?_); go_simp; refine hK _ ?_; clear hK K) | (refine gLex_ask rfl rfl rfl ?_; first | (apply gAsk_yes; kernel_rfl; intro K hK; (go_simp; (try (simp only [↓IntWalk.iteOmega]; try go_simp)); (try simp (disch := omega) only [IntWalk.i64_in]); (try simp (disch := omega) only [IntWalk.u64_in]); first | (refine hK _ ?_; clear hK K) | (apply Exists.intro; refine ⟨fun x => ?_, hK _ ?_⟩; (first | fail); clear hK K))) | ((first | apply gAsk_no1 | apply gAsk_no2); kernel_rfl; intro K hK; simp [go_sem]; refine hK _ ?_; clear hK K) | (apply gAsk_part; kernel_rfl; all_goals (intro h K hK; (try simp only [Bool.not_true] at h); (try simp only [Bool.not_false] at h); (try simp only [decide_eq_true_eq] at h); (try simp only [decide_eq_false_iff_not] at h); first | (exfalso; first | contradiction | omega) | (go_simp; (try (simp only [↓IntWalk.iteOmega]; try go_simp)); (try simp (disch := omega) only [IntWalk.i64_in]); (try simp (disch := omega) only [IntWalk.u64_in]); first | (refine hK _ ?_; clear hK K) | (apply Exists.intro; refine ⟨fun x => ?_, hK _ ?_⟩; (first | fail); clear hK K))))))); all_goals ((apply gLex_end); intro x))
    go_wp2_with fail
    ((first | refine wp_region_gen2 (by kernel_rfl) (by kernel_rfl) ?_ | refine wp_region_gen (by kernel_rfl) (by kernel_rfl) ?_); (repeat' (first | (refine gLex_val0 rfl (by kernel_rfl) (fun K hK => ?_); (go_simp; (try (simp only [↓IntWalk.iteOmega]; try go_simp)); (try simp (disch := omega) only [IntWalk.i64_in]); (try simp (disch := omega) only [IntWalk.u64_in]); first | (refine hK _ ?_; clear hK K) | (apply Exists.intro; refine ⟨fun x => ?_, hK _ ?_⟩; (first | fail); clear hK K))) | (refine gLex_undef rfl rfl rfl (by kernel_rfl) (fun K hK => ?_); go_simp; refine hK _ ?_; clear hK K) | (refine gLex_ask rfl rfl rfl ?_; first | (apply gAsk_yes; kernel_rfl; intro K hK; (go_simp; (try (simp only [↓IntWalk.iteOmega]; try go_simp)); (try simp (disch := omega) only [IntWalk.i64_in]); (try simp (disch := omega) only [IntWalk.u64_in]); first | (refine hK _ ?_; clear hK K) | (apply Exists.intro; refine ⟨fun x => ?_, hK _ ?_⟩; (first | fail); clear hK K))) | ((first | apply gAsk_no1 | apply gAsk_no2); kernel_rfl; intro K hK; simp [go_sem]; refine hK _ ?_; clear hK K) | (apply gAsk_part; kernel_rfl; all_goals (intro h K hK; (try simp only [Bool.not_true] at h); (try simp only [Bool.not_false] at h); (try simp only [decide_eq_true_eq] at h); (try simp only [decide_eq_false_iff_not] at h); first | (exfalso; first | contradiction | omega) | (go_simp; (try (simp only [↓IntWalk.iteOmega]; try go_simp)); (try simp (disch := omega) only [IntWalk.i64_in]); (try simp (disch := omega) only [IntWalk.u64_in]); first | (refine hK _ ?_; clear hK K) | (apply Exists.intro; refine ⟨fun x => ?_, hK _ ?_⟩; (first | fail); clear hK K))))))); all_goals ((apply gLex_end); intro x))
    go_wp2
    all_goals go_ret
    all_goals exact ⟨ret_int (by rw [HW.out]; (repeat' split) <;> omega), (by repeat (first | exact Grows.refl _ | refine Grows.now ?_ _ | refine Grows.new ?_ _ | refine Grows.drewN ?_ _ | refine Grows.drew ?_ | assumption | (refine Grows.set ?_ (by first | omega | (simp; done) | (simp; omega)) _)))⟩
end Go.Proofs.Ytaoodmioehkebaa
