/- Contracts: places as complex numbers, and how far they lie apart. -/
import Derived.Test.YtaoodmioehkebaaMem
import Derived.Test.YtaoodmioehkebaaFloat
import Derived.Test.YtaoodmioehkebaaRows
import Derived.Laws.ComplexArith
import Derived.Laws.Cover3
namespace Go.Proofs.Ytaoodmioehkebaa
open Go Go.RowKit

def oneB (x y : Int) : Bool := decide (-1048576 ≤ x ∧ x ≤ 1048576 ∧ -1048576 ≤ y ∧ y ≤ 1048576)
set_option maxHeartbeats 400000 in
theorem plOne1 (x : Int) (w : World) : Calls Try.prog 87 #[.int .i64 x] w fun e w' => e = .returned (.bool (decide (-1048576 ≤ x ∧ x ≤ 1048576))) ∧ w = w' := by
  go_enter Try.func87, Try.ntmps87
  go_wp2
  all_goals go_ret
  all_goals exact ⟨ret_bool (bool_ext (by simp; try omega)), rfl⟩
set_option maxHeartbeats 400000 in
theorem plOne (x y : Int) (w : World) : Calls Try.prog 61 #[.agg #[.int .i64 x, .int .i64 y]] w fun e w' => e = .returned (.bool (oneB x y)) ∧ Grows w w' := by
  go_enter Try.func61, Try.ntmps61
  go_wp2_with (first | (go_at_call 87; refine (plOne1 _ _).mono ?_; rintro e w' ⟨rfl, rfl⟩))
  all_goals go_ret
  all_goals exact ⟨ret_bool (bool_ext (by unfold oneB; simp; try omega)), (by repeat (first | exact Grows.refl _ | refine Grows.now ?_ _ | refine Grows.new ?_ _ | refine Grows.drewN ?_ _ | refine Grows.drew ?_ | assumption | (refine Grows.set ?_ (by first | omega | (simp; done) | (simp; omega)) _)))⟩
set_option maxHeartbeats 400000 in
theorem r9One (x y : Int) (w : World) : Calls Try.prog 26 #[.agg #[.int .i64 x, .int .i64 y]] w fun e w' => e = .returned (.bool (oneB x y)) ∧ Grows w w' := by
  go_enter Try.func26, Try.ntmps26
  go_wp2
  all_goals go_ret
  all_goals exact ⟨ret_bool (bool_ext (by unfold oneB; simp; try omega)), (by repeat (first | exact Grows.refl _ | refine Grows.now ?_ _ | refine Grows.new ?_ _ | refine Grows.drewN ?_ _ | refine Grows.drew ?_ | assumption | (refine Grows.set ?_ (by first | omega | (simp; done) | (simp; omega)) _)))⟩

/-- A place as a complex number. -/
def atV (x y : Int) : Value := .complex .f64 (FloatKind.f64.nearest x) (FloatKind.f64.nearest y)
@[go_sem] theorem unary_negf (k : FloatKind) (b : Nat) : Op.unary .neg (.float k b) = pure (.float k (Op.negFloat k b)) := rfl
theorem neg_int {b : Nat} {n : Int} (h : IsI b n) : IsI (Op.negFloat .f64 b) (-n) := by
  obtain ⟨s, m, e, r1, hi, h1, hs⟩ := h
  refine ⟨!s, m, e, ?_, hi, by rw [Int.natAbs_neg]; exact h1, fun h => ?_⟩
  · have e1 : Ieee.double.signWeight = 2 ^ 63 := by decide +kernel
    have hx : Op.negFloat .f64 b = b ^^^ 2 ^ 63 := rfl
    have m1 : (b ^^^ 2 ^ 63) % 2 ^ 63 = b % 2 ^ 63 := by
      rw [Nat.xor_mod_two_pow, Nat.mod_self, Nat.xor_zero]
    have m2 : ((b ^^^ 2 ^ 63) / 2 ^ 63 % 2 == 1) = !(b / 2 ^ 63 % 2 == 1) := by
      rw [Nat.xor_div_two_pow]
      have : (b / 2 ^ 63 ^^^ 2 ^ 63 / 2 ^ 63) % 2 = (b / 2 ^ 63 % 2) ^^^ 1 := by
        have := @Nat.xor_mod_two_pow (b / 2 ^ 63) (2 ^ 63 / 2 ^ 63) 1
        simpa using this
      rw [this]
      have := Nat.mod_lt (b / 2 ^ 63) (show 0 < 2 by omega)
      generalize b / 2 ^ 63 % 2 = q at *
      have : q = 0 ∨ q = 1 := by omega
      rcases this with rfl | rfl <;> rfl
    unfold Ieee.Format.read at r1 ⊢
    rw [e1] at r1 ⊢
    rw [hx]
    dsimp only at r1 ⊢
    rw [m1, m2]
    generalize b % 2 ^ 63 = M at *
    generalize (b / 2 ^ 63 % 2 == 1) = S at *
    by_cases c1 : M < Ieee.double.binade
    · rw [if_pos c1] at r1 ⊢
      injection r1 with r2 r3 r4
      rw [r2, r3, r4]
    · rw [if_neg c1] at r1 ⊢
      by_cases c2 : M < Ieee.double.infRung
      · rw [if_pos c2] at r1 ⊢
        injection r1 with r2 r3 r4
        rw [r2, r3, r4]
      · rw [if_neg c2] at r1
        split at r1 <;> exact nomatch r1
  · have h0 : n ≠ 0 := by omega
    rw [hs h0]
    by_cases hb : n < 0
    · rw [decide_eq_true hb, decide_eq_false (by omega)]; rfl
    · rw [decide_eq_false hb, decide_eq_true (by omega)]; rfl

set_option maxHeartbeats 400000 in
theorem plAt (x y : Int) (w : World) (h : oneB x y = true) : Calls Try.prog 40 #[.agg #[.int .i64 x, .int .i64 y]] w fun e w' => e = .returned (atV x y) ∧ Grows w w' := by
  have C := fun W => plOne x y W
  rw [h] at C
  have HC := hide C
  clear C h
  go_enter Try.func40, Try.ntmps40
  go_wp2_with (first | (go_at_call 61; refine (HC.out _).mono ?_; rintro e w' ⟨rfl, hg⟩; (first | obtain ⟨x, rfl⟩ := Grows.later2 hg | obtain ⟨x, rfl⟩ := Grows.later hg); clear hg))
  go_ret
  exact ⟨rfl, (by repeat (first | exact Grows.refl _ | refine Grows.now ?_ _ | refine Grows.new ?_ _ | refine Grows.drewN ?_ _ | refine Grows.drew ?_ | assumption | (refine Grows.set ?_ (by first | omega | (simp; done) | (simp; omega)) _)))⟩
set_option maxHeartbeats 400000 in
theorem plAt0 (x y : Int) (w : World) (h : oneB x y = false) : Calls Try.prog 40 #[.agg #[.int .i64 x, .int .i64 y]] w fun e w' => e = .returned (.complex .f64 0 0) ∧ Grows w w' := by
  have C := fun W => plOne x y W
  rw [h] at C
  have HC := hide C
  clear C h
  go_enter Try.func40, Try.ntmps40
  go_wp2_with (first | (go_at_call 61; refine (HC.out _).mono ?_; rintro e w' ⟨rfl, hg⟩; (first | obtain ⟨x, rfl⟩ := Grows.later2 hg | obtain ⟨x, rfl⟩ := Grows.later hg); clear hg))
  go_ret
  exact ⟨rfl, (by repeat (first | exact Grows.refl _ | refine Grows.now ?_ _ | refine Grows.new ?_ _ | refine Grows.drewN ?_ _ | refine Grows.drew ?_ | assumption | (refine Grows.set ?_ (by first | omega | (simp; done) | (simp; omega)) _)))⟩
set_option maxHeartbeats 400000 in
theorem plConj (x y : Nat) (w : World) : Calls Try.prog 62 #[.complex .f64 x y] w fun e w' => e = .returned (.complex .f64 x (Op.negFloat .f64 y)) ∧ w = w' := by
  go_enter Try.func62, Try.ntmps62
  go_wp2
  go_ret
  exact ⟨rfl, rfl⟩

def sqI (a b c d : Int) : Int := (a - c) * (a - c) + (b - d) * (b - d)
theorem sq_facts {a b c d : Int} (h1 : oneB a b = true) (h2 : oneB c d = true) : ∃ dx dy re im : Nat,
    cSumBits .sub .f64 (FloatKind.f64.nearest a) (FloatKind.f64.nearest b) (FloatKind.f64.nearest c) (FloatKind.f64.nearest d) = some (dx, dy) ∧
    cMulBits dx dy dx (Op.negFloat .f64 dy) = some (re, im) ∧ floatToIntVal .f64 re .u64 = some (sqI a b c d) := by
  unfold oneB at h1 h2
  simp only [decide_eq_true_eq] at h1 h2
  obtain ⟨dx, q1, i1⟩ := sub_int (nearest_int (n := a) (by omega)) (nearest_int (n := c) (by omega)) (by omega)
  obtain ⟨dy, q2, i2⟩ := sub_int (nearest_int (n := b) (by omega)) (nearest_int (n := d) (by omega)) (by omega)
  have i3 := neg_int i2
  have bd : ∀ u v : Int, u.natAbs ≤ 2097152 → v.natAbs ≤ 2097152 → (u * v).natAbs ≤ 4398046511104 := fun u v hu hv => by
    rw [Int.natAbs_mul]; exact Nat.mul_le_mul hu hv
  have hX := bd (a - c) (a - c) (by omega) (by omega)
  have hY := bd (b - d) (-(b - d)) (by omega) (by omega)
  have hA := bd (a - c) (-(b - d)) (by omega) (by omega)
  have hB := bd (b - d) (a - c) (by omega) (by omega)
  obtain ⟨ac, q4, i4⟩ := mul_int i1 i1 (by omega)
  obtain ⟨bd', q5, i5⟩ := mul_int i2 i3 (by omega)
  obtain ⟨re, q6, i6⟩ := sub_int i4 i5 (by omega)
  obtain ⟨ad, q7, i7⟩ := mul_int i1 i3 (by omega)
  obtain ⟨bc, q8, i8⟩ := mul_int i2 i1 (by omega)
  obtain ⟨im, q9, i9⟩ := add_int i7 i8 (by omega)
  refine ⟨dx, dy, re, im, ?_, ?_, ?_⟩
  · simp only [cSumBits, floatBits, show FloatKind.f64.format = Ieee.double from rfl, q1, q2, Option.bind_some]
  · simp only [cMulBits, floatBits, show FloatKind.f64.format = Ieee.double from rfl, q4, q5, q6, q7, q8, q9, Option.bind_some]
  · unfold floatToIntVal
    rw [toInt_int i6]
    have hv : (a - c) * (a - c) - (b - d) * -(b - d) = sqI a b c d := by unfold sqI; rw [Int.mul_neg, Int.sub_neg]
    have h0 : 0 ≤ (a - c) * (a - c) := by
      rcases Int.le_total 0 (a - c) with h | h
      · exact Int.mul_nonneg h h
      · exact Int.mul_nonneg_of_nonpos_of_nonpos h h
    have h0' : 0 ≤ (b - d) * (b - d) := by
      rcases Int.le_total 0 (b - d) with h | h
      · exact Int.mul_nonneg h h
      · exact Int.mul_nonneg_of_nonpos_of_nonpos h h
    dsimp only
    rw [hv]
    have : sqI a b c d = (a - c) * (a - c) + (b - d) * (b - d) := rfl
    rw [Int.mul_neg, Int.natAbs_neg] at hY
    rw [if_pos ⟨by show (0 : Int) ≤ _; omega, by show _ ≤ (18446744073709551615 : Int); omega⟩]

set_option maxHeartbeats 2000000 in
theorem plSquare (a b c d : Int) (w : World) (h1 : oneB a b = true) (h2 : oneB c d = true) : Calls Try.prog 19 #[.agg #[.int .i64 a, .int .i64 b], .agg #[.int .i64 c, .int .i64 d]] w fun e w' => e = .returned (.int .u64 (sqI a b c d)) ∧ Grows w w' := by
  have H1 := hide (fun W => plAt a b W h1)
  have H2 := hide (fun W => plAt c d W h2)
  obtain ⟨dx, dy, re, im, q1, q2, q3⟩ := sq_facts h1 h2
  have C := fun W => plOne a b W
  rw [h1] at C
  have H3 := hide C
  clear C
  have C := fun W => plOne c d W
  rw [h2] at C
  have H4 := hide C
  clear C h1 h2
  have o1 := hide (fun t w => run_complex_sum (P := Try.prog) w .sub (Or.inr rfl) t .f64 _ _ _ _ _ _ q1)
  have o2 := hide (fun t w => run_complex_mul (P := Try.prog) w t _ _ _ _ _ _ q2)
  have o3 := hide (fun w => run_convert_float_int (P := Try.prog) w 70 30 .f64 .u64 _ _ (by rw [Try.underlying70]; rfl) Try.underlying30 q3)
  clear q1 q2 q3
  unfold atV at H1 H2
  go_enter Try.func19, Try.ntmps19
  go_wp2_with (first | (go_at_call 61; refine ((by first | with_reducible exact H3.out _ | with_reducible exact H4.out _) : Calls _ _ _ _ _).mono ?_; rintro e w' ⟨rfl, hg⟩; (first | obtain ⟨x, rfl⟩ := Grows.later2 hg | obtain ⟨x, rfl⟩ := Grows.later hg); clear hg))
  ((first | refine wp_region_gen2 (by kernel_rfl) (by kernel_rfl) ?_ | refine wp_region_gen (by kernel_rfl) (by kernel_rfl) ?_); (repeat' (first | (refine gLex_val0 rfl (by kernel_rfl) (fun K hK => ?_); (go_simp; (try (simp only [↓IntWalk.iteOmega]; try go_simp)); (try simp (disch := omega) only [IntWalk.i64_in]); (try simp (disch := omega) only [IntWalk.u64_in]); first | (refine hK _ ?_; clear hK K) | (apply Exists.intro; refine ⟨fun x => ?_, hK _ ?_⟩; (first | (go_at_call 40; first | with_reducible exact H1.out _ | with_reducible exact H2.out _) | (simp only [o1.out]; refine ⟨Grows.refl _, rfl⟩)); clear hK K))) | (refine gLex_undef rfl rfl rfl (by kernel_rfl) (fun K hK => ?_); go_simp; refine hK _ ?_; clear hK K) | (refine gLex_ask rfl rfl rfl ?_; first | (apply gAsk_yes; kernel_rfl; intro K hK; (go_simp; (try (simp only [↓IntWalk.iteOmega]; try go_simp)); (try simp (disch := omega) only [IntWalk.i64_in]); (try simp (disch := omega) only [IntWalk.u64_in]); first | (refine hK _ ?_; clear hK K) | (apply Exists.intro; refine ⟨fun x => ?_, hK _ ?_⟩; (first | (go_at_call 40; first | with_reducible exact H1.out _ | with_reducible exact H2.out _) | (simp only [o1.out]; refine ⟨Grows.refl _, rfl⟩)); clear hK K))) | ((first | apply gAsk_no1 | apply gAsk_no2); kernel_rfl; intro K hK; simp [go_sem]; refine hK _ ?_; clear hK K) | (apply gAsk_part; kernel_rfl; all_goals (intro h K hK; (try simp only [Bool.not_true] at h); (try simp only [Bool.not_false] at h); (try simp only [decide_eq_true_eq] at h); (try simp only [decide_eq_false_iff_not] at h); first | (exfalso; first | contradiction | omega) | (go_simp; (try (simp only [↓IntWalk.iteOmega]; try go_simp)); (try simp (disch := omega) only [IntWalk.i64_in]); (try simp (disch := omega) only [IntWalk.u64_in]); first | (refine hK _ ?_; clear hK K) | (apply Exists.intro; refine ⟨fun x => ?_, hK _ ?_⟩; (first | (go_at_call 40; first | with_reducible exact H1.out _ | with_reducible exact H2.out _) | (simp only [o1.out]; refine ⟨Grows.refl _, rfl⟩)); clear hK K))))))); all_goals ((apply gLex_end); intro x))
  go_wp2_with (first | (go_at_call 62; refine (plConj _ _ _).mono ?_; rintro e w' ⟨rfl, rfl⟩) | (simp only [o2.out]) | (simp only [o3.out]))
  go_ret
  exact ⟨rfl, (by repeat (first | exact Grows.refl _ | refine Grows.now ?_ _ | refine Grows.new ?_ _ | refine Grows.drewN ?_ _ | refine Grows.drew ?_ | assumption | (refine Grows.set ?_ (by first | omega | (simp; done) | (simp; omega)) _)))⟩

theorem sq_nn (x : Int) : 0 ≤ x * x := by
  rcases Int.le_total 0 x with h | h
  · exact Int.mul_nonneg h h
  · exact Int.mul_nonneg_of_nonpos_of_nonpos h h
theorem sq_le {x : Int} (h : x.natAbs ≤ 2097152) : x * x ≤ 4398046511104 := by
  have : (x * x).natAbs ≤ 4398046511104 := by rw [Int.natAbs_mul]; exact Nat.mul_le_mul h h
  omega
set_option maxHeartbeats 2000000 in
theorem r9Square (a b c d : Int) (w : World) (h1 : oneB a b = true) (h2 : oneB c d = true) : Calls Try.prog 20 #[.agg #[.int .i64 a, .int .i64 b], .agg #[.int .i64 c, .int .i64 d]] w fun e w' => e = .returned (.int .u64 (sqI a b c d)) ∧ Grows w w' := by
  have C := fun W => r9One a b W
  rw [h1] at C
  have H3 := hide C
  clear C
  have C := fun W => r9One c d W
  rw [h2] at C
  have H4 := hide C
  clear C
  unfold oneB at h1 h2
  simp only [decide_eq_true_eq] at h1 h2
  obtain ⟨p1, p2, p3, p4⟩ := h1
  obtain ⟨p5, p6, p7, p8⟩ := h2
  have b1 := sq_nn (a - c)
  have b2 := sq_nn (b - d)
  have b3 := sq_le (x := a - c) (by omega)
  have b4 := sq_le (x := b - d) (by omega)
  go_enter Try.func20, Try.ntmps20
  go_wp2_with (first | (go_at_call 26; refine ((by first | with_reducible exact H3.out _ | with_reducible exact H4.out _) : Calls _ _ _ _ _).mono ?_; rintro e w' ⟨rfl, hg⟩; (first | obtain ⟨x, rfl⟩ := Grows.later2 hg | obtain ⟨x, rfl⟩ := Grows.later hg); clear hg))
  ((first | refine wp_region_gen2 (by kernel_rfl) (by kernel_rfl) ?_ | refine wp_region_gen (by kernel_rfl) (by kernel_rfl) ?_); (repeat' (first | (refine gLex_val0 rfl (by kernel_rfl) (fun K hK => ?_); (go_simp; (try (simp only [↓IntWalk.iteOmega]; try go_simp)); (try simp (disch := omega) only [IntWalk.i64_in]); (try simp (disch := omega) only [IntWalk.u64_in]); first | (refine hK _ ?_; clear hK K) | (apply Exists.intro; refine ⟨fun x => ?_, hK _ ?_⟩; (first | fail); clear hK K))) | (refine gLex_undef rfl rfl rfl (by kernel_rfl) (fun K hK => ?_); go_simp; refine hK _ ?_; clear hK K) | (refine gLex_ask rfl rfl rfl ?_; first | (apply gAsk_yes; kernel_rfl; intro K hK; (go_simp; (try (simp only [↓IntWalk.iteOmega]; try go_simp)); (try simp (disch := omega) only [IntWalk.i64_in]); (try simp (disch := omega) only [IntWalk.u64_in]); first | (refine hK _ ?_; clear hK K) | (apply Exists.intro; refine ⟨fun x => ?_, hK _ ?_⟩; (first | fail); clear hK K))) | ((first | apply gAsk_no1 | apply gAsk_no2); kernel_rfl; intro K hK; simp [go_sem]; refine hK _ ?_; clear hK K) | (apply gAsk_part; kernel_rfl; all_goals (intro h K hK; (try simp only [Bool.not_true] at h); (try simp only [Bool.not_false] at h); (try simp only [decide_eq_true_eq] at h); (try simp only [decide_eq_false_iff_not] at h); first | (exfalso; first | contradiction | omega) | (go_simp; (try (simp only [↓IntWalk.iteOmega]; try go_simp)); (try simp (disch := omega) only [IntWalk.i64_in]); (try simp (disch := omega) only [IntWalk.u64_in]); first | (refine hK _ ?_; clear hK K) | (apply Exists.intro; refine ⟨fun x => ?_, hK _ ?_⟩; (first | fail); clear hK K))))))); all_goals ((apply gLex_end); intro x))
  go_wp2
  go_ret
  exact ⟨rfl, (by repeat (first | exact Grows.refl _ | refine Grows.now ?_ _ | refine Grows.new ?_ _ | refine Grows.drewN ?_ _ | refine Grows.drew ?_ | assumption | (refine Grows.set ?_ (by first | omega | (simp; done) | (simp; omega)) _)))⟩
set_option maxHeartbeats 2000000 in
theorem plSquare0 (a b c d : Int) (w : World) (h : oneB a b = false ∨ oneB c d = false) : Calls Try.prog 19 #[.agg #[.int .i64 a, .int .i64 b], .agg #[.int .i64 c, .int .i64 d]] w fun e w' => e = .returned (.int .u64 0) ∧ Grows w w' := by
  have C := fun W => plOne a b W
  have D := fun W => plOne c d W
  cases h1 : oneB a b <;> cases h2 : oneB c d
  case true.true => rw [h1, h2] at h; simp at h
  all_goals
    rw [h1] at C
    rw [h2] at D
    have H3 := hide C
    have H4 := hide D
    clear C D h1 h2 h
    go_enter Try.func19, Try.ntmps19
    go_wp2_with (first | (go_at_call 61; refine ((by first | with_reducible exact H3.out _ | with_reducible exact H4.out _) : Calls _ _ _ _ _).mono ?_; rintro e w' ⟨rfl, hg⟩; (first | obtain ⟨x, rfl⟩ := Grows.later2 hg | obtain ⟨x, rfl⟩ := Grows.later hg); clear hg))
    go_ret
    exact ⟨rfl, (by repeat (first | exact Grows.refl _ | refine Grows.now ?_ _ | refine Grows.new ?_ _ | refine Grows.drewN ?_ _ | refine Grows.drew ?_ | assumption | (refine Grows.set ?_ (by first | omega | (simp; done) | (simp; omega)) _)))⟩
set_option maxHeartbeats 2000000 in
theorem r9Square0 (a b c d : Int) (w : World) (h : oneB a b = false ∨ oneB c d = false) : Calls Try.prog 20 #[.agg #[.int .i64 a, .int .i64 b], .agg #[.int .i64 c, .int .i64 d]] w fun e w' => e = .returned (.int .u64 0) ∧ Grows w w' := by
  have C := fun W => r9One a b W
  have D := fun W => r9One c d W
  cases h1 : oneB a b <;> cases h2 : oneB c d
  case true.true => rw [h1, h2] at h; simp at h
  all_goals
    rw [h1] at C
    rw [h2] at D
    have H3 := hide C
    have H4 := hide D
    clear C D h1 h2 h
    go_enter Try.func20, Try.ntmps20
    go_wp2_with (first | (go_at_call 26; refine ((by first | with_reducible exact H3.out _ | with_reducible exact H4.out _) : Calls _ _ _ _ _).mono ?_; rintro e w' ⟨rfl, hg⟩; (first | obtain ⟨x, rfl⟩ := Grows.later2 hg | obtain ⟨x, rfl⟩ := Grows.later hg); clear hg))
    go_ret
    exact ⟨rfl, (by repeat (first | exact Grows.refl _ | refine Grows.now ?_ _ | refine Grows.new ?_ _ | refine Grows.drewN ?_ _ | refine Grows.drew ?_ | assumption | (refine Grows.set ?_ (by first | omega | (simp; done) | (simp; omega)) _)))⟩

/-- How far two places lie apart, squared: nought, if one may not be. -/
def sqV (a b c d : Int) : Int := if oneB a b && oneB c d then sqI a b c d else 0
theorem plSquareV (a b c d : Int) (w : World) : Calls Try.prog 19 #[.agg #[.int .i64 a, .int .i64 b], .agg #[.int .i64 c, .int .i64 d]] w fun e w' => e = .returned (.int .u64 (sqV a b c d)) ∧ Grows w w' := by
  unfold sqV
  cases h1 : oneB a b
  · exact plSquare0 a b c d w (.inl h1)
  · cases h2 : oneB c d
    · exact plSquare0 a b c d w (.inr h2)
    · exact plSquare a b c d w h1 h2
theorem r9SquareV (a b c d : Int) (w : World) : Calls Try.prog 20 #[.agg #[.int .i64 a, .int .i64 b], .agg #[.int .i64 c, .int .i64 d]] w fun e w' => e = .returned (.int .u64 (sqV a b c d)) ∧ Grows w w' := by
  unfold sqV
  cases h1 : oneB a b
  · exact r9Square0 a b c d w (.inl h1)
  · cases h2 : oneB c d
    · exact r9Square0 a b c d w (.inr h2)
    · exact r9Square a b c d w h1 h2
end Go.Proofs.Ytaoodmioehkebaa
