/- Walk: that how far two places lie apart is the same from both, that no way round is nearer, that a root is one. -/
import Derived.Test.YtaoodmioehkebaaPlaceApart
import Derived.Laws.StructEq
namespace Go.Proofs.Ytaoodmioehkebaa
open Go Go.RowKit
theorem root_ex (n : Nat) : ∃ r : Int, isRoot n r := by
  induction n with
  | zero => exact ⟨0, by omega, by omega, by omega⟩
  | succ n ih =>
    obtain ⟨r, h1, h2, h3⟩ := ih
    by_cases h : (r + 1) * (r + 1) ≤ ((n + 1 : Nat) : Int)
    · refine ⟨r + 1, by omega, h, ?_⟩
      have := mul_self_lt (a := r + 1) (b := r + 1 + 1) (by omega) (by omega)
      omega
    · exact ⟨r, h1, by omega, by omega⟩
theorem rootV_spec {n : Int} (h : 0 ≤ n) : isRoot n (rootV n) := by
  obtain ⟨k, rfl⟩ := Int.eq_ofNat_of_zero_le h
  obtain ⟨r, hr⟩ := root_ex k
  rw [rootV_eq hr]
  exact hr
theorem lt_of_sq {a b : Int} (h0 : 0 ≤ b) (h : a * a < b * b) : a < b := by
  rcases Int.lt_or_le a b with h' | h'
  · exact h'
  · have := mul_self_le h0 h'
    omega
theorem sqI_comm (a b c d : Int) : sqI a b c d = sqI c d a b := by
  unfold sqI
  have e1 : (a - c) * (a - c) = (c - a) * (c - a) := by rw [show a - c = -(c - a) by omega, Int.neg_mul_neg]
  have e2 : (b - d) * (b - d) = (d - b) * (d - b) := by rw [show b - d = -(d - b) by omega, Int.neg_mul_neg]
  rw [e1, e2]
theorem sqV_comm (a b c d : Int) : sqV a b c d = sqV c d a b := by
  unfold sqV
  rw [sqI_comm, Bool.and_comm]
theorem sq_split (x y u v : Int) : (x + u) * (x + u) + (y + v) * (y + v) = (x * x + y * y) + (u * u + v * v) + 2 * (x * u + y * v) := by
  simp only [Int.add_mul, Int.mul_add]
  rw [Int.mul_comm u x, Int.mul_comm v y]
  omega
theorem cauchy (x y u v : Int) : (x * u + y * v) * (x * u + y * v) ≤ (x * x + y * y) * (u * u + v * v) := by
  have h := sq_nn (x * v - y * u)
  have e : (x * x + y * y) * (u * u + v * v) - (x * u + y * v) * (x * u + y * v) = (x * v - y * u) * (x * v - y * u) := by
    simp only [Int.add_mul, Int.mul_add, Int.sub_mul, Int.mul_sub]
    have a1 : x * v * (x * v) = x * x * (v * v) := by simp only [Int.mul_assoc, Int.mul_left_comm]
    have a2 : y * u * (y * u) = y * y * (u * u) := by simp only [Int.mul_assoc, Int.mul_left_comm]
    have a3 : x * u * (x * u) = x * x * (u * u) := by simp only [Int.mul_assoc, Int.mul_left_comm]
    have a4 : y * v * (y * v) = y * y * (v * v) := by simp only [Int.mul_assoc, Int.mul_left_comm]
    have a5 : x * u * (y * v) = x * v * (y * u) := by simp only [Int.mul_assoc, Int.mul_left_comm, Int.mul_comm u v]
    have a6 : y * v * (x * u) = y * u * (x * v) := by simp only [Int.mul_assoc, Int.mul_left_comm, Int.mul_comm u v]
    rw [a1, a2, a3, a4, a5, a6]
    omega
  omega
theorem tri (a b c d e f : Int) (h1 : oneB a b = true) (h2 : oneB c d = true) (h3 : oneB e f = true) : rootV (sqV a b e f) ≤ rootV (sqV a b c d) + rootV (sqV c d e f) + 1 := by
  obtain ⟨x1, x2, x3⟩ := rootV_spec (sqV_bd a b e f).1
  obtain ⟨y1, y2, y3⟩ := rootV_spec (sqV_bd a b c d).1
  obtain ⟨z1, z2, z3⟩ := rootV_spec (sqV_bd c d e f).1
  generalize rootV (sqV a b e f) = X at *
  generalize rootV (sqV a b c d) = Y at *
  generalize rootV (sqV c d e f) = Z at *
  unfold sqV at *
  rw [h1, h2] at y3
  rw [h2, h3] at z3
  rw [h1, h3] at x2
  simp only [Bool.and_self, if_true] at *
  unfold sqI at *
  have hs := sq_split (a - c) (b - d) (c - e) (d - f)
  rw [show a - c + (c - e) = a - e by omega, show b - d + (d - f) = b - f by omega] at hs
  have hc := cauchy (a - c) (b - d) (c - e) (d - f)
  have n1 : 0 ≤ (a - c) * (a - c) + (b - d) * (b - d) := by have := sq_nn (a - c); have := sq_nn (b - d); omega
  have n2 : 0 ≤ (c - e) * (c - e) + (d - f) * (d - f) := by have := sq_nn (c - e); have := sq_nn (d - f); omega
  generalize (a - c) * (a - c) + (b - d) * (b - d) = S at *
  generalize (c - e) * (c - e) + (d - f) * (d - f) = T at *
  generalize (a - c) * (c - e) + (b - d) * (d - f) = D at *
  generalize (a - e) * (a - e) + (b - f) * (b - f) = U at *
  have hST : S * T < ((Y + 1) * (Z + 1)) * ((Y + 1) * (Z + 1)) := by
    have e1 : (Y + 1) * (Z + 1) * ((Y + 1) * (Z + 1)) = ((Y + 1) * (Y + 1)) * ((Z + 1) * (Z + 1)) := by simp only [Int.mul_assoc, Int.mul_left_comm]
    rw [e1]
    have p1 : S * T ≤ S * ((Z + 1) * (Z + 1)) := Int.mul_le_mul_of_nonneg_left (by omega) n1
    have p2 : S * ((Z + 1) * (Z + 1)) < ((Y + 1) * (Y + 1)) * ((Z + 1) * (Z + 1)) := Int.mul_lt_mul_of_pos_right y3 (by omega)
    omega
  have hD : D < (Y + 1) * (Z + 1) := lt_of_sq (Int.mul_nonneg (by omega) (by omega)) (by omega)
  have hU : X * X < (Y + 1 + (Z + 1)) * (Y + 1 + (Z + 1)) := by
    have e2 : (Y + 1 + (Z + 1)) * (Y + 1 + (Z + 1)) = (Y + 1) * (Y + 1) + (Z + 1) * (Z + 1) + 2 * ((Y + 1) * (Z + 1)) := by
      generalize Y + 1 = y
      generalize Z + 1 = z
      rw [Int.add_mul, Int.mul_add, Int.mul_add, Int.mul_comm z y]
      omega
    rw [e2]
    omega
  have := lt_of_sq (by omega) hU
  omega
theorem sq_zero {x : Int} (h : x * x = 0) : x = 0 := by
  rcases Int.mul_eq_zero.1 h with h | h <;> exact h
theorem sqV_zero (a b c d : Int) (h1 : oneB a b = true) (h2 : oneB c d = true) : sqV a b c d = 0 ↔ (a = c ∧ b = d) := by
  unfold sqV
  rw [h1, h2]
  simp only [Bool.and_self, if_true]
  unfold sqI
  constructor
  · intro h
    have := sq_nn (a - c)
    have := sq_nn (b - d)
    have := sq_zero (x := a - c) (by omega)
    have := sq_zero (x := b - d) (by omega)
    omega
  · rintro ⟨rfl, rfl⟩
    simp

set_option maxHeartbeats 8000000 in
theorem placeRoundW (a b c d e' f n : Int) (w : World) (_ : I64 a) (_ : I64 b) (_ : I64 c) (_ : I64 d) (_ : I64 e') (_ : I64 f) (hn : U64 n) : Calls Try.prog 6 #[.agg #[.int .i64 a, .int .i64 b], .agg #[.int .i64 c, .int .i64 d], .agg #[.int .i64 e', .int .i64 f], .int .u64 n] w fun e w' => e = .returned (.bool true) ∧ Grows w w' := by
  obtain ⟨r1, r2, r3⟩ := rootV_spec hn.1
  obtain ⟨hn0, hn1⟩ := hn
  have r4 : rootV n ≤ 4294967295 := by
    have := lt_of_sq (a := rootV n) (b := 4294967296) (by omega) (by omega)
    omega
  have C5 := fun W => plRoot n W hn0 hn1
  generalize rootV n = R at *
  have H5 := hide C5
  clear C5
  have s1 := sq_u64 r1 r4
  by_cases hA : (oneB a b && oneB c d && oneB e' f) = true
  · obtain ⟨⟨g1, g2⟩, g3⟩ : (oneB a b = true ∧ oneB c d = true) ∧ oneB e' f = true := by simpa using hA
    clear hA
    have C1 := fun W => plSquareV a b c d W
    have C2 := fun W => plSquareV c d a b W
    have C3 := fun W => plCrow a b e' f W
    have C4 := fun W => plCrow a b c d W
    have C6 := fun W => plCrow c d e' f W
    have D1 := fun W => r9One a b W
    have D2 := fun W => r9One c d W
    have D3 := fun W => r9One e' f W
    rw [g1] at D1
    rw [g2] at D2
    rw [g3] at D3
    rw [sqV_comm c d a b] at C2
    have ht := tri a b c d e' f g1 g2 g3
    have hz := sqV_zero a b c d g1 g2
    have bd : ∀ a b c d, 0 ≤ rootV (sqV a b c d) ∧ rootV (sqV a b c d) ≤ 4294967295 := fun a b c d => by
      obtain ⟨q1, q2, q3⟩ := rootV_spec (sqV_bd a b c d).1
      have := (sqV_bd a b c d).2
      have := lt_of_sq (a := rootV (sqV a b c d)) (b := 4294967296) (by omega) (by omega)
      omega
    obtain ⟨u1, u2⟩ := bd a b e' f
    obtain ⟨u3, u4⟩ := bd a b c d
    obtain ⟨u5, u6⟩ := bd c d e' f
    clear bd
    generalize rootV (sqV a b e' f) = X at *
    generalize rootV (sqV a b c d) = Y at *
    generalize rootV (sqV c d e' f) = Z at *
    generalize sqV a b c d = S at *
    have H1 := hide C1
    have H2 := hide C2
    have H3 := hide C3
    have H4 := hide C4
    have H6 := hide C6
    have E1 := hide D1
    have E2 := hide D2
    have E3 := hide D3
    clear C1 C2 C3 C4 C6 D1 D2 D3 g1 g2 g3
    have hd := decide_eq_true ht
    clear ht
    by_cases hab : a = c ∧ b = d
    · obtain ⟨rfl, rfl⟩ := hab
      have hS : S = 0 := hz.2 ⟨rfl, rfl⟩
      subst hS
      clear hz
      by_cases hR : R < 4294967295
      · skip
        have s2 := sq_u64 (r := R + 1) (by omega) (by omega)
        go_enter Try.func6, Try.ntmps6
        go_wp2_with (first | (go_at_call 23; refine (H5.out _).mono ?_; rintro e w' ⟨rfl, hg⟩; (first | obtain ⟨x, rfl⟩ := Grows.later2 hg | obtain ⟨x, rfl⟩ := Grows.later hg); clear hg) | (go_at_call 26; refine ((by first | with_reducible exact E1.out _ | with_reducible exact E2.out _ | with_reducible exact E3.out _) : Calls _ _ _ _ _).mono ?_; rintro e w' ⟨rfl, hg⟩; (first | obtain ⟨x, rfl⟩ := Grows.later2 hg | obtain ⟨x, rfl⟩ := Grows.later hg); clear hg))
        ((first | refine wp_region_gen2 (by kernel_rfl) (by kernel_rfl) ?_ | refine wp_region_gen (by kernel_rfl) (by kernel_rfl) ?_); (repeat' (first | (refine gLex_val0 rfl (by kernel_rfl) (fun K hK => ?_); (go_simp; (try (simp only [↓IntWalk.iteOmega]; try go_simp)); (try simp (disch := omega) only [IntWalk.i64_in]); (try simp (disch := omega) only [IntWalk.u64_in]); first | (refine hK _ ?_; clear hK K) | (apply Exists.intro; refine ⟨fun x => ?_, hK _ ?_⟩; (first | (go_at_call 19; first | with_reducible exact H1.out _ | with_reducible exact H2.out _) | (go_at_call 21; first | with_reducible exact H3.out _ | with_reducible exact H4.out _ | with_reducible exact H6.out _) | (go_at_call 25; exact alive09 _)); clear hK K))) | (refine gLex_undef rfl rfl rfl (by kernel_rfl) (fun K hK => ?_); go_simp; refine hK _ ?_; clear hK K) | (refine gLex_ask rfl rfl rfl ?_; first | (apply gAsk_yes; kernel_rfl; intro K hK; (go_simp; (try (simp only [↓IntWalk.iteOmega]; try go_simp)); (try simp (disch := omega) only [IntWalk.i64_in]); (try simp (disch := omega) only [IntWalk.u64_in]); first | (refine hK _ ?_; clear hK K) | (apply Exists.intro; refine ⟨fun x => ?_, hK _ ?_⟩; (first | (go_at_call 19; first | with_reducible exact H1.out _ | with_reducible exact H2.out _) | (go_at_call 21; first | with_reducible exact H3.out _ | with_reducible exact H4.out _ | with_reducible exact H6.out _) | (go_at_call 25; exact alive09 _)); clear hK K))) | ((first | apply gAsk_no1 | apply gAsk_no2); kernel_rfl; intro K hK; simp [go_sem]; refine hK _ ?_; clear hK K) | (apply gAsk_part; kernel_rfl; all_goals (intro h K hK; (try simp only [Bool.not_true] at h); (try simp only [Bool.not_false] at h); (try simp only [decide_eq_true_eq] at h); (try simp only [decide_eq_false_iff_not] at h); first | (exfalso; first | contradiction | omega) | (go_simp; (try (simp only [↓IntWalk.iteOmega]; try go_simp)); (try simp (disch := omega) only [IntWalk.i64_in]); (try simp (disch := omega) only [IntWalk.u64_in]); first | (refine hK _ ?_; clear hK K) | (apply Exists.intro; refine ⟨fun x => ?_, hK _ ?_⟩; (first | (go_at_call 19; first | with_reducible exact H1.out _ | with_reducible exact H2.out _) | (go_at_call 21; first | with_reducible exact H3.out _ | with_reducible exact H4.out _ | with_reducible exact H6.out _) | (go_at_call 25; exact alive09 _)); clear hK K))))))); all_goals ((apply gLex_end); intro x))
        go_wp2
        go_ret
        exact ⟨rfl, (by repeat (first | exact Grows.refl _ | refine Grows.now ?_ _ | refine Grows.new ?_ _ | refine Grows.drewN ?_ _ | refine Grows.drew ?_ | assumption | (refine Grows.set ?_ (by first | omega | (simp; done) | (simp; omega)) _)))⟩
      · skip
        go_enter Try.func6, Try.ntmps6
        go_wp2_with (first | (go_at_call 23; refine (H5.out _).mono ?_; rintro e w' ⟨rfl, hg⟩; (first | obtain ⟨x, rfl⟩ := Grows.later2 hg | obtain ⟨x, rfl⟩ := Grows.later hg); clear hg) | (go_at_call 26; refine ((by first | with_reducible exact E1.out _ | with_reducible exact E2.out _ | with_reducible exact E3.out _) : Calls _ _ _ _ _).mono ?_; rintro e w' ⟨rfl, hg⟩; (first | obtain ⟨x, rfl⟩ := Grows.later2 hg | obtain ⟨x, rfl⟩ := Grows.later hg); clear hg))
        ((first | refine wp_region_gen2 (by kernel_rfl) (by kernel_rfl) ?_ | refine wp_region_gen (by kernel_rfl) (by kernel_rfl) ?_); (repeat' (first | (refine gLex_val0 rfl (by kernel_rfl) (fun K hK => ?_); (go_simp; (try (simp only [↓IntWalk.iteOmega]; try go_simp)); (try simp (disch := omega) only [IntWalk.i64_in]); (try simp (disch := omega) only [IntWalk.u64_in]); first | (refine hK _ ?_; clear hK K) | (apply Exists.intro; refine ⟨fun x => ?_, hK _ ?_⟩; (first | (go_at_call 19; first | with_reducible exact H1.out _ | with_reducible exact H2.out _) | (go_at_call 21; first | with_reducible exact H3.out _ | with_reducible exact H4.out _ | with_reducible exact H6.out _) | (go_at_call 25; exact alive09 _)); clear hK K))) | (refine gLex_undef rfl rfl rfl (by kernel_rfl) (fun K hK => ?_); go_simp; refine hK _ ?_; clear hK K) | (refine gLex_ask rfl rfl rfl ?_; first | (apply gAsk_yes; kernel_rfl; intro K hK; (go_simp; (try (simp only [↓IntWalk.iteOmega]; try go_simp)); (try simp (disch := omega) only [IntWalk.i64_in]); (try simp (disch := omega) only [IntWalk.u64_in]); first | (refine hK _ ?_; clear hK K) | (apply Exists.intro; refine ⟨fun x => ?_, hK _ ?_⟩; (first | (go_at_call 19; first | with_reducible exact H1.out _ | with_reducible exact H2.out _) | (go_at_call 21; first | with_reducible exact H3.out _ | with_reducible exact H4.out _ | with_reducible exact H6.out _) | (go_at_call 25; exact alive09 _)); clear hK K))) | ((first | apply gAsk_no1 | apply gAsk_no2); kernel_rfl; intro K hK; simp [go_sem]; refine hK _ ?_; clear hK K) | (apply gAsk_part; kernel_rfl; all_goals (intro h K hK; (try simp only [Bool.not_true] at h); (try simp only [Bool.not_false] at h); (try simp only [decide_eq_true_eq] at h); (try simp only [decide_eq_false_iff_not] at h); first | (exfalso; first | contradiction | omega) | (go_simp; (try (simp only [↓IntWalk.iteOmega]; try go_simp)); (try simp (disch := omega) only [IntWalk.i64_in]); (try simp (disch := omega) only [IntWalk.u64_in]); first | (refine hK _ ?_; clear hK K) | (apply Exists.intro; refine ⟨fun x => ?_, hK _ ?_⟩; (first | (go_at_call 19; first | with_reducible exact H1.out _ | with_reducible exact H2.out _) | (go_at_call 21; first | with_reducible exact H3.out _ | with_reducible exact H4.out _ | with_reducible exact H6.out _) | (go_at_call 25; exact alive09 _)); clear hK K))))))); all_goals ((apply gLex_end); intro x))
        go_wp2
        go_ret
        exact ⟨rfl, (by repeat (first | exact Grows.refl _ | refine Grows.now ?_ _ | refine Grows.new ?_ _ | refine Grows.drewN ?_ _ | refine Grows.drew ?_ | assumption | (refine Grows.set ?_ (by first | omega | (simp; done) | (simp; omega)) _)))⟩
    · have hS : (S == 0) = false := by
        have : S ≠ 0 := fun h => hab (hz.1 h)
        simpa using this
      clear hz
      by_cases hac : a = c
      · subst hac
        have hbd : (b == d) = false := by
          have : b ≠ d := fun h => hab ⟨rfl, h⟩
          simpa using this
        clear hab
        by_cases hR : R < 4294967295
        · skip
          have s2 := sq_u64 (r := R + 1) (by omega) (by omega)
          go_enter Try.func6, Try.ntmps6
          go_wp2_with (first | (go_at_call 23; refine (H5.out _).mono ?_; rintro e w' ⟨rfl, hg⟩; (first | obtain ⟨x, rfl⟩ := Grows.later2 hg | obtain ⟨x, rfl⟩ := Grows.later hg); clear hg) | (go_at_call 26; refine ((by first | with_reducible exact E1.out _ | with_reducible exact E2.out _ | with_reducible exact E3.out _) : Calls _ _ _ _ _).mono ?_; rintro e w' ⟨rfl, hg⟩; (first | obtain ⟨x, rfl⟩ := Grows.later2 hg | obtain ⟨x, rfl⟩ := Grows.later hg); clear hg))
          ((first | refine wp_region_gen2 (by kernel_rfl) (by kernel_rfl) ?_ | refine wp_region_gen (by kernel_rfl) (by kernel_rfl) ?_); (repeat' (first | (refine gLex_val0 rfl (by kernel_rfl) (fun K hK => ?_); (go_simp; (try (simp only [↓IntWalk.iteOmega]; try go_simp)); (try simp (disch := omega) only [IntWalk.i64_in]); (try simp (disch := omega) only [IntWalk.u64_in]); first | (refine hK _ ?_; clear hK K) | (apply Exists.intro; refine ⟨fun x => ?_, hK _ ?_⟩; (first | (go_at_call 19; first | with_reducible exact H1.out _ | with_reducible exact H2.out _) | (go_at_call 21; first | with_reducible exact H3.out _ | with_reducible exact H4.out _ | with_reducible exact H6.out _) | (go_at_call 25; exact alive09 _)); clear hK K))) | (refine gLex_undef rfl rfl rfl (by kernel_rfl) (fun K hK => ?_); go_simp; refine hK _ ?_; clear hK K) | (refine gLex_ask rfl rfl rfl ?_; first | (apply gAsk_yes; kernel_rfl; intro K hK; (go_simp; (try (simp only [↓IntWalk.iteOmega]; try go_simp)); (try simp (disch := omega) only [IntWalk.i64_in]); (try simp (disch := omega) only [IntWalk.u64_in]); first | (refine hK _ ?_; clear hK K) | (apply Exists.intro; refine ⟨fun x => ?_, hK _ ?_⟩; (first | (go_at_call 19; first | with_reducible exact H1.out _ | with_reducible exact H2.out _) | (go_at_call 21; first | with_reducible exact H3.out _ | with_reducible exact H4.out _ | with_reducible exact H6.out _) | (go_at_call 25; exact alive09 _)); clear hK K))) | ((first | apply gAsk_no1 | apply gAsk_no2); kernel_rfl; intro K hK; simp [go_sem]; refine hK _ ?_; clear hK K) | (apply gAsk_part; kernel_rfl; all_goals (intro h K hK; (try simp only [Bool.not_true] at h); (try simp only [Bool.not_false] at h); (try simp only [decide_eq_true_eq] at h); (try simp only [decide_eq_false_iff_not] at h); first | (exfalso; first | contradiction | omega) | (go_simp; (try (simp only [↓IntWalk.iteOmega]; try go_simp)); (try simp (disch := omega) only [IntWalk.i64_in]); (try simp (disch := omega) only [IntWalk.u64_in]); first | (refine hK _ ?_; clear hK K) | (apply Exists.intro; refine ⟨fun x => ?_, hK _ ?_⟩; (first | (go_at_call 19; first | with_reducible exact H1.out _ | with_reducible exact H2.out _) | (go_at_call 21; first | with_reducible exact H3.out _ | with_reducible exact H4.out _ | with_reducible exact H6.out _) | (go_at_call 25; exact alive09 _)); clear hK K))))))); all_goals ((apply gLex_end); intro x))
          go_wp2
          go_ret
          exact ⟨rfl, (by repeat (first | exact Grows.refl _ | refine Grows.now ?_ _ | refine Grows.new ?_ _ | refine Grows.drewN ?_ _ | refine Grows.drew ?_ | assumption | (refine Grows.set ?_ (by first | omega | (simp; done) | (simp; omega)) _)))⟩
        · skip
          go_enter Try.func6, Try.ntmps6
          go_wp2_with (first | (go_at_call 23; refine (H5.out _).mono ?_; rintro e w' ⟨rfl, hg⟩; (first | obtain ⟨x, rfl⟩ := Grows.later2 hg | obtain ⟨x, rfl⟩ := Grows.later hg); clear hg) | (go_at_call 26; refine ((by first | with_reducible exact E1.out _ | with_reducible exact E2.out _ | with_reducible exact E3.out _) : Calls _ _ _ _ _).mono ?_; rintro e w' ⟨rfl, hg⟩; (first | obtain ⟨x, rfl⟩ := Grows.later2 hg | obtain ⟨x, rfl⟩ := Grows.later hg); clear hg))
          ((first | refine wp_region_gen2 (by kernel_rfl) (by kernel_rfl) ?_ | refine wp_region_gen (by kernel_rfl) (by kernel_rfl) ?_); (repeat' (first | (refine gLex_val0 rfl (by kernel_rfl) (fun K hK => ?_); (go_simp; (try (simp only [↓IntWalk.iteOmega]; try go_simp)); (try simp (disch := omega) only [IntWalk.i64_in]); (try simp (disch := omega) only [IntWalk.u64_in]); first | (refine hK _ ?_; clear hK K) | (apply Exists.intro; refine ⟨fun x => ?_, hK _ ?_⟩; (first | (go_at_call 19; first | with_reducible exact H1.out _ | with_reducible exact H2.out _) | (go_at_call 21; first | with_reducible exact H3.out _ | with_reducible exact H4.out _ | with_reducible exact H6.out _) | (go_at_call 25; exact alive09 _)); clear hK K))) | (refine gLex_undef rfl rfl rfl (by kernel_rfl) (fun K hK => ?_); go_simp; refine hK _ ?_; clear hK K) | (refine gLex_ask rfl rfl rfl ?_; first | (apply gAsk_yes; kernel_rfl; intro K hK; (go_simp; (try (simp only [↓IntWalk.iteOmega]; try go_simp)); (try simp (disch := omega) only [IntWalk.i64_in]); (try simp (disch := omega) only [IntWalk.u64_in]); first | (refine hK _ ?_; clear hK K) | (apply Exists.intro; refine ⟨fun x => ?_, hK _ ?_⟩; (first | (go_at_call 19; first | with_reducible exact H1.out _ | with_reducible exact H2.out _) | (go_at_call 21; first | with_reducible exact H3.out _ | with_reducible exact H4.out _ | with_reducible exact H6.out _) | (go_at_call 25; exact alive09 _)); clear hK K))) | ((first | apply gAsk_no1 | apply gAsk_no2); kernel_rfl; intro K hK; simp [go_sem]; refine hK _ ?_; clear hK K) | (apply gAsk_part; kernel_rfl; all_goals (intro h K hK; (try simp only [Bool.not_true] at h); (try simp only [Bool.not_false] at h); (try simp only [decide_eq_true_eq] at h); (try simp only [decide_eq_false_iff_not] at h); first | (exfalso; first | contradiction | omega) | (go_simp; (try (simp only [↓IntWalk.iteOmega]; try go_simp)); (try simp (disch := omega) only [IntWalk.i64_in]); (try simp (disch := omega) only [IntWalk.u64_in]); first | (refine hK _ ?_; clear hK K) | (apply Exists.intro; refine ⟨fun x => ?_, hK _ ?_⟩; (first | (go_at_call 19; first | with_reducible exact H1.out _ | with_reducible exact H2.out _) | (go_at_call 21; first | with_reducible exact H3.out _ | with_reducible exact H4.out _ | with_reducible exact H6.out _) | (go_at_call 25; exact alive09 _)); clear hK K))))))); all_goals ((apply gLex_end); intro x))
          go_wp2
          go_ret
          exact ⟨rfl, (by repeat (first | exact Grows.refl _ | refine Grows.now ?_ _ | refine Grows.new ?_ _ | refine Grows.drewN ?_ _ | refine Grows.drew ?_ | assumption | (refine Grows.set ?_ (by first | omega | (simp; done) | (simp; omega)) _)))⟩
      · have hbd : (a == c) = false := by simpa using hac
        clear hab hac
        by_cases hR : R < 4294967295
        · skip
          have s2 := sq_u64 (r := R + 1) (by omega) (by omega)
          go_enter Try.func6, Try.ntmps6
          go_wp2_with (first | (go_at_call 23; refine (H5.out _).mono ?_; rintro e w' ⟨rfl, hg⟩; (first | obtain ⟨x, rfl⟩ := Grows.later2 hg | obtain ⟨x, rfl⟩ := Grows.later hg); clear hg) | (go_at_call 26; refine ((by first | with_reducible exact E1.out _ | with_reducible exact E2.out _ | with_reducible exact E3.out _) : Calls _ _ _ _ _).mono ?_; rintro e w' ⟨rfl, hg⟩; (first | obtain ⟨x, rfl⟩ := Grows.later2 hg | obtain ⟨x, rfl⟩ := Grows.later hg); clear hg))
          ((first | refine wp_region_gen2 (by kernel_rfl) (by kernel_rfl) ?_ | refine wp_region_gen (by kernel_rfl) (by kernel_rfl) ?_); (repeat' (first | (refine gLex_val0 rfl (by kernel_rfl) (fun K hK => ?_); (go_simp; (try (simp only [↓IntWalk.iteOmega]; try go_simp)); (try simp (disch := omega) only [IntWalk.i64_in]); (try simp (disch := omega) only [IntWalk.u64_in]); first | (refine hK _ ?_; clear hK K) | (apply Exists.intro; refine ⟨fun x => ?_, hK _ ?_⟩; (first | (go_at_call 19; first | with_reducible exact H1.out _ | with_reducible exact H2.out _) | (go_at_call 21; first | with_reducible exact H3.out _ | with_reducible exact H4.out _ | with_reducible exact H6.out _) | (go_at_call 25; exact alive09 _)); clear hK K))) | (refine gLex_undef rfl rfl rfl (by kernel_rfl) (fun K hK => ?_); go_simp; refine hK _ ?_; clear hK K) | (refine gLex_ask rfl rfl rfl ?_; first | (apply gAsk_yes; kernel_rfl; intro K hK; (go_simp; (try (simp only [↓IntWalk.iteOmega]; try go_simp)); (try simp (disch := omega) only [IntWalk.i64_in]); (try simp (disch := omega) only [IntWalk.u64_in]); first | (refine hK _ ?_; clear hK K) | (apply Exists.intro; refine ⟨fun x => ?_, hK _ ?_⟩; (first | (go_at_call 19; first | with_reducible exact H1.out _ | with_reducible exact H2.out _) | (go_at_call 21; first | with_reducible exact H3.out _ | with_reducible exact H4.out _ | with_reducible exact H6.out _) | (go_at_call 25; exact alive09 _)); clear hK K))) | ((first | apply gAsk_no1 | apply gAsk_no2); kernel_rfl; intro K hK; simp [go_sem]; refine hK _ ?_; clear hK K) | (apply gAsk_part; kernel_rfl; all_goals (intro h K hK; (try simp only [Bool.not_true] at h); (try simp only [Bool.not_false] at h); (try simp only [decide_eq_true_eq] at h); (try simp only [decide_eq_false_iff_not] at h); first | (exfalso; first | contradiction | omega) | (go_simp; (try (simp only [↓IntWalk.iteOmega]; try go_simp)); (try simp (disch := omega) only [IntWalk.i64_in]); (try simp (disch := omega) only [IntWalk.u64_in]); first | (refine hK _ ?_; clear hK K) | (apply Exists.intro; refine ⟨fun x => ?_, hK _ ?_⟩; (first | (go_at_call 19; first | with_reducible exact H1.out _ | with_reducible exact H2.out _) | (go_at_call 21; first | with_reducible exact H3.out _ | with_reducible exact H4.out _ | with_reducible exact H6.out _) | (go_at_call 25; exact alive09 _)); clear hK K))))))); all_goals ((apply gLex_end); intro x))
          go_wp2
          go_ret
          exact ⟨rfl, (by repeat (first | exact Grows.refl _ | refine Grows.now ?_ _ | refine Grows.new ?_ _ | refine Grows.drewN ?_ _ | refine Grows.drew ?_ | assumption | (refine Grows.set ?_ (by first | omega | (simp; done) | (simp; omega)) _)))⟩
        · skip
          go_enter Try.func6, Try.ntmps6
          go_wp2_with (first | (go_at_call 23; refine (H5.out _).mono ?_; rintro e w' ⟨rfl, hg⟩; (first | obtain ⟨x, rfl⟩ := Grows.later2 hg | obtain ⟨x, rfl⟩ := Grows.later hg); clear hg) | (go_at_call 26; refine ((by first | with_reducible exact E1.out _ | with_reducible exact E2.out _ | with_reducible exact E3.out _) : Calls _ _ _ _ _).mono ?_; rintro e w' ⟨rfl, hg⟩; (first | obtain ⟨x, rfl⟩ := Grows.later2 hg | obtain ⟨x, rfl⟩ := Grows.later hg); clear hg))
          ((first | refine wp_region_gen2 (by kernel_rfl) (by kernel_rfl) ?_ | refine wp_region_gen (by kernel_rfl) (by kernel_rfl) ?_); (repeat' (first | (refine gLex_val0 rfl (by kernel_rfl) (fun K hK => ?_); (go_simp; (try (simp only [↓IntWalk.iteOmega]; try go_simp)); (try simp (disch := omega) only [IntWalk.i64_in]); (try simp (disch := omega) only [IntWalk.u64_in]); first | (refine hK _ ?_; clear hK K) | (apply Exists.intro; refine ⟨fun x => ?_, hK _ ?_⟩; (first | (go_at_call 19; first | with_reducible exact H1.out _ | with_reducible exact H2.out _) | (go_at_call 21; first | with_reducible exact H3.out _ | with_reducible exact H4.out _ | with_reducible exact H6.out _) | (go_at_call 25; exact alive09 _)); clear hK K))) | (refine gLex_undef rfl rfl rfl (by kernel_rfl) (fun K hK => ?_); go_simp; refine hK _ ?_; clear hK K) | (refine gLex_ask rfl rfl rfl ?_; first | (apply gAsk_yes; kernel_rfl; intro K hK; (go_simp; (try (simp only [↓IntWalk.iteOmega]; try go_simp)); (try simp (disch := omega) only [IntWalk.i64_in]); (try simp (disch := omega) only [IntWalk.u64_in]); first | (refine hK _ ?_; clear hK K) | (apply Exists.intro; refine ⟨fun x => ?_, hK _ ?_⟩; (first | (go_at_call 19; first | with_reducible exact H1.out _ | with_reducible exact H2.out _) | (go_at_call 21; first | with_reducible exact H3.out _ | with_reducible exact H4.out _ | with_reducible exact H6.out _) | (go_at_call 25; exact alive09 _)); clear hK K))) | ((first | apply gAsk_no1 | apply gAsk_no2); kernel_rfl; intro K hK; simp [go_sem]; refine hK _ ?_; clear hK K) | (apply gAsk_part; kernel_rfl; all_goals (intro h K hK; (try simp only [Bool.not_true] at h); (try simp only [Bool.not_false] at h); (try simp only [decide_eq_true_eq] at h); (try simp only [decide_eq_false_iff_not] at h); first | (exfalso; first | contradiction | omega) | (go_simp; (try (simp only [↓IntWalk.iteOmega]; try go_simp)); (try simp (disch := omega) only [IntWalk.i64_in]); (try simp (disch := omega) only [IntWalk.u64_in]); first | (refine hK _ ?_; clear hK K) | (apply Exists.intro; refine ⟨fun x => ?_, hK _ ?_⟩; (first | (go_at_call 19; first | with_reducible exact H1.out _ | with_reducible exact H2.out _) | (go_at_call 21; first | with_reducible exact H3.out _ | with_reducible exact H4.out _ | with_reducible exact H6.out _) | (go_at_call 25; exact alive09 _)); clear hK K))))))); all_goals ((apply gLex_end); intro x))
          go_wp2
          go_ret
          exact ⟨rfl, (by repeat (first | exact Grows.refl _ | refine Grows.now ?_ _ | refine Grows.new ?_ _ | refine Grows.drewN ?_ _ | refine Grows.drew ?_ | assumption | (refine Grows.set ?_ (by first | omega | (simp; done) | (simp; omega)) _)))⟩
  · have D1 := fun W => r9One a b W
    have D2 := fun W => r9One c d W
    have D3 := fun W => r9One e' f W
    cases h1 : oneB a b <;> cases h2 : oneB c d <;> cases h3 : oneB e' f
    case true.true.true => rw [h1, h2, h3] at hA; simp at hA
    all_goals
      rw [h1] at D1
      rw [h2] at D2
      rw [h3] at D3
      have E1 := hide D1
      have E2 := hide D2
      have E3 := hide D3
      clear D1 D2 D3 h1 h2 h3 hA
      by_cases hR : R < 4294967295
      · skip
        have s2 := sq_u64 (r := R + 1) (by omega) (by omega)
        go_enter Try.func6, Try.ntmps6
        go_wp2_with (first | (go_at_call 23; refine (H5.out _).mono ?_; rintro e w' ⟨rfl, hg⟩; (first | obtain ⟨x, rfl⟩ := Grows.later2 hg | obtain ⟨x, rfl⟩ := Grows.later hg); clear hg) | (go_at_call 25; refine (alive09 _).mono ?_; rintro e w' ⟨rfl, hg⟩; (first | obtain ⟨x, rfl⟩ := Grows.later2 hg | obtain ⟨x, rfl⟩ := Grows.later hg); clear hg) | (go_at_call 26; refine ((by first | with_reducible exact E1.out _ | with_reducible exact E2.out _ | with_reducible exact E3.out _) : Calls _ _ _ _ _).mono ?_; rintro e w' ⟨rfl, hg⟩; (first | obtain ⟨x, rfl⟩ := Grows.later2 hg | obtain ⟨x, rfl⟩ := Grows.later hg); clear hg))
        go_ret
        exact ⟨rfl, (by repeat (first | exact Grows.refl _ | refine Grows.now ?_ _ | refine Grows.new ?_ _ | refine Grows.drewN ?_ _ | refine Grows.drew ?_ | assumption | (refine Grows.set ?_ (by first | omega | (simp; done) | (simp; omega)) _)))⟩
      · skip
        go_enter Try.func6, Try.ntmps6
        go_wp2_with (first | (go_at_call 23; refine (H5.out _).mono ?_; rintro e w' ⟨rfl, hg⟩; (first | obtain ⟨x, rfl⟩ := Grows.later2 hg | obtain ⟨x, rfl⟩ := Grows.later hg); clear hg) | (go_at_call 25; refine (alive09 _).mono ?_; rintro e w' ⟨rfl, hg⟩; (first | obtain ⟨x, rfl⟩ := Grows.later2 hg | obtain ⟨x, rfl⟩ := Grows.later hg); clear hg) | (go_at_call 26; refine ((by first | with_reducible exact E1.out _ | with_reducible exact E2.out _ | with_reducible exact E3.out _) : Calls _ _ _ _ _).mono ?_; rintro e w' ⟨rfl, hg⟩; (first | obtain ⟨x, rfl⟩ := Grows.later2 hg | obtain ⟨x, rfl⟩ := Grows.later hg); clear hg))
        go_ret
        exact ⟨rfl, (by repeat (first | exact Grows.refl _ | refine Grows.now ?_ _ | refine Grows.new ?_ _ | refine Grows.drewN ?_ _ | refine Grows.drew ?_ | assumption | (refine Grows.set ?_ (by first | omega | (simp; done) | (simp; omega)) _)))⟩
end Go.Proofs.Ytaoodmioehkebaa
