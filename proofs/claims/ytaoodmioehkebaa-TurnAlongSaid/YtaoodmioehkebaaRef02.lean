/- Contracts: the answer for ratio. -/
import Derived.Test.YtaoodmioehkebaaRatio
namespace Go.Proofs.Ytaoodmioehkebaa
open Go Go.RowKit
set_option maxHeartbeats 400000 in
theorem rRight (a b : Int) (w : World) (ha : U64 a) :
    Calls Try.prog 59 #[.agg #[.int .u64 a, .int .u64 b]] w fun e w' => e = .returned (.bool (rrB a b)) ∧ Grows w w' := by
  have H := hide ha
  clear ha
  go_enter Try.func59, Try.ntmps59
  go_wp2
  all_goals go_ret
  all_goals exact ⟨ret_bool (bool_ext (by have := H.out.1; unfold rrB; simp; try omega)), (by repeat (first | exact Grows.refl _ | refine Grows.now ?_ _ | refine Grows.new ?_ _ | refine Grows.drewN ?_ _ | refine Grows.drew ?_ | assumption | (refine Grows.set ?_ (by first | omega | (simp; done) | (simp; omega)) _)))⟩

theorem times_plain (a b : Int) (ha : U64 a) (hb : 0 ≤ b ∧ b ≤ 2097152) :
    IntKind.u64.wrap (IntKind.u64.wrap (a / 4294967296 * b) / 4294967296 + IntKind.u64.wrap ((IntKind.u64.wrap (a / 4294967296 * b)).tmod 4294967296 + IntKind.u64.wrap (a.tmod 4294967296 * b) / 4294967296) / 4294967296) = a * b / 18446744073709551616 ∧
    (IntKind.u64.wrap ((IntKind.u64.wrap (a / 4294967296 * b)).tmod 4294967296 + IntKind.u64.wrap (a.tmod 4294967296 * b) / 4294967296)).tmod 4294967296 = a * b / 4294967296 % 4294967296 ∧
    (IntKind.u64.wrap (a.tmod 4294967296 * b)).tmod 4294967296 = a * b % 4294967296 := by
  obtain ⟨h0, h1⟩ := ha
  obtain ⟨b0, b1⟩ := hb
  have e1 : a.tmod 4294967296 = a % 4294967296 := Int.tmod_eq_emod_of_nonneg h0
  have hp : ∀ x : Int, 0 ≤ x → x < 4294967296 → 0 ≤ x * b ∧ x * b ≤ 4294967295 * 2097152 := fun x hx hx' =>
    ⟨Int.mul_nonneg hx b0, Int.mul_le_mul (by omega) b1 b0 (by omega)⟩
  have p1 := hp (a / 4294967296) (by omega) (by omega)
  have p2 := hp (a % 4294967296) (by omega) (by omega)
  have hab : a * b = (a / 4294967296 * b) * 4294967296 + a % 4294967296 * b := by
    have : a = a / 4294967296 * 4294967296 + a % 4294967296 := by omega
    conv => lhs; rw [this]
    rw [Int.add_mul, Int.mul_assoc, Int.mul_comm 4294967296 b, Int.mul_assoc]
  rw [hab, e1]
  generalize a / 4294967296 * b = x at *
  generalize a % 4294967296 * b = y at *
  rw [IntWalk.u64_in x (by omega), IntWalk.u64_in y (by omega), Int.tmod_eq_emod_of_nonneg p1.1, Int.tmod_eq_emod_of_nonneg p2.1, IntWalk.u64_in (x % 4294967296 + y / 4294967296) (by omega),
    Int.tmod_eq_emod_of_nonneg (by omega), IntWalk.u64_in _ (by omega)]
  refine ⟨by omega, by omega, by omega⟩

set_option maxHeartbeats 400000 in
theorem rTimes (a b : Int) (w : World) (ha : U64 a) (hb : 0 ≤ b ∧ b ≤ 2097152) :
    Calls Try.prog 72 #[.int .u64 a, .int .u64 b] w fun e w' => e = .returned (.agg #[.int .u64 (a * b / 18446744073709551616), .int .u64 (a * b / 4294967296 % 4294967296), .int .u64 (a * b % 4294967296)]) ∧ Grows w w' := by
  have H := hide ha
  have K := hide hb
  clear ha hb
  go_enter Try.func72, Try.ntmps72
  go_wp2
  refine bodyPost_ret (v := .agg #[.int .u64 (a * b / 18446744073709551616), .int .u64 (a * b / 4294967296 % 4294967296), .int .u64 (a * b % 4294967296)]) ?_ rfl ⟨rfl, (by repeat (first | exact Grows.refl _ | refine Grows.now ?_ _ | refine Grows.new ?_ _ | refine Grows.drewN ?_ _ | refine Grows.drew ?_ | assumption | (refine Grows.set ?_ (by first | omega | (simp; done) | (simp; omega)) _)))⟩
  obtain ⟨h1, h2, h3⟩ := times_plain a b H.out K.out
  simp [results, Try.results72, go_sem, h1, h2, h3]
def moB3 (a b c d e f : Int) : Bool := decide (a < d ∨ a = d ∧ (b < e ∨ b = e ∧ c ≤ f))
set_option maxHeartbeats 400000 in
theorem rMost (a b c d e f : Int) (w : World) :
    Calls Try.prog 71 #[.agg #[.int .u64 a, .int .u64 b, .int .u64 c], .agg #[.int .u64 d, .int .u64 e, .int .u64 f]] w fun e' w' => e' = .returned (.bool (moB3 a b c d e f)) ∧ Grows w w' := by
  go_enter Try.func71, Try.ntmps71
  go_wp2
  refine wp_loop_rounds 4 ?_
  repeat (any_goals (first | (rw [rounds_succ]; go_wp2) | (((first | refine wp_region_gen2 (by kernel_rfl) (by kernel_rfl) ?_ | refine wp_region_gen (by kernel_rfl) (by kernel_rfl) ?_); (repeat' (first | (refine gLex_val0 rfl (by kernel_rfl) (fun K hK => ?_); (go_simp; (try (simp only [↓IntWalk.iteOmega]; try go_simp)); (try simp (disch := omega) only [IntWalk.i64_in]); (try simp (disch := omega) only [IntWalk.u64_in]); first | (refine hK _ ?_; clear hK K) | (apply Exists.intro; refine ⟨fun x => ?_, hK _ ?_⟩; (first | fail); clear hK K))) | (refine gLex_undef rfl rfl rfl (by kernel_rfl) (fun K hK => ?_); go_simp; refine hK _ ?_; clear hK K) | (refine gLex_ask rfl rfl rfl ?_; first | (apply gAsk_yes; kernel_rfl; intro K hK; (go_simp; (try (simp only [↓IntWalk.iteOmega]; try go_simp)); (try simp (disch := omega) only [IntWalk.i64_in]); (try simp (disch := omega) only [IntWalk.u64_in]); first | (refine hK _ ?_; clear hK K) | (apply Exists.intro; refine ⟨fun x => ?_, hK _ ?_⟩; (first | fail); clear hK K))) | ((first | apply gAsk_no1 | apply gAsk_no2); kernel_rfl; intro K hK; simp [go_sem]; refine hK _ ?_; clear hK K) | (apply gAsk_part; kernel_rfl; all_goals (intro h K hK; (try simp only [Bool.not_true] at h); (try simp only [Bool.not_false] at h); (try simp only [decide_eq_true_eq] at h); (try simp only [decide_eq_false_iff_not] at h); first | (exfalso; first | contradiction | omega) | (go_simp; (try (simp only [↓IntWalk.iteOmega]; try go_simp)); (try simp (disch := omega) only [IntWalk.i64_in]); (try simp (disch := omega) only [IntWalk.u64_in]); first | (refine hK _ ?_; clear hK K) | (apply Exists.intro; refine ⟨fun x => ?_, hK _ ?_⟩; (first | fail); clear hK K))))))); all_goals ((apply gLex_end); intro x)); all_goals go_wp2)))
  all_goals go_ret
  all_goals exact ⟨ret_bool (bool_ext (by unfold moB3; simp_all <;> omega)), (by repeat (first | exact Grows.refl _ | refine Grows.now ?_ _ | refine Grows.new ?_ _ | refine Grows.drewN ?_ _ | refine Grows.drew ?_ | assumption | (refine Grows.set ?_ (by first | omega | (simp; done) | (simp; omega)) _)))⟩

theorem moB3_of (x y : Int) : moB3 (x / 18446744073709551616) (x / 4294967296 % 4294967296) (x % 4294967296) (y / 18446744073709551616) (y / 4294967296 % 4294967296) (y % 4294967296) = decide (x ≤ y) := by
  unfold moB3
  rw [Bool.eq_iff_iff]
  simp only [decide_eq_true_eq]
  omega

theorem rrB_spec {a b : Int} (h : rrB a b = true) : 0 ≤ a ∧ a ≤ 1048576 ∧ 1 ≤ b ∧ b ≤ 1048576 := by simpa [rrB] using h

set_option maxHeartbeats 400000 in
theorem rWithin (n a b base : Int) (w : World) (hn : U64 n) (ha : U64 a) (hb : U64 base) :
    Calls Try.prog 69 #[.int .u64 n, .agg #[.int .u64 a, .int .u64 b], .int .u64 base] w fun e w' => e = .returned (.bool (wiB n a b base)) ∧ Grows w w' := by
  have H := hide hn
  have K1 := hide hb
  have c1 := fun w => rRight a b w ha
  clear hn hb ha
  cases hr : rrB a b with
  | true =>
    rw [hr] at c1
    have HR := hide (rrB_spec hr)
    have HW : Hid (wiB n a b base = decide (n * b ≤ base * a)) := by unfold wiB; rw [hr]; exact Bool.true_and _
    have HC := hide c1
    clear hr c1
    go_enter Try.func69, Try.ntmps69
    go_wp2_with fail
    ((first | refine wp_region_gen2 (by kernel_rfl) (by kernel_rfl) ?_ | refine wp_region_gen (by kernel_rfl) (by kernel_rfl) ?_); (repeat' (first | (refine gLex_val0 rfl (by kernel_rfl) (fun K hK => ?_); (go_simp; (try (simp only [↓IntWalk.iteOmega]; try go_simp)); (try simp (disch := omega) only [IntWalk.i64_in]); (try simp (disch := omega) only [IntWalk.u64_in]); first | (refine hK _ ?_; clear hK K) | (apply Exists.intro; refine ⟨fun x => ?_, hK _ ?_⟩; (first | (go_at_call 59; exact HC.out _) | (go_at_call 72; exact rTimes _ _ _ (by first | exact H.out | exact K1.out) (by have := HR.out; omega)) | (go_at_call 71; exact rMost _ _ _ _ _ _ _)); clear hK K))) | (refine gLex_undef rfl rfl rfl (by kernel_rfl) (fun K hK => ?_); go_simp; refine hK _ ?_; clear hK K) | (refine gLex_ask rfl rfl rfl ?_; first | (apply gAsk_yes; kernel_rfl; intro K hK; (go_simp; (try (simp only [↓IntWalk.iteOmega]; try go_simp)); (try simp (disch := omega) only [IntWalk.i64_in]); (try simp (disch := omega) only [IntWalk.u64_in]); first | (refine hK _ ?_; clear hK K) | (apply Exists.intro; refine ⟨fun x => ?_, hK _ ?_⟩; (first | (go_at_call 59; exact HC.out _) | (go_at_call 72; exact rTimes _ _ _ (by first | exact H.out | exact K1.out) (by have := HR.out; omega)) | (go_at_call 71; exact rMost _ _ _ _ _ _ _)); clear hK K))) | ((first | apply gAsk_no1 | apply gAsk_no2); kernel_rfl; intro K hK; simp [go_sem]; refine hK _ ?_; clear hK K) | (apply gAsk_part; kernel_rfl; all_goals (intro h K hK; (try simp only [Bool.not_true] at h); (try simp only [Bool.not_false] at h); (try simp only [decide_eq_true_eq] at h); (try simp only [decide_eq_false_iff_not] at h); first | (exfalso; first | contradiction | omega) | (go_simp; (try (simp only [↓IntWalk.iteOmega]; try go_simp)); (try simp (disch := omega) only [IntWalk.i64_in]); (try simp (disch := omega) only [IntWalk.u64_in]); first | (refine hK _ ?_; clear hK K) | (apply Exists.intro; refine ⟨fun x => ?_, hK _ ?_⟩; (first | (go_at_call 59; exact HC.out _) | (go_at_call 72; exact rTimes _ _ _ (by first | exact H.out | exact K1.out) (by have := HR.out; omega)) | (go_at_call 71; exact rMost _ _ _ _ _ _ _)); clear hK K))))))); all_goals ((apply gLex_end); intro x))
    go_wp2
    go_ret
    exact ⟨ret_bool (by rw [moB3_of, HW.out]), (by repeat (first | exact Grows.refl _ | refine Grows.now ?_ _ | refine Grows.new ?_ _ | refine Grows.drewN ?_ _ | refine Grows.drew ?_ | assumption | (refine Grows.set ?_ (by first | omega | (simp; done) | (simp; omega)) _)))⟩
  | false =>
    rw [hr] at c1
    have HW : Hid (wiB n a b base = false) := by unfold wiB; rw [hr]; rfl
    have HC := hide c1
    clear hr c1
    go_enter Try.func69, Try.ntmps69
    go_wp2_with fail
    ((first | refine wp_region_gen2 (by kernel_rfl) (by kernel_rfl) ?_ | refine wp_region_gen (by kernel_rfl) (by kernel_rfl) ?_); (repeat' (first | (refine gLex_val0 rfl (by kernel_rfl) (fun K hK => ?_); (go_simp; (try (simp only [↓IntWalk.iteOmega]; try go_simp)); (try simp (disch := omega) only [IntWalk.i64_in]); (try simp (disch := omega) only [IntWalk.u64_in]); first | (refine hK _ ?_; clear hK K) | (apply Exists.intro; refine ⟨fun x => ?_, hK _ ?_⟩; (first | (go_at_call 59; exact HC.out _)); clear hK K))) | (refine gLex_undef rfl rfl rfl (by kernel_rfl) (fun K hK => ?_); go_simp; refine hK _ ?_; clear hK K) | (refine gLex_ask rfl rfl rfl ?_; first | (apply gAsk_yes; kernel_rfl; intro K hK; (go_simp; (try (simp only [↓IntWalk.iteOmega]; try go_simp)); (try simp (disch := omega) only [IntWalk.i64_in]); (try simp (disch := omega) only [IntWalk.u64_in]); first | (refine hK _ ?_; clear hK K) | (apply Exists.intro; refine ⟨fun x => ?_, hK _ ?_⟩; (first | (go_at_call 59; exact HC.out _)); clear hK K))) | ((first | apply gAsk_no1 | apply gAsk_no2); kernel_rfl; intro K hK; simp [go_sem]; refine hK _ ?_; clear hK K) | (apply gAsk_part; kernel_rfl; all_goals (intro h K hK; (try simp only [Bool.not_true] at h); (try simp only [Bool.not_false] at h); (try simp only [decide_eq_true_eq] at h); (try simp only [decide_eq_false_iff_not] at h); first | (exfalso; first | contradiction | omega) | (go_simp; (try (simp only [↓IntWalk.iteOmega]; try go_simp)); (try simp (disch := omega) only [IntWalk.i64_in]); (try simp (disch := omega) only [IntWalk.u64_in]); first | (refine hK _ ?_; clear hK K) | (apply Exists.intro; refine ⟨fun x => ?_, hK _ ?_⟩; (first | (go_at_call 59; exact HC.out _)); clear hK K))))))); all_goals ((apply gLex_end); intro x))
    go_wp2
    go_ret
    exact ⟨ret_bool HW.out.symm, (by repeat (first | exact Grows.refl _ | refine Grows.now ?_ _ | refine Grows.new ?_ _ | refine Grows.drewN ?_ _ | refine Grows.drew ?_ | assumption | (refine Grows.set ?_ (by first | omega | (simp; done) | (simp; omega)) _)))⟩

/-- Is n at most base and the ratio a by b of it? -/
def stB (n a b base : Int) : Bool := rrB a b && decide (n * b ≤ base * (a + b))

set_option maxHeartbeats 400000 in
theorem rStretched (n a b base : Int) (w : World) (hn : U64 n) (ha : U64 a) (hb : U64 base) :
    Calls Try.prog 38 #[.int .u64 n, .agg #[.int .u64 a, .int .u64 b], .int .u64 base] w fun e w' => e = .returned (.bool (stB n a b base)) ∧ Grows w w' := by
  have H := hide hn
  have K1 := hide hb
  have c1 := fun w => rRight a b w ha
  clear hn hb ha
  cases hr : rrB a b with
  | true =>
    rw [hr] at c1
    obtain ⟨r1, r2, r3, r4⟩ := rrB_spec hr
    have HW : Hid (stB n a b base = decide (n * b ≤ base * (a + b))) := by unfold stB; rw [hr]; exact Bool.true_and _
    have HC := hide c1
    clear hr c1
    go_enter Try.func38, Try.ntmps38
    go_wp2_with fail
    ((first | refine wp_region_gen2 (by kernel_rfl) (by kernel_rfl) ?_ | refine wp_region_gen (by kernel_rfl) (by kernel_rfl) ?_); (repeat' (first | (refine gLex_val0 rfl (by kernel_rfl) (fun K hK => ?_); (go_simp; (try (simp only [↓IntWalk.iteOmega]; try go_simp)); (try simp (disch := omega) only [IntWalk.i64_in]); (try simp (disch := omega) only [IntWalk.u64_in]); first | (refine hK _ ?_; clear hK K) | (apply Exists.intro; refine ⟨fun x => ?_, hK _ ?_⟩; (first | (go_at_call 59; exact HC.out _) | (go_at_call 72; exact rTimes _ _ _ (by first | exact H.out | exact K1.out) (by omega)) | (go_at_call 71; exact rMost _ _ _ _ _ _ _)); clear hK K))) | (refine gLex_undef rfl rfl rfl (by kernel_rfl) (fun K hK => ?_); go_simp; refine hK _ ?_; clear hK K) | (refine gLex_ask rfl rfl rfl ?_; first | (apply gAsk_yes; kernel_rfl; intro K hK; (go_simp; (try (simp only [↓IntWalk.iteOmega]; try go_simp)); (try simp (disch := omega) only [IntWalk.i64_in]); (try simp (disch := omega) only [IntWalk.u64_in]); first | (refine hK _ ?_; clear hK K) | (apply Exists.intro; refine ⟨fun x => ?_, hK _ ?_⟩; (first | (go_at_call 59; exact HC.out _) | (go_at_call 72; exact rTimes _ _ _ (by first | exact H.out | exact K1.out) (by omega)) | (go_at_call 71; exact rMost _ _ _ _ _ _ _)); clear hK K))) | ((first | apply gAsk_no1 | apply gAsk_no2); kernel_rfl; intro K hK; simp [go_sem]; refine hK _ ?_; clear hK K) | (apply gAsk_part; kernel_rfl; all_goals (intro h K hK; (try simp only [Bool.not_true] at h); (try simp only [Bool.not_false] at h); (try simp only [decide_eq_true_eq] at h); (try simp only [decide_eq_false_iff_not] at h); first | (exfalso; first | contradiction | omega) | (go_simp; (try (simp only [↓IntWalk.iteOmega]; try go_simp)); (try simp (disch := omega) only [IntWalk.i64_in]); (try simp (disch := omega) only [IntWalk.u64_in]); first | (refine hK _ ?_; clear hK K) | (apply Exists.intro; refine ⟨fun x => ?_, hK _ ?_⟩; (first | (go_at_call 59; exact HC.out _) | (go_at_call 72; exact rTimes _ _ _ (by first | exact H.out | exact K1.out) (by omega)) | (go_at_call 71; exact rMost _ _ _ _ _ _ _)); clear hK K))))))); all_goals ((apply gLex_end); intro x))
    go_wp2
    go_ret
    exact ⟨ret_bool (by rw [moB3_of, HW.out]), (by repeat (first | exact Grows.refl _ | refine Grows.now ?_ _ | refine Grows.new ?_ _ | refine Grows.drewN ?_ _ | refine Grows.drew ?_ | assumption | (refine Grows.set ?_ (by first | omega | (simp; done) | (simp; omega)) _)))⟩
  | false =>
    rw [hr] at c1
    have HW : Hid (stB n a b base = false) := by unfold stB; rw [hr]; rfl
    have HC := hide c1
    clear hr c1
    go_enter Try.func38, Try.ntmps38
    go_wp2_with fail
    ((first | refine wp_region_gen2 (by kernel_rfl) (by kernel_rfl) ?_ | refine wp_region_gen (by kernel_rfl) (by kernel_rfl) ?_); (repeat' (first | (refine gLex_val0 rfl (by kernel_rfl) (fun K hK => ?_); (go_simp; (try (simp only [↓IntWalk.iteOmega]; try go_simp)); (try simp (disch := omega) only [IntWalk.i64_in]); (try simp (disch := omega) only [IntWalk.u64_in]); first | (refine hK _ ?_; clear hK K) | (apply Exists.intro; refine ⟨fun x => ?_, hK _ ?_⟩; (first | (go_at_call 59; exact HC.out _)); clear hK K))) | (refine gLex_undef rfl rfl rfl (by kernel_rfl) (fun K hK => ?_); go_simp; refine hK _ ?_; clear hK K) | (refine gLex_ask rfl rfl rfl ?_; first | (apply gAsk_yes; kernel_rfl; intro K hK; (go_simp; (try (simp only [↓IntWalk.iteOmega]; try go_simp)); (try simp (disch := omega) only [IntWalk.i64_in]); (try simp (disch := omega) only [IntWalk.u64_in]); first | (refine hK _ ?_; clear hK K) | (apply Exists.intro; refine ⟨fun x => ?_, hK _ ?_⟩; (first | (go_at_call 59; exact HC.out _)); clear hK K))) | ((first | apply gAsk_no1 | apply gAsk_no2); kernel_rfl; intro K hK; simp [go_sem]; refine hK _ ?_; clear hK K) | (apply gAsk_part; kernel_rfl; all_goals (intro h K hK; (try simp only [Bool.not_true] at h); (try simp only [Bool.not_false] at h); (try simp only [decide_eq_true_eq] at h); (try simp only [decide_eq_false_iff_not] at h); first | (exfalso; first | contradiction | omega) | (go_simp; (try (simp only [↓IntWalk.iteOmega]; try go_simp)); (try simp (disch := omega) only [IntWalk.i64_in]); (try simp (disch := omega) only [IntWalk.u64_in]); first | (refine hK _ ?_; clear hK K) | (apply Exists.intro; refine ⟨fun x => ?_, hK _ ?_⟩; (first | (go_at_call 59; exact HC.out _)); clear hK K))))))); all_goals ((apply gLex_end); intro x))
    go_wp2
    go_ret
    exact ⟨ret_bool HW.out.symm, (by repeat (first | exact Grows.refl _ | refine Grows.now ?_ _ | refine Grows.new ?_ _ | refine Grows.drewN ?_ _ | refine Grows.drew ?_ | assumption | (refine Grows.set ?_ (by first | omega | (simp; done) | (simp; omega)) _)))⟩

set_option maxHeartbeats 400000 in
theorem ratioStretched (n a b base : Int) (w : World) (hn : U64 n) (hb : U64 base) :
    Calls Try.prog 70 #[.int .u64 n, .agg #[.int .u64 a, .int .u64 b], .int .u64 base] w fun e w' => e = .returned (.bool (stB n a b base)) ∧ Grows w w' := by
  have H := hide hn
  have K1 := hide hb
  have c1 := fun w => ratioRight a b w
  clear hn hb
  cases hr : rrB a b with
  | true =>
    rw [hr] at c1
    obtain ⟨r1, r2, r3, r4⟩ := rrB_spec hr
    have HR := hide (rrB_u64 hr)
    have HS : Hid (U64 (IntKind.u64.wrap (a + b))) := by rw [IntWalk.u64_in _ (by omega)]; exact (⟨by omega, by omega⟩ : U64 (a + b))
    have HS2 : Hid (U64 (a + b)) := (⟨by omega, by omega⟩ : U64 (a + b))
    have HW : Hid (stB n a b base = decide (n * b ≤ base * (a + b))) := by unfold stB; rw [hr]; exact Bool.true_and _
    have HC := hide c1
    clear hr c1
    go_enter Try.func70, Try.ntmps70
    go_wp2_with fail
    ((first | refine wp_region_gen2 (by kernel_rfl) (by kernel_rfl) ?_ | refine wp_region_gen (by kernel_rfl) (by kernel_rfl) ?_); (repeat' (first | (refine gLex_val0 rfl (by kernel_rfl) (fun K hK => ?_); (go_simp; (try (simp only [↓IntWalk.iteOmega]; try go_simp)); (try simp (disch := omega) only [IntWalk.i64_in]); (try simp (disch := omega) only [IntWalk.u64_in]); first | (refine hK _ ?_; clear hK K) | (apply Exists.intro; refine ⟨fun x => ?_, hK _ ?_⟩; (first | (go_at_call 55; exact HC.out _) | (go_at_call 85; exact ratioTimes _ _ _ (by first | exact H.out | exact K1.out) (by first | exact HR.out.1 | exact HR.out.2 | exact HS.out | exact HS2.out)) | (go_at_call 86; exact ratioMost _ _ _ _ _)); clear hK K))) | (refine gLex_undef rfl rfl rfl (by kernel_rfl) (fun K hK => ?_); go_simp; refine hK _ ?_; clear hK K) | (refine gLex_ask rfl rfl rfl ?_; first | (apply gAsk_yes; kernel_rfl; intro K hK; (go_simp; (try (simp only [↓IntWalk.iteOmega]; try go_simp)); (try simp (disch := omega) only [IntWalk.i64_in]); (try simp (disch := omega) only [IntWalk.u64_in]); first | (refine hK _ ?_; clear hK K) | (apply Exists.intro; refine ⟨fun x => ?_, hK _ ?_⟩; (first | (go_at_call 55; exact HC.out _) | (go_at_call 85; exact ratioTimes _ _ _ (by first | exact H.out | exact K1.out) (by first | exact HR.out.1 | exact HR.out.2 | exact HS.out | exact HS2.out)) | (go_at_call 86; exact ratioMost _ _ _ _ _)); clear hK K))) | ((first | apply gAsk_no1 | apply gAsk_no2); kernel_rfl; intro K hK; simp [go_sem]; refine hK _ ?_; clear hK K) | (apply gAsk_part; kernel_rfl; all_goals (intro h K hK; (try simp only [Bool.not_true] at h); (try simp only [Bool.not_false] at h); (try simp only [decide_eq_true_eq] at h); (try simp only [decide_eq_false_iff_not] at h); first | (exfalso; first | contradiction | omega) | (go_simp; (try (simp only [↓IntWalk.iteOmega]; try go_simp)); (try simp (disch := omega) only [IntWalk.i64_in]); (try simp (disch := omega) only [IntWalk.u64_in]); first | (refine hK _ ?_; clear hK K) | (apply Exists.intro; refine ⟨fun x => ?_, hK _ ?_⟩; (first | (go_at_call 55; exact HC.out _) | (go_at_call 85; exact ratioTimes _ _ _ (by first | exact H.out | exact K1.out) (by first | exact HR.out.1 | exact HR.out.2 | exact HS.out | exact HS2.out)) | (go_at_call 86; exact ratioMost _ _ _ _ _)); clear hK K))))))); all_goals ((apply gLex_end); intro x))
    go_wp2
    go_ret
    exact ⟨ret_bool (by rw [wi_of, HW.out]), (by repeat (first | exact Grows.refl _ | refine Grows.now ?_ _ | refine Grows.new ?_ _ | refine Grows.drewN ?_ _ | refine Grows.drew ?_ | assumption | (refine Grows.set ?_ (by first | omega | (simp; done) | (simp; omega)) _)))⟩
  | false =>
    rw [hr] at c1
    have HW : Hid (stB n a b base = false) := by unfold stB; rw [hr]; rfl
    have HC := hide c1
    clear hr c1
    go_enter Try.func70, Try.ntmps70
    go_wp2_with fail
    ((first | refine wp_region_gen2 (by kernel_rfl) (by kernel_rfl) ?_ | refine wp_region_gen (by kernel_rfl) (by kernel_rfl) ?_); (repeat' (first | (refine gLex_val0 rfl (by kernel_rfl) (fun K hK => ?_); (go_simp; (try (simp only [↓IntWalk.iteOmega]; try go_simp)); (try simp (disch := omega) only [IntWalk.i64_in]); (try simp (disch := omega) only [IntWalk.u64_in]); first | (refine hK _ ?_; clear hK K) | (apply Exists.intro; refine ⟨fun x => ?_, hK _ ?_⟩; (first | (go_at_call 55; exact HC.out _)); clear hK K))) | (refine gLex_undef rfl rfl rfl (by kernel_rfl) (fun K hK => ?_); go_simp; refine hK _ ?_; clear hK K) | (refine gLex_ask rfl rfl rfl ?_; first | (apply gAsk_yes; kernel_rfl; intro K hK; (go_simp; (try (simp only [↓IntWalk.iteOmega]; try go_simp)); (try simp (disch := omega) only [IntWalk.i64_in]); (try simp (disch := omega) only [IntWalk.u64_in]); first | (refine hK _ ?_; clear hK K) | (apply Exists.intro; refine ⟨fun x => ?_, hK _ ?_⟩; (first | (go_at_call 55; exact HC.out _)); clear hK K))) | ((first | apply gAsk_no1 | apply gAsk_no2); kernel_rfl; intro K hK; simp [go_sem]; refine hK _ ?_; clear hK K) | (apply gAsk_part; kernel_rfl; all_goals (intro h K hK; (try simp only [Bool.not_true] at h); (try simp only [Bool.not_false] at h); (try simp only [decide_eq_true_eq] at h); (try simp only [decide_eq_false_iff_not] at h); first | (exfalso; first | contradiction | omega) | (go_simp; (try (simp only [↓IntWalk.iteOmega]; try go_simp)); (try simp (disch := omega) only [IntWalk.i64_in]); (try simp (disch := omega) only [IntWalk.u64_in]); first | (refine hK _ ?_; clear hK K) | (apply Exists.intro; refine ⟨fun x => ?_, hK _ ?_⟩; (first | (go_at_call 55; exact HC.out _)); clear hK K))))))); all_goals ((apply gLex_end); intro x))
    go_wp2
    go_ret
    exact ⟨ret_bool HW.out.symm, (by repeat (first | exact Grows.refl _ | refine Grows.now ?_ _ | refine Grows.new ?_ _ | refine Grows.drewN ?_ _ | refine Grows.drew ?_ | assumption | (refine Grows.set ?_ (by first | omega | (simp; done) | (simp; omega)) _)))⟩

end Go.Proofs.Ytaoodmioehkebaa
