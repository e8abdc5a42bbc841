/- Contracts: ratio and its answer. -/
import Derived.Test.YtaoodmioehkebaaStep
import Derived.Test.YtaoodmioehkebaaRows
import Derived.Test.YtaoodmioehkebaaShelf
namespace Go.Proofs.Ytaoodmioehkebaa
open Go Go.RowKit
set_option maxHeartbeats 400000 in
theorem ratioRight1 (n l : Int) (w : World) :
    Calls Try.prog 84 #[.int .u64 n, .int .u64 l] w fun e w' => e = .returned (.bool (decide (l ≤ n ∧ n ≤ 1048576))) ∧ w = w' := by
  go_enter Try.func84, Try.ntmps84
  go_wp2
  all_goals go_ret
  all_goals exact ⟨ret_bool (by simp; try omega), rfl⟩

def rrB (a b : Int) : Bool := decide (0 ≤ a ∧ a ≤ 1048576 ∧ 1 ≤ b ∧ b ≤ 1048576)
theorem rrB_u64 {a b : Int} (h : rrB a b = true) : U64 a ∧ U64 b := by
  unfold rrB at h
  unfold U64
  simp at h
  omega

set_option maxHeartbeats 400000 in
theorem ratioRight (a b : Int) (w : World) :
    Calls Try.prog 55 #[.agg #[.int .u64 a, .int .u64 b]] w fun e w' => e = .returned (.bool (rrB a b)) ∧ Grows w w' := by
  go_enter Try.func55, Try.ntmps55
  go_wp2_with (first | (go_at_call 84; refine (ratioRight1 _ _ _).mono ?_; rintro e w' ⟨rfl, rfl⟩))
  all_goals go_ret
  all_goals exact ⟨ret_bool (bool_ext (by unfold rrB; simp; try omega)), (by repeat (first | exact Grows.refl _ | refine Grows.now ?_ _ | refine Grows.new ?_ _ | refine Grows.drewN ?_ _ | refine Grows.drew ?_ | assumption | (refine Grows.set ?_ (by first | omega | (simp; done) | (simp; omega)) _)))⟩

def moB (a b c d : Int) : Bool := decide (a < c ∨ (a = c ∧ b ≤ d))
set_option maxHeartbeats 400000 in
theorem ratioMost (a b c d : Int) (w : World) :
    Calls Try.prog 86 #[.agg #[.int .u64 a, .int .u64 b], .agg #[.int .u64 c, .int .u64 d]] w fun e w' => e = .returned (.bool (moB a b c d)) ∧ Grows w w' := by
  go_enter Try.func86, Try.ntmps86
  go_wp2
  all_goals go_ret
  all_goals exact ⟨ret_bool (bool_ext (by unfold moB; simp; try omega)), (by repeat (first | exact Grows.refl _ | refine Grows.now ?_ _ | refine Grows.new ?_ _ | refine Grows.drewN ?_ _ | refine Grows.drew ?_ | assumption | (refine Grows.set ?_ (by first | omega | (simp; done) | (simp; omega)) _)))⟩

def hiP (a b : Int) : Int := a * b / 18446744073709551616
def loP (a b : Int) : Int := a * b % 18446744073709551616

set_option maxHeartbeats 400000 in
theorem ratioTimes (a b : Int) (w : World) (ha : U64 a) (hb : U64 b) :
    Calls Try.prog 85 #[.int .u64 a, .int .u64 b] w fun e w' => e = .returned (.agg #[.int .u64 (hiP a b), .int .u64 (loP a b)]) ∧ Grows w w' := by
  obtain ⟨a, rfl, ha'⟩ := ha.nat
  obtain ⟨b, rfl, hb'⟩ := hb.nat
  have H := hide ha'
  have K := hide hb'
  clear ha hb ha' hb'
  go_enter Try.func85, Try.ntmps85
  go_wp2_with (go_at_call 106; refine (Try.bits_Mul64 _ _ H.out K.out _).mono ?_; rintro e w' ⟨rfl, rfl⟩)
  exact bodyPost_ret (v := .agg #[.int .u64 (hiP a b), .int .u64 (loP a b)]) (by simp [results, Try.results85, go_sem, hiP, loP]) rfl ⟨rfl, (by repeat (first | exact Grows.refl _ | refine Grows.now ?_ _ | refine Grows.new ?_ _ | refine Grows.drewN ?_ _ | refine Grows.drew ?_ | assumption | (refine Grows.set ?_ (by first | omega | (simp; done) | (simp; omega)) _)))⟩

/-- Is n at most the ratio a by b of base? -/
def wiB (n a b base : Int) : Bool := rrB a b && decide (n * b ≤ base * a)

theorem wi_of (w a b base : Int) : moB (hiP w b) (loP w b) (hiP base a) (loP base a) = decide (w * b ≤ base * a) := by
  unfold moB hiP loP
  rw [Bool.eq_iff_iff]
  simp only [decide_eq_true_eq]
  generalize w * b = x
  generalize base * a = y
  omega

set_option maxHeartbeats 400000 in
theorem ratioWithin (n a b base : Int) (w : World) (hn : U64 n) (hb : U64 base) :
    Calls Try.prog 57 #[.int .u64 n, .agg #[.int .u64 a, .int .u64 b], .int .u64 base] w fun e w' => e = .returned (.bool (wiB n a b base)) ∧ Grows w w' := by
  have H := hide hn
  have K1 := hide hb
  clear hn hb
  have c1 := fun w => ratioRight a b w
  cases hr : rrB a b with
  | true =>
    rw [hr] at c1
    have HR := hide (rrB_u64 hr)
    have HW : Hid (wiB n a b base = decide (n * b ≤ base * a)) := by unfold wiB; rw [hr]; exact Bool.true_and _
    have HC := hide c1
    clear hr c1
    go_enter Try.func57, Try.ntmps57
    go_wp2_with fail
    ((first | refine wp_region_gen2 (by kernel_rfl) (by kernel_rfl) ?_ | refine wp_region_gen (by kernel_rfl) (by kernel_rfl) ?_); (repeat' (first | (refine gLex_val0 rfl (by kernel_rfl) (fun K hK => ?_); (go_simp; (try (simp only [↓IntWalk.iteOmega]; try go_simp)); (try simp (disch := omega) only [IntWalk.i64_in]); (try simp (disch := omega) only [IntWalk.u64_in]); first | (refine hK _ ?_; clear hK K) | (apply Exists.intro; refine ⟨fun x => ?_, hK _ ?_⟩; (first | (go_at_call 55; exact HC.out _) | (go_at_call 85; exact ratioTimes _ _ _ (by first | exact H.out | exact K1.out) (by first | exact HR.out.1 | exact HR.out.2)) | (go_at_call 86; exact ratioMost _ _ _ _ _)); clear hK K))) | (refine gLex_undef rfl rfl rfl (by kernel_rfl) (fun K hK => ?_); go_simp; refine hK _ ?_; clear hK K) | (refine gLex_ask rfl rfl rfl ?_; first | (apply gAsk_yes; kernel_rfl; intro K hK; (go_simp; (try (simp only [↓IntWalk.iteOmega]; try go_simp)); (try simp (disch := omega) only [IntWalk.i64_in]); (try simp (disch := omega) only [IntWalk.u64_in]); first | (refine hK _ ?_; clear hK K) | (apply Exists.intro; refine ⟨fun x => ?_, hK _ ?_⟩; (first | (go_at_call 55; exact HC.out _) | (go_at_call 85; exact ratioTimes _ _ _ (by first | exact H.out | exact K1.out) (by first | exact HR.out.1 | exact HR.out.2)) | (go_at_call 86; exact ratioMost _ _ _ _ _)); clear hK K))) | ((first | apply gAsk_no1 | apply gAsk_no2); kernel_rfl; intro K hK; simp [go_sem]; refine hK _ ?_; clear hK K) | (apply gAsk_part; kernel_rfl; all_goals (intro h K hK; (try simp only [Bool.not_true] at h); (try simp only [Bool.not_false] at h); (try simp only [decide_eq_true_eq] at h); (try simp only [decide_eq_false_iff_not] at h); first | (exfalso; first | contradiction | omega) | (go_simp; (try (simp only [↓IntWalk.iteOmega]; try go_simp)); (try simp (disch := omega) only [IntWalk.i64_in]); (try simp (disch := omega) only [IntWalk.u64_in]); first | (refine hK _ ?_; clear hK K) | (apply Exists.intro; refine ⟨fun x => ?_, hK _ ?_⟩; (first | (go_at_call 55; exact HC.out _) | (go_at_call 85; exact ratioTimes _ _ _ (by first | exact H.out | exact K1.out) (by first | exact HR.out.1 | exact HR.out.2)) | (go_at_call 86; exact ratioMost _ _ _ _ _)); clear hK K))))))); all_goals ((apply gLex_end); intro x))
    go_wp2
    go_ret
    exact ⟨ret_bool (by rw [wi_of, HW.out]), (by repeat (first | exact Grows.refl _ | refine Grows.now ?_ _ | refine Grows.new ?_ _ | refine Grows.drewN ?_ _ | refine Grows.drew ?_ | assumption | (refine Grows.set ?_ (by first | omega | (simp; done) | (simp; omega)) _)))⟩
  | false =>
    rw [hr] at c1
    have HW : Hid (wiB n a b base = false) := by unfold wiB; rw [hr]; rfl
    have HC := hide c1
    clear hr c1
    go_enter Try.func57, Try.ntmps57
    go_wp2_with fail
    ((first | refine wp_region_gen2 (by kernel_rfl) (by kernel_rfl) ?_ | refine wp_region_gen (by kernel_rfl) (by kernel_rfl) ?_); (repeat' (first | (refine gLex_val0 rfl (by kernel_rfl) (fun K hK => ?_); (go_simp; (try (simp only [↓IntWalk.iteOmega]; try go_simp)); (try simp (disch := omega) only [IntWalk.i64_in]); (try simp (disch := omega) only [IntWalk.u64_in]); first | (refine hK _ ?_; clear hK K) | (apply Exists.intro; refine ⟨fun x => ?_, hK _ ?_⟩; (first | (go_at_call 55; exact HC.out _)); clear hK K))) | (refine gLex_undef rfl rfl rfl (by kernel_rfl) (fun K hK => ?_); go_simp; refine hK _ ?_; clear hK K) | (refine gLex_ask rfl rfl rfl ?_; first | (apply gAsk_yes; kernel_rfl; intro K hK; (go_simp; (try (simp only [↓IntWalk.iteOmega]; try go_simp)); (try simp (disch := omega) only [IntWalk.i64_in]); (try simp (disch := omega) only [IntWalk.u64_in]); first | (refine hK _ ?_; clear hK K) | (apply Exists.intro; refine ⟨fun x => ?_, hK _ ?_⟩; (first | (go_at_call 55; exact HC.out _)); clear hK K))) | ((first | apply gAsk_no1 | apply gAsk_no2); kernel_rfl; intro K hK; simp [go_sem]; refine hK _ ?_; clear hK K) | (apply gAsk_part; kernel_rfl; all_goals (intro h K hK; (try simp only [Bool.not_true] at h); (try simp only [Bool.not_false] at h); (try simp only [decide_eq_true_eq] at h); (try simp only [decide_eq_false_iff_not] at h); first | (exfalso; first | contradiction | omega) | (go_simp; (try (simp only [↓IntWalk.iteOmega]; try go_simp)); (try simp (disch := omega) only [IntWalk.i64_in]); (try simp (disch := omega) only [IntWalk.u64_in]); first | (refine hK _ ?_; clear hK K) | (apply Exists.intro; refine ⟨fun x => ?_, hK _ ?_⟩; (first | (go_at_call 55; exact HC.out _)); clear hK K))))))); all_goals ((apply gLex_end); intro x))
    go_wp2
    go_ret
    exact ⟨ret_bool HW.out.symm, (by repeat (first | exact Grows.refl _ | refine Grows.now ?_ _ | refine Grows.new ?_ _ | refine Grows.drewN ?_ _ | refine Grows.drew ?_ | assumption | (refine Grows.set ?_ (by first | omega | (simp; done) | (simp; omega)) _)))⟩

end Go.Proofs.Ytaoodmioehkebaa
