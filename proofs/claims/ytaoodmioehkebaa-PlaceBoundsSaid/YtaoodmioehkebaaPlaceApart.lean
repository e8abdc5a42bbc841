/- Walks: how far any two places lie apart; that it is the same from both. -/
import Derived.Test.YtaoodmioehkebaaRoot
import Derived.Test.YtaoodmioehkebaaOpen
namespace Go.Proofs.Ytaoodmioehkebaa
open Go Go.RowKit
set_option maxHeartbeats 1000000 in
theorem alive09 (w : World) : Calls Try.prog 25 #[] w fun e w' => e = .returned (.bool true) ∧ Grows w w' := by
  have s1 : sqV 0 0 3 4 = 25 := by decide +kernel
  have C1 := fun W => plSquareV 0 0 3 4 W
  have C2 := fun W => plCrow 0 0 3 4 W
  have C3 := fun W => plAt 1 2 W (by decide +kernel)
  rw [s1] at C1 C2
  rw [rootV_eq (n := 25) (r := 5) ⟨by omega, by omega, by omega⟩] at C2
  rw [show atV 1 2 = .complex .f64 4607182418800017408 4611686018427387904 by unfold atV; rw [show FloatKind.f64.nearest 1 = 4607182418800017408 by decide +kernel, show FloatKind.f64.nearest 2 = 4611686018427387904 by decide +kernel]] at C3
  have H1 := hide C1
  have H2 := hide C2
  have H3 := hide C3
  clear C1 C2 C3 s1
  go_enter Try.func25, Try.ntmps25
  go_wp2_with (first | (go_at_call 19; refine (H1.out _).mono ?_; rintro e w' ⟨rfl, hg⟩; (first | obtain ⟨x, rfl⟩ := Grows.later2 hg | obtain ⟨x, rfl⟩ := Grows.later hg); clear hg) | (go_at_call 21; refine (H2.out _).mono ?_; rintro e w' ⟨rfl, hg⟩; (first | obtain ⟨x, rfl⟩ := Grows.later2 hg | obtain ⟨x, rfl⟩ := Grows.later hg); clear hg) | (go_at_call 40; refine (H3.out _).mono ?_; rintro e w' ⟨rfl, hg⟩; (first | obtain ⟨x, rfl⟩ := Grows.later2 hg | obtain ⟨x, rfl⟩ := Grows.later hg); clear hg))
  go_ret
  exact ⟨rfl, (by repeat (first | exact Grows.refl _ | refine Grows.now ?_ _ | refine Grows.new ?_ _ | refine Grows.drewN ?_ _ | refine Grows.drew ?_ | assumption | (refine Grows.set ?_ (by first | omega | (simp; done) | (simp; omega)) _)))⟩
set_option maxHeartbeats 4000000 in
theorem placeApartW (a b c d n : Int) (w : World) (hn0 : 0 ≤ n) (hn : n < 18446744073709551616) : Calls Try.prog 5 #[.agg #[.int .i64 a, .int .i64 b], .agg #[.int .i64 c, .int .i64 d], .int .u64 n] w fun e w' => e = .returned (.bool true) ∧ Grows w w' := by
  have H1 := hide (fun W => plSquareV a b c d W)
  have H2 := hide (fun W => r9SquareV a b c d W)
  have H3 := hide (fun W => plCrow a b c d W)
  have H4 := hide (fun W => r9Crow a b c d W)
  have H5 := hide (fun W => plRoot n W hn0 hn)
  have H6 := hide (fun W => r9Root n W hn0 hn)
  clear hn0 hn
  generalize rootV (sqV a b c d) = R1 at *
  generalize rootV n = R2 at *
  generalize sqV a b c d = R3 at *
  go_enter Try.func5, Try.ntmps5
  go_wp2_with fail
  ((first | refine wp_region_gen2 (by kernel_rfl) (by kernel_rfl) ?_ | refine wp_region_gen (by kernel_rfl) (by kernel_rfl) ?_); (repeat' (first | (refine gLex_val0 rfl (by kernel_rfl) (fun K hK => ?_); (go_simp; (try (simp only [↓IntWalk.iteOmega]; try go_simp)); (try simp (disch := omega) only [IntWalk.i64_in]); (try simp (disch := omega) only [IntWalk.u64_in]); first | (refine hK _ ?_; clear hK K) | (apply Exists.intro; refine ⟨fun x => ?_, hK _ ?_⟩; (first | (go_at_call 19; exact H1.out _) | (go_at_call 20; exact H2.out _) | (go_at_call 21; exact H3.out _) | (go_at_call 22; exact H4.out _) | (go_at_call 23; exact H5.out _) | (go_at_call 24; exact H6.out _) | (go_at_call 25; exact alive09 _)); clear hK K))) | (refine gLex_undef rfl rfl rfl (by kernel_rfl) (fun K hK => ?_); go_simp; refine hK _ ?_; clear hK K) | (refine gLex_ask rfl rfl rfl ?_; first | (apply gAsk_yes; kernel_rfl; intro K hK; (go_simp; (try (simp only [↓IntWalk.iteOmega]; try go_simp)); (try simp (disch := omega) only [IntWalk.i64_in]); (try simp (disch := omega) only [IntWalk.u64_in]); first | (refine hK _ ?_; clear hK K) | (apply Exists.intro; refine ⟨fun x => ?_, hK _ ?_⟩; (first | (go_at_call 19; exact H1.out _) | (go_at_call 20; exact H2.out _) | (go_at_call 21; exact H3.out _) | (go_at_call 22; exact H4.out _) | (go_at_call 23; exact H5.out _) | (go_at_call 24; exact H6.out _) | (go_at_call 25; exact alive09 _)); clear hK K))) | ((first | apply gAsk_no1 | apply gAsk_no2); kernel_rfl; intro K hK; simp [go_sem]; refine hK _ ?_; clear hK K) | (apply gAsk_part; kernel_rfl; all_goals (intro h K hK; (try simp only [Bool.not_true] at h); (try simp only [Bool.not_false] at h); (try simp only [decide_eq_true_eq] at h); (try simp only [decide_eq_false_iff_not] at h); first | (exfalso; first | contradiction | omega) | (go_simp; (try (simp only [↓IntWalk.iteOmega]; try go_simp)); (try simp (disch := omega) only [IntWalk.i64_in]); (try simp (disch := omega) only [IntWalk.u64_in]); first | (refine hK _ ?_; clear hK K) | (apply Exists.intro; refine ⟨fun x => ?_, hK _ ?_⟩; (first | (go_at_call 19; exact H1.out _) | (go_at_call 20; exact H2.out _) | (go_at_call 21; exact H3.out _) | (go_at_call 22; exact H4.out _) | (go_at_call 23; exact H5.out _) | (go_at_call 24; exact H6.out _) | (go_at_call 25; exact alive09 _)); clear hK K))))))); all_goals ((apply gLex_end); intro x))
  go_wp2
  go_ret
  exact ⟨rfl, (by repeat (first | exact Grows.refl _ | refine Grows.now ?_ _ | refine Grows.new ?_ _ | refine Grows.drewN ?_ _ | refine Grows.drew ?_ | assumption | (refine Grows.set ?_ (by first | omega | (simp; done) | (simp; omega)) _)))⟩
theorem placeApartL (a b c d n : Int) (w : World) (_ : I64 a) (_ : I64 b) (_ : I64 c) (_ : I64 d) (h : U64 n) : Calls Try.prog 5 #[.agg #[.int .i64 a, .int .i64 b], .agg #[.int .i64 c, .int .i64 d], .int .u64 n] w fun e w' => e = .returned (.bool true) ∧ Grows w w' :=
  placeApartW a b c d n w h.1 h.2
end Go.Proofs.Ytaoodmioehkebaa
