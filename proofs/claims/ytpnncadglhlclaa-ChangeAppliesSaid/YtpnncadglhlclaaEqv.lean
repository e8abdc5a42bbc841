/- Contracts: are changes the same; are graphs the same. -/
import Derived.Test.YtpnncadglhlclaaOfSame
namespace Go.Proofs.Ytpnncadglhlclaa
open Go Go.RowKit
set_option maxRecDepth 20000 in
theorem edge_eqv (a b c a' b' c' : Int) (W : World) : (Op.equalIn 10000 49 (.agg #[.int .i64 a, .int .i64 b, .int .u64 c]) (.agg #[.int .i64 a', .int .i64 b', .int .u64 c'])).run Try.prog W = .ok (a == a' && (b == b' && c == c')) W := by
  have h1 : ∀ x z : Int, ∀ w : World, (Op.equalIn 9999 3 (.int .i64 x) (.int .i64 z)).run Try.prog w = .ok (x == z) w := fun x z w => by
    rw [show (9999 : Nat) = 9998 + 1 from rfl, run_equalIn_int w 9998 3 .i64 .i64 x z Try.underlying3]
  have h2 : ∀ x z : Int, ∀ w : World, (Op.equalIn 9999 37 (.int .u64 x) (.int .u64 z)).run Try.prog w = .ok (x == z) w := fun x z w => by
    rw [show (9999 : Nat) = 9998 + 1 from rfl, run_equalIn_int w 9998 37 .u64 .u64 x z Try.underlying37]
  rw [show (10000 : Nat) = 9999 + 1 from rfl]
  unfold Op.equalIn
  have hp0 : ∀ (a b c : Int) (w : World), (part 3 #[Value.int .i64 a, Value.int .i64 b, Value.int .u64 c] 0).run Try.prog w = .ok (.int .i64 a) w := fun a b c w => by kernel_rfl
  have hp1 : ∀ (a b c : Int) (w : World), (part 3 #[Value.int .i64 a, Value.int .i64 b, Value.int .u64 c] 1).run Try.prog w = .ok (.int .i64 b) w := fun a b c w => by kernel_rfl
  have hp2 : ∀ (a b c : Int) (w : World), (part 37 #[Value.int .i64 a, Value.int .i64 b, Value.int .u64 c] 2).run Try.prog w = .ok (.int .u64 c) w := fun a b c w => by kernel_rfl
  have hst : Try.prog.stoodInHeld 49 = false := by kernel_rfl
  have hpr : ∀ w : World, (program).run Try.prog w = .ok Try.prog w := fun w => rfl
  simp only [Sem.run_bind, run_underlying Try.underlying49, Result.andThen_ok, hpr, hst, Bool.false_eq_true, if_false, List.forIn_toArray, List.forIn_cons, List.forIn_nil]
  cases ha : a == a' <;> cases hb : b == b' <;> cases hc : c == c' <;> simp [h1, h2, hp0, hp1, hp2, Sem.run_bind, Result.andThen_ok, ha, hb, hc]
theorem edge_eq (a b c : Int) (W : World) : (Op.equalIn 10000 49 (.agg #[.int .i64 a, .int .i64 b, .int .u64 c]) (.agg #[.int .i64 a, .int .i64 b, .int .u64 c])).run Try.prog W = .ok true W := by
  rw [edge_eqv, beq_self_eq_true, beq_self_eq_true, beq_self_eq_true]; rfl
set_option maxRecDepth 20000 in
set_option maxHeartbeats 4000000 in
theorem law33same (A : Option Addr) (n c : Nat) (B : Option Addr) (d : Nat) (L : List Chg) (w : World) (ha : Rd w A 2 n (csCells L)) (hb : Rd w B 2 n (csCells L)) (hn : n ≤ 1000000) :
    Calls Try.prog 69 #[.slice A n c, .slice B n d] w fun e w' => e = .returned (.bool true) ∧ Grows w w' := by
  have HA := hide ha
  have HB := hide hb
  clear ha hb
  go_enter Try.func69, Try.ntmps69
  go_wp2_with fail
  go_loopw [5] (fun i wr => ∃ k : Nat, k ≤ n ∧ i = .int .i64 (k : Int) ∧ ∃ y : Later w, wr = y.now) (fun i _ => n - (intOf i).toNat)
  case atStart => exact ⟨0, by omega, by go_num, ⟨_, Grows.refl _⟩, rfl⟩
  case round =>
    obtain ⟨k, hk, rfl, y, rfl⟩ := hrel
    by_cases hend : n ≤ k
    · go_wp2
      go_ret
      exact ⟨rfl, (by repeat (first | exact Grows.refl _ | refine Grows.now ?_ _ | refine Grows.new ?_ _ | refine Grows.drewN ?_ _ | refine Grows.drew ?_ | assumption | (refine Grows.set ?_ (by first | omega | (simp; done) | (simp; omega)) _)))⟩
    · obtain ⟨b, off, rfl, hc⟩ := HA.out.chgsH (by omega)
      obtain ⟨b2, off2, rfl, hc2⟩ := HB.out.chgsH (by omega)
      obtain ⟨c1, c2⟩ := hc k (by omega)
      obtain ⟨c3, c4⟩ := hc2 k (by omega)
      clear hc hc2
      generalize gc L k = x at *
      obtain ⟨e, v⟩ := x
      dsimp only at c1 c2 c3 c4
      go_wp2_with fail
      ((first | refine wp_region_gen (by kernel_rfl) (by kernel_rfl) ?_); (repeat' (first | (refine gLex_val0 rfl (by kernel_rfl) (fun K hK => ?_); (go_simp; (try (simp only [↓IntWalk.iteOmega]; try go_simp)); (try simp (disch := omega) only [IntWalk.i64_in]); (try simp (disch := omega) only [IntWalk.u64_in]); first | (refine hK _ ?_; clear hK K) | (apply Exists.intro; refine ⟨fun x => ?_, hK _ ?_⟩; (first | fail); clear hK K))) | (refine gLex_undef rfl rfl rfl (by kernel_rfl) (fun K hK => ?_); go_simp; refine hK _ ?_; clear hK K) | (refine gLex_ask rfl rfl rfl ?_; first | (apply gAsk_yes; kernel_rfl; intro K hK; (go_simp; (try (simp only [↓IntWalk.iteOmega]; try go_simp)); (try simp (disch := omega) only [IntWalk.i64_in]); (try simp (disch := omega) only [IntWalk.u64_in]); first | (refine hK _ ?_; clear hK K) | (apply Exists.intro; refine ⟨fun x => ?_, hK _ ?_⟩; (first | fail); clear hK K))) | ((first | apply gAsk_no1 | apply gAsk_no2); kernel_rfl; intro K hK; simp [go_sem]; refine hK _ ?_; clear hK K) | (apply gAsk_part; kernel_rfl; all_goals (intro h K hK; (try simp only [Bool.not_true] at h); (try simp only [Bool.not_false] at h); (try simp only [decide_eq_true_eq] at h); (try simp only [decide_eq_false_iff_not] at h); first | (exfalso; first | contradiction | omega) | (go_simp; (try (simp only [↓IntWalk.iteOmega]; try go_simp)); (try simp (disch := omega) only [IntWalk.i64_in]); (try simp (disch := omega) only [IntWalk.u64_in]); first | (refine hK _ ?_; clear hK K) | (apply Exists.intro; refine ⟨fun x => ?_, hK _ ?_⟩; (first | fail); clear hK K))))))); all_goals ((apply gLex_end); intro x))
      go_wp2
      exact ⟨⟨k + 1, by omega, by go_num, Grows.later (by repeat (first | exact Grows.refl _ | refine Grows.now ?_ _ | refine Grows.new ?_ _ | refine Grows.drewN ?_ _ | refine Grows.drew ?_ | assumption | (refine Grows.set ?_ (by first | omega | (simp; done) | (simp; omega)) _)))⟩, by simp [intOf]; omega⟩
set_option maxRecDepth 20000 in
set_option maxHeartbeats 4000000 in
theorem r5Same (N : Int) (A : Option Addr) (n c : Nat) (B : Option Addr) (d : Nat) (E : List Edg) (w : World) (ha : Rd w A 3 n (esCells E)) (hb : Rd w B 3 n (esCells E)) (hn : n ≤ 1000000) :
    Calls Try.prog 68 #[.agg #[.int .i64 N, .slice A n c], .agg #[.int .i64 N, .slice B n d]] w fun e w' => e = .returned (.bool true) ∧ Grows w w' := by
  have HA := hide ha
  have HB := hide hb
  clear ha hb
  go_enter Try.func68, Try.ntmps68
  go_wp2_with fail
  obtain ⟨W0, hW0⟩ : ∃ W0, W0 = ((w.alloc (.cells #[.int .i64 N, .slice A n c] 24)).alloc (.cells #[.int .i64 N, .slice B n d] 24)) := ⟨_, rfl⟩
  have hg0 : Grows w W0 := by rw [hW0]; exact (by repeat (first | exact Grows.refl _ | refine Grows.now ?_ _ | refine Grows.new ?_ _ | refine Grows.drewN ?_ _ | refine Grows.drew ?_ | assumption | (refine Grows.set ?_ (by first | omega | (simp; done) | (simp; omega)) _)))
  have m0 : Mine W0 ⟨w.heap.size, 0, none⟩ (.int .i64 N) := by rw [hW0]; infer_instance
  have m1 : Mine W0 ⟨w.heap.size, 1, none⟩ (.slice A n c) := by rw [hW0]; infer_instance
  have m2 : Mine W0 ⟨w.heap.size + 1, 0, none⟩ (.int .i64 N) := by rw [hW0]; infer_instance
  have m3 : Mine W0 ⟨w.heap.size + 1, 1, none⟩ (.slice B n d) := by rw [hW0]; infer_instance
  rw [← hW0]
  clear hW0
  have HA := hide (HA.out.grows hg0)
  have HB := hide (HB.out.grows hg0)
  go_loopw [5] (fun i wr => ∃ k : Nat, k ≤ n ∧ i = .int .i64 (k : Int) ∧ ∃ y : Later W0, wr = y.now) (fun i _ => n - (intOf i).toNat)
  case atStart => exact ⟨0, by omega, by go_num, ⟨_, Grows.refl _⟩, rfl⟩
  case round =>
    obtain ⟨k, hk, rfl, y, rfl⟩ := hrel
    by_cases hend : n ≤ k
    · go_wp2
      go_ret
      exact ⟨rfl, (by repeat (first | exact Grows.refl _ | refine Grows.now ?_ _ | refine Grows.new ?_ _ | refine Grows.drewN ?_ _ | refine Grows.drew ?_ | assumption | (refine Grows.set ?_ (by first | omega | (simp; done) | (simp; omega)) _)))⟩
    · obtain ⟨b, off, rfl, hc⟩ := HA.out.edgesH (by omega)
      obtain ⟨b2, off2, rfl, hc2⟩ := HB.out.edgesH (by omega)
      obtain ⟨c1, c2, c3⟩ := hc k (by omega)
      obtain ⟨c4, c5, c6⟩ := hc2 k (by omega)
      clear hc hc2
      generalize ge E k = x at *
      obtain ⟨f, t, v⟩ := x
      dsimp only at c1 c2 c3 c4 c5 c6
      have heq := edge_eq f t v
      go_wp2_with fail
      ((first | refine wp_region_gen (by kernel_rfl) (by kernel_rfl) ?_); (repeat' (first | (refine gLex_val0 rfl (by kernel_rfl) (fun K hK => ?_); (go_simp; (try (simp only [↓IntWalk.iteOmega]; try go_simp)); (try simp (disch := omega) only [IntWalk.i64_in]); (try simp (disch := omega) only [IntWalk.u64_in]); first | (refine hK _ ?_; clear hK K) | (apply Exists.intro; refine ⟨fun x => ?_, hK _ ?_⟩; (first | fail); clear hK K))) | (refine gLex_undef rfl rfl rfl (by kernel_rfl) (fun K hK => ?_); go_simp; refine hK _ ?_; clear hK K) | (refine gLex_ask rfl rfl rfl ?_; first | (apply gAsk_yes; kernel_rfl; intro K hK; (go_simp; (try (simp only [↓IntWalk.iteOmega]; try go_simp)); (try simp (disch := omega) only [IntWalk.i64_in]); (try simp (disch := omega) only [IntWalk.u64_in]); first | (refine hK _ ?_; clear hK K) | (apply Exists.intro; refine ⟨fun x => ?_, hK _ ?_⟩; (first | fail); clear hK K))) | ((first | apply gAsk_no1 | apply gAsk_no2); kernel_rfl; intro K hK; simp [go_sem]; refine hK _ ?_; clear hK K) | (apply gAsk_part; kernel_rfl; all_goals (intro h K hK; (try simp only [Bool.not_true] at h); (try simp only [Bool.not_false] at h); (try simp only [decide_eq_true_eq] at h); (try simp only [decide_eq_false_iff_not] at h); first | (exfalso; first | contradiction | omega) | (go_simp; (try (simp only [↓IntWalk.iteOmega]; try go_simp)); (try simp (disch := omega) only [IntWalk.i64_in]); (try simp (disch := omega) only [IntWalk.u64_in]); first | (refine hK _ ?_; clear hK K) | (apply Exists.intro; refine ⟨fun x => ?_, hK _ ?_⟩; (first | fail); clear hK K))))))); all_goals ((apply gLex_end); intro x))
      go_wp2
      exact ⟨⟨k + 1, by omega, by go_num, Grows.later (by repeat (first | exact Grows.refl _ | refine Grows.now ?_ _ | refine Grows.new ?_ _ | refine Grows.drewN ?_ _ | refine Grows.drew ?_ | assumption | (refine Grows.set ?_ (by first | omega | (simp; done) | (simp; omega)) _)))⟩, by simp [intOf]; omega⟩
end Go.Proofs.Ytpnncadglhlclaa
