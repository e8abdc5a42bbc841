/- Walk: how any three places turn, and each turn's name. -/
import Derived.Test.YtaoodmioehkebaaTurn
import Derived.Test.YtaoodmioehkebaaOpen
namespace Go.Proofs.Ytaoodmioehkebaa
open Go Go.RowKit
def nameV (k : Int) : Value := if k = 0 then .string { data := #[115, 116, 114, 97, 105, 103, 104, 116] } else if k = 1 then .string { data := #[108, 101, 102, 116] } else if k = 2 then .string { data := #[114, 105, 103, 104, 116] } else if k = 3 then .string { data := #[98, 97, 99, 107] } else if k = 4 then .string { data := #[115, 116, 105, 108, 108] } else .string { data := #[] }
theorem name_other {k : Int} (h : ¬(0 ≤ k ∧ k < 5)) : nameV k = .string { data := #[] } := by
  unfold nameV
  rw [if_neg (by omega), if_neg (by omega), if_neg (by omega), if_neg (by omega), if_neg (by omega)]
theorem three_cells3 (a b c : Pl) (w : World) (T : TypeId) : ∀ W, (((w.alloc (bx a T)).alloc (bx b T)).alloc (bx c T)) = W →
    W.cell? ⟨w.heap.size, 0, none⟩ = some (.int .i64 a.x) ∧ W.cell? ⟨w.heap.size, 1, none⟩ = some (.int .i64 a.y) ∧
    W.cell? ⟨w.heap.size + 1, 0, none⟩ = some (.int .i64 b.x) ∧ W.cell? ⟨w.heap.size + 1, 1, none⟩ = some (.int .i64 b.y) ∧
    W.cell? ⟨w.heap.size + 1 + 1, 0, none⟩ = some (.int .i64 c.x) ∧ W.cell? ⟨w.heap.size + 1 + 1, 1, none⟩ = some (.int .i64 c.y) := by
  rintro W rfl
  unfold bx
  refine ⟨?_, ?_, ?_, ?_, ?_, ?_⟩ <;> simp [go_sem]
theorem three_cells4 (a b c : Pl) (o : Obj) (w : World) (T : TypeId) : ∀ W, ((((w.alloc (bx a T)).alloc (bx b T)).alloc (bx c T)).alloc o) = W →
    W.cell? ⟨w.heap.size, 0, none⟩ = some (.int .i64 a.x) ∧ W.cell? ⟨w.heap.size, 1, none⟩ = some (.int .i64 a.y) ∧
    W.cell? ⟨w.heap.size + 1, 0, none⟩ = some (.int .i64 b.x) ∧ W.cell? ⟨w.heap.size + 1, 1, none⟩ = some (.int .i64 b.y) ∧
    W.cell? ⟨w.heap.size + 1 + 1, 0, none⟩ = some (.int .i64 c.x) ∧ W.cell? ⟨w.heap.size + 1 + 1, 1, none⟩ = some (.int .i64 c.y) := by
  rintro W rfl
  obtain ⟨k1, k2, k3, k4, k5, k6⟩ := three_cells3 a b c w T _ rfl
  have G := (Grows.refl (((w.alloc (bx a T)).alloc (bx b T)).alloc (bx c T))).new o
  exact ⟨G.keeps k1, G.keeps k2, G.keeps k3, G.keeps k4, G.keeps k5, G.keeps k6⟩
theorem k_cases {k : Int} (h0 : 0 ≤ k) (h5 : k < 5) : k = 0 ∨ k = 1 ∨ k = 2 ∨ k = 3 ∨ k = 4 := by omega
set_option maxRecDepth 20000 in
set_option maxHeartbeats 4000000 in
theorem tuName (k : Int) (w : World) : Calls Try.prog 14 #[.int .i64 k] w fun e w' => e = .returned (nameV k) ∧ Grows w w' := by
  by_cases h : 0 ≤ k ∧ k < 5
  · obtain ⟨h0, h5⟩ := h
    rcases k_cases h0 h5 with rfl | rfl | rfl | rfl | rfl
    all_goals
      clear h0 h5
      go_enter Try.func14, Try.ntmps14
      go_wp2
      go_ret
      exact ⟨rfl, (by repeat (first | exact Grows.refl _ | refine Grows.now ?_ _ | refine Grows.new ?_ _ | refine Grows.drewN ?_ _ | refine Grows.drew ?_ | assumption | (refine Grows.set ?_ (by first | omega | (simp; done) | (simp; omega)) _)))⟩
  · have HW := hide (name_other h)
    by_cases h0 : k < 0
    · skip
      go_enter Try.func14, Try.ntmps14
      go_wp2
      all_goals first | (exfalso; omega) | skip
      all_goals go_ret
      all_goals exact ⟨by rw [HW.out]; rfl, (by repeat (first | exact Grows.refl _ | refine Grows.now ?_ _ | refine Grows.new ?_ _ | refine Grows.drewN ?_ _ | refine Grows.drew ?_ | assumption | (refine Grows.set ?_ (by first | omega | (simp; done) | (simp; omega)) _)))⟩
    · skip
      go_enter Try.func14, Try.ntmps14
      go_wp2
      all_goals first | (exfalso; omega) | skip
      all_goals go_ret
      all_goals exact ⟨by rw [HW.out]; rfl, (by repeat (first | exact Grows.refl _ | refine Grows.now ?_ _ | refine Grows.new ?_ _ | refine Grows.drewN ?_ _ | refine Grows.drew ?_ | assumption | (refine Grows.set ?_ (by first | omega | (simp; done) | (simp; omega)) _)))⟩
set_option maxHeartbeats 1000000 in
theorem alive10 (w : World) : Calls Try.prog 15 #[] w fun e w' => e = .returned (.bool true) ∧ Grows w w' := by
  have C1 := fun W => tuOf ⟨0, 0⟩ ⟨1, 0⟩ ⟨1, 1⟩ W
  rw [show turnI ⟨0, 0⟩ ⟨1, 0⟩ ⟨1, 1⟩ = 1 by decide +kernel] at C1
  have C2 := fun W => tuName 1 W
  rw [show nameV 1 = .string { data := #[108, 101, 102, 116] } by rfl] at C2
  unfold pVal at C1
  have H1 := hide C1
  have H2 := hide C2
  clear C1 C2
  go_enter Try.func15, Try.ntmps15
  go_wp2_with (first | (go_at_call 12; refine (H1.out _).mono ?_; rintro e w' ⟨rfl, hg⟩; (first | obtain ⟨x, rfl⟩ := Grows.later2 hg | obtain ⟨x, rfl⟩ := Grows.later hg); clear hg) | (go_at_call 14; refine (H2.out _).mono ?_; rintro e w' ⟨rfl, hg⟩; (first | obtain ⟨x, rfl⟩ := Grows.later2 hg | obtain ⟨x, rfl⟩ := Grows.later hg); clear hg))
  go_ret
  exact ⟨rfl, (by repeat (first | exact Grows.refl _ | refine Grows.now ?_ _ | refine Grows.new ?_ _ | refine Grows.drewN ?_ _ | refine Grows.drew ?_ | assumption | (refine Grows.set ?_ (by first | omega | (simp; done) | (simp; omega)) _)))⟩
set_option maxRecDepth 20000 in
set_option maxHeartbeats 8000000 in
theorem turnTellsW (a0 a1 b0 b1 c0 c1 k : Int) (w : World) (_ : I64 a0) (_ : I64 a1) (_ : I64 b0) (_ : I64 b1) (_ : I64 c0) (_ : I64 c1) (_ : I64 k) : Calls Try.prog 3 #[.agg #[.int .i64 a0, .int .i64 a1], .agg #[.int .i64 b0, .int .i64 b1], .agg #[.int .i64 c0, .int .i64 c1], .int .i64 k] w fun e w' => e = .returned (.bool true) ∧ Grows w w' := by
  have C1 := fun W => tuOf ⟨a0, a1⟩ ⟨b0, b1⟩ ⟨c0, c1⟩ W
  have C2 := fun W => r10Of ⟨a0, a1⟩ ⟨b0, b1⟩ ⟨c0, c1⟩ W
  have C3 := fun W => tuName k W
  unfold pVal at C1 C2
  generalize turnI ⟨a0, a1⟩ ⟨b0, b1⟩ ⟨c0, c1⟩ = T at *
  have H1 := hide C1
  have H2 := hide C2
  clear C1 C2
  by_cases h : 0 ≤ k ∧ k < 5
  · obtain ⟨h0, h5⟩ := h
    rcases k_cases h0 h5 with rfl | rfl | rfl | rfl | rfl
    · rw [show nameV 0 = .string { data := #[115, 116, 114, 97, 105, 103, 104, 116] } by rfl] at C3
      have H3 := hide C3
      clear C3 h0 h5
      obtain ⟨k1, k2, k3, k4, k5, k6⟩ := three_cells4 ⟨a0, a1⟩ ⟨b0, b1⟩ ⟨c0, c1⟩ (.cells #[.string { data := #[115, 116, 114, 97, 105, 103, 104, 116] }, .string { data := #[108, 101, 102, 116] }, .string { data := #[114, 105, 103, 104, 116] }, .string { data := #[98, 97, 99, 107] }, .string { data := #[115, 116, 105, 108, 108] }] 9) w 23 _ rfl
      unfold bx at k1 k2 k3 k4 k5 k6
      go_enter Try.func3, Try.ntmps3
      go_wp2_with fail
      ((first | refine wp_region_gen2 (by kernel_rfl) (by kernel_rfl) ?_ | refine wp_region_gen (by kernel_rfl) (by kernel_rfl) ?_); (repeat' (first | (refine gLex_val0 rfl (by kernel_rfl) (fun K hK => ?_); (go_simp; (try (simp only [↓IntWalk.iteOmega]; try go_simp)); (try simp (disch := omega) only [IntWalk.i64_in]); (try simp (disch := omega) only [IntWalk.u64_in]); first | (refine hK _ ?_; clear hK K) | (apply Exists.intro; refine ⟨fun x => ?_, hK _ ?_⟩; (first | (go_at_call 12; exact H1.out _) | (go_at_call 13; exact H2.out _) | (go_at_call 14; exact H3.out _) | (go_at_call 15; exact alive10 _)); clear hK K))) | (refine gLex_undef rfl rfl rfl (by kernel_rfl) (fun K hK => ?_); go_simp; refine hK _ ?_; clear hK K) | (refine gLex_ask rfl rfl rfl ?_; first | (apply gAsk_yes; kernel_rfl; intro K hK; (go_simp; (try (simp only [↓IntWalk.iteOmega]; try go_simp)); (try simp (disch := omega) only [IntWalk.i64_in]); (try simp (disch := omega) only [IntWalk.u64_in]); first | (refine hK _ ?_; clear hK K) | (apply Exists.intro; refine ⟨fun x => ?_, hK _ ?_⟩; (first | (go_at_call 12; exact H1.out _) | (go_at_call 13; exact H2.out _) | (go_at_call 14; exact H3.out _) | (go_at_call 15; exact alive10 _)); clear hK K))) | ((first | apply gAsk_no1 | apply gAsk_no2); kernel_rfl; intro K hK; simp [go_sem]; refine hK _ ?_; clear hK K) | (apply gAsk_part; kernel_rfl; all_goals (intro h K hK; (try simp only [Bool.not_true] at h); (try simp only [Bool.not_false] at h); (try simp only [decide_eq_true_eq] at h); (try simp only [decide_eq_false_iff_not] at h); first | (exfalso; first | contradiction | omega) | (go_simp; (try (simp only [↓IntWalk.iteOmega]; try go_simp)); (try simp (disch := omega) only [IntWalk.i64_in]); (try simp (disch := omega) only [IntWalk.u64_in]); first | (refine hK _ ?_; clear hK K) | (apply Exists.intro; refine ⟨fun x => ?_, hK _ ?_⟩; (first | (go_at_call 12; exact H1.out _) | (go_at_call 13; exact H2.out _) | (go_at_call 14; exact H3.out _) | (go_at_call 15; exact alive10 _)); clear hK K))))))); all_goals ((apply gLex_end); intro x))
      go_wp2
      go_ret
      exact ⟨rfl, (by repeat (first | exact Grows.refl _ | refine Grows.now ?_ _ | refine Grows.new ?_ _ | refine Grows.drewN ?_ _ | refine Grows.drew ?_ | assumption | (refine Grows.set ?_ (by first | omega | (simp; done) | (simp; omega)) _)))⟩
    · rw [show nameV 1 = .string { data := #[108, 101, 102, 116] } by rfl] at C3
      have H3 := hide C3
      clear C3 h0 h5
      obtain ⟨k1, k2, k3, k4, k5, k6⟩ := three_cells4 ⟨a0, a1⟩ ⟨b0, b1⟩ ⟨c0, c1⟩ (.cells #[.string { data := #[115, 116, 114, 97, 105, 103, 104, 116] }, .string { data := #[108, 101, 102, 116] }, .string { data := #[114, 105, 103, 104, 116] }, .string { data := #[98, 97, 99, 107] }, .string { data := #[115, 116, 105, 108, 108] }] 9) w 23 _ rfl
      unfold bx at k1 k2 k3 k4 k5 k6
      go_enter Try.func3, Try.ntmps3
      go_wp2_with fail
      ((first | refine wp_region_gen2 (by kernel_rfl) (by kernel_rfl) ?_ | refine wp_region_gen (by kernel_rfl) (by kernel_rfl) ?_); (repeat' (first | (refine gLex_val0 rfl (by kernel_rfl) (fun K hK => ?_); (go_simp; (try (simp only [↓IntWalk.iteOmega]; try go_simp)); (try simp (disch := omega) only [IntWalk.i64_in]); (try simp (disch := omega) only [IntWalk.u64_in]); first | (refine hK _ ?_; clear hK K) | (apply Exists.intro; refine ⟨fun x => ?_, hK _ ?_⟩; (first | (go_at_call 12; exact H1.out _) | (go_at_call 13; exact H2.out _) | (go_at_call 14; exact H3.out _) | (go_at_call 15; exact alive10 _)); clear hK K))) | (refine gLex_undef rfl rfl rfl (by kernel_rfl) (fun K hK => ?_); go_simp; refine hK _ ?_; clear hK K) | (refine gLex_ask rfl rfl rfl ?_; first | (apply gAsk_yes; kernel_rfl; intro K hK; (go_simp; (try (simp only [↓IntWalk.iteOmega]; try go_simp)); (try simp (disch := omega) only [IntWalk.i64_in]); (try simp (disch := omega) only [IntWalk.u64_in]); first | (refine hK _ ?_; clear hK K) | (apply Exists.intro; refine ⟨fun x => ?_, hK _ ?_⟩; (first | (go_at_call 12; exact H1.out _) | (go_at_call 13; exact H2.out _) | (go_at_call 14; exact H3.out _) | (go_at_call 15; exact alive10 _)); clear hK K))) | ((first | apply gAsk_no1 | apply gAsk_no2); kernel_rfl; intro K hK; simp [go_sem]; refine hK _ ?_; clear hK K) | (apply gAsk_part; kernel_rfl; all_goals (intro h K hK; (try simp only [Bool.not_true] at h); (try simp only [Bool.not_false] at h); (try simp only [decide_eq_true_eq] at h); (try simp only [decide_eq_false_iff_not] at h); first | (exfalso; first | contradiction | omega) | (go_simp; (try (simp only [↓IntWalk.iteOmega]; try go_simp)); (try simp (disch := omega) only [IntWalk.i64_in]); (try simp (disch := omega) only [IntWalk.u64_in]); first | (refine hK _ ?_; clear hK K) | (apply Exists.intro; refine ⟨fun x => ?_, hK _ ?_⟩; (first | (go_at_call 12; exact H1.out _) | (go_at_call 13; exact H2.out _) | (go_at_call 14; exact H3.out _) | (go_at_call 15; exact alive10 _)); clear hK K))))))); all_goals ((apply gLex_end); intro x))
      go_wp2
      go_ret
      exact ⟨rfl, (by repeat (first | exact Grows.refl _ | refine Grows.now ?_ _ | refine Grows.new ?_ _ | refine Grows.drewN ?_ _ | refine Grows.drew ?_ | assumption | (refine Grows.set ?_ (by first | omega | (simp; done) | (simp; omega)) _)))⟩
    · rw [show nameV 2 = .string { data := #[114, 105, 103, 104, 116] } by rfl] at C3
      have H3 := hide C3
      clear C3 h0 h5
      obtain ⟨k1, k2, k3, k4, k5, k6⟩ := three_cells4 ⟨a0, a1⟩ ⟨b0, b1⟩ ⟨c0, c1⟩ (.cells #[.string { data := #[115, 116, 114, 97, 105, 103, 104, 116] }, .string { data := #[108, 101, 102, 116] }, .string { data := #[114, 105, 103, 104, 116] }, .string { data := #[98, 97, 99, 107] }, .string { data := #[115, 116, 105, 108, 108] }] 9) w 23 _ rfl
      unfold bx at k1 k2 k3 k4 k5 k6
      go_enter Try.func3, Try.ntmps3
      go_wp2_with fail
      ((first | refine wp_region_gen2 (by kernel_rfl) (by kernel_rfl) ?_ | refine wp_region_gen (by kernel_rfl) (by kernel_rfl) ?_); (repeat' (first | (refine gLex_val0 rfl (by kernel_rfl) (fun K hK => ?_); (go_simp; (try (simp only [↓IntWalk.iteOmega]; try go_simp)); (try simp (disch := omega) only [IntWalk.i64_in]); (try simp (disch := omega) only [IntWalk.u64_in]); first | (refine hK _ ?_; clear hK K) | (apply Exists.intro; refine ⟨fun x => ?_, hK _ ?_⟩; (first | (go_at_call 12; exact H1.out _) | (go_at_call 13; exact H2.out _) | (go_at_call 14; exact H3.out _) | (go_at_call 15; exact alive10 _)); clear hK K))) | (refine gLex_undef rfl rfl rfl (by kernel_rfl) (fun K hK => ?_); go_simp; refine hK _ ?_; clear hK K) | (refine gLex_ask rfl rfl rfl ?_; first | (apply gAsk_yes; kernel_rfl; intro K hK; (go_simp; (try (simp only [↓IntWalk.iteOmega]; try go_simp)); (try simp (disch := omega) only [IntWalk.i64_in]); (try simp (disch := omega) only [IntWalk.u64_in]); first | (refine hK _ ?_; clear hK K) | (apply Exists.intro; refine ⟨fun x => ?_, hK _ ?_⟩; (first | (go_at_call 12; exact H1.out _) | (go_at_call 13; exact H2.out _) | (go_at_call 14; exact H3.out _) | (go_at_call 15; exact alive10 _)); clear hK K))) | ((first | apply gAsk_no1 | apply gAsk_no2); kernel_rfl; intro K hK; simp [go_sem]; refine hK _ ?_; clear hK K) | (apply gAsk_part; kernel_rfl; all_goals (intro h K hK; (try simp only [Bool.not_true] at h); (try simp only [Bool.not_false] at h); (try simp only [decide_eq_true_eq] at h); (try simp only [decide_eq_false_iff_not] at h); first | (exfalso; first | contradiction | omega) | (go_simp; (try (simp only [↓IntWalk.iteOmega]; try go_simp)); (try simp (disch := omega) only [IntWalk.i64_in]); (try simp (disch := omega) only [IntWalk.u64_in]); first | (refine hK _ ?_; clear hK K) | (apply Exists.intro; refine ⟨fun x => ?_, hK _ ?_⟩; (first | (go_at_call 12; exact H1.out _) | (go_at_call 13; exact H2.out _) | (go_at_call 14; exact H3.out _) | (go_at_call 15; exact alive10 _)); clear hK K))))))); all_goals ((apply gLex_end); intro x))
      go_wp2
      go_ret
      exact ⟨rfl, (by repeat (first | exact Grows.refl _ | refine Grows.now ?_ _ | refine Grows.new ?_ _ | refine Grows.drewN ?_ _ | refine Grows.drew ?_ | assumption | (refine Grows.set ?_ (by first | omega | (simp; done) | (simp; omega)) _)))⟩
    · rw [show nameV 3 = .string { data := #[98, 97, 99, 107] } by rfl] at C3
      have H3 := hide C3
      clear C3 h0 h5
      obtain ⟨k1, k2, k3, k4, k5, k6⟩ := three_cells4 ⟨a0, a1⟩ ⟨b0, b1⟩ ⟨c0, c1⟩ (.cells #[.string { data := #[115, 116, 114, 97, 105, 103, 104, 116] }, .string { data := #[108, 101, 102, 116] }, .string { data := #[114, 105, 103, 104, 116] }, .string { data := #[98, 97, 99, 107] }, .string { data := #[115, 116, 105, 108, 108] }] 9) w 23 _ rfl
      unfold bx at k1 k2 k3 k4 k5 k6
      go_enter Try.func3, Try.ntmps3
      go_wp2_with fail
      ((first | refine wp_region_gen2 (by kernel_rfl) (by kernel_rfl) ?_ | refine wp_region_gen (by kernel_rfl) (by kernel_rfl) ?_); (repeat' (first | (refine gLex_val0 rfl (by kernel_rfl) (fun K hK => ?_); (go_simp; (try (simp only [↓IntWalk.iteOmega]; try go_simp)); (try simp (disch := omega) only [IntWalk.i64_in]); (try simp (disch := omega) only [IntWalk.u64_in]); first | (refine hK _ ?_; clear hK K) | (apply Exists.intro; refine ⟨fun x => ?_, hK _ ?_⟩; (first | (go_at_call 12; exact H1.out _) | (go_at_call 13; exact H2.out _) | (go_at_call 14; exact H3.out _) | (go_at_call 15; exact alive10 _)); clear hK K))) | (refine gLex_undef rfl rfl rfl (by kernel_rfl) (fun K hK => ?_); go_simp; refine hK _ ?_; clear hK K) | (refine gLex_ask rfl rfl rfl ?_; first | (apply gAsk_yes; kernel_rfl; intro K hK; (go_simp; (try (simp only [↓IntWalk.iteOmega]; try go_simp)); (try simp (disch := omega) only [IntWalk.i64_in]); (try simp (disch := omega) only [IntWalk.u64_in]); first | (refine hK _ ?_; clear hK K) | (apply Exists.intro; refine ⟨fun x => ?_, hK _ ?_⟩; (first | (go_at_call 12; exact H1.out _) | (go_at_call 13; exact H2.out _) | (go_at_call 14; exact H3.out _) | (go_at_call 15; exact alive10 _)); clear hK K))) | ((first | apply gAsk_no1 | apply gAsk_no2); kernel_rfl; intro K hK; simp [go_sem]; refine hK _ ?_; clear hK K) | (apply gAsk_part; kernel_rfl; all_goals (intro h K hK; (try simp only [Bool.not_true] at h); (try simp only [Bool.not_false] at h); (try simp only [decide_eq_true_eq] at h); (try simp only [decide_eq_false_iff_not] at h); first | (exfalso; first | contradiction | omega) | (go_simp; (try (simp only [↓IntWalk.iteOmega]; try go_simp)); (try simp (disch := omega) only [IntWalk.i64_in]); (try simp (disch := omega) only [IntWalk.u64_in]); first | (refine hK _ ?_; clear hK K) | (apply Exists.intro; refine ⟨fun x => ?_, hK _ ?_⟩; (first | (go_at_call 12; exact H1.out _) | (go_at_call 13; exact H2.out _) | (go_at_call 14; exact H3.out _) | (go_at_call 15; exact alive10 _)); clear hK K))))))); all_goals ((apply gLex_end); intro x))
      go_wp2
      go_ret
      exact ⟨rfl, (by repeat (first | exact Grows.refl _ | refine Grows.now ?_ _ | refine Grows.new ?_ _ | refine Grows.drewN ?_ _ | refine Grows.drew ?_ | assumption | (refine Grows.set ?_ (by first | omega | (simp; done) | (simp; omega)) _)))⟩
    · rw [show nameV 4 = .string { data := #[115, 116, 105, 108, 108] } by rfl] at C3
      have H3 := hide C3
      clear C3 h0 h5
      obtain ⟨k1, k2, k3, k4, k5, k6⟩ := three_cells4 ⟨a0, a1⟩ ⟨b0, b1⟩ ⟨c0, c1⟩ (.cells #[.string { data := #[115, 116, 114, 97, 105, 103, 104, 116] }, .string { data := #[108, 101, 102, 116] }, .string { data := #[114, 105, 103, 104, 116] }, .string { data := #[98, 97, 99, 107] }, .string { data := #[115, 116, 105, 108, 108] }] 9) w 23 _ rfl
      unfold bx at k1 k2 k3 k4 k5 k6
      go_enter Try.func3, Try.ntmps3
      go_wp2_with fail
      ((first | refine wp_region_gen2 (by kernel_rfl) (by kernel_rfl) ?_ | refine wp_region_gen (by kernel_rfl) (by kernel_rfl) ?_); (repeat' (first | (refine gLex_val0 rfl (by kernel_rfl) (fun K hK => ?_); (go_simp; (try (simp only [↓IntWalk.iteOmega]; try go_simp)); (try simp (disch := omega) only [IntWalk.i64_in]); (try simp (disch := omega) only [IntWalk.u64_in]); first | (refine hK _ ?_; clear hK K) | (apply Exists.intro; refine ⟨fun x => ?_, hK _ ?_⟩; (first | (go_at_call 12; exact H1.out _) | (go_at_call 13; exact H2.out _) | (go_at_call 14; exact H3.out _) | (go_at_call 15; exact alive10 _)); clear hK K))) | (refine gLex_undef rfl rfl rfl (by kernel_rfl) (fun K hK => ?_); go_simp; refine hK _ ?_; clear hK K) | (refine gLex_ask rfl rfl rfl ?_; first | (apply gAsk_yes; kernel_rfl; intro K hK; (go_simp; (try (simp only [↓IntWalk.iteOmega]; try go_simp)); (try simp (disch := omega) only [IntWalk.i64_in]); (try simp (disch := omega) only [IntWalk.u64_in]); first | (refine hK _ ?_; clear hK K) | (apply Exists.intro; refine ⟨fun x => ?_, hK _ ?_⟩; (first | (go_at_call 12; exact H1.out _) | (go_at_call 13; exact H2.out _) | (go_at_call 14; exact H3.out _) | (go_at_call 15; exact alive10 _)); clear hK K))) | ((first | apply gAsk_no1 | apply gAsk_no2); kernel_rfl; intro K hK; simp [go_sem]; refine hK _ ?_; clear hK K) | (apply gAsk_part; kernel_rfl; all_goals (intro h K hK; (try simp only [Bool.not_true] at h); (try simp only [Bool.not_false] at h); (try simp only [decide_eq_true_eq] at h); (try simp only [decide_eq_false_iff_not] at h); first | (exfalso; first | contradiction | omega) | (go_simp; (try (simp only [↓IntWalk.iteOmega]; try go_simp)); (try simp (disch := omega) only [IntWalk.i64_in]); (try simp (disch := omega) only [IntWalk.u64_in]); first | (refine hK _ ?_; clear hK K) | (apply Exists.intro; refine ⟨fun x => ?_, hK _ ?_⟩; (first | (go_at_call 12; exact H1.out _) | (go_at_call 13; exact H2.out _) | (go_at_call 14; exact H3.out _) | (go_at_call 15; exact alive10 _)); clear hK K))))))); all_goals ((apply gLex_end); intro x))
      go_wp2
      go_ret
      exact ⟨rfl, (by repeat (first | exact Grows.refl _ | refine Grows.now ?_ _ | refine Grows.new ?_ _ | refine Grows.drewN ?_ _ | refine Grows.drew ?_ | assumption | (refine Grows.set ?_ (by first | omega | (simp; done) | (simp; omega)) _)))⟩
  · rw [name_other h] at C3
    have H3 := hide C3
    clear C3
    obtain ⟨k1, k2, k3, k4, k5, k6⟩ := three_cells3 ⟨a0, a1⟩ ⟨b0, b1⟩ ⟨c0, c1⟩ w 23 _ rfl
    unfold bx at k1 k2 k3 k4 k5 k6
    by_cases h0 : k < 0
    · skip
      go_enter Try.func3, Try.ntmps3
      go_wp2_with fail
      all_goals first | (exfalso; omega) | skip
      ((first | refine wp_region_gen2 (by kernel_rfl) (by kernel_rfl) ?_ | refine wp_region_gen (by kernel_rfl) (by kernel_rfl) ?_); (repeat' (first | (refine gLex_val0 rfl (by kernel_rfl) (fun K hK => ?_); (go_simp; (try (simp only [↓IntWalk.iteOmega]; try go_simp)); (try simp (disch := omega) only [IntWalk.i64_in]); (try simp (disch := omega) only [IntWalk.u64_in]); first | (refine hK _ ?_; clear hK K) | (apply Exists.intro; refine ⟨fun x => ?_, hK _ ?_⟩; (first | (go_at_call 12; exact H1.out _) | (go_at_call 13; exact H2.out _) | (go_at_call 14; exact H3.out _) | (go_at_call 15; exact alive10 _)); clear hK K))) | (refine gLex_undef rfl rfl rfl (by kernel_rfl) (fun K hK => ?_); go_simp; refine hK _ ?_; clear hK K) | (refine gLex_ask rfl rfl rfl ?_; first | (apply gAsk_yes; kernel_rfl; intro K hK; (go_simp; (try (simp only [↓IntWalk.iteOmega]; try go_simp)); (try simp (disch := omega) only [IntWalk.i64_in]); (try simp (disch := omega) only [IntWalk.u64_in]); first | (refine hK _ ?_; clear hK K) | (apply Exists.intro; refine ⟨fun x => ?_, hK _ ?_⟩; (first | (go_at_call 12; exact H1.out _) | (go_at_call 13; exact H2.out _) | (go_at_call 14; exact H3.out _) | (go_at_call 15; exact alive10 _)); clear hK K))) | ((first | apply gAsk_no1 | apply gAsk_no2); kernel_rfl; intro K hK; simp [go_sem]; refine hK _ ?_; clear hK K) | (apply gAsk_part; kernel_rfl; all_goals (intro h K hK; (try simp only [Bool.not_true] at h); (try simp only [Bool.not_false] at h); (try simp only [decide_eq_true_eq] at h); (try simp only [decide_eq_false_iff_not] at h); first | (exfalso; first | contradiction | omega) | (go_simp; (try (simp only [↓IntWalk.iteOmega]; try go_simp)); (try simp (disch := omega) only [IntWalk.i64_in]); (try simp (disch := omega) only [IntWalk.u64_in]); first | (refine hK _ ?_; clear hK K) | (apply Exists.intro; refine ⟨fun x => ?_, hK _ ?_⟩; (first | (go_at_call 12; exact H1.out _) | (go_at_call 13; exact H2.out _) | (go_at_call 14; exact H3.out _) | (go_at_call 15; exact alive10 _)); clear hK K))))))); all_goals ((apply gLex_end); intro x))
      go_wp2
      go_ret
      exact ⟨rfl, (by repeat (first | exact Grows.refl _ | refine Grows.now ?_ _ | refine Grows.new ?_ _ | refine Grows.drewN ?_ _ | refine Grows.drew ?_ | assumption | (refine Grows.set ?_ (by first | omega | (simp; done) | (simp; omega)) _)))⟩
    · skip
      go_enter Try.func3, Try.ntmps3
      go_wp2_with fail
      all_goals first | (exfalso; omega) | skip
      ((first | refine wp_region_gen2 (by kernel_rfl) (by kernel_rfl) ?_ | refine wp_region_gen (by kernel_rfl) (by kernel_rfl) ?_); (repeat' (first | (refine gLex_val0 rfl (by kernel_rfl) (fun K hK => ?_); (go_simp; (try (simp only [↓IntWalk.iteOmega]; try go_simp)); (try simp (disch := omega) only [IntWalk.i64_in]); (try simp (disch := omega) only [IntWalk.u64_in]); first | (refine hK _ ?_; clear hK K) | (apply Exists.intro; refine ⟨fun x => ?_, hK _ ?_⟩; (first | (go_at_call 12; exact H1.out _) | (go_at_call 13; exact H2.out _) | (go_at_call 14; exact H3.out _) | (go_at_call 15; exact alive10 _)); clear hK K))) | (refine gLex_undef rfl rfl rfl (by kernel_rfl) (fun K hK => ?_); go_simp; refine hK _ ?_; clear hK K) | (refine gLex_ask rfl rfl rfl ?_; first | (apply gAsk_yes; kernel_rfl; intro K hK; (go_simp; (try (simp only [↓IntWalk.iteOmega]; try go_simp)); (try simp (disch := omega) only [IntWalk.i64_in]); (try simp (disch := omega) only [IntWalk.u64_in]); first | (refine hK _ ?_; clear hK K) | (apply Exists.intro; refine ⟨fun x => ?_, hK _ ?_⟩; (first | (go_at_call 12; exact H1.out _) | (go_at_call 13; exact H2.out _) | (go_at_call 14; exact H3.out _) | (go_at_call 15; exact alive10 _)); clear hK K))) | ((first | apply gAsk_no1 | apply gAsk_no2); kernel_rfl; intro K hK; simp [go_sem]; refine hK _ ?_; clear hK K) | (apply gAsk_part; kernel_rfl; all_goals (intro h K hK; (try simp only [Bool.not_true] at h); (try simp only [Bool.not_false] at h); (try simp only [decide_eq_true_eq] at h); (try simp only [decide_eq_false_iff_not] at h); first | (exfalso; first | contradiction | omega) | (go_simp; (try (simp only [↓IntWalk.iteOmega]; try go_simp)); (try simp (disch := omega) only [IntWalk.i64_in]); (try simp (disch := omega) only [IntWalk.u64_in]); first | (refine hK _ ?_; clear hK K) | (apply Exists.intro; refine ⟨fun x => ?_, hK _ ?_⟩; (first | (go_at_call 12; exact H1.out _) | (go_at_call 13; exact H2.out _) | (go_at_call 14; exact H3.out _) | (go_at_call 15; exact alive10 _)); clear hK K))))))); all_goals ((apply gLex_end); intro x))
      go_wp2
      go_ret
      exact ⟨rfl, (by repeat (first | exact Grows.refl _ | refine Grows.now ?_ _ | refine Grows.new ?_ _ | refine Grows.drewN ?_ _ | refine Grows.drew ?_ | assumption | (refine Grows.set ?_ (by first | omega | (simp; done) | (simp; omega)) _)))⟩
end Go.Proofs.Ytaoodmioehkebaa
