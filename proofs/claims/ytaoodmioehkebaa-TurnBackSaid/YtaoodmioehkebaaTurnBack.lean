/- Walk: what turns left turns right on the way back; rings gone round the other way. -/
import Derived.Test.YtaoodmioehkebaaArea
import Derived.Test.YtaoodmioehkebaaTurnTells
namespace Go.Proofs.Ytaoodmioehkebaa
open Go Go.RowKit
theorem cross_back (a b c : Pl) : crossI c b a = -crossI a b c := by
  unfold crossI
  have e1 : (a.y - b.y) * (b.x - c.x) = (c.x - b.x) * (b.y - a.y) := by
    rw [show a.y - b.y = -(b.y - a.y) by omega, show b.x - c.x = -(c.x - b.x) by omega, Int.neg_mul_neg, Int.mul_comm]
  have e2 : (a.x - b.x) * (b.y - c.y) = (c.y - b.y) * (b.x - a.x) := by
    rw [show a.x - b.x = -(b.x - a.x) by omega, show b.y - c.y = -(c.y - b.y) by omega, Int.neg_mul_neg, Int.mul_comm]
  rw [e1, e2]; omega
theorem dot_back (a b c : Pl) : dotI c b a = dotI a b c := by
  unfold dotI
  have e1 : (a.x - b.x) * (b.x - c.x) = (c.x - b.x) * (b.x - a.x) := by
    rw [show a.x - b.x = -(b.x - a.x) by omega, show b.x - c.x = -(c.x - b.x) by omega, Int.neg_mul_neg, Int.mul_comm]
  have e2 : (a.y - b.y) * (b.y - c.y) = (c.y - b.y) * (b.y - a.y) := by
    rw [show a.y - b.y = -(b.y - a.y) by omega, show b.y - c.y = -(c.y - b.y) by omega, Int.neg_mul_neg, Int.mul_comm]
  rw [e1, e2]
theorem rot1_cross (a b c : Pl) : crossI ⟨-a.y, a.x⟩ ⟨-b.y, b.x⟩ ⟨-c.y, c.x⟩ = crossI a b c := by
  unfold crossI
  simp only
  have e1 : (c.x - b.x) * (-b.y - -a.y) = -((c.x - b.x) * (b.y - a.y)) := by rw [show -b.y - -a.y = -(b.y - a.y) by omega, Int.mul_neg]
  have e2 : (-c.y - -b.y) * (b.x - a.x) = -((c.y - b.y) * (b.x - a.x)) := by rw [show -c.y - -b.y = -(c.y - b.y) by omega, Int.neg_mul]
  rw [e1, e2]; omega
theorem rot1_dot (a b c : Pl) : dotI ⟨-a.y, a.x⟩ ⟨-b.y, b.x⟩ ⟨-c.y, c.x⟩ = dotI a b c := by
  unfold dotI
  simp only
  have e1 : (-c.y - -b.y) * (-b.y - -a.y) = (c.y - b.y) * (b.y - a.y) := by rw [show -c.y - -b.y = -(c.y - b.y) by omega, show -b.y - -a.y = -(b.y - a.y) by omega, Int.neg_mul_neg]
  rw [e1]; omega
theorem rot_cross (a b c : Pl) (k : Nat) : crossI (rotP a k) (rotP b k) (rotP c k) = crossI a b c ∧ dotI (rotP a k) (rotP b k) (rotP c k) = dotI a b c := by
  induction k with
  | zero => exact ⟨rfl, rfl⟩
  | succ k ih => simp only [rotP, rot1_cross, rot1_dot]; exact ih
theorem turn_rot {a b c : Pl} (h1 : okP a = true) (h2 : okP b = true) (h3 : okP c = true) (q : Int) : turnI (turnedP a q) (turnedP b q) (turnedP c q) = turnI a b c := by
  rw [turned_ok h1, turned_ok h2, turned_ok h3]
  unfold turnI
  have := rot_cross a b c (q % 4).toNat
  rw [this.1, this.2]
  simp [rot_ok h1, rot_ok h2, rot_ok h3, h1, h2, h3]
theorem turned_13 {a : Pl} (h : okP a = true) : turnedP (turnedP a 1) 3 = a := by
  rw [turned_ok h, turned_ok (rot_ok h _)]
  obtain ⟨x, y⟩ := a
  show rotP (rotP ⟨x, y⟩ 1) 3 = _
  simp [rotP]
theorem area3 {a b c : Pl} (h1 : okP a = true) (h2 : okP b = true) (h3 : okP c = true) : areaI [a, b, c] = crossI a b c := by
  have : areaI [a, b, c] = arK [a, b, c] 3 := by unfold areaI; rw [if_neg (by simp [h1, h2, h3])]; exact rfl
  rw [this]
  have e0 : arK [a, b, c] 3 = 0 + crAt [a, b, c] 0 + crAt [a, b, c] 1 + crAt [a, b, c] 2 := rfl
  have f0 : crAt [a, b, c] 0 = crI a b := rfl
  have f1 : crAt [a, b, c] 1 = crI b c := rfl
  have f2 : crAt [a, b, c] 2 = crI c a := by simp [crAt, gp]
  rw [e0, f0, f1, f2]
  unfold crI crossI
  simp only [Int.sub_mul, Int.mul_sub]
  have e1 := Int.mul_comm a.x b.y
  have e2 := Int.mul_comm a.y b.x
  have e3 := Int.mul_comm b.x c.y
  have e4 := Int.mul_comm b.y c.x
  have e5 := Int.mul_comm b.x b.y
  have e6 := Int.mul_comm c.x a.y
  have e7 := Int.mul_comm c.y a.x
  omega
theorem back_cases {a b c : Pl} (h1 : okP a = true) (h2 : okP b = true) (h3 : okP c = true) : ∀ t u cr, turnI a b c = t → turnI c b a = u → crossI a b c = cr →
    (t = 1 ∧ u = 2 ∧ 0 < cr) ∨ (t = 2 ∧ u = 1 ∧ cr < 0) ∨ (t = 0 ∧ u = 0 ∧ cr = 0) ∨ (t = 3 ∧ u = 3 ∧ cr = 0) ∨ (t = 4 ∧ u = 4 ∧ cr = 0) := by
  rintro t u cr rfl rfl rfl
  have e1 : turnI a b c = signT (crossI a b c) (dotI a b c) := by unfold turnI; simp [h1, h2, h3]
  have e2 : turnI c b a = signT (-crossI a b c) (dotI a b c) := by unfold turnI; rw [cross_back, dot_back]; simp [h1, h2, h3]
  rw [e1, e2]
  unfold signT
  (repeat' split) <;> omega
theorem cross_bd {a b c : Pl} (h1 : okP a = true) (h2 : okP b = true) (h3 : okP c = true) : -9000000000000 ≤ crossI a b c ∧ crossI a b c ≤ 9000000000000 := by
  rw [okP_iff] at h1 h2 h3
  have bd : ∀ u v : Int, u.natAbs ≤ 2097152 → v.natAbs ≤ 2097152 → -4398046511104 ≤ u * v ∧ u * v ≤ 4398046511104 := fun u v hu hv => by
    have : (u * v).natAbs ≤ 4398046511104 := by rw [Int.natAbs_mul]; exact Nat.mul_le_mul hu hv
    omega
  have b1 := bd (c.y - b.y) (b.x - a.x) (by omega) (by omega)
  have b2 := bd (c.x - b.x) (b.y - a.y) (by omega) (by omega)
  unfold crossI
  omega
set_option maxRecDepth 20000 in
set_option maxHeartbeats 8000000 in
theorem turnBackW (a0 a1 b0 b1 c0 c1 q : Int) (w : World) (_ : I64 a0) (_ : I64 a1) (_ : I64 b0) (_ : I64 b1) (_ : I64 c0) (_ : I64 c1) (hq : I64 q) : Calls Try.prog 7 #[.agg #[.int .i64 a0, .int .i64 a1], .agg #[.int .i64 b0, .int .i64 b1], .agg #[.int .i64 c0, .int .i64 c1], .int .i64 q] w fun e w' => e = .returned (.bool true) ∧ Grows w w' := by
  obtain ⟨a, ha⟩ : ∃ a : Pl, a = ⟨a0, a1⟩ := ⟨_, rfl⟩
  obtain ⟨b, hb⟩ : ∃ a : Pl, a = ⟨b0, b1⟩ := ⟨_, rfl⟩
  obtain ⟨c, hc⟩ : ∃ a : Pl, a = ⟨c0, c1⟩ := ⟨_, rfl⟩
  obtain ⟨rfl, rfl⟩ : a.x = a0 ∧ a.y = a1 := by rw [ha]; exact ⟨rfl, rfl⟩
  obtain ⟨rfl, rfl⟩ : b.x = b0 ∧ b.y = b1 := by rw [hb]; exact ⟨rfl, rfl⟩
  obtain ⟨rfl, rfl⟩ : c.x = c0 ∧ c.y = c1 := by rw [hc]; exact ⟨rfl, rfl⟩
  clear ha hb hc
  have C0 := fun W T g (hg : W.heap.size = g) => r9Right _ 3 3 [a, b, c] _ (rd_three a b c W T g hg) (by omega)
  obtain ⟨k1, k2, k3, k4, k5, k6⟩ := three_cells3 a b c w 23 _ rfl
  unfold bx at k1 k2 k3 k4 k5 k6
  cases hr : [a, b, c].all okP with
  | false =>
    rw [hr] at C0
    have H0 := hide C0
    clear C0 hr
    go_enter Try.func7, Try.ntmps7
    go_wp2_with (first | (go_at_call 27; refine (H0.out _ _ _ (by simp [go_sem])).mono ?_; rintro e w' ⟨rfl, hg⟩; (first | obtain ⟨x, rfl⟩ := Grows.later2 hg | obtain ⟨x, rfl⟩ := Grows.later hg); clear hg) | (go_at_call 15; refine (alive10 _).mono ?_; rintro e w' ⟨rfl, hg⟩; (first | obtain ⟨x, rfl⟩ := Grows.later2 hg | obtain ⟨x, rfl⟩ := Grows.later hg); clear hg))
    go_ret
    exact ⟨rfl, (by repeat (first | exact Grows.refl _ | refine Grows.now ?_ _ | refine Grows.new ?_ _ | refine Grows.drewN ?_ _ | refine Grows.drew ?_ | assumption | (refine Grows.set ?_ (by first | omega | (simp; done) | (simp; omega)) _)))⟩
  | true =>
    obtain ⟨h1, h2, h3⟩ : okP a = true ∧ okP b = true ∧ okP c = true := by simpa using hr
    rw [hr] at C0
    have H0 := hide C0
    have C1 := fun W => tuOf a b c W
    have C2 := fun W => tuOf c b a W
    have C3 := fun W => tuTurned a q W hq
    have C4 := fun W => tuTurned b q W hq
    have C5 := fun W => tuTurned c q W hq
    have C6 := fun W => tuTurned a 1 W ⟨by omega, by omega⟩
    have C7 := fun W => tuTurned (turnedP a 1) 3 W ⟨by omega, by omega⟩
    have C8 := fun W => tuOf (turnedP a q) (turnedP b q) (turnedP c q) W
    have C9 := fun W T g (hg : W.heap.size = g) => tuArea _ 3 3 [a, b, c] _ (rd_three a b c W T g hg) (by omega)
    have C10 := fun W T g (hg : W.heap.size = g) => tuArea _ 3 3 [c, b, a] _ (rd_three c b a W T g hg) (by omega)
    rw [turned_13 h1] at C7
    rw [turn_rot h1 h2 h3] at C8
    rw [area3 h1 h2 h3] at C9
    rw [area3 h3 h2 h1, cross_back] at C10
    obtain ⟨bd1, bd2⟩ := cross_bd h1 h2 h3
    have hcs := back_cases h1 h2 h3 _ _ _ rfl rfl rfl
    unfold pVal at C1 C2 C3 C4 C5 C6 C7 C8
    generalize turnI a b c = t at *
    generalize turnI c b a = u at *
    generalize crossI a b c = cr at *
    generalize turnedP a q = aq at *
    generalize turnedP b q = bq at *
    generalize turnedP c q = cq at *
    generalize turnedP a 1 = a1 at *
    clear C0 hr h1 h2 h3 hq
    rcases hcs with ⟨rfl, rfl, hcr⟩ | ⟨rfl, rfl, hcr⟩ | ⟨rfl, rfl, rfl⟩ | ⟨rfl, rfl, rfl⟩ | ⟨rfl, rfl, rfl⟩
    all_goals
      have H1 := hide C1
      have H2 := hide C2
      have H3 := hide C3
      have H4 := hide C4
      have H5 := hide C5
      have H6 := hide C6
      have H7 := hide C7
      have H8 := hide C8
      have H9 := hide C9
      have H10 := hide C10
      clear C1 C2 C3 C4 C5 C6 C7 C8 C9 C10
      go_enter Try.func7, Try.ntmps7
      go_wp2_with (first | (go_at_call 27; refine (H0.out _ _ _ (by simp [go_sem])).mono ?_; rintro e w' ⟨rfl, hg⟩; (first | obtain ⟨x, rfl⟩ := Grows.later2 hg | obtain ⟨x, rfl⟩ := Grows.later hg); clear hg))
      ((first | refine wp_region_gen2 (by kernel_rfl) (by kernel_rfl) ?_ | refine wp_region_gen (by kernel_rfl) (by kernel_rfl) ?_); (repeat' (first | (refine gLex_val0 rfl (by kernel_rfl) (fun K hK => ?_); (go_simp; (try (simp only [↓IntWalk.iteOmega]; try go_simp)); (try simp (disch := omega) only [IntWalk.i64_in]); (try simp (disch := omega) only [IntWalk.u64_in]); first | (refine hK _ ?_; clear hK K) | (apply Exists.intro; refine ⟨fun x => ?_, hK _ ?_⟩; (first | (go_at_call 12; first | with_reducible exact H1.out _ | with_reducible exact H2.out _)); clear hK K))) | (refine gLex_undef rfl rfl rfl (by kernel_rfl) (fun K hK => ?_); go_simp; refine hK _ ?_; clear hK K) | (refine gLex_ask rfl rfl rfl ?_; first | (apply gAsk_yes; kernel_rfl; intro K hK; (go_simp; (try (simp only [↓IntWalk.iteOmega]; try go_simp)); (try simp (disch := omega) only [IntWalk.i64_in]); (try simp (disch := omega) only [IntWalk.u64_in]); first | (refine hK _ ?_; clear hK K) | (apply Exists.intro; refine ⟨fun x => ?_, hK _ ?_⟩; (first | (go_at_call 12; first | with_reducible exact H1.out _ | with_reducible exact H2.out _)); clear hK K))) | ((first | apply gAsk_no1 | apply gAsk_no2); kernel_rfl; intro K hK; simp [go_sem]; refine hK _ ?_; clear hK K) | (apply gAsk_part; kernel_rfl; all_goals (intro h K hK; (try simp only [Bool.not_true] at h); (try simp only [Bool.not_false] at h); (try simp only [decide_eq_true_eq] at h); (try simp only [decide_eq_false_iff_not] at h); first | (exfalso; first | contradiction | omega) | (go_simp; (try (simp only [↓IntWalk.iteOmega]; try go_simp)); (try simp (disch := omega) only [IntWalk.i64_in]); (try simp (disch := omega) only [IntWalk.u64_in]); first | (refine hK _ ?_; clear hK K) | (apply Exists.intro; refine ⟨fun x => ?_, hK _ ?_⟩; (first | (go_at_call 12; first | with_reducible exact H1.out _ | with_reducible exact H2.out _)); clear hK K))))))); all_goals ((apply gLex_end); intro x))
      go_wp2_with fail
      ((first | refine wp_region_gen2 (by kernel_rfl) (by kernel_rfl) ?_ | refine wp_region_gen (by kernel_rfl) (by kernel_rfl) ?_); (repeat' (first | (refine gLex_val0 rfl (by kernel_rfl) (fun K hK => ?_); (go_simp; (try (simp only [↓IntWalk.iteOmega]; try go_simp)); (try simp (disch := omega) only [IntWalk.i64_in]); (try simp (disch := omega) only [IntWalk.u64_in]); first | (refine hK _ ?_; clear hK K) | (apply Exists.intro; refine ⟨fun x => ?_, hK _ ?_⟩; (first | (go_at_call 12; with_reducible exact H8.out _) | (go_at_call 28; first | with_reducible exact H3.out _ | with_reducible exact H4.out _ | with_reducible exact H5.out _ | with_reducible exact H6.out _ | with_reducible exact H7.out _)); clear hK K))) | (refine gLex_undef rfl rfl rfl (by kernel_rfl) (fun K hK => ?_); go_simp; refine hK _ ?_; clear hK K) | (refine gLex_ask rfl rfl rfl ?_; first | (apply gAsk_yes; kernel_rfl; intro K hK; (go_simp; (try (simp only [↓IntWalk.iteOmega]; try go_simp)); (try simp (disch := omega) only [IntWalk.i64_in]); (try simp (disch := omega) only [IntWalk.u64_in]); first | (refine hK _ ?_; clear hK K) | (apply Exists.intro; refine ⟨fun x => ?_, hK _ ?_⟩; (first | (go_at_call 12; with_reducible exact H8.out _) | (go_at_call 28; first | with_reducible exact H3.out _ | with_reducible exact H4.out _ | with_reducible exact H5.out _ | with_reducible exact H6.out _ | with_reducible exact H7.out _)); clear hK K))) | ((first | apply gAsk_no1 | apply gAsk_no2); kernel_rfl; intro K hK; simp [go_sem]; refine hK _ ?_; clear hK K) | (apply gAsk_part; kernel_rfl; all_goals (intro h K hK; (try simp only [Bool.not_true] at h); (try simp only [Bool.not_false] at h); (try simp only [decide_eq_true_eq] at h); (try simp only [decide_eq_false_iff_not] at h); first | (exfalso; first | contradiction | omega) | (go_simp; (try (simp only [↓IntWalk.iteOmega]; try go_simp)); (try simp (disch := omega) only [IntWalk.i64_in]); (try simp (disch := omega) only [IntWalk.u64_in]); first | (refine hK _ ?_; clear hK K) | (apply Exists.intro; refine ⟨fun x => ?_, hK _ ?_⟩; (first | (go_at_call 12; with_reducible exact H8.out _) | (go_at_call 28; first | with_reducible exact H3.out _ | with_reducible exact H4.out _ | with_reducible exact H5.out _ | with_reducible exact H6.out _ | with_reducible exact H7.out _)); clear hK K))))))); all_goals ((apply gLex_end); intro x))
      go_wp2_with (first | (go_at_call 29; refine ((by first | with_reducible exact H9.out _ _ _ (by simp [go_sem]) | with_reducible exact H10.out _ _ _ (by simp [go_sem])) : Calls _ _ _ _ _).mono ?_; rintro e w' ⟨rfl, hg⟩; (first | obtain ⟨x, rfl⟩ := Grows.later3 hg | obtain ⟨x, rfl⟩ := Grows.later hg); clear hg) | (go_at_call 15; refine (alive10 _).mono ?_; rintro e w' ⟨rfl, hg⟩; (first | obtain ⟨x, rfl⟩ := Grows.later2 hg | obtain ⟨x, rfl⟩ := Grows.later hg); clear hg))
      go_ret
      exact ⟨rfl, (by repeat (first | exact Grows.refl _ | refine Grows.now ?_ _ | refine Grows.new ?_ _ | refine Grows.drewN ?_ _ | refine Grows.drew ?_ | assumption | (refine Grows.set ?_ (by first | omega | (simp; done) | (simp; omega)) _)))⟩
end Go.Proofs.Ytaoodmioehkebaa
