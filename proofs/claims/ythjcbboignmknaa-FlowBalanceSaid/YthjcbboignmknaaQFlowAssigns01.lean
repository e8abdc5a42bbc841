/- Contracts: which demands may be, by the answer; and what they do. -/
import Derived.Test.YthjcbboignmknaaQFlowAssigns00
import Derived.Test.YthjcbboignmknaaQCanonAll18
import Derived.Test.YthjcbboignmknaaQCanonAll10
/- Contracts: which demands may be, by the answer; and what they do. -/
namespace Go.Proofs.Ythjcbboignmknaa
open Go Go.RowKit
set_option maxRecDepth 40000 in
set_option maxHeartbeats 8000000 in
theorem r47Right (N : Int) (A : Option Addr) (c : Nat) (E : List Edg) (B : Option Addr) (d : Nat) (D : List Edg) (w : World) (h : Rd w A 3 E.length (esCells E)) (hD : Rd w B 3 D.length (esCells D)) (hn : E.length ≤ 1000000) (hd : D.length ≤ 1000000) :
    Calls Try.prog 43 #[.agg #[.int .i64 N, .slice A E.length c], .slice B D.length d] w fun e w' => e = .returned (.int .i64 (fRightF N E D)) ∧ Grows w w' := by
  have C0 := hide (fun (W : World) (g : Grows w W) => r5Right N A E.length c E W (h.grows g) hn)
  have HD := hide hD
  clear h hD
  by_cases h0 : rightF N E = 0
  · rw [h0] at C0
    by_cases h1 : 1000 < D.length
    · have HW : Hid (fRightF N E D = 5) := by unfold fRightF; rw [if_neg (by omega), if_pos h1]; rfl
      clear h0
      go_enter Try.func43, Try.ntmps43
      go_wp2_with (first | (go_at_call 51; refine (C0.out _ (by repeat (first | exact Grows.refl _ | refine Grows.now ?_ _ | refine Grows.new ?_ _ | refine Grows.drewN ?_ _ | refine Grows.drew ?_ | assumption | (refine Grows.set ?_ (by first | omega | (simp; done) | (simp; omega)) _)))).mono ?_; rintro e w' ⟨rfl, hg⟩; (first | obtain ⟨x, rfl⟩ := Grows.later2 hg | obtain ⟨x, rfl⟩ := Grows.later hg); clear hg))
      go_ret
      exact ⟨ret_int HW.out.symm, (by repeat (first | exact Grows.refl _ | refine Grows.now ?_ _ | refine Grows.new ?_ _ | refine Grows.drewN ?_ _ | refine Grows.drew ?_ | assumption | (refine Grows.set ?_ (by first | omega | (simp; done) | (simp; omega)) _)))⟩
    · have HN : Hid (fRightF N E D = if D.any (nowhereB N) then 7 else if D.any manyB then 2 else 0) := by unfold fRightF; rw [if_neg (by omega), if_neg h1]; rfl
      clear h0
      go_enter Try.func43, Try.ntmps43
      go_wp2_with fail
      refine (C0.out _ (by repeat (first | exact Grows.refl _ | refine Grows.now ?_ _ | refine Grows.new ?_ _ | refine Grows.drewN ?_ _ | refine Grows.drew ?_ | assumption | (refine Grows.set ?_ (by first | omega | (simp; done) | (simp; omega)) _)))).mono ?_; rintro e w' ⟨rfl, hg⟩; obtain ⟨x0, rfl⟩ := Grows.later hg; clear hg
      go_wp2_with fail
      have HB0 := hide (show Holds x0.now ⟨w.heap.size, 0, none⟩ (.int .i64 N) from inferInstance)
      have HG0 := hide (HD.out.grows (show Grows w x0.now from (by repeat (first | exact Grows.refl _ | refine Grows.now ?_ _ | refine Grows.new ?_ _ | refine Grows.drewN ?_ _ | refine Grows.drew ?_ | assumption | (refine Grows.set ?_ (by first | omega | (simp; done) | (simp; omega)) _)))))
      have HS := hide (show Grows w x0.now from (by repeat (first | exact Grows.refl _ | refine Grows.now ?_ _ | refine Grows.new ?_ _ | refine Grows.drewN ?_ _ | refine Grows.drew ?_ | assumption | (refine Grows.set ?_ (by first | omega | (simp; done) | (simp; omega)) _))))
      clear C0
      go_loopw [5] (fun i wr => ∃ k : Nat, k ≤ D.length ∧ i = .int .i64 (k : Int) ∧ (∃ x : Later x0.now, wr = x.now) ∧ ∀ j, j < k → nowhereB N (ge D j) = false) (fun i _ => D.length - (Go.RowKit.intOf i).toNat)
      case atStart => exact ⟨0, by omega, by go_num, ⟨⟨_, Grows.refl _⟩, rfl⟩, fun j h1 => by omega⟩
      case round =>
        obtain ⟨q, hq, rfl, ⟨x, rfl⟩, hall⟩ := hrel
        have HA := hide hall
        clear hall
        by_cases hend : D.length ≤ q
        · have HB := hide (any_false_iff rfl fun j hj => HA.out j (by omega))
          go_wp2_with fail
          go_loopw [6] (fun i wr => ∃ k : Nat, k ≤ D.length ∧ i = .int .i64 (k : Int) ∧ (∃ x : Later x0.now, wr = x.now) ∧ ∀ j, j < k → manyB (ge D j) = false) (fun i _ => D.length - (Go.RowKit.intOf i).toNat)
          case atStart => exact ⟨0, by omega, by go_num, ⟨_, rfl⟩, fun j h1 => by omega⟩
          case round =>
            obtain ⟨r, hr, rfl, ⟨y, rfl⟩, hall⟩ := hrel
            have HC := hide hall
            clear hall
            by_cases hend2 : D.length ≤ r
            · have HW : Hid (fRightF N E D = 0) := by
                have h := any_false_iff (p := manyB) rfl fun j hj => HC.out j (by omega)
                rw [show Hid (fRightF N E D = 0) = (fRightF N E D = 0) from rfl, HN.out, HB.out, h]; rfl
              go_wp2_with fail
              go_ret
              exact ⟨ret_int HW.out.symm, HS.out.trans (by repeat (first | exact Grows.refl _ | refine Grows.now ?_ _ | refine Grows.new ?_ _ | refine Grows.drewN ?_ _ | refine Grows.drew ?_ | assumption | (refine Grows.set ?_ (by first | omega | (simp; done) | (simp; omega)) _)))⟩
            · obtain ⟨b, off, rfl, hc⟩ := HG0.out.edgesH (by omega)
              obtain ⟨hc1, hc2, hc3⟩ := hc r (by omega)
              clear hc hc1 hc2
              cases hp : manyB (ge D r) with
              | true =>
                have HW : Hid (fRightF N E D = 2) := by
                  have h := any_true_at (p := manyB) (E := D) (j := r) (by omega) hp
                  rw [show Hid (fRightF N E D = 2) = (fRightF N E D = 2) from rfl, HN.out, HB.out, h]; rfl
                have hp2 : (1099511627776 : Int) < (ge D r).w := of_decide_eq_true hp
                clear hp
                go_wp2_with fail
                go_ret
                exact ⟨ret_int HW.out.symm, HS.out.trans (by repeat (first | exact Grows.refl _ | refine Grows.now ?_ _ | refine Grows.new ?_ _ | refine Grows.drewN ?_ _ | refine Grows.drew ?_ | assumption | (refine Grows.set ?_ (by first | omega | (simp; done) | (simp; omega)) _)))⟩
              | false =>
                have hp2 : ¬ (1099511627776 : Int) < (ge D r).w := of_decide_eq_false hp
                have HP := hide hp
                clear hp
                go_wp2_with fail
                go_roundw
                case measure => simp [Go.RowKit.intOf]; omega
                case rel =>
                  refine ⟨r + 1, by omega, by go_num, ⟨_, rfl⟩, fun j h1 => ?_⟩
                  by_cases hj : j = r
                  · rw [hj]; exact HP.out
                  · exact HC.out j (by omega)
        · obtain ⟨b, off, rfl, hc⟩ := HG0.out.edgesH (by omega)
          obtain ⟨hc1, hc2, hc3⟩ := hc q (by omega)
          clear hc hc3
          have HLo := hide (show nowhereB N (ge D q) = (!nodeB N (ge D q).f || !nodeB N (ge D q).t) from rfl)
          have HT : Hid (nowhereB N (ge D q) = true → fRightF N E D = 7) := fun h => by
            have h' := any_true_at (p := nowhereB N) (E := D) (j := q) (by omega) h
            rw [HN.out, h']; rfl
          have k0 := HB0.out
          have hbad : ∀ (hb : nodeB N (ge D q).f = false ∨ nodeB N (ge D q).t = false), fRightF N E D = 7 := fun hb => HT.out (by rw [HLo.out]; rcases hb with hb | hb <;> rw [hb] <;> simp)
          have HBAD := hide hbad
          clear hbad
          by_cases h1 : (ge D q).f < 0
          · have HW := hide (HBAD.out (.inl (decide_eq_false (by omega))))
            have b1 : decide ((ge D q).f < 0) = true := decide_eq_true h1
            go_wp2_with fail
            ((first | refine wp_region_gen2 (by kernel_rfl) (by kernel_rfl) ?_ | refine wp_region_gen (by kernel_rfl) (by kernel_rfl) ?_); (repeat' (first | (refine gLex_val0 rfl (by kernel_rfl) (fun K hK => ?_); (go_simp; (try (simp only [↓IntWalk.iteOmega]; try go_simp)); (try simp (disch := omega) only [IntWalk.i64_in]); (try simp (disch := omega) only [IntWalk.u64_in]); first | (refine hK _ ?_; clear hK K) | (apply Exists.intro; refine ⟨fun x => ?_, hK _ ?_⟩; (first | fail); clear hK K))) | (refine gLex_undef rfl rfl rfl (by kernel_rfl) (fun K hK => ?_); go_simp; refine hK _ ?_; clear hK K) | (refine gLex_ask rfl rfl rfl ?_; first | (apply gAsk_yes; kernel_rfl; intro K hK; (go_simp; (try (simp only [↓IntWalk.iteOmega]; try go_simp)); (try simp (disch := omega) only [IntWalk.i64_in]); (try simp (disch := omega) only [IntWalk.u64_in]); first | (refine hK _ ?_; clear hK K) | (apply Exists.intro; refine ⟨fun x => ?_, hK _ ?_⟩; (first | fail); clear hK K))) | ((first | apply gAsk_no1 | apply gAsk_no2); kernel_rfl; intro K hK; simp [go_sem]; refine hK _ ?_; clear hK K) | (apply gAsk_part; kernel_rfl; all_goals (intro h K hK; (try simp only [Bool.not_true] at h); (try simp only [Bool.not_false] at h); (try simp only [decide_eq_true_eq] at h); (try simp only [decide_eq_false_iff_not] at h); first | (exfalso; first | contradiction | omega) | (go_simp; (try (simp only [↓IntWalk.iteOmega]; try go_simp)); (try simp (disch := omega) only [IntWalk.i64_in]); (try simp (disch := omega) only [IntWalk.u64_in]); first | (refine hK _ ?_; clear hK K) | (apply Exists.intro; refine ⟨fun x => ?_, hK _ ?_⟩; (first | fail); clear hK K))))))); all_goals ((apply gLex_end); intro z))
            go_wp2_with fail
            go_ret
            exact ⟨ret_int HW.out.symm, HS.out.trans (by repeat (first | exact Grows.refl _ | refine Grows.now ?_ _ | refine Grows.new ?_ _ | refine Grows.drewN ?_ _ | refine Grows.drew ?_ | assumption | (refine Grows.set ?_ (by first | omega | (simp; done) | (simp; omega)) _)))⟩
          have b1 : decide ((ge D q).f < 0) = false := decide_eq_false h1
          by_cases h2 : N ≤ (ge D q).f
          · have HW := hide (HBAD.out (.inl (decide_eq_false (by omega))))
            have b2 : decide (N ≤ (ge D q).f) = true := decide_eq_true h2
            go_wp2_with fail
            ((first | refine wp_region_gen2 (by kernel_rfl) (by kernel_rfl) ?_ | refine wp_region_gen (by kernel_rfl) (by kernel_rfl) ?_); (repeat' (first | (refine gLex_val0 rfl (by kernel_rfl) (fun K hK => ?_); (go_simp; (try (simp only [↓IntWalk.iteOmega]; try go_simp)); (try simp (disch := omega) only [IntWalk.i64_in]); (try simp (disch := omega) only [IntWalk.u64_in]); first | (refine hK _ ?_; clear hK K) | (apply Exists.intro; refine ⟨fun x => ?_, hK _ ?_⟩; (first | fail); clear hK K))) | (refine gLex_undef rfl rfl rfl (by kernel_rfl) (fun K hK => ?_); go_simp; refine hK _ ?_; clear hK K) | (refine gLex_ask rfl rfl rfl ?_; first | (apply gAsk_yes; kernel_rfl; intro K hK; (go_simp; (try (simp only [↓IntWalk.iteOmega]; try go_simp)); (try simp (disch := omega) only [IntWalk.i64_in]); (try simp (disch := omega) only [IntWalk.u64_in]); first | (refine hK _ ?_; clear hK K) | (apply Exists.intro; refine ⟨fun x => ?_, hK _ ?_⟩; (first | fail); clear hK K))) | ((first | apply gAsk_no1 | apply gAsk_no2); kernel_rfl; intro K hK; simp [go_sem]; refine hK _ ?_; clear hK K) | (apply gAsk_part; kernel_rfl; all_goals (intro h K hK; (try simp only [Bool.not_true] at h); (try simp only [Bool.not_false] at h); (try simp only [decide_eq_true_eq] at h); (try simp only [decide_eq_false_iff_not] at h); first | (exfalso; first | contradiction | omega) | (go_simp; (try (simp only [↓IntWalk.iteOmega]; try go_simp)); (try simp (disch := omega) only [IntWalk.i64_in]); (try simp (disch := omega) only [IntWalk.u64_in]); first | (refine hK _ ?_; clear hK K) | (apply Exists.intro; refine ⟨fun x => ?_, hK _ ?_⟩; (first | fail); clear hK K))))))); all_goals ((apply gLex_end); intro z))
            go_wp2_with fail
            go_ret
            exact ⟨ret_int HW.out.symm, HS.out.trans (by repeat (first | exact Grows.refl _ | refine Grows.now ?_ _ | refine Grows.new ?_ _ | refine Grows.drewN ?_ _ | refine Grows.drew ?_ | assumption | (refine Grows.set ?_ (by first | omega | (simp; done) | (simp; omega)) _)))⟩
          have b2 : decide (N ≤ (ge D q).f) = false := decide_eq_false h2
          by_cases h3 : (ge D q).t < 0
          · have HW := hide (HBAD.out (.inr (decide_eq_false (by omega))))
            have b3 : decide ((ge D q).t < 0) = true := decide_eq_true h3
            go_wp2_with fail
            ((first | refine wp_region_gen2 (by kernel_rfl) (by kernel_rfl) ?_ | refine wp_region_gen (by kernel_rfl) (by kernel_rfl) ?_); (repeat' (first | (refine gLex_val0 rfl (by kernel_rfl) (fun K hK => ?_); (go_simp; (try (simp only [↓IntWalk.iteOmega]; try go_simp)); (try simp (disch := omega) only [IntWalk.i64_in]); (try simp (disch := omega) only [IntWalk.u64_in]); first | (refine hK _ ?_; clear hK K) | (apply Exists.intro; refine ⟨fun x => ?_, hK _ ?_⟩; (first | fail); clear hK K))) | (refine gLex_undef rfl rfl rfl (by kernel_rfl) (fun K hK => ?_); go_simp; refine hK _ ?_; clear hK K) | (refine gLex_ask rfl rfl rfl ?_; first | (apply gAsk_yes; kernel_rfl; intro K hK; (go_simp; (try (simp only [↓IntWalk.iteOmega]; try go_simp)); (try simp (disch := omega) only [IntWalk.i64_in]); (try simp (disch := omega) only [IntWalk.u64_in]); first | (refine hK _ ?_; clear hK K) | (apply Exists.intro; refine ⟨fun x => ?_, hK _ ?_⟩; (first | fail); clear hK K))) | ((first | apply gAsk_no1 | apply gAsk_no2); kernel_rfl; intro K hK; simp [go_sem]; refine hK _ ?_; clear hK K) | (apply gAsk_part; kernel_rfl; all_goals (intro h K hK; (try simp only [Bool.not_true] at h); (try simp only [Bool.not_false] at h); (try simp only [decide_eq_true_eq] at h); (try simp only [decide_eq_false_iff_not] at h); first | (exfalso; first | contradiction | omega) | (go_simp; (try (simp only [↓IntWalk.iteOmega]; try go_simp)); (try simp (disch := omega) only [IntWalk.i64_in]); (try simp (disch := omega) only [IntWalk.u64_in]); first | (refine hK _ ?_; clear hK K) | (apply Exists.intro; refine ⟨fun x => ?_, hK _ ?_⟩; (first | fail); clear hK K))))))); all_goals ((apply gLex_end); intro z))
            go_wp2_with fail
            go_ret
            exact ⟨ret_int HW.out.symm, HS.out.trans (by repeat (first | exact Grows.refl _ | refine Grows.now ?_ _ | refine Grows.new ?_ _ | refine Grows.drewN ?_ _ | refine Grows.drew ?_ | assumption | (refine Grows.set ?_ (by first | omega | (simp; done) | (simp; omega)) _)))⟩
          have b3 : decide ((ge D q).t < 0) = false := decide_eq_false h3
          by_cases h4 : N ≤ (ge D q).t
          · have HW := hide (HBAD.out (.inr (decide_eq_false (by omega))))
            have b4 : decide (N ≤ (ge D q).t) = true := decide_eq_true h4
            go_wp2_with fail
            ((first | refine wp_region_gen2 (by kernel_rfl) (by kernel_rfl) ?_ | refine wp_region_gen (by kernel_rfl) (by kernel_rfl) ?_); (repeat' (first | (refine gLex_val0 rfl (by kernel_rfl) (fun K hK => ?_); (go_simp; (try (simp only [↓IntWalk.iteOmega]; try go_simp)); (try simp (disch := omega) only [IntWalk.i64_in]); (try simp (disch := omega) only [IntWalk.u64_in]); first | (refine hK _ ?_; clear hK K) | (apply Exists.intro; refine ⟨fun x => ?_, hK _ ?_⟩; (first | fail); clear hK K))) | (refine gLex_undef rfl rfl rfl (by kernel_rfl) (fun K hK => ?_); go_simp; refine hK _ ?_; clear hK K) | (refine gLex_ask rfl rfl rfl ?_; first | (apply gAsk_yes; kernel_rfl; intro K hK; (go_simp; (try (simp only [↓IntWalk.iteOmega]; try go_simp)); (try simp (disch := omega) only [IntWalk.i64_in]); (try simp (disch := omega) only [IntWalk.u64_in]); first | (refine hK _ ?_; clear hK K) | (apply Exists.intro; refine ⟨fun x => ?_, hK _ ?_⟩; (first | fail); clear hK K))) | ((first | apply gAsk_no1 | apply gAsk_no2); kernel_rfl; intro K hK; simp [go_sem]; refine hK _ ?_; clear hK K) | (apply gAsk_part; kernel_rfl; all_goals (intro h K hK; (try simp only [Bool.not_true] at h); (try simp only [Bool.not_false] at h); (try simp only [decide_eq_true_eq] at h); (try simp only [decide_eq_false_iff_not] at h); first | (exfalso; first | contradiction | omega) | (go_simp; (try (simp only [↓IntWalk.iteOmega]; try go_simp)); (try simp (disch := omega) only [IntWalk.i64_in]); (try simp (disch := omega) only [IntWalk.u64_in]); first | (refine hK _ ?_; clear hK K) | (apply Exists.intro; refine ⟨fun x => ?_, hK _ ?_⟩; (first | fail); clear hK K))))))); all_goals ((apply gLex_end); intro z))
            go_wp2_with fail
            go_ret
            exact ⟨ret_int HW.out.symm, HS.out.trans (by repeat (first | exact Grows.refl _ | refine Grows.now ?_ _ | refine Grows.new ?_ _ | refine Grows.drewN ?_ _ | refine Grows.drew ?_ | assumption | (refine Grows.set ?_ (by first | omega | (simp; done) | (simp; omega)) _)))⟩
          have b4 : decide (N ≤ (ge D q).t) = false := decide_eq_false h4
          have HP := hide (show nowhereB N (ge D q) = false by
            rw [HLo.out, show nodeB N (ge D q).f = true from decide_eq_true (by omega), show nodeB N (ge D q).t = true from decide_eq_true (by omega)]; rfl)
          go_wp2_with fail
          ((first | refine wp_region_gen2 (by kernel_rfl) (by kernel_rfl) ?_ | refine wp_region_gen (by kernel_rfl) (by kernel_rfl) ?_); (repeat' (first | (refine gLex_val0 rfl (by kernel_rfl) (fun K hK => ?_); (go_simp; (try (simp only [↓IntWalk.iteOmega]; try go_simp)); (try simp (disch := omega) only [IntWalk.i64_in]); (try simp (disch := omega) only [IntWalk.u64_in]); first | (refine hK _ ?_; clear hK K) | (apply Exists.intro; refine ⟨fun x => ?_, hK _ ?_⟩; (first | fail); clear hK K))) | (refine gLex_undef rfl rfl rfl (by kernel_rfl) (fun K hK => ?_); go_simp; refine hK _ ?_; clear hK K) | (refine gLex_ask rfl rfl rfl ?_; first | (apply gAsk_yes; kernel_rfl; intro K hK; (go_simp; (try (simp only [↓IntWalk.iteOmega]; try go_simp)); (try simp (disch := omega) only [IntWalk.i64_in]); (try simp (disch := omega) only [IntWalk.u64_in]); first | (refine hK _ ?_; clear hK K) | (apply Exists.intro; refine ⟨fun x => ?_, hK _ ?_⟩; (first | fail); clear hK K))) | ((first | apply gAsk_no1 | apply gAsk_no2); kernel_rfl; intro K hK; simp [go_sem]; refine hK _ ?_; clear hK K) | (apply gAsk_part; kernel_rfl; all_goals (intro h K hK; (try simp only [Bool.not_true] at h); (try simp only [Bool.not_false] at h); (try simp only [decide_eq_true_eq] at h); (try simp only [decide_eq_false_iff_not] at h); first | (exfalso; first | contradiction | omega) | (go_simp; (try (simp only [↓IntWalk.iteOmega]; try go_simp)); (try simp (disch := omega) only [IntWalk.i64_in]); (try simp (disch := omega) only [IntWalk.u64_in]); first | (refine hK _ ?_; clear hK K) | (apply Exists.intro; refine ⟨fun x => ?_, hK _ ?_⟩; (first | fail); clear hK K))))))); all_goals ((apply gLex_end); intro z))
          go_wp2_with fail
          go_roundw
          case measure => simp [Go.RowKit.intOf]; omega
          case rel =>
            refine ⟨q + 1, by omega, by go_num, ⟨_, rfl⟩, fun j h1 => ?_⟩
            by_cases hj : j = q
            · rw [hj]; exact HP.out
            · exact HA.out j (by omega)
  · have HW : Hid (fRightF N E D = 1) := by unfold fRightF; rw [if_pos h0]; rfl
    have hb : (rightF N E == 0) = false := beq_eq_false_iff_ne.2 h0
    clear h0
    generalize rightF N E = r at *
    go_enter Try.func43, Try.ntmps43
    go_wp2_with (first | (go_at_call 51; refine (C0.out _ (by repeat (first | exact Grows.refl _ | refine Grows.now ?_ _ | refine Grows.new ?_ _ | refine Grows.drewN ?_ _ | refine Grows.drew ?_ | assumption | (refine Grows.set ?_ (by first | omega | (simp; done) | (simp; omega)) _)))).mono ?_; rintro e w' ⟨rfl, hg⟩; (first | obtain ⟨x, rfl⟩ := Grows.later2 hg | obtain ⟨x, rfl⟩ := Grows.later hg); clear hg))
    go_ret
    exact ⟨ret_int HW.out.symm, (by repeat (first | exact Grows.refl _ | refine Grows.now ?_ _ | refine Grows.new ?_ _ | refine Grows.drewN ?_ _ | refine Grows.drew ?_ | assumption | (refine Grows.set ?_ (by first | omega | (simp; done) | (simp; omega)) _)))⟩
end Go.Proofs.Ythjcbboignmknaa
