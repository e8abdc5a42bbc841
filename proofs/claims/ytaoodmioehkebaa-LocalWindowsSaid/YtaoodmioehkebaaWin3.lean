/- Contracts: the window at a place of offsets: the program's own function. -/
import Derived.Test.YtaoodmioehkebaaWin2
namespace Go.Proofs.Ytaoodmioehkebaa
open Go Go.RowKit
set_option maxHeartbeats 2000000 in
theorem localWindow (A : Option Addr) (n c : Nat) (xs : List Int) (at_ a b base : Int) (w : World) (h : Rd w A 1 n (xs.map (.int .u64))) (hn : n ≤ 1000000) (hbase : U64 base) :
    Calls Try.prog 17 #[.slice A n c, .int .i64 at_, .agg #[.int .u64 a, .int .u64 b], .int .u64 base] w fun e w' => e = .returned (winV at_ n xs a b base) ∧ Grows w w' := by
  have HL := hide (show xs.length = n by simpa using h.len)
  have HR := hide h
  have HE := hide hbase
  have C1 := fun W (g : Grows w W) => isSorted A n c xs W (HR.out.grows g) hn
  have C2 := fun W => ratioRight a b W
  clear h hbase
  by_cases h1 : at_ < 0
  · have HW : Hid (wgB at_ n xs a b = false) := wgB_at (by omega)
    clear C1 C2
    go_enter Try.func17, Try.ntmps17
    go_wp2
    go_step3
    go_wp2
    rw [Exit.noGoto_ret]
    go_ret3
    exact ⟨ret_val (winV_bad HW.out), (by repeat (first | exact Grows.refl _ | refine Grows.now ?_ _ | refine Grows.new ?_ _ | refine Grows.drewN ?_ _ | refine Grows.drew ?_ | assumption | (refine Grows.set ?_ (by first | omega | (simp; done) | (simp; omega)) _)))⟩
  by_cases h2 : (n : Int) ≤ at_
  · have HW : Hid (wgB at_ n xs a b = false) := wgB_at (by omega)
    clear C1 C2
    go_enter Try.func17, Try.ntmps17
    go_wp2
    go_step3
    go_wp2
    rw [Exit.noGoto_ret]
    go_ret3
    exact ⟨ret_val (winV_bad HW.out), (by repeat (first | exact Grows.refl _ | refine Grows.now ?_ _ | refine Grows.new ?_ _ | refine Grows.drewN ?_ _ | refine Grows.drew ?_ | assumption | (refine Grows.set ?_ (by first | omega | (simp; done) | (simp; omega)) _)))⟩
  obtain ⟨b', off, rfl, hc⟩ := HR.out.ints (by omega)
  have hc0 := hc 0 (by omega)
  simp only [Nat.add_zero] at hc0
  have HO := hide (off_of HL.out (by omega))
  have HG := hide hc
  clear hc
  cases h0 : decide (gi xs 0 = 0) with
  | false =>
    have h0' : (gi xs 0 != 0) = true := by simpa using h0
    have HW : Hid (wgB at_ n xs a b = false) := wgB_off (by rw [HO.out, h0]; rfl)
    clear C1 C2 h0
    go_enter Try.func17, Try.ntmps17
    go_wp2
    go_step3
    go_wp2
    rw [Exit.noGoto_ret]
    go_ret3
    exact ⟨ret_val (winV_bad HW.out), (by repeat (first | exact Grows.refl _ | refine Grows.now ?_ _ | refine Grows.new ?_ _ | refine Grows.drewN ?_ _ | refine Grows.drew ?_ | assumption | (refine Grows.set ?_ (by first | omega | (simp; done) | (simp; omega)) _)))⟩
  | true =>
  have h0' : (gi xs 0 != 0) = false := by simpa using h0
  cases h3 : srtB xs with
  | false =>
    have HW : Hid (wgB at_ n xs a b = false) := wgB_off (by rw [HO.out, h3]; simp)
    rw [h3] at C1
    have HC := hide C1
    clear C1 C2 h3 h0
    go_enter Try.func17, Try.ntmps17
    go_wp2_with fail
    go_step3
    go_wp2_with (first | (go_at_call 54; refine (HC.out _ (by repeat (first | exact Grows.refl _ | refine Grows.now ?_ _ | refine Grows.new ?_ _ | refine Grows.drewN ?_ _ | refine Grows.drew ?_ | assumption | (refine Grows.set ?_ (by first | omega | (simp; done) | (simp; omega)) _)))).mono ?_; rintro e w' ⟨rfl, hg⟩; (first | obtain ⟨x, rfl⟩ := Grows.later2 hg | obtain ⟨x, rfl⟩ := Grows.later hg); clear hg))
    rw [Exit.noGoto_ret]
    go_ret3
    exact ⟨ret_val (winV_bad HW.out), (by repeat (first | exact Grows.refl _ | refine Grows.now ?_ _ | refine Grows.new ?_ _ | refine Grows.drewN ?_ _ | refine Grows.drew ?_ | assumption | (refine Grows.set ?_ (by first | omega | (simp; done) | (simp; omega)) _)))⟩
  | true =>
  cases h4 : rrB a b with
  | false =>
    have HW : Hid (wgB at_ n xs a b = false) := wgB_rr h4
    rw [h3] at C1
    rw [h4] at C2
    have HC := hide C1
    have HD := hide C2
    clear C1 C2 h3 h4 h0
    go_enter Try.func17, Try.ntmps17
    go_wp2_with fail
    go_step3
    go_wp2_with (first | (go_at_call 54; refine (HC.out _ (by repeat (first | exact Grows.refl _ | refine Grows.now ?_ _ | refine Grows.new ?_ _ | refine Grows.drewN ?_ _ | refine Grows.drew ?_ | assumption | (refine Grows.set ?_ (by first | omega | (simp; done) | (simp; omega)) _)))).mono ?_; rintro e w' ⟨rfl, hg⟩; (first | obtain ⟨x, rfl⟩ := Grows.later2 hg | obtain ⟨x, rfl⟩ := Grows.later hg); clear hg) | (go_at_call 55; refine (HD.out _).mono ?_; rintro e w' ⟨rfl, hg⟩; (first | obtain ⟨x, rfl⟩ := Grows.later2 hg | obtain ⟨x, rfl⟩ := Grows.later hg); clear hg))
    rw [Exit.noGoto_ret]
    go_ret3
    exact ⟨ret_val (winV_bad HW.out), (by repeat (first | exact Grows.refl _ | refine Grows.now ?_ _ | refine Grows.new ?_ _ | refine Grows.drewN ?_ _ | refine Grows.drew ?_ | assumption | (refine Grows.set ?_ (by first | omega | (simp; done) | (simp; omega)) _)))⟩
  | true =>
    have HW : Hid (wgB at_ n xs a b = true) := wgB_ok h1 h2 (by rw [HO.out, h3, h0]; rfl) h4
    have HB := hide (rrB_u64 h4)
    rw [h3] at C1
    rw [h4] at C2
    have HC := hide C1
    have HD := hide C2
    clear C1 C2 h3 h4 h0
    obtain ⟨m, rfl⟩ : ∃ m : Nat, at_ = m := ⟨at_.toNat, by omega⟩
    have hnm : decide (n ≤ m) = false := by simp; omega
    have HG0 : Hid (∀ j, j < n → World.cell? ((w.alloc (.cells #[.int .u64 a, .int .u64 b] 32)).alloc (.cells #[.int .u64 base] 30)) ⟨b', off + j, none⟩ = some (.int .u64 (gi xs j))) := fun j hj => Grows.keeps (((Grows.refl w).new _).new _) (HG.out j hj)
    have hm0 : decide ((m : Int) < 0) = false := by simp
    go_enter Try.func17, Try.ntmps17
    go_wp2_with fail
    go_step3
    go_wp2_with (first | (go_at_call 54; refine (HC.out _ (by repeat (first | exact Grows.refl _ | refine Grows.now ?_ _ | refine Grows.new ?_ _ | refine Grows.drewN ?_ _ | refine Grows.drew ?_ | assumption | (refine Grows.set ?_ (by first | omega | (simp; done) | (simp; omega)) _)))).mono ?_; rintro e w' ⟨rfl, hg⟩; (first | obtain ⟨x, rfl⟩ := Grows.later2 hg | obtain ⟨x, rfl⟩ := Grows.later hg); clear hg) | (go_at_call 55; refine (HD.out _).mono ?_; rintro e w' ⟨rfl, hg⟩; (first | obtain ⟨x, rfl⟩ := Grows.later2 hg | obtain ⟨x, rfl⟩ := Grows.later hg); clear hg))
    go_step3
    go_wp2_with fail
    go_loopw [12, 8] (fun i i' wr => ∃ k : Nat, k ≤ m + 1 ∧ i = .int .i64 ((k : Int) - 1) ∧ i' = .int .i64 0 ∧ (∃ x : Later ((w.alloc (.cells #[.int .u64 a, .int .u64 b] 32)).alloc (.cells #[.int .u64 base] 30)), wr = x.now) ∧ ∀ j, k ≤ j → j ≤ m → wdn xs a b base m j = false) (fun i _ _ => (intOf i + 1).toNat)
    case atStart => exact ⟨m + 1, by omega, by go_num, rfl, ⟨_, rfl⟩, fun j h1 h2 => by omega⟩
    case round =>
      obtain ⟨k, hk, rfl, rfl, ⟨x, rfl⟩, hall⟩ := hrel
      have HK := hide hall
      clear hall
      rcases Nat.eq_zero_or_pos k with rfl | hk0
      · have HI : Hid (dn (wdn xs a b base m) m = 0) := dn_none fun j hj => HK.out j (by omega) hj
        clear HK
        rw [show (((0 : Nat) : Int) - 1) = -1 from rfl]
        go_wp2_with fail
        · go_step3
          go_wp2_with fail
          go_loopw [61, 9] (fun i j' wr => ∃ q : Nat, q ≤ n ∧ i = .int .i64 (q : Int) ∧ j' = .int .i64 ((n : Int) - 1) ∧ (∃ x : Later ((w.alloc (.cells #[.int .u64 a, .int .u64 b] 32)).alloc (.cells #[.int .u64 base] 30)), wr = x.now) ∧ ∀ j, m ≤ j → j < q → wup xs a b base m j = false) (fun i _ _ => n - (intOf i).toNat)
          case atStart => exact ⟨0, by omega, by go_num, rfl, ⟨_, rfl⟩, fun j h1 h2 => by omega⟩
          case round =>
            obtain ⟨p, hp1, rfl, rfl, ⟨y, rfl⟩, hall⟩ := hrel
            have HU := hide hall
            clear hall
            by_cases hend : n ≤ p
            · have HJ : Hid (winV m n xs a b base = .tuple #[.int .i64 0, .int .i64 ((n : Int) - 1), .bool true]) := by
                have h := winV_ok (j := n - 1) HW.out HI.out (by rw [up_at (m := n - 1) (by omega) (by omega) (fun j h1 h2 => HU.out j h1 (by omega)), show m + (n - 1 - m) - (n - 1) = 0 by omega]; rfl)
                rw [show ((n - 1 : Nat) : Int) = (n : Int) - 1 by omega] at h
                exact h
              go_wp2
              rw [Exit.noGoto_ret]
              go_ret3
              exact ⟨ret_val HJ.out.symm, (by repeat (first | exact Grows.refl _ | refine Grows.now ?_ _ | refine Grows.new ?_ _ | refine Grows.drewN ?_ _ | refine Grows.drew ?_ | assumption | (refine Grows.set ?_ (by first | omega | (simp; done) | (simp; omega)) _)))⟩
            by_cases hm : p < m
            · have hd : decide ((m : Int) ≤ (p : Int)) = false := by simp; omega
              go_wp2_with fail
              ((first | refine wp_region_gen2 (by kernel_rfl) (by kernel_rfl) ?_ | refine wp_region_gen (by kernel_rfl) (by kernel_rfl) ?_); (repeat' (first | (refine gLex_val0 rfl (by kernel_rfl) (fun K hK => ?_); (go_simp; (try (simp only [↓IntWalk.iteOmega]; try go_simp)); (try simp (disch := omega) only [IntWalk.i64_in]); (try simp (disch := omega) only [IntWalk.u64_in]); first | (refine hK _ ?_; clear hK K) | (apply Exists.intro; refine ⟨fun x => ?_, hK _ ?_⟩; (first | fail); clear hK K))) | (refine gLex_undef rfl rfl rfl (by kernel_rfl) (fun K hK => ?_); go_simp; refine hK _ ?_; clear hK K) | (refine gLex_ask rfl rfl rfl ?_; first | (apply gAsk_yes; kernel_rfl; intro K hK; (go_simp; (try (simp only [↓IntWalk.iteOmega]; try go_simp)); (try simp (disch := omega) only [IntWalk.i64_in]); (try simp (disch := omega) only [IntWalk.u64_in]); first | (refine hK _ ?_; clear hK K) | (apply Exists.intro; refine ⟨fun x => ?_, hK _ ?_⟩; (first | fail); clear hK K))) | ((first | apply gAsk_no1 | apply gAsk_no2); kernel_rfl; intro K hK; simp [go_sem]; refine hK _ ?_; clear hK K) | (apply gAsk_part; kernel_rfl; all_goals (intro h K hK; (try simp only [Bool.not_true] at h); (try simp only [Bool.not_false] at h); (try simp only [decide_eq_true_eq] at h); (try simp only [decide_eq_false_iff_not] at h); first | (exfalso; first | contradiction | omega) | (go_simp; (try (simp only [↓IntWalk.iteOmega]; try go_simp)); (try simp (disch := omega) only [IntWalk.i64_in]); (try simp (disch := omega) only [IntWalk.u64_in]); first | (refine hK _ ?_; clear hK K) | (apply Exists.intro; refine ⟨fun x => ?_, hK _ ?_⟩; (first | fail); clear hK K))))))); all_goals ((apply gLex_end); intro x))
              go_wp2
              go_roundw
              case measure => simp [intOf]; omega
              case rel => exact ⟨p + 1, by omega, by go_num, rfl, ⟨_, rfl⟩, fun j h1 h2 => by omega⟩
            have hc3 := HG0.out m (by omega)
            have hc4 := HG0.out p (by omega)
            have CU := fun (W : World) c0 c1 c2 => localWindow1 (uw (gi xs p) (gi xs m)) a b base w.heap.size (w.heap.size + 1) W (uw_u64 _ _) HE.out c0 c1 c2
            have hd : (m : Int) ≤ (p : Int) := by omega
            cases hR2 : wup xs a b base m p with
            | true =>
              rw [show rcB (uw (gi xs p) (gi xs m)) a b base = true from hR2] at CU
              have CU' := hide CU
              have HJ : Hid (winV m n xs a b base = .tuple #[.int .i64 0, .int .i64 (p : Int), .bool true]) := winV_ok HW.out HI.out (by rw [up_at (m := p) (by omega) (by omega) (fun j h1 h2 => HU.out j h1 h2)]; exact up_hit hR2)
              clear CU hR2
              go_wp2_with fail
              ((first | refine wp_region_gen2 (by kernel_rfl) (by kernel_rfl) ?_ | refine wp_region_gen (by kernel_rfl) (by kernel_rfl) ?_); (repeat' (first | (refine gLex_val0 rfl (by kernel_rfl) (fun K hK => ?_); (go_simp; (try (simp only [↓IntWalk.iteOmega]; try go_simp)); (try simp (disch := omega) only [IntWalk.i64_in]); (try simp (disch := omega) only [IntWalk.u64_in]); first | (refine hK _ ?_; clear hK K) | (apply Exists.intro; refine ⟨fun x => ?_, hK _ ?_⟩; (first | (go_at_call 56; exact CU'.out _ (by simp [go_sem]) (by simp [go_sem]) (by simp [go_sem]))); clear hK K))) | (refine gLex_undef rfl rfl rfl (by kernel_rfl) (fun K hK => ?_); go_simp; refine hK _ ?_; clear hK K) | (refine gLex_ask rfl rfl rfl ?_; first | (apply gAsk_yes; kernel_rfl; intro K hK; (go_simp; (try (simp only [↓IntWalk.iteOmega]; try go_simp)); (try simp (disch := omega) only [IntWalk.i64_in]); (try simp (disch := omega) only [IntWalk.u64_in]); first | (refine hK _ ?_; clear hK K) | (apply Exists.intro; refine ⟨fun x => ?_, hK _ ?_⟩; (first | (go_at_call 56; exact CU'.out _ (by simp [go_sem]) (by simp [go_sem]) (by simp [go_sem]))); clear hK K))) | ((first | apply gAsk_no1 | apply gAsk_no2); kernel_rfl; intro K hK; simp [go_sem]; refine hK _ ?_; clear hK K) | (apply gAsk_part; kernel_rfl; all_goals (intro h K hK; (try simp only [Bool.not_true] at h); (try simp only [Bool.not_false] at h); (try simp only [decide_eq_true_eq] at h); (try simp only [decide_eq_false_iff_not] at h); first | (exfalso; first | contradiction | omega) | (go_simp; (try (simp only [↓IntWalk.iteOmega]; try go_simp)); (try simp (disch := omega) only [IntWalk.i64_in]); (try simp (disch := omega) only [IntWalk.u64_in]); first | (refine hK _ ?_; clear hK K) | (apply Exists.intro; refine ⟨fun x => ?_, hK _ ?_⟩; (first | (go_at_call 56; exact CU'.out _ (by simp [go_sem]) (by simp [go_sem]) (by simp [go_sem]))); clear hK K))))))); all_goals ((apply gLex_end); intro x))
              go_wp2
              rw [Exit.noGoto_ret]
              go_ret3
              exact ⟨ret_val HJ.out.symm, (by repeat (first | exact Grows.refl _ | refine Grows.now ?_ _ | refine Grows.new ?_ _ | refine Grows.drewN ?_ _ | refine Grows.drew ?_ | assumption | (refine Grows.set ?_ (by first | omega | (simp; done) | (simp; omega)) _)))⟩
            | false =>
              rw [show rcB (uw (gi xs p) (gi xs m)) a b base = false from hR2] at CU
              have CU' := hide CU
              have HF2 := hide hR2
              clear CU hR2
              go_wp2_with fail
              ((first | refine wp_region_gen2 (by kernel_rfl) (by kernel_rfl) ?_ | refine wp_region_gen (by kernel_rfl) (by kernel_rfl) ?_); (repeat' (first | (refine gLex_val0 rfl (by kernel_rfl) (fun K hK => ?_); (go_simp; (try (simp only [↓IntWalk.iteOmega]; try go_simp)); (try simp (disch := omega) only [IntWalk.i64_in]); (try simp (disch := omega) only [IntWalk.u64_in]); first | (refine hK _ ?_; clear hK K) | (apply Exists.intro; refine ⟨fun x => ?_, hK _ ?_⟩; (first | (go_at_call 56; exact CU'.out _ (by simp [go_sem]) (by simp [go_sem]) (by simp [go_sem]))); clear hK K))) | (refine gLex_undef rfl rfl rfl (by kernel_rfl) (fun K hK => ?_); go_simp; refine hK _ ?_; clear hK K) | (refine gLex_ask rfl rfl rfl ?_; first | (apply gAsk_yes; kernel_rfl; intro K hK; (go_simp; (try (simp only [↓IntWalk.iteOmega]; try go_simp)); (try simp (disch := omega) only [IntWalk.i64_in]); (try simp (disch := omega) only [IntWalk.u64_in]); first | (refine hK _ ?_; clear hK K) | (apply Exists.intro; refine ⟨fun x => ?_, hK _ ?_⟩; (first | (go_at_call 56; exact CU'.out _ (by simp [go_sem]) (by simp [go_sem]) (by simp [go_sem]))); clear hK K))) | ((first | apply gAsk_no1 | apply gAsk_no2); kernel_rfl; intro K hK; simp [go_sem]; refine hK _ ?_; clear hK K) | (apply gAsk_part; kernel_rfl; all_goals (intro h K hK; (try simp only [Bool.not_true] at h); (try simp only [Bool.not_false] at h); (try simp only [decide_eq_true_eq] at h); (try simp only [decide_eq_false_iff_not] at h); first | (exfalso; first | contradiction | omega) | (go_simp; (try (simp only [↓IntWalk.iteOmega]; try go_simp)); (try simp (disch := omega) only [IntWalk.i64_in]); (try simp (disch := omega) only [IntWalk.u64_in]); first | (refine hK _ ?_; clear hK K) | (apply Exists.intro; refine ⟨fun x => ?_, hK _ ?_⟩; (first | (go_at_call 56; exact CU'.out _ (by simp [go_sem]) (by simp [go_sem]) (by simp [go_sem]))); clear hK K))))))); all_goals ((apply gLex_end); intro x))
              go_wp2
              go_roundw
              case measure => simp [intOf]; omega
              case rel =>
                refine ⟨p + 1, by omega, by go_num, rfl, ⟨_, rfl⟩, fun j h1 h2 => ?_⟩
                by_cases hj : j = p
                · rw [hj]; exact HF2.out
                · exact HU.out j h1 (by omega)
      · obtain ⟨q, rfl⟩ : ∃ q, k = q + 1 := ⟨k - 1, by omega⟩
        rw [show (((q + 1 : Nat) : Int) - 1) = (q : Int) by omega]
        have hc3 := HG0.out m (by omega)
        have hc4 := HG0.out q (by omega)
        have CU := fun (W : World) c0 c1 c2 => localWindow1 (uw (gi xs m) (gi xs q)) a b base w.heap.size (w.heap.size + 1) W (uw_u64 _ _) HE.out c0 c1 c2
        cases hR : wdn xs a b base m q with
        | true =>
          rw [show rcB (uw (gi xs m) (gi xs q)) a b base = true from hR] at CU
          have CU' := hide CU
          have HI : Hid (dn (wdn xs a b base m) m = q) := by rw [dn_at (k := q) (by omega) (fun j h1 h2 => HK.out j h1 h2)]; exact dn_hit hR
          clear CU hR HK
          go_wp2_with fail
          ((first | refine wp_region_gen2 (by kernel_rfl) (by kernel_rfl) ?_ | refine wp_region_gen (by kernel_rfl) (by kernel_rfl) ?_); (repeat' (first | (refine gLex_val0 rfl (by kernel_rfl) (fun K hK => ?_); (go_simp; (try (simp only [↓IntWalk.iteOmega]; try go_simp)); (try simp (disch := omega) only [IntWalk.i64_in]); (try simp (disch := omega) only [IntWalk.u64_in]); first | (refine hK _ ?_; clear hK K) | (apply Exists.intro; refine ⟨fun x => ?_, hK _ ?_⟩; (first | (go_at_call 56; exact CU'.out _ (by simp [go_sem]) (by simp [go_sem]) (by simp [go_sem]))); clear hK K))) | (refine gLex_undef rfl rfl rfl (by kernel_rfl) (fun K hK => ?_); go_simp; refine hK _ ?_; clear hK K) | (refine gLex_ask rfl rfl rfl ?_; first | (apply gAsk_yes; kernel_rfl; intro K hK; (go_simp; (try (simp only [↓IntWalk.iteOmega]; try go_simp)); (try simp (disch := omega) only [IntWalk.i64_in]); (try simp (disch := omega) only [IntWalk.u64_in]); first | (refine hK _ ?_; clear hK K) | (apply Exists.intro; refine ⟨fun x => ?_, hK _ ?_⟩; (first | (go_at_call 56; exact CU'.out _ (by simp [go_sem]) (by simp [go_sem]) (by simp [go_sem]))); clear hK K))) | ((first | apply gAsk_no1 | apply gAsk_no2); kernel_rfl; intro K hK; simp [go_sem]; refine hK _ ?_; clear hK K) | (apply gAsk_part; kernel_rfl; all_goals (intro h K hK; (try simp only [Bool.not_true] at h); (try simp only [Bool.not_false] at h); (try simp only [decide_eq_true_eq] at h); (try simp only [decide_eq_false_iff_not] at h); first | (exfalso; first | contradiction | omega) | (go_simp; (try (simp only [↓IntWalk.iteOmega]; try go_simp)); (try simp (disch := omega) only [IntWalk.i64_in]); (try simp (disch := omega) only [IntWalk.u64_in]); first | (refine hK _ ?_; clear hK K) | (apply Exists.intro; refine ⟨fun x => ?_, hK _ ?_⟩; (first | (go_at_call 56; exact CU'.out _ (by simp [go_sem]) (by simp [go_sem]) (by simp [go_sem]))); clear hK K))))))); all_goals ((apply gLex_end); intro x))
          clear CU' hc3 hc4
          go_wp2_with fail
          go_step3
          go_wp2_with fail
          go_loopw [61, 9] (fun i j' wr => ∃ q : Nat, q ≤ n ∧ i = .int .i64 (q : Int) ∧ j' = .int .i64 ((n : Int) - 1) ∧ (∃ x : Later ((w.alloc (.cells #[.int .u64 a, .int .u64 b] 32)).alloc (.cells #[.int .u64 base] 30)), wr = x.now) ∧ ∀ j, m ≤ j → j < q → wup xs a b base m j = false) (fun i _ _ => n - (intOf i).toNat)
          case atStart => exact ⟨0, by omega, by go_num, rfl, ⟨_, rfl⟩, fun j h1 h2 => by omega⟩
          case round =>
            obtain ⟨p, hp1, rfl, rfl, ⟨y, rfl⟩, hall⟩ := hrel
            have HU := hide hall
            clear hall
            by_cases hend : n ≤ p
            · have HJ : Hid (winV m n xs a b base = .tuple #[.int .i64 (q : Int), .int .i64 ((n : Int) - 1), .bool true]) := by
                have h := winV_ok (j := n - 1) HW.out HI.out (by rw [up_at (m := n - 1) (by omega) (by omega) (fun j h1 h2 => HU.out j h1 (by omega)), show m + (n - 1 - m) - (n - 1) = 0 by omega]; rfl)
                rw [show ((n - 1 : Nat) : Int) = (n : Int) - 1 by omega] at h
                exact h
              go_wp2
              rw [Exit.noGoto_ret]
              go_ret3
              exact ⟨ret_val HJ.out.symm, (by repeat (first | exact Grows.refl _ | refine Grows.now ?_ _ | refine Grows.new ?_ _ | refine Grows.drewN ?_ _ | refine Grows.drew ?_ | assumption | (refine Grows.set ?_ (by first | omega | (simp; done) | (simp; omega)) _)))⟩
            by_cases hm : p < m
            · have hd : decide ((m : Int) ≤ (p : Int)) = false := by simp; omega
              go_wp2_with fail
              ((first | refine wp_region_gen2 (by kernel_rfl) (by kernel_rfl) ?_ | refine wp_region_gen (by kernel_rfl) (by kernel_rfl) ?_); (repeat' (first | (refine gLex_val0 rfl (by kernel_rfl) (fun K hK => ?_); (go_simp; (try (simp only [↓IntWalk.iteOmega]; try go_simp)); (try simp (disch := omega) only [IntWalk.i64_in]); (try simp (disch := omega) only [IntWalk.u64_in]); first | (refine hK _ ?_; clear hK K) | (apply Exists.intro; refine ⟨fun x => ?_, hK _ ?_⟩; (first | fail); clear hK K))) | (refine gLex_undef rfl rfl rfl (by kernel_rfl) (fun K hK => ?_); go_simp; refine hK _ ?_; clear hK K) | (refine gLex_ask rfl rfl rfl ?_; first | (apply gAsk_yes; kernel_rfl; intro K hK; (go_simp; (try (simp only [↓IntWalk.iteOmega]; try go_simp)); (try simp (disch := omega) only [IntWalk.i64_in]); (try simp (disch := omega) only [IntWalk.u64_in]); first | (refine hK _ ?_; clear hK K) | (apply Exists.intro; refine ⟨fun x => ?_, hK _ ?_⟩; (first | fail); clear hK K))) | ((first | apply gAsk_no1 | apply gAsk_no2); kernel_rfl; intro K hK; simp [go_sem]; refine hK _ ?_; clear hK K) | (apply gAsk_part; kernel_rfl; all_goals (intro h K hK; (try simp only [Bool.not_true] at h); (try simp only [Bool.not_false] at h); (try simp only [decide_eq_true_eq] at h); (try simp only [decide_eq_false_iff_not] at h); first | (exfalso; first | contradiction | omega) | (go_simp; (try (simp only [↓IntWalk.iteOmega]; try go_simp)); (try simp (disch := omega) only [IntWalk.i64_in]); (try simp (disch := omega) only [IntWalk.u64_in]); first | (refine hK _ ?_; clear hK K) | (apply Exists.intro; refine ⟨fun x => ?_, hK _ ?_⟩; (first | fail); clear hK K))))))); all_goals ((apply gLex_end); intro x))
              go_wp2
              go_roundw
              case measure => simp [intOf]; omega
              case rel => exact ⟨p + 1, by omega, by go_num, rfl, ⟨_, rfl⟩, fun j h1 h2 => by omega⟩
            have hc3 := HG0.out m (by omega)
            have hc4 := HG0.out p (by omega)
            have CU := fun (W : World) c0 c1 c2 => localWindow1 (uw (gi xs p) (gi xs m)) a b base w.heap.size (w.heap.size + 1) W (uw_u64 _ _) HE.out c0 c1 c2
            have hd : (m : Int) ≤ (p : Int) := by omega
            cases hR2 : wup xs a b base m p with
            | true =>
              rw [show rcB (uw (gi xs p) (gi xs m)) a b base = true from hR2] at CU
              have CU' := hide CU
              have HJ : Hid (winV m n xs a b base = .tuple #[.int .i64 (q : Int), .int .i64 (p : Int), .bool true]) := winV_ok HW.out HI.out (by rw [up_at (m := p) (by omega) (by omega) (fun j h1 h2 => HU.out j h1 h2)]; exact up_hit hR2)
              clear CU hR2
              go_wp2_with fail
              ((first | refine wp_region_gen2 (by kernel_rfl) (by kernel_rfl) ?_ | refine wp_region_gen (by kernel_rfl) (by kernel_rfl) ?_); (repeat' (first | (refine gLex_val0 rfl (by kernel_rfl) (fun K hK => ?_); (go_simp; (try (simp only [↓IntWalk.iteOmega]; try go_simp)); (try simp (disch := omega) only [IntWalk.i64_in]); (try simp (disch := omega) only [IntWalk.u64_in]); first | (refine hK _ ?_; clear hK K) | (apply Exists.intro; refine ⟨fun x => ?_, hK _ ?_⟩; (first | (go_at_call 56; exact CU'.out _ (by simp [go_sem]) (by simp [go_sem]) (by simp [go_sem]))); clear hK K))) | (refine gLex_undef rfl rfl rfl (by kernel_rfl) (fun K hK => ?_); go_simp; refine hK _ ?_; clear hK K) | (refine gLex_ask rfl rfl rfl ?_; first | (apply gAsk_yes; kernel_rfl; intro K hK; (go_simp; (try (simp only [↓IntWalk.iteOmega]; try go_simp)); (try simp (disch := omega) only [IntWalk.i64_in]); (try simp (disch := omega) only [IntWalk.u64_in]); first | (refine hK _ ?_; clear hK K) | (apply Exists.intro; refine ⟨fun x => ?_, hK _ ?_⟩; (first | (go_at_call 56; exact CU'.out _ (by simp [go_sem]) (by simp [go_sem]) (by simp [go_sem]))); clear hK K))) | ((first | apply gAsk_no1 | apply gAsk_no2); kernel_rfl; intro K hK; simp [go_sem]; refine hK _ ?_; clear hK K) | (apply gAsk_part; kernel_rfl; all_goals (intro h K hK; (try simp only [Bool.not_true] at h); (try simp only [Bool.not_false] at h); (try simp only [decide_eq_true_eq] at h); (try simp only [decide_eq_false_iff_not] at h); first | (exfalso; first | contradiction | omega) | (go_simp; (try (simp only [↓IntWalk.iteOmega]; try go_simp)); (try simp (disch := omega) only [IntWalk.i64_in]); (try simp (disch := omega) only [IntWalk.u64_in]); first | (refine hK _ ?_; clear hK K) | (apply Exists.intro; refine ⟨fun x => ?_, hK _ ?_⟩; (first | (go_at_call 56; exact CU'.out _ (by simp [go_sem]) (by simp [go_sem]) (by simp [go_sem]))); clear hK K))))))); all_goals ((apply gLex_end); intro x))
              go_wp2
              rw [Exit.noGoto_ret]
              go_ret3
              exact ⟨ret_val HJ.out.symm, (by repeat (first | exact Grows.refl _ | refine Grows.now ?_ _ | refine Grows.new ?_ _ | refine Grows.drewN ?_ _ | refine Grows.drew ?_ | assumption | (refine Grows.set ?_ (by first | omega | (simp; done) | (simp; omega)) _)))⟩
            | false =>
              rw [show rcB (uw (gi xs p) (gi xs m)) a b base = false from hR2] at CU
              have CU' := hide CU
              have HF2 := hide hR2
              clear CU hR2
              go_wp2_with fail
              ((first | refine wp_region_gen2 (by kernel_rfl) (by kernel_rfl) ?_ | refine wp_region_gen (by kernel_rfl) (by kernel_rfl) ?_); (repeat' (first | (refine gLex_val0 rfl (by kernel_rfl) (fun K hK => ?_); (go_simp; (try (simp only [↓IntWalk.iteOmega]; try go_simp)); (try simp (disch := omega) only [IntWalk.i64_in]); (try simp (disch := omega) only [IntWalk.u64_in]); first | (refine hK _ ?_; clear hK K) | (apply Exists.intro; refine ⟨fun x => ?_, hK _ ?_⟩; (first | (go_at_call 56; exact CU'.out _ (by simp [go_sem]) (by simp [go_sem]) (by simp [go_sem]))); clear hK K))) | (refine gLex_undef rfl rfl rfl (by kernel_rfl) (fun K hK => ?_); go_simp; refine hK _ ?_; clear hK K) | (refine gLex_ask rfl rfl rfl ?_; first | (apply gAsk_yes; kernel_rfl; intro K hK; (go_simp; (try (simp only [↓IntWalk.iteOmega]; try go_simp)); (try simp (disch := omega) only [IntWalk.i64_in]); (try simp (disch := omega) only [IntWalk.u64_in]); first | (refine hK _ ?_; clear hK K) | (apply Exists.intro; refine ⟨fun x => ?_, hK _ ?_⟩; (first | (go_at_call 56; exact CU'.out _ (by simp [go_sem]) (by simp [go_sem]) (by simp [go_sem]))); clear hK K))) | ((first | apply gAsk_no1 | apply gAsk_no2); kernel_rfl; intro K hK; simp [go_sem]; refine hK _ ?_; clear hK K) | (apply gAsk_part; kernel_rfl; all_goals (intro h K hK; (try simp only [Bool.not_true] at h); (try simp only [Bool.not_false] at h); (try simp only [decide_eq_true_eq] at h); (try simp only [decide_eq_false_iff_not] at h); first | (exfalso; first | contradiction | omega) | (go_simp; (try (simp only [↓IntWalk.iteOmega]; try go_simp)); (try simp (disch := omega) only [IntWalk.i64_in]); (try simp (disch := omega) only [IntWalk.u64_in]); first | (refine hK _ ?_; clear hK K) | (apply Exists.intro; refine ⟨fun x => ?_, hK _ ?_⟩; (first | (go_at_call 56; exact CU'.out _ (by simp [go_sem]) (by simp [go_sem]) (by simp [go_sem]))); clear hK K))))))); all_goals ((apply gLex_end); intro x))
              go_wp2
              go_roundw
              case measure => simp [intOf]; omega
              case rel =>
                refine ⟨p + 1, by omega, by go_num, rfl, ⟨_, rfl⟩, fun j h1 h2 => ?_⟩
                by_cases hj : j = p
                · rw [hj]; exact HF2.out
                · exact HU.out j h1 (by omega)
        | false =>
          rw [show rcB (uw (gi xs m) (gi xs q)) a b base = false from hR] at CU
          have CU' := hide CU
          have HF2 := hide hR
          clear CU hR
          go_wp2_with fail
          ((first | refine wp_region_gen2 (by kernel_rfl) (by kernel_rfl) ?_ | refine wp_region_gen (by kernel_rfl) (by kernel_rfl) ?_); (repeat' (first | (refine gLex_val0 rfl (by kernel_rfl) (fun K hK => ?_); (go_simp; (try (simp only [↓IntWalk.iteOmega]; try go_simp)); (try simp (disch := omega) only [IntWalk.i64_in]); (try simp (disch := omega) only [IntWalk.u64_in]); first | (refine hK _ ?_; clear hK K) | (apply Exists.intro; refine ⟨fun x => ?_, hK _ ?_⟩; (first | (go_at_call 56; exact CU'.out _ (by simp [go_sem]) (by simp [go_sem]) (by simp [go_sem]))); clear hK K))) | (refine gLex_undef rfl rfl rfl (by kernel_rfl) (fun K hK => ?_); go_simp; refine hK _ ?_; clear hK K) | (refine gLex_ask rfl rfl rfl ?_; first | (apply gAsk_yes; kernel_rfl; intro K hK; (go_simp; (try (simp only [↓IntWalk.iteOmega]; try go_simp)); (try simp (disch := omega) only [IntWalk.i64_in]); (try simp (disch := omega) only [IntWalk.u64_in]); first | (refine hK _ ?_; clear hK K) | (apply Exists.intro; refine ⟨fun x => ?_, hK _ ?_⟩; (first | (go_at_call 56; exact CU'.out _ (by simp [go_sem]) (by simp [go_sem]) (by simp [go_sem]))); clear hK K))) | ((first | apply gAsk_no1 | apply gAsk_no2); kernel_rfl; intro K hK; simp [go_sem]; refine hK _ ?_; clear hK K) | (apply gAsk_part; kernel_rfl; all_goals (intro h K hK; (try simp only [Bool.not_true] at h); (try simp only [Bool.not_false] at h); (try simp only [decide_eq_true_eq] at h); (try simp only [decide_eq_false_iff_not] at h); first | (exfalso; first | contradiction | omega) | (go_simp; (try (simp only [↓IntWalk.iteOmega]; try go_simp)); (try simp (disch := omega) only [IntWalk.i64_in]); (try simp (disch := omega) only [IntWalk.u64_in]); first | (refine hK _ ?_; clear hK K) | (apply Exists.intro; refine ⟨fun x => ?_, hK _ ?_⟩; (first | (go_at_call 56; exact CU'.out _ (by simp [go_sem]) (by simp [go_sem]) (by simp [go_sem]))); clear hK K))))))); all_goals ((apply gLex_end); intro x))
          go_wp2
          go_roundw
          case measure => simp [intOf]
          case rel =>
            refine ⟨q, by omega, by go_num, rfl, ⟨_, rfl⟩, fun j h1 h2 => ?_⟩
            by_cases hj : j = q
            · rw [hj]; exact HF2.out
            · exact HK.out j (by omega) h2

end Go.Proofs.Ytaoodmioehkebaa
