/- Contracts: the window at a place of offsets: the program's own function. -/
import Derived.Test.YtgplpgldhoelcaaGreatQPenWays12
import Derived.Test.YtgplpgldhoelcaaGreatQPenWays13
import Derived.Test.YtgplpgldhoelcaaGreatQPenWays20
namespace Go.Proofs.YtgplpgldhoelcaaGreat
open Go Go.RowKit
set_option maxHeartbeats 2000000 in
theorem localWindow (A : Option Addr) (n c : Nat) (xs : List Int) (at_ a b base : Int) (w : World) (h : Rd w A 1 n (xs.map (.int .u64))) (hn : n ≤ 1000000) (hbase : U64 base) :
    Calls Tryz.prog 206 #[.slice A n c, .int .i64 at_, .agg #[.int .u64 a, .int .u64 b], .int .u64 base] w fun e w' => e = .returned (winV at_ n xs a b base) ∧ Grows w w' := by
  have HL := hide (show xs.length = n by simpa using h.len)
  have HR := hide h
  have HE := hide hbase
  have C1 := fun W (g : Grows w W) => isSorted A n c xs W (HR.out.grows g) hn
  have C2 := fun W => ratioRight a b W
  clear h hbase
  by_cases h1 : at_ < 0
  · have HW : Hid (wgB at_ n xs a b = false) := wgB_at (by omega)
    clear C1 C2
    go_enter Tryz.func206, Tryz.ntmps206
    go_wp2
    go_step3
    go_wp2
    rw [Exit.noGoto_ret]
    go_ret3
    exact ⟨ret_val (winV_bad HW.out), GG⟩
  by_cases h2 : (n : Int) ≤ at_
  · have HW : Hid (wgB at_ n xs a b = false) := wgB_at (by omega)
    clear C1 C2
    go_enter Tryz.func206, Tryz.ntmps206
    go_wp2
    go_step3
    go_wp2
    rw [Exit.noGoto_ret]
    go_ret3
    exact ⟨ret_val (winV_bad HW.out), GG⟩
  obtain ⟨b', off, rfl, hc⟩ := HR.out.ints (by omega)
  have hc0 := hc 0 (by omega)
  simp only [Nat.add_zero] at hc0
  have HO := hide (off_of HL.out (by omega))
  have HG := hide hc
  clear hc
  cases h0 : decide (gi xs 0 = 0) with
  | false =>
    have h0' : (gi xs 0 != 0) = true := by simpa using h0
    have HW : Hid (wgB at_ n xs a b = false) := wgB_off (by rw [HO.out, h0]; rfl)
    clear C1 C2 h0
    go_enter Tryz.func206, Tryz.ntmps206
    go_wp2
    go_step3
    go_wp2
    rw [Exit.noGoto_ret]
    go_ret3
    exact ⟨ret_val (winV_bad HW.out), GG⟩
  | true =>
  have h0' : (gi xs 0 != 0) = false := by simpa using h0
  cases h3 : srtB xs with
  | false =>
    have HW : Hid (wgB at_ n xs a b = false) := wgB_off (by rw [HO.out, h3]; simp)
    rw [h3] at C1
    have HC := hide C1
    clear C1 C2 h3 h0
    go_enter Tryz.func206, Tryz.ntmps206
    go_wp2_with fail
    go_step3
    go_wp2_with (first | (go_at_call 239; refine (HC.out _ GG).mono ?_; rintro e w' ⟨rfl, hg⟩; (first | obtain ⟨x, rfl⟩ := Grows.later2 hg | obtain ⟨x, rfl⟩ := Grows.later hg); clear hg))
    rw [Exit.noGoto_ret]
    go_ret3
    exact ⟨ret_val (winV_bad HW.out), GG⟩
  | true =>
  cases h4 : rrB a b with
  | false =>
    have HW : Hid (wgB at_ n xs a b = false) := wgB_rr h4
    rw [h3] at C1
    rw [h4] at C2
    have HC := hide C1
    have HD := hide C2
    clear C1 C2 h3 h4 h0
    go_enter Tryz.func206, Tryz.ntmps206
    go_wp2_with fail
    go_step3
    go_wp2_with (first | (go_at_call 239; refine (HC.out _ GG).mono ?_; rintro e w' ⟨rfl, hg⟩; (first | obtain ⟨x, rfl⟩ := Grows.later2 hg | obtain ⟨x, rfl⟩ := Grows.later hg); clear hg) | (go_at_call 92; refine (HD.out _).mono ?_; rintro e w' ⟨rfl, hg⟩; (first | obtain ⟨x, rfl⟩ := Grows.later2 hg | obtain ⟨x, rfl⟩ := Grows.later hg); clear hg))
    rw [Exit.noGoto_ret]
    go_ret3
    exact ⟨ret_val (winV_bad HW.out), GG⟩
  | true =>
    have HW : Hid (wgB at_ n xs a b = true) := wgB_ok h1 h2 (by rw [HO.out, h3, h0]; rfl) h4
    have HB := hide (rrB_u64 h4)
    rw [h3] at C1
    rw [h4] at C2
    have HC := hide C1
    have HD := hide C2
    clear C1 C2 h3 h4 h0
    obtain ⟨m, rfl⟩ : ∃ m : Nat, at_ = m := ⟨at_.toNat, by omega⟩
    have hnm : decide (n ≤ m) = false := by simp; omega
    have HG0 : Hid (∀ j, j < n → World.cell? ((w.alloc (.cells #[.int .u64 a, .int .u64 b] 71)).alloc (.cells #[.int .u64 base] 41)) ⟨b', off + j, none⟩ = some (.int .u64 (gi xs j))) := fun j hj => Grows.keeps (((Grows.refl w).new _).new _) (HG.out j hj)
    have hm0 : decide ((m : Int) < 0) = false := by simp
    go_enter Tryz.func206, Tryz.ntmps206
    go_wp2_with fail
    go_step3
    go_wp2_with (first | (go_at_call 239; refine (HC.out _ GG).mono ?_; rintro e w' ⟨rfl, hg⟩; (first | obtain ⟨x, rfl⟩ := Grows.later2 hg | obtain ⟨x, rfl⟩ := Grows.later hg); clear hg) | (go_at_call 92; refine (HD.out _).mono ?_; rintro e w' ⟨rfl, hg⟩; (first | obtain ⟨x, rfl⟩ := Grows.later2 hg | obtain ⟨x, rfl⟩ := Grows.later hg); clear hg))
    go_step3
    go_wp2_with fail
    go_loopw [12, 8] (fun i i' wr => ∃ k : Nat, k ≤ m + 1 ∧ i = .int .i64 ((k : Int) - 1) ∧ i' = .int .i64 0 ∧ (∃ x : Later ((w.alloc (.cells #[.int .u64 a, .int .u64 b] 71)).alloc (.cells #[.int .u64 base] 41)), wr = x.now) ∧ ∀ j, k ≤ j → j ≤ m → wdn xs a b base m j = false) (fun i _ _ => (intOf i + 1).toNat)
    case atStart => exact ⟨m + 1, by omega, by go_num, rfl, ⟨_, rfl⟩, fun j h1 h2 => by omega⟩
    case round =>
      obtain ⟨k, hk, rfl, rfl, ⟨x, rfl⟩, hall⟩ := hrel
      have HK := hide hall
      clear hall
      rcases Nat.eq_zero_or_pos k with rfl | hk0
      · have HI : Hid (dn (wdn xs a b base m) m = 0) := dn_none fun j hj => HK.out j (by omega) hj
        clear HK
        rw [show (((0 : Nat) : Int) - 1) = -1 from rfl]
        go_wp2_with fail
        · go_step3
          go_wp2_with fail
          go_loopw [61, 9] (fun i j' wr => ∃ q : Nat, q ≤ n ∧ i = .int .i64 (q : Int) ∧ j' = .int .i64 ((n : Int) - 1) ∧ (∃ x : Later ((w.alloc (.cells #[.int .u64 a, .int .u64 b] 71)).alloc (.cells #[.int .u64 base] 41)), wr = x.now) ∧ ∀ j, m ≤ j → j < q → wup xs a b base m j = false) (fun i _ _ => n - (intOf i).toNat)
          case atStart => exact ⟨0, by omega, by go_num, rfl, ⟨_, rfl⟩, fun j h1 h2 => by omega⟩
          case round =>
            obtain ⟨p, hp1, rfl, rfl, ⟨y, rfl⟩, hall⟩ := hrel
            have HU := hide hall
            clear hall
            by_cases hend : n ≤ p
            · have HJ : Hid (winV m n xs a b base = .tuple #[.int .i64 0, .int .i64 ((n : Int) - 1), .bool true]) := by
                have h := winV_ok (j := n - 1) HW.out HI.out (by rw [up_at (m := n - 1) (by omega) (by omega) (fun j h1 h2 => HU.out j h1 (by omega)), show m + (n - 1 - m) - (n - 1) = 0 by omega]; rfl)
                rw [show ((n - 1 : Nat) : Int) = (n : Int) - 1 by omega] at h
                exact h
              go_wp2
              rw [Exit.noGoto_ret]
              go_ret3
              exact ⟨ret_val HJ.out.symm, GG⟩
            by_cases hm : p < m
            · have hd : decide ((m : Int) ≤ (p : Int)) = false := by simp; omega
              go_wp2_with fail
              ((first | refine wp_region_gen2 (by kernel_rfl) (by kernel_rfl) ?_ | refine wp_region_gen (by kernel_rfl) (by kernel_rfl) ?_); (repeat' ((first | refine gLex_val0 rfl (by kernel_rfl) (fun K hK => ?_) | refine gLex_undef rfl rfl rfl (by kernel_rfl) (fun K hK => ?_) | (refine gLex_ask rfl rfl rfl ?_; first | (apply gAsk_yes; kernel_rfl; intro K hK) | ((first | apply gAsk_no1 | apply gAsk_no2); kernel_rfl; intro K hK) | (apply gAsk_part; kernel_rfl; all_goals (intro h K hK; (try simp only [Bool.not_true] at h); (try simp only [Bool.not_false] at h); (try simp only [decide_eq_true_eq] at h); (try simp only [decide_eq_false_iff_not] at h); try (exfalso; first | contradiction | omega))))) <;> (go_simp; (try (simp only [↓IntWalk.iteOmega]; try go_simp)); (try simp (disch := omega) only [IntWalk.i64_in]); (try simp (disch := omega) only [IntWalk.u64_in]); refine hK _ ?_; clear hK K))); all_goals ((apply gLex_end); intro x))
              go_wp2
              go_roundw
              case measure => simp [intOf]; omega
              case rel => exact ⟨p + 1, by omega, by go_num, rfl, ⟨_, rfl⟩, fun j h1 h2 => by omega⟩
            have hc3 := HG0.out m (by omega)
            have hc4 := HG0.out p (by omega)
            have CU := fun (W : World) c0 c1 c2 => localWindow1 (uw (gi xs p) (gi xs m)) a b base w.heap.size (w.heap.size + 1) W (uw_u64 _ _) HE.out c0 c1 c2
            have hd : (m : Int) ≤ (p : Int) := by omega
            cases hR2 : wup xs a b base m p with
            | true =>
              rw [show rcB (uw (gi xs p) (gi xs m)) a b base = true from hR2] at CU
              have CU' := hide CU
              have HJ : Hid (winV m n xs a b base = .tuple #[.int .i64 0, .int .i64 (p : Int), .bool true]) := winV_ok HW.out HI.out (by rw [up_at (m := p) (by omega) (by omega) (fun j h1 h2 => HU.out j h1 h2)]; exact up_hit hR2)
              clear CU hR2
              go_wp2_with fail
              ((first | refine wp_region_gen2 (by kernel_rfl) (by kernel_rfl) ?_ | refine wp_region_gen (by kernel_rfl) (by kernel_rfl) ?_); (repeat' ((first | refine gLex_val0 rfl (by kernel_rfl) (fun K hK => ?_) | refine gLex_undef rfl rfl rfl (by kernel_rfl) (fun K hK => ?_) | (refine gLex_ask rfl rfl rfl ?_; first | (apply gAsk_yes; kernel_rfl; intro K hK) | ((first | apply gAsk_no1 | apply gAsk_no2); kernel_rfl; intro K hK) | (apply gAsk_part; kernel_rfl; all_goals (intro h K hK; (try simp only [Bool.not_true] at h); (try simp only [Bool.not_false] at h); (try simp only [decide_eq_true_eq] at h); (try simp only [decide_eq_false_iff_not] at h); try (exfalso; first | contradiction | omega))))) <;> (go_simp; (try (simp only [↓IntWalk.iteOmega]; try go_simp)); (try simp (disch := omega) only [IntWalk.i64_in]); (try simp (disch := omega) only [IntWalk.u64_in]); first | (refine hK _ ?_; clear hK K) | (apply Exists.intro; refine ⟨fun x => ?_, hK _ ?_⟩; (first | (go_at_call 240; exact CU'.out _ (by simp [go_sem]) (by simp [go_sem]) (by simp [go_sem]))); clear hK K)))); all_goals ((apply gLex_end); intro x))
              go_wp2
              rw [Exit.noGoto_ret]
              go_ret3
              exact ⟨ret_val HJ.out.symm, GG⟩
            | false =>
              rw [show rcB (uw (gi xs p) (gi xs m)) a b base = false from hR2] at CU
              have CU' := hide CU
              have HF2 := hide hR2
              clear CU hR2
              go_wp2_with fail
              ((first | refine wp_region_gen2 (by kernel_rfl) (by kernel_rfl) ?_ | refine wp_region_gen (by kernel_rfl) (by kernel_rfl) ?_); (repeat' ((first | refine gLex_val0 rfl (by kernel_rfl) (fun K hK => ?_) | refine gLex_undef rfl rfl rfl (by kernel_rfl) (fun K hK => ?_) | (refine gLex_ask rfl rfl rfl ?_; first | (apply gAsk_yes; kernel_rfl; intro K hK) | ((first | apply gAsk_no1 | apply gAsk_no2); kernel_rfl; intro K hK) | (apply gAsk_part; kernel_rfl; all_goals (intro h K hK; (try simp only [Bool.not_true] at h); (try simp only [Bool.not_false] at h); (try simp only [decide_eq_true_eq] at h); (try simp only [decide_eq_false_iff_not] at h); try (exfalso; first | contradiction | omega))))) <;> (go_simp; (try (simp only [↓IntWalk.iteOmega]; try go_simp)); (try simp (disch := omega) only [IntWalk.i64_in]); (try simp (disch := omega) only [IntWalk.u64_in]); first | (refine hK _ ?_; clear hK K) | (apply Exists.intro; refine ⟨fun x => ?_, hK _ ?_⟩; (first | (go_at_call 240; exact CU'.out _ (by simp [go_sem]) (by simp [go_sem]) (by simp [go_sem]))); clear hK K)))); all_goals ((apply gLex_end); intro x))
              go_wp2
              go_roundw
              case measure => simp [intOf]; omega
              case rel =>
                refine ⟨p + 1, by omega, by go_num, rfl, ⟨_, rfl⟩, fun j h1 h2 => ?_⟩
                by_cases hj : j = p
                · rw [hj]; exact HF2.out
                · exact HU.out j h1 (by omega)
      · obtain ⟨q, rfl⟩ : ∃ q, k = q + 1 := ⟨k - 1, by omega⟩
        rw [show (((q + 1 : Nat) : Int) - 1) = (q : Int) by omega]
        have hc3 := HG0.out m (by omega)
        have hc4 := HG0.out q (by omega)
        have CU := fun (W : World) c0 c1 c2 => localWindow1 (uw (gi xs m) (gi xs q)) a b base w.heap.size (w.heap.size + 1) W (uw_u64 _ _) HE.out c0 c1 c2
        cases hR : wdn xs a b base m q with
        | true =>
          rw [show rcB (uw (gi xs m) (gi xs q)) a b base = true from hR] at CU
          have CU' := hide CU
          have HI : Hid (dn (wdn xs a b base m) m = q) := by rw [dn_at (k := q) (by omega) (fun j h1 h2 => HK.out j h1 h2)]; exact dn_hit hR
          clear CU hR HK
          go_wp2_with fail
          ((first | refine wp_region_gen2 (by kernel_rfl) (by kernel_rfl) ?_ | refine wp_region_gen (by kernel_rfl) (by kernel_rfl) ?_); (repeat' ((first | refine gLex_val0 rfl (by kernel_rfl) (fun K hK => ?_) | refine gLex_undef rfl rfl rfl (by kernel_rfl) (fun K hK => ?_) | (refine gLex_ask rfl rfl rfl ?_; first | (apply gAsk_yes; kernel_rfl; intro K hK) | ((first | apply gAsk_no1 | apply gAsk_no2); kernel_rfl; intro K hK) | (apply gAsk_part; kernel_rfl; all_goals (intro h K hK; (try simp only [Bool.not_true] at h); (try simp only [Bool.not_false] at h); (try simp only [decide_eq_true_eq] at h); (try simp only [decide_eq_false_iff_not] at h); try (exfalso; first | contradiction | omega))))) <;> (go_simp; (try (simp only [↓IntWalk.iteOmega]; try go_simp)); (try simp (disch := omega) only [IntWalk.i64_in]); (try simp (disch := omega) only [IntWalk.u64_in]); first | (refine hK _ ?_; clear hK K) | (apply Exists.intro; refine ⟨fun x => ?_, hK _ ?_⟩; (first | (go_at_call 240; exact CU'.out _ (by simp [go_sem]) (by simp [go_sem]) (by simp [go_sem]))); clear hK K)))); all_goals ((apply gLex_end); intro x))
          clear CU' hc3 hc4
          go_wp2_with fail
          go_step3
          go_wp2_with fail
          go_loopw [61, 9] (fun i j' wr => ∃ q : Nat, q ≤ n ∧ i = .int .i64 (q : Int) ∧ j' = .int .i64 ((n : Int) - 1) ∧ (∃ x : Later ((w.alloc (.cells #[.int .u64 a, .int .u64 b] 71)).alloc (.cells #[.int .u64 base] 41)), wr = x.now) ∧ ∀ j, m ≤ j → j < q → wup xs a b base m j = false) (fun i _ _ => n - (intOf i).toNat)
          case atStart => exact ⟨0, by omega, by go_num, rfl, ⟨_, rfl⟩, fun j h1 h2 => by omega⟩
          case round =>
            obtain ⟨p, hp1, rfl, rfl, ⟨y, rfl⟩, hall⟩ := hrel
            have HU := hide hall
            clear hall
            by_cases hend : n ≤ p
            · have HJ : Hid (winV m n xs a b base = .tuple #[.int .i64 (q : Int), .int .i64 ((n : Int) - 1), .bool true]) := by
                have h := winV_ok (j := n - 1) HW.out HI.out (by rw [up_at (m := n - 1) (by omega) (by omega) (fun j h1 h2 => HU.out j h1 (by omega)), show m + (n - 1 - m) - (n - 1) = 0 by omega]; rfl)
                rw [show ((n - 1 : Nat) : Int) = (n : Int) - 1 by omega] at h
                exact h
              go_wp2
              rw [Exit.noGoto_ret]
              go_ret3
              exact ⟨ret_val HJ.out.symm, GG⟩
            by_cases hm : p < m
            · have hd : decide ((m : Int) ≤ (p : Int)) = false := by simp; omega
              go_wp2_with fail
              ((first | refine wp_region_gen2 (by kernel_rfl) (by kernel_rfl) ?_ | refine wp_region_gen (by kernel_rfl) (by kernel_rfl) ?_); (repeat' ((first | refine gLex_val0 rfl (by kernel_rfl) (fun K hK => ?_) | refine gLex_undef rfl rfl rfl (by kernel_rfl) (fun K hK => ?_) | (refine gLex_ask rfl rfl rfl ?_; first | (apply gAsk_yes; kernel_rfl; intro K hK) | ((first | apply gAsk_no1 | apply gAsk_no2); kernel_rfl; intro K hK) | (apply gAsk_part; kernel_rfl; all_goals (intro h K hK; (try simp only [Bool.not_true] at h); (try simp only [Bool.not_false] at h); (try simp only [decide_eq_true_eq] at h); (try simp only [decide_eq_false_iff_not] at h); try (exfalso; first | contradiction | omega))))) <;> (go_simp; (try (simp only [↓IntWalk.iteOmega]; try go_simp)); (try simp (disch := omega) only [IntWalk.i64_in]); (try simp (disch := omega) only [IntWalk.u64_in]); refine hK _ ?_; clear hK K))); all_goals ((apply gLex_end); intro x))
              go_wp2
              go_roundw
              case measure => simp [intOf]; omega
              case rel => exact ⟨p + 1, by omega, by go_num, rfl, ⟨_, rfl⟩, fun j h1 h2 => by omega⟩
            have hc3 := HG0.out m (by omega)
            have hc4 := HG0.out p (by omega)
            have CU := fun (W : World) c0 c1 c2 => localWindow1 (uw (gi xs p) (gi xs m)) a b base w.heap.size (w.heap.size + 1) W (uw_u64 _ _) HE.out c0 c1 c2
            have hd : (m : Int) ≤ (p : Int) := by omega
            cases hR2 : wup xs a b base m p with
            | true =>
              rw [show rcB (uw (gi xs p) (gi xs m)) a b base = true from hR2] at CU
              have CU' := hide CU
              have HJ : Hid (winV m n xs a b base = .tuple #[.int .i64 (q : Int), .int .i64 (p : Int), .bool true]) := winV_ok HW.out HI.out (by rw [up_at (m := p) (by omega) (by omega) (fun j h1 h2 => HU.out j h1 h2)]; exact up_hit hR2)
              clear CU hR2
              go_wp2_with fail
              ((first | refine wp_region_gen2 (by kernel_rfl) (by kernel_rfl) ?_ | refine wp_region_gen (by kernel_rfl) (by kernel_rfl) ?_); (repeat' ((first | refine gLex_val0 rfl (by kernel_rfl) (fun K hK => ?_) | refine gLex_undef rfl rfl rfl (by kernel_rfl) (fun K hK => ?_) | (refine gLex_ask rfl rfl rfl ?_; first | (apply gAsk_yes; kernel_rfl; intro K hK) | ((first | apply gAsk_no1 | apply gAsk_no2); kernel_rfl; intro K hK) | (apply gAsk_part; kernel_rfl; all_goals (intro h K hK; (try simp only [Bool.not_true] at h); (try simp only [Bool.not_false] at h); (try simp only [decide_eq_true_eq] at h); (try simp only [decide_eq_false_iff_not] at h); try (exfalso; first | contradiction | omega))))) <;> (go_simp; (try (simp only [↓IntWalk.iteOmega]; try go_simp)); (try simp (disch := omega) only [IntWalk.i64_in]); (try simp (disch := omega) only [IntWalk.u64_in]); first | (refine hK _ ?_; clear hK K) | (apply Exists.intro; refine ⟨fun x => ?_, hK _ ?_⟩; (first | (go_at_call 240; exact CU'.out _ (by simp [go_sem]) (by simp [go_sem]) (by simp [go_sem]))); clear hK K)))); all_goals ((apply gLex_end); intro x))
              go_wp2
              rw [Exit.noGoto_ret]
              go_ret3
              exact ⟨ret_val HJ.out.symm, GG⟩
            | false =>
              rw [show rcB (uw (gi xs p) (gi xs m)) a b base = false from hR2] at CU
              have CU' := hide CU
              have HF2 := hide hR2
              clear CU hR2
              go_wp2_with fail
              ((first | refine wp_region_gen2 (by kernel_rfl) (by kernel_rfl) ?_ | refine wp_region_gen (by kernel_rfl) (by kernel_rfl) ?_); (repeat' ((first | refine gLex_val0 rfl (by kernel_rfl) (fun K hK => ?_) | refine gLex_undef rfl rfl rfl (by kernel_rfl) (fun K hK => ?_) | (refine gLex_ask rfl rfl rfl ?_; first | (apply gAsk_yes; kernel_rfl; intro K hK) | ((first | apply gAsk_no1 | apply gAsk_no2); kernel_rfl; intro K hK) | (apply gAsk_part; kernel_rfl; all_goals (intro h K hK; (try simp only [Bool.not_true] at h); (try simp only [Bool.not_false] at h); (try simp only [decide_eq_true_eq] at h); (try simp only [decide_eq_false_iff_not] at h); try (exfalso; first | contradiction | omega))))) <;> (go_simp; (try (simp only [↓IntWalk.iteOmega]; try go_simp)); (try simp (disch := omega) only [IntWalk.i64_in]); (try simp (disch := omega) only [IntWalk.u64_in]); first | (refine hK _ ?_; clear hK K) | (apply Exists.intro; refine ⟨fun x => ?_, hK _ ?_⟩; (first | (go_at_call 240; exact CU'.out _ (by simp [go_sem]) (by simp [go_sem]) (by simp [go_sem]))); clear hK K)))); all_goals ((apply gLex_end); intro x))
              go_wp2
              go_roundw
              case measure => simp [intOf]; omega
              case rel =>
                refine ⟨p + 1, by omega, by go_num, rfl, ⟨_, rfl⟩, fun j h1 h2 => ?_⟩
                by_cases hj : j = p
                · rw [hj]; exact HF2.out
                · exact HU.out j h1 (by omega)
        | false =>
          rw [show rcB (uw (gi xs m) (gi xs q)) a b base = false from hR] at CU
          have CU' := hide CU
          have HF2 := hide hR
          clear CU hR
          go_wp2_with fail
          ((first | refine wp_region_gen2 (by kernel_rfl) (by kernel_rfl) ?_ | refine wp_region_gen (by kernel_rfl) (by kernel_rfl) ?_); (repeat' ((first | refine gLex_val0 rfl (by kernel_rfl) (fun K hK => ?_) | refine gLex_undef rfl rfl rfl (by kernel_rfl) (fun K hK => ?_) | (refine gLex_ask rfl rfl rfl ?_; first | (apply gAsk_yes; kernel_rfl; intro K hK) | ((first | apply gAsk_no1 | apply gAsk_no2); kernel_rfl; intro K hK) | (apply gAsk_part; kernel_rfl; all_goals (intro h K hK; (try simp only [Bool.not_true] at h); (try simp only [Bool.not_false] at h); (try simp only [decide_eq_true_eq] at h); (try simp only [decide_eq_false_iff_not] at h); try (exfalso; first | contradiction | omega))))) <;> (go_simp; (try (simp only [↓IntWalk.iteOmega]; try go_simp)); (try simp (disch := omega) only [IntWalk.i64_in]); (try simp (disch := omega) only [IntWalk.u64_in]); first | (refine hK _ ?_; clear hK K) | (apply Exists.intro; refine ⟨fun x => ?_, hK _ ?_⟩; (first | (go_at_call 240; exact CU'.out _ (by simp [go_sem]) (by simp [go_sem]) (by simp [go_sem]))); clear hK K)))); all_goals ((apply gLex_end); intro x))
          go_wp2
          go_roundw
          case measure => simp [intOf]
          case rel =>
            refine ⟨q, by omega, by go_num, rfl, ⟨_, rfl⟩, fun j h1 h2 => ?_⟩
            by_cases hj : j = q
            · rw [hj]; exact HF2.out
            · exact HK.out j (by omega) h2

end Go.Proofs.YtgplpgldhoelcaaGreat

namespace Go.Proofs.YtgplpgldhoelcaaGreat
open Go Go.RowKit
attribute [local go_sem] Oper.semAt_some
def OneI (w : World) (lo b6 b8 b9 t : Nat) (z8 z9 : Value) (p : List (Nat × Nat)) (Mi : Nat → Prop) (W : World) : Prop :=
  (∃ y : Later w, W = y.now) ∧ (Arr W b6 3 [.int .i64 (t : Int)] ∧ Arr W b8 41 [z8] ∧ Arr W b9 29 [z9]) ∧ (t ∉ p.map Prod.fst) ∧ (∀ k, Mi k → lo ≤ k ∧ k < W.heap.size) ∧ lo ≤ W.heap.size
theorem OneI.yields {w : World} {lo b6 b8 b9 t : Nat} {z8 z9 : Value} (h1 : b6 < lo) (h2 : b8 < lo) (h3 : b9 < lo) (hlo : w.heap.size ≤ lo) : Yields' (OneI w lo b6 b8 b9 t z8 z9) := by
  rintro p Mi W Mi' W' ⟨⟨y, rfl⟩, ⟨a1, a2, a3⟩, a4, a5, a6⟩ ht hM'
  have nb : ∀ k, k < lo → ¬ Mi k := fun k hk e => by have := (a5 _ e).1; omega
  refine ⟨⟨⟨W', ht.later y.grows (fun k hk => Nat.le_trans hlo (a5 k hk).1)⟩, rfl⟩, ⟨a1.touch ht (nb _ h1), a2.touch ht (nb _ h2), a3.touch ht (nb _ h3)⟩, a4, fun k hk => ?_, Nat.le_trans a6 ht.size⟩
  obtain ⟨h | h, h'⟩ := hM' k hk
  · exact ⟨(a5 k h).1, h'⟩
  · exact ⟨by omega, h'⟩
def OneX (w : World) (lo _ b8 b9 t : Nat) (xs : List (Nat × Nat)) (c : Code) (_ : List (Nat × Nat)) (Mi : Nat → Prop) (W : World) : Prop :=
  c = .ret ∧ ∃ f, (t, f) ∈ xs ∧ (∃ y : Later w, W = y.now) ∧ (Arr W b8 41 [.int .u64 (f : Int)] ∧ Arr W b9 29 [.int .i64 0]) ∧ (∀ k, Mi k → lo ≤ k ∧ k < W.heap.size) ∧ lo ≤ W.heap.size
theorem OneX.yields {w : World} {lo b6 b8 b9 t : Nat} {xs : List (Nat × Nat)} (h2 : b8 < lo) (h3 : b9 < lo) (hlo : w.heap.size ≤ lo) (c : Code) : Yields' (OneX w lo b6 b8 b9 t xs c) := by
  rintro p Mi W Mi' W' ⟨e, f, a0, ⟨y, rfl⟩, ⟨a2, a3⟩, a5, a6⟩ ht hM'
  have nb : ∀ k, k < lo → ¬ Mi k := fun k hk e => by have := (a5 _ e).1; omega
  refine ⟨e, f, a0, ⟨⟨W', ht.later y.grows (fun k hk => Nat.le_trans hlo (a5 k hk).1)⟩, rfl⟩, ⟨a2.touch ht (nb _ h2), a3.touch ht (nb _ h3)⟩, fun k hk => ?_, Nat.le_trans a6 ht.size⟩
  obtain ⟨h | h, h'⟩ := hM' k hk
  · exact ⟨(a5 k h).1, h'⟩
  · exact ⟨by omega, h'⟩
def FrameOne (b6 b8 b9 v far : Nat) (a' : Act) : Prop := ∃ u0 u1 u2 u3 u4 u5 u7 u10 u13 u14 u15 u16 u17 u18 u19 u20 u21 u22 u23 u24 u25 u26 u27 u28 u29 u30 u31 u32 u33 : Value, a' = { tmps := #[u0, u1, u2, u3, u4, u5, .pointer (some ⟨b6, 0, none⟩), u7, .pointer (some ⟨b8, 0, none⟩), .pointer (some ⟨b9, 0, none⟩), u10, .int .i64 (v : Int), .int .u64 (far : Int), u13, u14, u15, u16, u17, u18, u19, u20, u21, u22, u23, u24, u25, u26, u27, u28, u29, u30, u31, u32, u33], defers := [] }
def OneB (w : World) (lo b6 b8 b9 t : Nat) (z8 z9 : Value) (x : Nat × Nat) (a' : Act) (p : List (Nat × Nat)) (Mi : Nat → Prop) (W : World) : Prop := FrameOne b6 b8 b9 x.1 x.2 a' ∧ OneI w lo b6 b8 b9 t z8 z9 p Mi W
def OneP (w : World) (xs : List (Nat × Nat)) (t : Nat) (e : Ending) (w' : World) : Prop :=
  ((∃ f, (t, f) ∈ xs ∧ e = .returned (.tuple #[.int .u64 (f : Int), .int .i64 0])) ∨ (t ∉ xs.map Prod.fst ∧ e = .returned (.tuple #[.int .u64 0, .int .i64 9]))) ∧ Grows w w'
set_option maxRecDepth 40000 in
set_option maxHeartbeats 8000000 in
theorem djOne (N s t : Nat) (A : Option Addr) (c : Nat) (E : List Edg) (o : DOpt) (An Ae Aw : Option Addr) (cn ce cw : Nat) (xs : List (Nat × Nat)) (w : World) (h : Rd w A 3 E.length (esCells E)) (h2 : Rd w An 1 o.nn.length (o.nn.map (.int .i64))) (h3 : Rd w Ae 1 o.ne.length (o.ne.map (.int .i64))) (h4 : Rd w Aw 1 o.W.length (wv o.W))
    (hok : WalkOk N s E o) (hd : dcF N s E o.W = 0) (hxs : if (s : Int) ∈ o.nn then xs = [] else Trace (srchOf N E o) (reachS o.most (st0 N) s 0) xs) (ht : t < N) :
    Calls Tryz.prog 95 #[.agg #[.int .i64 (N : Int), .slice A E.length c], .int .i64 (s : Int), .int .i64 (t : Int), oVal o.back (.slice An o.nn.length cn) (.slice Ae o.ne.length ce) Aw o.W.length cw o.most] w (OneP w xs t) := by
  unfold oVal
  obtain ⟨r1, r2, r3, r4, r5⟩ := right_in hok.right
  have C1 := hide (fun (W : World) (g : Grows w W) => djCheck (N : Int) s A E.length c E o.back (.slice An o.nn.length cn) (.slice Ae o.ne.length ce) Aw o.W.length cw o.most o.W W (h.grows g) (h4.grows g) (by omega) (by have := hok.wts; omega))
  rw [hd] at C1
  unfold oVal at C1
  have C2 := hide (fun (W : World) => gNode (N : Int) (t : Int) (.slice A E.length c) W)
  have hb : nodeB (N : Int) (t : Int) = true := decide_eq_true ⟨by omega, by omega⟩
  rw [hb] at C2
  have C3 := hide (fun (W : World) => djWalk (.agg #[.int .i64 (N : Int), .slice A E.length c]) (.int .i64 (s : Int)) (.agg #[.bool o.back, .slice An o.nn.length cn, .slice Ae o.ne.length ce, .slice Aw o.W.length cw, .int .u64 (o.most : Int)]) (N : Int) (.slice A E.length c) rfl (s : Int) rfl _ _ _ _ _ rfl W)
  have HM := hide (And.intro h (And.intro h2 (And.intro h3 h4)))
  have HOK := hide hok
  have HXS := hide hxs
  clear h h2 h3 h4 hok hxs hd r1 r2 r3 r4 r5 hb
  refine calls_of_marks Tryz.func95 rfl ?_
  simp only [Tryz.ntmps95, List.size_toArray, List.length_cons, List.length_nil, Nat.reduceAdd, Nat.reduceSub, Array.replicate_succ, Array.replicate_zero, List.push_toArray, List.append_toArray, List.nil_append, List.cons_append]
  go_wp2_with fail
  refine (C1.out _ GG).mono ?_; rintro e w' ⟨rfl, hg⟩; obtain ⟨x1, rfl⟩ := hg.later; clear hg
  go_wp2_with fail
  refine (C2.out _).mono ?_; rintro e w' ⟨rfl, hg⟩; obtain ⟨x2, rfl⟩ := Grows.later2 hg; clear hg
  go_wp2_with fail
  refine (C3.out _).mono ?_; rintro e W0 ⟨b, rfl, hb, z1, z2, z3, hg⟩
  have hx2 := x2.size
  have hs5 : w.heap.size + 1 + 1 + 1 + 1 < b := by rw [← hb]; simp at hx2; omega
  have q6 : Arr W0 (w.heap.size + 1) 3 [.int .i64 (t : Int)] := Arr.grow ⟨by simp [heap_push, Array.getElem_push, Array.getElem?_push, eq_add2]⟩ (x2.grows.trans hg)
  have q8 : Arr W0 (w.heap.size + 1 + 1 + 1) 41 [.int .u64 0] := Arr.grow ⟨by simp [heap_push, Array.getElem_push, Array.getElem?_push, eq_add2]⟩ (x2.grows.trans hg)
  have q9 : Arr W0 (w.heap.size + 1 + 1 + 1 + 1) 29 [.int .i64 0] := Arr.grow ⟨by simp [heap_push, Array.getElem_push, Array.getElem?_push, eq_add2]⟩ (x2.grows.trans hg)
  have hgw : Grows w W0 := Grows.trans (by show Grows w x2.now; exact GG) hg
  have hW0 := z3.lt
  have hsz0 := hgw.size
  have g6 : w.heap.size ≤ w.heap.size + 1 := by omega
  have g8 : w.heap.size ≤ w.heap.size + 1 + 1 + 1 := by omega
  have g9 : w.heap.size ≤ w.heap.size + 1 + 1 + 1 + 1 := by omega
  have n89 : w.heap.size + 1 + 1 + 1 ≠ w.heap.size + 1 + 1 + 1 + 1 := by omega
  have l6 : w.heap.size + 1 < b := by omega
  have l8 : w.heap.size + 1 + 1 + 1 < b := by omega
  have l9 : w.heap.size + 1 + 1 + 1 + 1 < b := hs5
  clear hb hg C1 C2 C3 hx2 hs5
  generalize w.heap.size + 1 + 1 + 1 + 1 = b9 at *
  generalize w.heap.size + 1 + 1 + 1 = b8 at *
  generalize w.heap.size + 1 + 1 = b7 at *
  generalize w.heap.size + 1 = b6 at *
  have hwalk : WalkAt (fun k => k < w.heap.size ∨ (b ≤ k ∧ k ≤ b + 1 + 1)) W0 b (b + 1 + 1) (b + 1) N s E o := by
    obtain ⟨h1, h2, h3, h4⟩ := HM.out
    exact ⟨A, c, An, cn, Ae, ce, Aw, cw, z1, z3, z2, h1.grows hgw, h2.grows hgw, h3.grows hgw, h4.grows hgw, .inr ⟨by omega, by omega⟩, .inr ⟨by omega, by omega⟩, .inr ⟨by omega, by omega⟩, fun h p hp => .inl (h1.block_lt (by omega) h p hp), fun h p hp => .inl (h2.block_lt (by omega) h p hp), fun h p hp => .inl (h3.block_lt (by omega) h p hp), fun h p hp => .inl (h4.block_lt (by omega) h p hp)⟩
  have hBW : ∀ k, (k < w.heap.size ∨ (b ≤ k ∧ k ≤ b + 1 + 1)) → k < W0.heap.size := fun k hk => by rcases hk with hk | hk <;> omega
  have hGV := djWalk1 (fun k => k < w.heap.size ∨ (b ≤ k ∧ k ≤ b + 1 + 1)) (fun k => k < w.heap.size ∨ (b ≤ k ∧ k ≤ b + 1 + 1)) (fun _ => False) b (b + 1 + 1) (b + 1) N s E o xs W0 hwalk (fun k hk => .inl hk) (fun k hk => hk.elim) hBW HOK.out HXS.out
  have h0 : OneI w W0.heap.size b6 b8 b9 t (.int .u64 0) (.int .i64 0) [] (fun _ => False) W0 := ⟨⟨⟨W0, hgw⟩, rfl⟩, ⟨q6, q8, q9⟩, by simp, fun k hk => hk.elim, Nat.le_refl _⟩
  have hIy := OneI.yields (w := w) (lo := W0.heap.size) (b6 := b6) (b8 := b8) (b9 := b9) (t := t) (z8 := .int .u64 0) (z9 := .int .i64 0) (by omega) (by omega) (by omega) hsz0
  have hXy := OneX.yields (w := w) (lo := W0.heap.size) (b6 := b6) (b8 := b8) (b9 := b9) (t := t) (xs := xs) (by omega) (by omega) hsz0
  have HGV := hide hGV
  have H0 := hide h0
  clear hGV h0 hwalk q6 q8 q9 z1 z2 z3 HM HXS HOK
  go_wp2_with fail
  refine (wpIn_wide (n := 0)).1 ?_
  have hGV := HGV.out
  have h0 := H0.out
  clear HGV H0
  refine wp_rangeG (w0 := W0) (gf := 197) rfl (enters_of Tryz.func197 (by kernel_rfl) rfl) hGV (Keeps.refl _ _ _) hBW (fun k hk => hk.elim) (fun _ => rfl)
    (OneI w W0.heap.size b6 b8 b9 t (.int .u64 0) (.int .i64 0)) (OneX w W0.heap.size b6 b8 b9 t xs) hIy hXy h0 (OneB w W0.heap.size b6 b8 b9 t (.int .u64 0) (.int .i64 0)) ?hIb ?assign ?body ?done ?stop
  case hIb =>
    rintro x a' p Mi W1 Mi' W' ⟨hf, hI⟩ ht hM'
    exact ⟨hf, hIy p Mi W1 Mi' W' hI ht hM'⟩
  case assign =>
    intro l2 p x rest Mi W1 hsp hI
    have HI := hide hI
    clear hI
    unfold encD
    gi_wp2
    refine ⟨⟨?_, HI.out⟩, Keeps.refl _ _ _⟩
    unfold FrameOne
    (repeat apply Exists.intro)
    rfl
  case body =>
    rintro l2 p ⟨v, far⟩ rest Mi a' W1 hsp hl2 hMl hrec ⟨⟨u0, u1, u2, u3, u4, u5, u7, u10, u13, u14, u15, u16, u17, u18, u19, u20, u21, u22, u23, u24, u25, u26, u27, u28, u29, u30, u31, u32, u33, rfl⟩, ⟨⟨y, rfl⟩, ⟨q6, q8, q9⟩, hnt, hm, hlo⟩⟩
    have HMEM := hide (show (v, far) ∈ xs from by rw [hsp]; simp)
    have HMM := hide hm
    have HNT := hide hnt
    clear hsp hl2 hMl hrec hm h0 hIy hXy hGV hnt
    simp only
    have HKN : ∀ k, (k = b8 ∨ k = b9) → ¬ ((k < w.heap.size ∨ (b ≤ k ∧ k ≤ b + 1 + 1)) ∨ Mi k) := fun k hk e => by
      rcases e with (e | e) | e
      · rcases hk with rfl | rfl <;> omega
      · rcases hk with rfl | rfl <;> omega
      · have := (HMM.out _ e).1
        rcases hk with rfl | rfl <;> omega
    have HKN2 := hide HKN
    clear HKN
    by_cases hvt : v = t
    · subst hvt
      gi_wp2
      have e8 : Arr ((y.now.setCell ⟨b8, 0, none⟩ (.int .u64 (far : Int))).setCell ⟨b9, 0, none⟩ (.int .i64 0)) b8 41 [.int .u64 (far : Int)] := (q8.set 0 _).other (Ne.symm n89) _
      have e9 : Arr ((y.now.setCell ⟨b8, 0, none⟩ (.int .u64 (far : Int))).setCell ⟨b9, 0, none⟩ (.int .i64 0)) b9 29 [.int .i64 0] := (q9.other n89 _).set 0 _
      refine ⟨((Touch.refl _ _).set (.inl (HKN2.out _ (.inl rfl))) _).set (.inl (HKN2.out _ (.inr rfl))) _, rfl, far, HMEM.out, ⟨⟨_, (y.grows.set g8 _).set g9 _⟩, rfl⟩, ⟨e8, e9⟩, fun k hk => ?_, ?_⟩
      · rw [size_setCell, size_setCell]; exact HMM.out k hk
      · rw [size_setCell, size_setCell]; exact hlo
    · have hb1 : ((v : Int) == (t : Int)) = false := beq_eq_false_iff_ne.2 (by omega)
      have HVT := hide hvt
      clear hvt
      gi_wp2
      refine ⟨Keeps.refl _ _ _, ⟨y, rfl⟩, ⟨q6, q8, q9⟩, ?_, HMM.out, hlo⟩
      rw [List.map_append, List.mem_append]
      rintro (h | h)
      · exact HNT.out h
      · have h : t = v := by simpa using h
        exact HVT.out h.symm
  case done =>
    intro D Mi W1 hlD hMD hI hDW
    obtain ⟨⟨y, rfl⟩, ⟨q6, q8, q9⟩, hnt, hm, hlo⟩ := hI
    have HMM := hide hm
    have HNT := hide hnt
    have HDW := hide hDW
    clear hm hDW hIy hXy h0 hGV hnt
    gi_wp2
    go_wp2_with fail
    have e8 : Arr ((y.now.setCell ⟨b8, 0, none⟩ (.int .u64 0)).setCell ⟨b9, 0, none⟩ (.int .i64 9)) b8 41 [.int .u64 0] := (q8.set 0 _).other (Ne.symm n89) _
    have e9 : Arr ((y.now.setCell ⟨b8, 0, none⟩ (.int .u64 0)).setCell ⟨b9, 0, none⟩ (.int .i64 9)) b9 29 [.int .i64 9] := (q9.other n89 _).set 0 _
    have hDl : w.heap.size ≤ D ∧ b8 ≠ D ∧ b9 ≠ D := by omega
    have hyg : Grows w ((y.now.setCell ⟨b8, 0, none⟩ (.int .u64 0)).setCell ⟨b9, 0, none⟩ (.int .i64 9)) := (y.grows.set g8 _).set g9 _
    have hD3 : ((y.now.setCell ⟨b8, 0, none⟩ (.int .u64 0)).setCell ⟨b9, 0, none⟩ (.int .i64 9)).heap[D]? = some (.deferred (some [])) := by
      rw [heap_setCell _ _ _ _ (Ne.symm hDl.2.2), heap_setCell _ _ _ _ (Ne.symm hDl.2.1)]
      exact HDW.out
    refine marks_ret [D] rfl ((Marks.nil _).cons hD3 (by simp)) (fun W' htt => ?_)
    have k8 := (e8.touch htt (fun e => hDl.2.1 (List.mem_singleton.1 e))).cell 0
    have k9 := (e9.touch htt (fun e => hDl.2.2 (List.mem_singleton.1 e))).cell 0
    refine ⟨.tuple #[.int .u64 0, .int .i64 9], by simp (maxDischargeDepth := 6) [results, Tryz.results95, go_sem, k8, k9], .inr ⟨HNT.out, rfl⟩, htt.later hyg (fun k hk => by rw [List.mem_singleton.1 hk]; exact hDl.1)⟩
  case stop =>
    intro D c' p i rest Mi W1 hlD hMD _ hX hDW
    obtain ⟨rfl, f, hf, ⟨y, rfl⟩, ⟨q8, q9⟩, hm, hlo⟩ := hX
    have HF := hide hf
    have HDW := hide hDW
    clear hf hDW hIy hXy h0 hGV hm
    gi_wp2
    have hDl : w.heap.size ≤ D ∧ b8 ≠ D ∧ b9 ≠ D := by omega
    refine marks_ret [D] rfl ((Marks.nil _).cons HDW.out (by simp)) (fun W' htt => ?_)
    have k8 := (q8.touch htt (fun e => hDl.2.1 (List.mem_singleton.1 e))).cell 0
    have k9 := (q9.touch htt (fun e => hDl.2.2 (List.mem_singleton.1 e))).cell 0
    refine ⟨.tuple #[.int .u64 (f : Int), .int .i64 0], by simp (maxDischargeDepth := 6) [results, Tryz.results95, go_sem, k8, k9], .inl ⟨f, HF.out, rfl⟩, htt.later y.grows (fun k hk => by rw [List.mem_singleton.1 hk]; exact hDl.1)⟩
section
set_option maxRecDepth 20000 in
set_option maxHeartbeats 8000000 in
theorem djOneNo (N s t : Int) (A : Option Addr) (n c : Nat) (E : List Edg) (back : Bool) (nn ne : Value) (Aw : Option Addr) (nw cw most : Nat) (W : List Nat) (w : World) (h : Rd w A 3 n (esCells E)) (hW : Rd w Aw 1 nw (wv W)) (hn : n ≤ 1000000) (hnw : nw ≤ 1000000) (hd : dcF N s E W ≠ 0) :
    Calls Tryz.prog 95 #[.agg #[.int .i64 N, .slice A n c], .int .i64 s, .int .i64 t, oVal back nn ne Aw nw cw most] w fun e w' => e = .returned (.tuple #[.int .u64 0, .int .i64 (dcF N s E W)]) ∧ Grows w w' := by
  unfold oVal
  have C1 := hide (fun (W1 : World) (g : Grows w W1) => djCheck N s A n c E back nn ne Aw nw cw most W W1 (h.grows g) (hW.grows g) hn hnw)
  unfold oVal at C1
  have hr2 : (dcF N s E W == 0) = false := beq_eq_false_iff_ne.2 hd
  clear h hW
  generalize dcF N s E W = r at *
  go_enter Tryz.func95, Tryz.ntmps95
  go_wp2_with (go_at_call 136; refine (C1.out _ GG).mono ?_; rintro e w' ⟨rfl, hg⟩; obtain ⟨x1, rfl⟩ := hg.later; clear hg)
  refine bodyPost_ret (v := .tuple #[.int .u64 0, .int .i64 r]) (by simp (maxDischargeDepth := 6) [results, Tryz.results95, go_sem, *]) rfl ?_
  exact ⟨rfl, GG⟩
set_option maxRecDepth 20000 in
set_option maxHeartbeats 8000000 in
theorem djOneOut (N s t : Int) (A : Option Addr) (n c : Nat) (E : List Edg) (back : Bool) (nn ne : Value) (Aw : Option Addr) (nw cw most : Nat) (W : List Nat) (w : World) (h : Rd w A 3 n (esCells E)) (hW : Rd w Aw 1 nw (wv W)) (hn : n ≤ 1000000) (hnw : nw ≤ 1000000) (hd : dcF N s E W = 0) (ht : ¬ (0 ≤ t ∧ t < N)) :
    Calls Tryz.prog 95 #[.agg #[.int .i64 N, .slice A n c], .int .i64 s, .int .i64 t, oVal back nn ne Aw nw cw most] w fun e w' => e = .returned (.tuple #[.int .u64 0, .int .i64 7]) ∧ Grows w w' := by
  unfold oVal
  have C1 := hide (fun (W1 : World) (g : Grows w W1) => djCheck N s A n c E back nn ne Aw nw cw most W W1 (h.grows g) (hW.grows g) hn hnw)
  unfold oVal at C1
  rw [hd] at C1
  have C2 := hide (fun (W : World) => gNode N t (.slice A n c) W)
  have hb : nodeB N t = false := decide_eq_false ht
  rw [hb] at C2
  clear h hW hd hb ht
  go_enter Tryz.func95, Tryz.ntmps95
  go_wp2_with fail
  refine (C1.out _ GG).mono ?_; rintro e w' ⟨rfl, hg⟩; obtain ⟨x1, rfl⟩ := hg.later; clear hg
  go_wp2_with fail
  refine (C2.out _).mono ?_; rintro e w' ⟨rfl, hg⟩; obtain ⟨x2, rfl⟩ := Grows.later2 hg; clear hg
  go_wp2_with fail
  refine bodyPost_ret (v := .tuple #[.int .u64 0, .int .i64 7]) (by simp (maxDischargeDepth := 6) [results, Tryz.results95, go_sem, *]) rfl ?_
  exact ⟨rfl, GG⟩
end
end Go.Proofs.YtgplpgldhoelcaaGreat

namespace Go.Proofs.YtgplpgldhoelcaaGreat
open Go Go.RowKit
theorem rdNil (w : World) (size : Nat) : Rd w none size 0 [] := ⟨by simp, fun h => absurd h (by simp)⟩
set_option maxRecDepth 20000 in
set_option maxHeartbeats 4000000 in
theorem loShortest (NN : Nat) (A : Option Addr) (c : Nat) (E : List Edg) (F T : Nat → List Nat) (hM : Mks NN E F T) (u v : Nat) (hu : u < NN) (hv : v < NN) (hfar : gn (F u) v < farV) (z : Int) (w : World) (h : Rd w A 3 E.length (esCells E)) :
    Calls Tryz.prog 207 #[.agg #[.int .i64 (NN : Int), .slice A E.length c], .int .i64 (u : Int), .int .i64 (v : Int), .int .u64 z] w fun e w' => e = .returned (.bool (decide ((gn (F u) v : Int) = z))) ∧ Grows w w' := by
  obtain ⟨xs, hx, hFu⟩ := hM.f u hu
  have hb := net_bound hx.ok.right
  have hmem : ∀ f, (v, f) ∈ xs → f = gn (F u) v := fun f hf => by rw [hFu]; exact (outL_at hx.far.nodup hv hf).symm
  have hno : v ∉ xs.map Prod.fst → False := fun hn => by
    have := outL_no (N := NN) hv hn
    rw [← hFu] at this
    omega
  have C := hide (fun (W : World) (g : Grows w W) => show Calls Tryz.prog 95 #[.agg #[.int .i64 (NN : Int), .slice A E.length c], .int .i64 (u : Int), .int .i64 (v : Int), .agg #[.bool false, .slice none 0 0, .slice none 0 0, .slice none 0 0, .int .u64 0]] W fun e w' => e = .returned (.tuple #[.int .u64 (gn (F u) v : Int), .int .i64 0]) ∧ Grows W w' from by
    refine (djOne NN u v A c E (allO false) none none none 0 0 0 xs W (h.grows g) (rdNil _ _) (rdNil _ _) (rdNil _ _) hx.ok hx.dc hx.tr hv).mono ?_
    rintro e w' ⟨⟨f, hf, rfl⟩ | ⟨hn, _⟩, hg⟩
    · rw [hmem f hf]
      exact ⟨rfl, hg⟩
    · exact (hno hn).elim)
  clear hmem hno hx hFu hM h hfar
  generalize gn (F u) v = f at *
  obtain ⟨fi, hfi⟩ : ∃ fi : Int, (f : Int) = fi := ⟨_, rfl⟩
  rw [hfi] at C
  rw [hfi]
  clear hfi
  go_enter Tryz.func207, Tryz.ntmps207
  go_wp2_with (go_at_call 95; refine (C.out _ GG).mono ?_; rintro e w' ⟨rfl, hg⟩; obtain ⟨x1, rfl⟩ := hg.later; clear hg)
  all_goals go_ret
  all_goals exact ⟨by first | rfl | exact ret_bool (bool_ext (by simp)), GG⟩
theorem Rd.offsH {w : World} {A : Option Addr} {n : Nat} {xs : List Int} (h : Rd w A 1 n (xs.map (.int .u64))) (hn : 0 < n) : ∃ b off, A = some ⟨b, off, none⟩ ∧ ∀ j, j < n → Holds w ⟨b, off + j, none⟩ (.int .u64 (gi xs j)) := by
  obtain ⟨b, off, e, hc⟩ := h.ints hn
  exact ⟨b, off, e, fun j hj => ⟨hc j hj⟩⟩
set_option maxRecDepth 20000 in
set_option maxHeartbeats 8000000 in
theorem loTest (NN : Nat) (A : Option Addr) (c : Nat) (E : List Edg) (F T : Nat → List Nat) (hM : Mks NN E F T) (s : Int) (B : Option Addr) (d : Nat) (l : List Int) (at_ a b base : Int) (w : World) (h : Rd w A 3 E.length (esCells E)) (h2 : Rd w B 1 l.length (l.map (.int .i64))) (hl : l.length ≤ 1000) (hE : E.length ≤ 1000000)
    (his : isB (NN : Int) E s l = true) (hbase : U64 base) :
    Calls Tryz.prog 161 #[.agg #[.int .i64 (NN : Int), .slice A E.length c], .int .i64 s, .slice B l.length d, .int .i64 at_, .agg #[.int .u64 a, .int .u64 b], .int .u64 base] w fun e w' => e = .returned (.bool (tsB (NN : Int) E F s l at_ a b base)) ∧ Grows w w' := by
  obtain ⟨hr, _, _, hed⟩ := isB_right his
  have hnl : nodesL (NN : Int) E s l = ndL E s l (l.length + 1) := by unfold nodesL; rw [if_pos his]
  have C1 := hide (fun (W : World) (g : Grows w W) => show Calls Tryz.prog 145 #[.agg #[.int .i64 (NN : Int), .slice A E.length c], .int .i64 s, .slice B l.length d] W fun e w' => ∃ A1 c1, e = .returned (.tuple #[.slice A1 (l.length + 1) c1, .bool true]) ∧ Rd w' A1 1 (l.length + 1) ((ndL E s l (l.length + 1)).map (.int .i64)) ∧ Grows W w' from by
    have := pNodes (NN : Int) A E.length c E s B l.length d l W (h.grows g) hE (h2.grows g) (by omega)
    rw [his, hnl] at this
    unfold GiveIB at this
    rw [ndL_len] at this
    exact this)
  have C2 := hide (fun (W : World) (g : Grows w W) => pOffsets (NN : Int) A E.length c E B l.length d l W (h.grows g) hE (h2.grows g) (by omega))
  rw [hed] at C2
  have C3 := hide (fun (Ao : Option Addr) (co : Nat) (W : World) (q : Rd W Ao 1 (l.length + 1) (((List.range (l.length + 1)).map (wtK E l)).map (.int .u64))) => localWindow Ao (l.length + 1) co ((List.range (l.length + 1)).map (wtK E l)) at_ a b base W q (by omega) hbase)
  cases hw : wgB at_ (l.length + 1) ((List.range (l.length + 1)).map (wtK E l)) a b with
  | false =>
    have HV := hide (show tsB (NN : Int) E F s l at_ a b base = false by unfold tsB; rw [hw]; simp)
    have hwv := winV_bad (base := base) hw
    rw [← hwv] at C3
    clear h h2 his hnl hed hr hM hbase hw hwv
    go_enter Tryz.func161, Tryz.ntmps161
    go_wp2_with fail
    refine (C1.out _ GG).mono ?_; rintro e w' ⟨A1, c1, rfl, hr1, hg⟩; obtain ⟨x1, rfl⟩ := hg.later; clear hg hr1
    have b1 : Arr x1.now w.heap.size 35 [.int .i64 (NN : Int), .slice A E.length c] := Arr.grow ⟨by simp [heap_push, Array.getElem_push, Array.getElem?_push, eq_add2]⟩ x1.grows
    have b2 : Arr x1.now (w.heap.size + 1) 71 [.int .u64 a, .int .u64 b] := Arr.grow ⟨by simp [heap_push, Array.getElem_push, Array.getElem?_push, eq_add2]⟩ x1.grows
    go_wp2_with fail
    refine (C2.out _ GG).mono ?_; unfold OffPost; rintro e w' ⟨g2, c2, rfl, hr2, hg⟩; obtain ⟨x2, rfl⟩ := hg.later; have HR2 := hide hr2; clear hg hr2
    go_wp2_with fail
    refine (C3.out _ _ _ HR2.out).mono ?_; rintro e w' ⟨rfl, hg⟩; obtain ⟨x3, rfl⟩ := hg.later; clear hg
    go_upto_region 6 with fail
    ((first | refine wp_region_gen (by kernel_rfl) (by kernel_rfl) ?_); (repeat' ((first | refine gLex_val0 rfl (by kernel_rfl) (fun K hK => ?_) | refine gLex_undef rfl rfl rfl (by kernel_rfl) (fun K hK => ?_) | (refine gLex_ask rfl rfl rfl ?_; first | (apply gAsk_yes; kernel_rfl; intro K hK) | ((first | apply gAsk_no1 | apply gAsk_no2); kernel_rfl; intro K hK) | (apply gAsk_part; kernel_rfl; all_goals (intro h K hK; (try simp only [Bool.not_true] at h); (try simp only [Bool.not_false] at h); (try simp only [decide_eq_true_eq] at h); (try simp only [decide_eq_false_iff_not] at h); try (exfalso; first | contradiction | omega))))) <;> (go_simp; (try (simp only [↓IntWalk.iteOmega]; try go_simp)); (try simp (disch := omega) only [IntWalk.i64_in]); (try simp (disch := omega) only [IntWalk.u64_in]); refine hK _ ?_; clear hK K))); all_goals ((apply gLex_end); intro x))
    go_wp2_with fail
    go_ret
    exact ⟨by rw [HV.out]; rfl, GG⟩
  | true =>
    have hwin := win_in (base := base) hw
    obtain ⟨I, hI⟩ : ∃ I : Nat, winI at_ (l.length + 1) ((List.range (l.length + 1)).map (wtK E l)) a b base = I := ⟨(winI at_ (l.length + 1) ((List.range (l.length + 1)).map (wtK E l)) a b base).toNat, by omega⟩
    obtain ⟨J, hJ⟩ : ∃ J : Nat, winJ at_ (l.length + 1) ((List.range (l.length + 1)).map (wtK E l)) a b base = J := ⟨(winJ at_ (l.length + 1) ((List.range (l.length + 1)).map (wtK E l)) a b base).toNat, by omega⟩
    have hwv : winV at_ (l.length + 1) ((List.range (l.length + 1)).map (wtK E l)) a b base = .tuple #[.int .i64 (I : Int), .int .i64 (J : Int), .bool true] := by unfold winV; rw [hI, hJ, hw]
    rw [hwv] at C3
    have HV := hide (show tsB (NN : Int) E F s l at_ a b base = decide ((gn (F (nk E s l I)) (nk E s l J) : Int) = wtK E l J - wtK E l I) by unfold tsB; rw [his, hw, hI, hJ]; rfl)
    rw [hI, hJ] at hwin
    have hIJ : I ≤ J ∧ J ≤ l.length := by omega
    have hni := nk_in his I (by omega)
    have hnj := nk_in his J (by omega)
    have hpl := part_le2 hM his hIJ.1 hIJ.2
    have hwb := wtK_bd hed J (by omega)
    have hwb2 := wtK_bd hed I (by omega)
    have hle : wtK E l I ≤ wtK E l J := by omega
    have hlt : wtK E l J < 18446744073709551616 := by omega
    have hge : 0 ≤ wtK E l I := by omega
    have C4 := hide (fun (W : World) (g : Grows w W) (z : Int) => loShortest NN A c E F T hM (nk E s l I) (nk E s l J) hni.1 hnj.1 hpl.1 z W (h.grows g))
    have HNI := hide hni.2
    have HNJ := hide hnj.2
    have HOI := hide (offs_at E l (k := I) (by omega))
    have HOJ := hide (offs_at E l (k := J) (by omega))
    have HGI := hide (ndL_at E s l (l.length + 1) I (by omega))
    have HGJ := hide (ndL_at E s l (l.length + 1) J (by omega))
    have hI1 : I < l.length + 1 := by omega
    have hJ1 : J < l.length + 1 := by omega
    clear h h2 his hnl hed hr hM hbase hw hwv hwin hI hJ hIJ hni hnj hpl hwb hwb2
    generalize wtK E l I = oi at *
    generalize wtK E l J = oj at *
    generalize gn (F (nk E s l I)) (nk E s l J) = fv at *
    generalize nk E s l I = ni at *
    generalize nk E s l J = nj at *
    go_enter Tryz.func161, Tryz.ntmps161
    go_wp2_with fail
    refine (C1.out _ GG).mono ?_; rintro e w' ⟨A1, c1, rfl, hr1, hg⟩; obtain ⟨x1, rfl⟩ := hg.later; have HR1 := hide hr1; clear hg hr1
    have b1 : Arr x1.now w.heap.size 35 [.int .i64 (NN : Int), .slice A E.length c] := Arr.grow ⟨by simp [heap_push, Array.getElem_push, Array.getElem?_push, eq_add2]⟩ x1.grows
    have b2 : Arr x1.now (w.heap.size + 1) 71 [.int .u64 a, .int .u64 b] := Arr.grow ⟨by simp [heap_push, Array.getElem_push, Array.getElem?_push, eq_add2]⟩ x1.grows
    go_wp2_with fail
    refine (C2.out _ GG).mono ?_; unfold OffPost; rintro e w' ⟨g2, c2, rfl, hr2, hg⟩; obtain ⟨x2, rfl⟩ := hg.later; have HR2 := hide hr2; clear hg hr2
    go_wp2_with fail
    refine (C3.out _ _ _ HR2.out).mono ?_; rintro e w' ⟨rfl, hg⟩; obtain ⟨x3, rfl⟩ := hg.later; clear hg
    have hr1 := HR1.out
    obtain ⟨bn, on, rfl, hcn⟩ := hr1.intsH (by omega)
    obtain ⟨bo, oo, ebo, hco⟩ := HR2.out.offsH (by omega)
    have k1 : Holds x1.now ⟨bn, on + I, none⟩ (.int .i64 (ni : Int)) := by have := hcn I hI1; rwa [HGI.out, HNI.out] at this
    have k2 : Holds x1.now ⟨bn, on + J, none⟩ (.int .i64 (nj : Int)) := by have := hcn J hJ1; rwa [HGJ.out, HNJ.out] at this
    have k3 : Holds x2.now ⟨bo, oo + I, none⟩ (.int .u64 oi) := by have := hco I hI1; rwa [HOI.out] at this
    have k4 : Holds x2.now ⟨bo, oo + J, none⟩ (.int .u64 oj) := by have := hco J hJ1; rwa [HOJ.out] at this
    injection ebo with ebo
    injection ebo with e1 e2 _
    subst e1 e2
    rw [Nat.zero_add] at k3 k4
    clear hr1 hcn hco
    go_upto_region 6 with fail
    ((first | refine wp_region_gen (by kernel_rfl) (by kernel_rfl) ?_); (repeat' ((first | refine gLex_val0 rfl (by kernel_rfl) (fun K hK => ?_) | refine gLex_undef rfl rfl rfl (by kernel_rfl) (fun K hK => ?_) | (refine gLex_ask rfl rfl rfl ?_; first | (apply gAsk_yes; kernel_rfl; intro K hK) | ((first | apply gAsk_no1 | apply gAsk_no2); kernel_rfl; intro K hK) | (apply gAsk_part; kernel_rfl; all_goals (intro h K hK; (try simp only [Bool.not_true] at h); (try simp only [Bool.not_false] at h); (try simp only [decide_eq_true_eq] at h); (try simp only [decide_eq_false_iff_not] at h); try (exfalso; first | contradiction | omega))))) <;> (go_simp; (try (simp only [↓IntWalk.iteOmega]; try go_simp)); (try simp (disch := omega) only [IntWalk.i64_in]); (try simp (disch := omega) only [IntWalk.u64_in]); first | (refine hK _ ?_; clear hK K) | (apply Exists.intro; refine ⟨fun x => ?_, hK _ ?_⟩; (first | (go_at_call 207; exact C4.out _ GG _)); clear hK K)))); all_goals ((apply gLex_end); intro x))
    go_wp2_with fail
    go_ret
    exact ⟨by rw [HV.out]; rfl, GG⟩
end Go.Proofs.YtgplpgldhoelcaaGreat

