/- Contract: bounds by places, by the document. -/
import Derived.Test.YtiljgkaffgclgaaQAstarSound03
/- Contracts: chapter 45, by the document. -/
namespace Go.Proofs.Ytiljgkaffgclgaa
open Go Go.RowKit
set_option maxRecDepth 20000 in
set_option maxHeartbeats 2000000 in
theorem r45fits (k s W : Int) (w : World) (h0 : 0 ≤ k) (h1 : k ≤ 1024) (q1 : 0 ≤ s) (q2 : s ≤ 8796093022208) (w1 : 1 ≤ W) (w2 : W ≤ 4294967296) :
    Calls Try.prog 103 #[.int .u64 k, .int .u64 s, .int .u64 W] w fun e w' => e = .returned (.bool (fitsB k s W)) ∧ Grows w w' := by
  have HV : Hid (fitsB k s W = (decide (4294967295 < W) || decide (k * k * s ≤ W * W))) := rfl
  generalize fitsB k s W = r at *
  by_cases hw : 4294967295 < W
  · have hd : decide (4294967295 < W) = true := decide_eq_true hw
    have HR : Hid (r = true) := by rw [HV.out, hd]; exact rfl
    clear HV
    go_enter Try.func103, Try.ntmps103
    go_wp2_with fail
    go_ret
    exact ⟨by rw [HR.out]; rfl, (by repeat (first | exact Grows.refl _ | refine Grows.now ?_ _ | refine Grows.new ?_ _ | refine Grows.drewN ?_ _ | refine Grows.drew ?_ | assumption | (refine Grows.set ?_ (by first | omega | (simp; done) | (simp; omega)) _)))⟩
  · have hd : decide (4294967295 < W) = false := decide_eq_false hw
    obtain ⟨z1, z2⟩ := bnd_prod h0 h1 q1 q2
    have y1 := sq_nn k
    have y2 : k * k ≤ 1048576 := by have := mul_self_le h0 h1; omega
    have y3 := sq_nn W
    have y4 : W * W ≤ 18446744065119617025 := by have := mul_self_le (a := W) (b := 4294967295) (by omega) (by omega); omega
    obtain ⟨KK, hKK⟩ : ∃ KK, k * k = KK := ⟨_, rfl⟩
    obtain ⟨KS, hKS⟩ : ∃ KS, KK * s = KS := ⟨_, rfl⟩
    obtain ⟨WW, hWW⟩ : ∃ WW, W * W = WW := ⟨_, rfl⟩
    rw [hKK] at y1 y2 z1 z2 HV
    rw [hKS] at z1 z2 HV
    rw [hWW] at y3 y4 HV
    have HR : Hid (r = decide (KS ≤ WW)) := by rw [HV.out, hd]; exact Bool.false_or _
    clear HV hw
    obtain ⟨d, hd2⟩ : ∃ d, decide (KS ≤ WW) = d := ⟨_, rfl⟩
    rw [hd2] at HR
    go_enter Try.func103, Try.ntmps103
    go_wp2_with fail
    go_ret
    exact ⟨by rw [HR.out]; rfl, (by repeat (first | exact Grows.refl _ | refine Grows.now ?_ _ | refine Grows.new ?_ _ | refine Grows.drewN ?_ _ | refine Grows.drew ?_ | assumption | (refine Grows.set ?_ (by first | omega | (simp; done) | (simp; omega)) _)))⟩
set_option maxRecDepth 20000 in
set_option maxHeartbeats 4000000 in
theorem r45Check (N : Int) (A : Option Addr) (c : Nat) (E : List Edg) (Al : Option Addr) (cl : Nat) (l : List Int) (w : World) (h : Rd w A 3 E.length (esCells E)) (hE : E.length ≤ 1000000) (h2 : Rd w Al 1 l.length (l.map (.int .i64))) (hl : l.length ≤ 1000000) :
    Calls Try.prog 49 #[.agg #[.int .i64 N, .slice A E.length c], .slice Al l.length cl] w fun e w' => e = .returned (.int .i64 (askF N E l)) ∧ Grows w w' := by
  have C1 := hide (fun (W : World) (g : Grows w W) => r5Right N A E.length c E W (h.grows g) hE)
  have HR := hide h2
  clear h h2
  by_cases h1 : rightF N E = 0
  · rw [h1] at C1
    have HV := hide (show askF N E l = if (l.any fun e => !nodeB N e) = true then 7 else 0 by unfold askF; rw [if_neg (by omega)])
    clear h1
    generalize askF N E l = res at *
    go_enter Try.func49, Try.ntmps49
    go_upto_region 1 with fail
    obtain ⟨W0, hW0⟩ : ∃ W0, W0 = w.alloc (.cells #[.int .i64 N, .slice A E.length c] 24) := ⟨_, rfl⟩
    have a1 : Arr W0 w.heap.size 24 [.int .i64 N, .slice A E.length c] := by rw [hW0]; exact Arr.make _ _ _
    have hg0 : Grows w W0 := by rw [hW0]; exact (Grows.refl _).new _
    have hr0 := HR.out.grows hg0
    have HR := hide hr0
    clear hr0
    obtain ⟨x0, rfl⟩ := hg0.later
    rw [← hW0]
    clear hW0 hg0
    generalize w.heap.size = b0 at *
    go_wp2_with (go_at_call 16; refine (C1.out _ (by repeat (first | exact Grows.refl _ | refine Grows.now ?_ _ | refine Grows.new ?_ _ | refine Grows.drewN ?_ _ | refine Grows.drew ?_ | assumption | (refine Grows.set ?_ (by first | omega | (simp; done) | (simp; omega)) _)))).mono ?_; rintro e w' ⟨rfl, hg⟩; obtain ⟨x1, rfl⟩ := hg.later; clear hg)
    go_loopw [5] (fun s5 wr => ∃ k : Nat, k ≤ l.length ∧ s5 = .int .i64 (k : Int) ∧ (∀ j, j < k → nodeB N (gi l j) = true) ∧ ∃ y : Later x0.now, wr = y.now) (fun s5 _ => l.length - (Go.RowKit.intOf s5).toNat)
    case atStart => exact ⟨0, by omega, by go_num, (fun j h => absurd h (by omega)), ⟨_, (by repeat (first | exact Grows.refl _ | refine Grows.now ?_ _ | refine Grows.new ?_ _ | refine Grows.drewN ?_ _ | refine Grows.drew ?_ | assumption | (refine Grows.set ?_ (by first | omega | (simp; done) | (simp; omega)) _)))⟩, rfl⟩
    case round =>
      obtain ⟨k, hk, rfl, hall, y, rfl⟩ := hrel
      have HA := hide hall
      clear hall
      by_cases hlt : k < l.length
      · obtain ⟨b, off, rfl, hc⟩ := HR.out.intsH (by omega)
        have ck := hc k hlt
        have hdk : decide ((k : Int) < (l.length : Int)) = true := decide_eq_true (by omega)
        have HX := hide (show nodeB N (gi l k) = true → ∀ j, j < k + 1 → nodeB N (gi l j) = true from fun h j hjk => by
          by_cases e1 : j = k
          · subst e1; exact h
          · exact HA.out j (by omega))
        have HY := hide (show nodeB N (gi l k) = false → res = 7 from fun h => by
          have e1 : gi l k = l[k] := by simp [gi, hlt]
          rw [HV.out, if_pos]
          rw [List.any_eq_true]
          exact ⟨l[k], List.getElem_mem _, by rw [← e1, h]; rfl⟩)
        generalize gi l k = z at *
        clear hc
        by_cases h1 : z < 0
        · have hd1 : decide (z < 0) = true := decide_eq_true h1
          have HZ := hide (HY.out (decide_eq_false (by omega)))
          clear HX HY
          go_upto_region 6 with fail
          ((first | refine wp_region_gen (by kernel_rfl) (by kernel_rfl) ?_); (repeat' (first | (refine gLex_val0 rfl (by kernel_rfl) (fun K hK => ?_); (go_simp; (try (simp only [↓IntWalk.iteOmega]; try go_simp)); (try simp (disch := omega) only [IntWalk.i64_in]); (try simp (disch := omega) only [IntWalk.u64_in]); first | (refine hK _ ?_; clear hK K) | (apply Exists.intro; refine ⟨fun x => ?_, hK _ ?_⟩; (first | fail); clear hK K))) | (refine gLex_undef rfl rfl rfl (by kernel_rfl) (fun K hK => ?_); go_simp; refine hK _ ?_; clear hK K) | (refine gLex_ask rfl rfl rfl ?_; first | (apply gAsk_yes; kernel_rfl; intro K hK; (go_simp; (try (simp only [↓IntWalk.iteOmega]; try go_simp)); (try simp (disch := omega) only [IntWalk.i64_in]); (try simp (disch := omega) only [IntWalk.u64_in]); first | (refine hK _ ?_; clear hK K) | (apply Exists.intro; refine ⟨fun x => ?_, hK _ ?_⟩; (first | fail); clear hK K))) | ((first | apply gAsk_no1 | apply gAsk_no2); kernel_rfl; intro K hK; simp [go_sem]; refine hK _ ?_; clear hK K) | (apply gAsk_part; kernel_rfl; all_goals (intro h K hK; (try simp only [Bool.not_true] at h); (try simp only [Bool.not_false] at h); (try simp only [decide_eq_true_eq] at h); (try simp only [decide_eq_false_iff_not] at h); first | (exfalso; first | contradiction | omega) | (go_simp; (try (simp only [↓IntWalk.iteOmega]; try go_simp)); (try simp (disch := omega) only [IntWalk.i64_in]); (try simp (disch := omega) only [IntWalk.u64_in]); first | (refine hK _ ?_; clear hK K) | (apply Exists.intro; refine ⟨fun x => ?_, hK _ ?_⟩; (first | fail); clear hK K))))))); all_goals ((apply gLex_end); intro x))
          go_wp2_with fail
          go_ret
          exact ⟨by rw [HZ.out]; rfl, (by repeat (first | exact Grows.refl _ | refine Grows.now ?_ _ | refine Grows.new ?_ _ | refine Grows.drewN ?_ _ | refine Grows.drew ?_ | assumption | (refine Grows.set ?_ (by first | omega | (simp; done) | (simp; omega)) _)))⟩
        · have hd1 : decide (z < 0) = false := decide_eq_false h1
          by_cases h2 : N ≤ z
          · have hd2 : decide (N ≤ z) = true := decide_eq_true h2
            have HZ := hide (HY.out (decide_eq_false (by omega)))
            clear HX HY
            go_upto_region 6 with fail
            ((first | refine wp_region_gen (by kernel_rfl) (by kernel_rfl) ?_); (repeat' (first | (refine gLex_val0 rfl (by kernel_rfl) (fun K hK => ?_); (go_simp; (try (simp only [↓IntWalk.iteOmega]; try go_simp)); (try simp (disch := omega) only [IntWalk.i64_in]); (try simp (disch := omega) only [IntWalk.u64_in]); first | (refine hK _ ?_; clear hK K) | (apply Exists.intro; refine ⟨fun x => ?_, hK _ ?_⟩; (first | fail); clear hK K))) | (refine gLex_undef rfl rfl rfl (by kernel_rfl) (fun K hK => ?_); go_simp; refine hK _ ?_; clear hK K) | (refine gLex_ask rfl rfl rfl ?_; first | (apply gAsk_yes; kernel_rfl; intro K hK; (go_simp; (try (simp only [↓IntWalk.iteOmega]; try go_simp)); (try simp (disch := omega) only [IntWalk.i64_in]); (try simp (disch := omega) only [IntWalk.u64_in]); first | (refine hK _ ?_; clear hK K) | (apply Exists.intro; refine ⟨fun x => ?_, hK _ ?_⟩; (first | fail); clear hK K))) | ((first | apply gAsk_no1 | apply gAsk_no2); kernel_rfl; intro K hK; simp [go_sem]; refine hK _ ?_; clear hK K) | (apply gAsk_part; kernel_rfl; all_goals (intro h K hK; (try simp only [Bool.not_true] at h); (try simp only [Bool.not_false] at h); (try simp only [decide_eq_true_eq] at h); (try simp only [decide_eq_false_iff_not] at h); first | (exfalso; first | contradiction | omega) | (go_simp; (try (simp only [↓IntWalk.iteOmega]; try go_simp)); (try simp (disch := omega) only [IntWalk.i64_in]); (try simp (disch := omega) only [IntWalk.u64_in]); first | (refine hK _ ?_; clear hK K) | (apply Exists.intro; refine ⟨fun x => ?_, hK _ ?_⟩; (first | fail); clear hK K))))))); all_goals ((apply gLex_end); intro x))
            go_wp2_with fail
            go_ret
            exact ⟨by rw [HZ.out]; rfl, (by repeat (first | exact Grows.refl _ | refine Grows.now ?_ _ | refine Grows.new ?_ _ | refine Grows.drewN ?_ _ | refine Grows.drew ?_ | assumption | (refine Grows.set ?_ (by first | omega | (simp; done) | (simp; omega)) _)))⟩
          · have hd2 : decide (N ≤ z) = false := decide_eq_false h2
            have HZ := hide (HX.out (decide_eq_true (by omega)))
            clear HX HY
            go_upto_region 6 with fail
            ((first | refine wp_region_gen (by kernel_rfl) (by kernel_rfl) ?_); (repeat' (first | (refine gLex_val0 rfl (by kernel_rfl) (fun K hK => ?_); (go_simp; (try (simp only [↓IntWalk.iteOmega]; try go_simp)); (try simp (disch := omega) only [IntWalk.i64_in]); (try simp (disch := omega) only [IntWalk.u64_in]); first | (refine hK _ ?_; clear hK K) | (apply Exists.intro; refine ⟨fun x => ?_, hK _ ?_⟩; (first | fail); clear hK K))) | (refine gLex_undef rfl rfl rfl (by kernel_rfl) (fun K hK => ?_); go_simp; refine hK _ ?_; clear hK K) | (refine gLex_ask rfl rfl rfl ?_; first | (apply gAsk_yes; kernel_rfl; intro K hK; (go_simp; (try (simp only [↓IntWalk.iteOmega]; try go_simp)); (try simp (disch := omega) only [IntWalk.i64_in]); (try simp (disch := omega) only [IntWalk.u64_in]); first | (refine hK _ ?_; clear hK K) | (apply Exists.intro; refine ⟨fun x => ?_, hK _ ?_⟩; (first | fail); clear hK K))) | ((first | apply gAsk_no1 | apply gAsk_no2); kernel_rfl; intro K hK; simp [go_sem]; refine hK _ ?_; clear hK K) | (apply gAsk_part; kernel_rfl; all_goals (intro h K hK; (try simp only [Bool.not_true] at h); (try simp only [Bool.not_false] at h); (try simp only [decide_eq_true_eq] at h); (try simp only [decide_eq_false_iff_not] at h); first | (exfalso; first | contradiction | omega) | (go_simp; (try (simp only [↓IntWalk.iteOmega]; try go_simp)); (try simp (disch := omega) only [IntWalk.i64_in]); (try simp (disch := omega) only [IntWalk.u64_in]); first | (refine hK _ ?_; clear hK K) | (apply Exists.intro; refine ⟨fun x => ?_, hK _ ?_⟩; (first | fail); clear hK K))))))); all_goals ((apply gLex_end); intro x))
            go_wp2_with fail
            go_roundw
            case measure => simp [Go.RowKit.intOf]; omega
            case rel => exact ⟨k + 1, by omega, by go_num, HZ.out, ⟨_, (by repeat (first | exact Grows.refl _ | refine Grows.now ?_ _ | refine Grows.new ?_ _ | refine Grows.drewN ?_ _ | refine Grows.drew ?_ | assumption | (refine Grows.set ?_ (by first | omega | (simp; done) | (simp; omega)) _)))⟩, rfl⟩
      · obtain rfl : k = l.length := by omega
        have hdk : decide ((l.length : Int) < (l.length : Int)) = false := decide_eq_false (by omega)
        have HZ : Hid (res = 0) := by
          rw [HV.out, if_neg]
          · exact rfl
          · rw [Bool.not_eq_true, List.any_eq_false]
            intro e he
            obtain ⟨j, hj, rfl⟩ := List.mem_iff_getElem.1 he
            have e1 : gi l j = l[j] := by simp [gi, hj]
            rw [← e1, HA.out j hj]
            decide
        go_wp2_with fail
        go_ret
        exact ⟨by rw [HZ.out]; rfl, (by repeat (first | exact Grows.refl _ | refine Grows.now ?_ _ | refine Grows.new ?_ _ | refine Grows.drewN ?_ _ | refine Grows.drew ?_ | assumption | (refine Grows.set ?_ (by first | omega | (simp; done) | (simp; omega)) _)))⟩
  · have HV := hide (show askF N E l = 1 by unfold askF; rw [if_pos h1])
    have hr2 : (rightF N E == 0) = false := beq_eq_false_iff_ne.2 h1
    clear h1
    generalize rightF N E = r at *
    go_enter Try.func49, Try.ntmps49
    go_wp2_with (go_at_call 16; refine (C1.out _ (by repeat (first | exact Grows.refl _ | refine Grows.now ?_ _ | refine Grows.new ?_ _ | refine Grows.drewN ?_ _ | refine Grows.drew ?_ | assumption | (refine Grows.set ?_ (by first | omega | (simp; done) | (simp; omega)) _)))).mono ?_; rintro e w' ⟨rfl, hg⟩; obtain ⟨x1, rfl⟩ := hg.later; clear hg)
    all_goals go_ret
    all_goals exact ⟨by rw [HV.out]; rfl, (by repeat (first | exact Grows.refl _ | refine Grows.now ?_ _ | refine Grows.new ?_ _ | refine Grows.drewN ?_ _ | refine Grows.drew ?_ | assumption | (refine Grows.set ?_ (by first | omega | (simp; done) | (simp; omega)) _)))⟩
set_option maxRecDepth 20000 in
set_option maxHeartbeats 4000000 in
theorem r45Cons (N : Nat) (A : Option Addr) (c : Nat) (E : List Edg) (B : Option Addr) (cb : Nat) (H : List Nat) (w : World) (h : Rd w A 3 E.length (esCells E)) (hr : rightF (N : Int) E = 0) (h2 : Rd w B 1 N (wv H)) (hH : ∀ j, j < N → gn H j < 18446744073709551616) :
    Calls Try.prog 53 #[.agg #[.int .i64 (N : Int), .slice A E.length c], .slice B N cb] w fun e w' => e = .returned (.bool (!(E.any (steepB H)))) ∧ Grows w w' := by
  obtain ⟨r1, r2, r3, r4, r5⟩ := right_in hr
  rw [Int.toNat_natCast] at r4
  have HR := hide h
  have HB := hide h2
  have HL := hide (show H.length = N from h2.wlen)
  have HI := hide r4
  have HH := hide hH
  clear h h2 hr r4 r5 hH
  go_enter Try.func53, Try.ntmps53
  go_upto_region 1 with fail
  obtain ⟨W0, hW0⟩ : ∃ W0, W0 = w.alloc (.cells #[.int .i64 (N : Int), .slice A E.length c] 24) := ⟨_, rfl⟩
  have a1 : Arr W0 w.heap.size 24 [.int .i64 (N : Int), .slice A E.length c] := by rw [hW0]; exact Arr.make _ _ _
  have hg0 : Grows w W0 := by rw [hW0]; exact (Grows.refl _).new _
  have hr0 := HR.out.grows hg0
  have hb0 := HB.out.grows hg0
  have HR := hide hr0
  have HB := hide hb0
  clear hr0 hb0
  obtain ⟨x0, rfl⟩ := hg0.later
  rw [← hW0]
  clear hW0 hg0
  generalize w.heap.size = b0 at *
  go_wp2_with fail
  go_loopw [5] (fun s5 wr => ∃ k : Nat, k ≤ E.length ∧ s5 = .int .i64 (k : Int) ∧ (∀ j, j < k → steepB H (ge E j) = false) ∧ ∃ y : Later x0.now, wr = y.now) (fun s5 _ => E.length - (Go.RowKit.intOf s5).toNat)
  case atStart => exact ⟨0, by omega, by go_num, (fun j h => absurd h (by omega)), ⟨_, (by repeat (first | exact Grows.refl _ | refine Grows.now ?_ _ | refine Grows.new ?_ _ | refine Grows.drewN ?_ _ | refine Grows.drew ?_ | assumption | (refine Grows.set ?_ (by first | omega | (simp; done) | (simp; omega)) _)))⟩, rfl⟩
  case round =>
    obtain ⟨k, hk, rfl, hall, y, rfl⟩ := hrel
    have HA := hide hall
    clear hall
    by_cases hlt : k < E.length
    · obtain ⟨f1, f2⟩ := HI.out.f k hlt
      obtain ⟨t1, t2⟩ := HI.out.t k hlt
      obtain ⟨bE, oE, rfl, hcE⟩ := HR.out.edgesH (by omega)
      obtain ⟨e1, e2, e3⟩ := hcE k hlt
      obtain ⟨bH, oH, rfl, hcH⟩ := HB.out.at_ (by omega)
      have d1 : Holds x0.now ⟨bH, oH + fN E k, none⟩ (.int .u64 (gn H (fN E k) : Int)) := ⟨hcH _ _ (wv_at (by have := HL.out; omega))⟩
      have d2 : Holds x0.now ⟨bH, oH + tN E k, none⟩ (.int .u64 (gn H (tN E k) : Int)) := ⟨hcH _ _ (wv_at (by have := HL.out; omega))⟩
      have hdk : decide ((k : Int) < (E.length : Int)) = true := decide_eq_true (by omega)
      have HX := hide (show steepB H (ge E k) = false → ∀ j, j < k + 1 → steepB H (ge E j) = false from fun h j hjk => by
        by_cases e1 : j = k
        · subst e1; exact h
        · exact HA.out j (by omega))
      have HY := hide (show steepB H (ge E k) = true → (!(E.any (steepB H))) = false from fun h => by
        have e1 : ge E k = E[k] := by simp [ge, hlt]
        have : E.any (steepB H) = true := by
          rw [List.any_eq_true]
          exact ⟨E[k], List.getElem_mem _, by rw [← e1]; exact h⟩
        rw [this]; rfl)
      have HS := hide (show steepB H (ge E k) = (decide ((gn H (tN E k) : Int) < (gn H (fN E k) : Int)) && decide ((ge E k).w < (gn H (fN E k) : Int) - gn H (tN E k))) from by
        unfold steepB
        have e2 : (ge E k).f.toNat = fN E k := rfl
        have e3 : (ge E k).t.toNat = tN E k := rfl
        rw [e2, e3]
        congr 1
        apply decide_eq_decide.2
        omega)
      have hf := HH.out _ f1
      rw [f2] at e1
      rw [t2] at e2
      generalize (ge E k).w = W at *
      generalize steepB H (ge E k) = sb at *
      obtain ⟨p, hp⟩ : ∃ z : Int, (gn H (fN E k) : Int) = z := ⟨_, rfl⟩
      obtain ⟨q, hq⟩ : ∃ z : Int, (gn H (tN E k) : Int) = z := ⟨_, rfl⟩
      rw [hp] at d1 HS
      rw [hq] at d2 HS
      have hp0 : 0 ≤ p ∧ p < 18446744073709551616 := by omega
      have hq0 : 0 ≤ q := by omega
      clear hp hq hf hcE hcH
      generalize fN E k = nf at *
      generalize tN E k = nt at *
      clear f2 t2
      by_cases h1 : q < p
      · have hd1 : decide (q < p) = true := decide_eq_true h1
        by_cases h2 : W < p - q
        · have hd2 : decide (W < p - q) = true := decide_eq_true h2
          have HZ := hide (HY.out (by rw [HS.out, hd1, hd2]; rfl))
          clear HX HY HS h2
          go_upto_region 5 with fail
          ((first | refine wp_region_gen (by kernel_rfl) (by kernel_rfl) ?_); (repeat' (first | (refine gLex_val0 rfl (by kernel_rfl) (fun K hK => ?_); (go_simp; (try (simp only [↓IntWalk.iteOmega]; try go_simp)); (try simp (disch := omega) only [IntWalk.i64_in]); (try simp (disch := omega) only [IntWalk.u64_in]); first | (refine hK _ ?_; clear hK K) | (apply Exists.intro; refine ⟨fun x => ?_, hK _ ?_⟩; (first | fail); clear hK K))) | (refine gLex_undef rfl rfl rfl (by kernel_rfl) (fun K hK => ?_); go_simp; refine hK _ ?_; clear hK K) | (refine gLex_ask rfl rfl rfl ?_; first | (apply gAsk_yes; kernel_rfl; intro K hK; (go_simp; (try (simp only [↓IntWalk.iteOmega]; try go_simp)); (try simp (disch := omega) only [IntWalk.i64_in]); (try simp (disch := omega) only [IntWalk.u64_in]); first | (refine hK _ ?_; clear hK K) | (apply Exists.intro; refine ⟨fun x => ?_, hK _ ?_⟩; (first | fail); clear hK K))) | ((first | apply gAsk_no1 | apply gAsk_no2); kernel_rfl; intro K hK; simp [go_sem]; refine hK _ ?_; clear hK K) | (apply gAsk_part; kernel_rfl; all_goals (intro h K hK; (try simp only [Bool.not_true] at h); (try simp only [Bool.not_false] at h); (try simp only [decide_eq_true_eq] at h); (try simp only [decide_eq_false_iff_not] at h); first | (exfalso; first | contradiction | omega) | (go_simp; (try (simp only [↓IntWalk.iteOmega]; try go_simp)); (try simp (disch := omega) only [IntWalk.i64_in]); (try simp (disch := omega) only [IntWalk.u64_in]); first | (refine hK _ ?_; clear hK K) | (apply Exists.intro; refine ⟨fun x => ?_, hK _ ?_⟩; (first | fail); clear hK K))))))); all_goals ((apply gLex_end); intro x))
          go_wp2_with fail
          go_ret
          exact ⟨by rw [HZ.out]; rfl, (by repeat (first | exact Grows.refl _ | refine Grows.now ?_ _ | refine Grows.new ?_ _ | refine Grows.drewN ?_ _ | refine Grows.drew ?_ | assumption | (refine Grows.set ?_ (by first | omega | (simp; done) | (simp; omega)) _)))⟩
        · have hd2 : decide (W < p - q) = false := decide_eq_false h2
          have HZ := hide (HX.out (by rw [HS.out, hd1, hd2]; rfl))
          clear HX HY HS h2
          go_upto_region 5 with fail
          ((first | refine wp_region_gen (by kernel_rfl) (by kernel_rfl) ?_); (repeat' (first | (refine gLex_val0 rfl (by kernel_rfl) (fun K hK => ?_); (go_simp; (try (simp only [↓IntWalk.iteOmega]; try go_simp)); (try simp (disch := omega) only [IntWalk.i64_in]); (try simp (disch := omega) only [IntWalk.u64_in]); first | (refine hK _ ?_; clear hK K) | (apply Exists.intro; refine ⟨fun x => ?_, hK _ ?_⟩; (first | fail); clear hK K))) | (refine gLex_undef rfl rfl rfl (by kernel_rfl) (fun K hK => ?_); go_simp; refine hK _ ?_; clear hK K) | (refine gLex_ask rfl rfl rfl ?_; first | (apply gAsk_yes; kernel_rfl; intro K hK; (go_simp; (try (simp only [↓IntWalk.iteOmega]; try go_simp)); (try simp (disch := omega) only [IntWalk.i64_in]); (try simp (disch := omega) only [IntWalk.u64_in]); first | (refine hK _ ?_; clear hK K) | (apply Exists.intro; refine ⟨fun x => ?_, hK _ ?_⟩; (first | fail); clear hK K))) | ((first | apply gAsk_no1 | apply gAsk_no2); kernel_rfl; intro K hK; simp [go_sem]; refine hK _ ?_; clear hK K) | (apply gAsk_part; kernel_rfl; all_goals (intro h K hK; (try simp only [Bool.not_true] at h); (try simp only [Bool.not_false] at h); (try simp only [decide_eq_true_eq] at h); (try simp only [decide_eq_false_iff_not] at h); first | (exfalso; first | contradiction | omega) | (go_simp; (try (simp only [↓IntWalk.iteOmega]; try go_simp)); (try simp (disch := omega) only [IntWalk.i64_in]); (try simp (disch := omega) only [IntWalk.u64_in]); first | (refine hK _ ?_; clear hK K) | (apply Exists.intro; refine ⟨fun x => ?_, hK _ ?_⟩; (first | fail); clear hK K))))))); all_goals ((apply gLex_end); intro x))
          go_wp2_with fail
          go_roundw
          case measure => simp [Go.RowKit.intOf]; omega
          case rel => exact ⟨k + 1, by omega, by go_num, HZ.out, ⟨_, (by repeat (first | exact Grows.refl _ | refine Grows.now ?_ _ | refine Grows.new ?_ _ | refine Grows.drewN ?_ _ | refine Grows.drew ?_ | assumption | (refine Grows.set ?_ (by first | omega | (simp; done) | (simp; omega)) _)))⟩, rfl⟩
      · have hd1 : decide (q < p) = false := decide_eq_false h1
        have HZ := hide (HX.out (by rw [HS.out, hd1]; rfl))
        clear HX HY HS h1
        go_upto_region 5 with fail
        ((first | refine wp_region_gen (by kernel_rfl) (by kernel_rfl) ?_); (repeat' (first | (refine gLex_val0 rfl (by kernel_rfl) (fun K hK => ?_); (go_simp; (try (simp only [↓IntWalk.iteOmega]; try go_simp)); (try simp (disch := omega) only [IntWalk.i64_in]); (try simp (disch := omega) only [IntWalk.u64_in]); first | (refine hK _ ?_; clear hK K) | (apply Exists.intro; refine ⟨fun x => ?_, hK _ ?_⟩; (first | fail); clear hK K))) | (refine gLex_undef rfl rfl rfl (by kernel_rfl) (fun K hK => ?_); go_simp; refine hK _ ?_; clear hK K) | (refine gLex_ask rfl rfl rfl ?_; first | (apply gAsk_yes; kernel_rfl; intro K hK; (go_simp; (try (simp only [↓IntWalk.iteOmega]; try go_simp)); (try simp (disch := omega) only [IntWalk.i64_in]); (try simp (disch := omega) only [IntWalk.u64_in]); first | (refine hK _ ?_; clear hK K) | (apply Exists.intro; refine ⟨fun x => ?_, hK _ ?_⟩; (first | fail); clear hK K))) | ((first | apply gAsk_no1 | apply gAsk_no2); kernel_rfl; intro K hK; simp [go_sem]; refine hK _ ?_; clear hK K) | (apply gAsk_part; kernel_rfl; all_goals (intro h K hK; (try simp only [Bool.not_true] at h); (try simp only [Bool.not_false] at h); (try simp only [decide_eq_true_eq] at h); (try simp only [decide_eq_false_iff_not] at h); first | (exfalso; first | contradiction | omega) | (go_simp; (try (simp only [↓IntWalk.iteOmega]; try go_simp)); (try simp (disch := omega) only [IntWalk.i64_in]); (try simp (disch := omega) only [IntWalk.u64_in]); first | (refine hK _ ?_; clear hK K) | (apply Exists.intro; refine ⟨fun x => ?_, hK _ ?_⟩; (first | fail); clear hK K))))))); all_goals ((apply gLex_end); intro x))
        go_wp2_with fail
        go_roundw
        case measure => simp [Go.RowKit.intOf]; omega
        case rel => exact ⟨k + 1, by omega, by go_num, HZ.out, ⟨_, (by repeat (first | exact Grows.refl _ | refine Grows.now ?_ _ | refine Grows.new ?_ _ | refine Grows.drewN ?_ _ | refine Grows.drew ?_ | assumption | (refine Grows.set ?_ (by first | omega | (simp; done) | (simp; omega)) _)))⟩, rfl⟩
    · obtain rfl : k = E.length := by omega
      have hdk : decide ((E.length : Int) < (E.length : Int)) = false := decide_eq_false (by omega)
      have HZ : Hid (E.any (steepB H) = false) := by
        show E.any (steepB H) = false
        rw [List.any_eq_false]
        intro e he
        obtain ⟨j, hj, rfl⟩ := List.mem_iff_getElem.1 he
        have e1 : ge E j = E[j] := by simp [ge, hj]
        rw [← e1, HA.out j hj]
        decide
      go_wp2_with fail
      go_ret
      exact ⟨by rw [HZ.out]; rfl, (by repeat (first | exact Grows.refl _ | refine Grows.now ?_ _ | refine Grows.new ?_ _ | refine Grows.drewN ?_ _ | refine Grows.drew ?_ | assumption | (refine Grows.set ?_ (by first | omega | (simp; done) | (simp; omega)) _)))⟩
/-- No node that is come to is nearer than it says. -/
def okH (D H : List Nat) (n : Nat) : Bool := (List.range n).all fun v => !(decide (gn D v < farV) && decide (gn D v < gn H v))
theorem okH_adm {N t : Nat} {E : List Edg} {H : List Nat} {xs : List (Nat × Nat)} (hx : SeaOk N t E true xs) : okH (outL N xs) H N = admB xs H := by
  have hb := net_bound hx.ok.right
  have hN4 : N ≤ 4096 := by have := (right_in hx.ok.right).2.1; omega
  clear hb
  apply bool_ext
  unfold okH admB
  rw [List.all_eq_true, List.all_eq_true]
  constructor
  · rintro h ⟨v, f⟩ hq
    have hv := hx.lt _ hq
    have h1 := h v (List.mem_range.2 hv)
    have h2 := outL_at (N := N) hx.far.nodup hv hq
    have hf : f ≤ N * 17592186044416 := (hx.far.way _ _ hq).2.2.2
    have hf2 : f < farV := by unfold farV; omega
    rw [h2] at h1
    refine decide_eq_true ?_
    show gn H v ≤ f
    by_cases hlt : f < gn H v
    · rw [decide_eq_true hf2, decide_eq_true hlt] at h1
      cases h1
    · omega
  · intro h v hv
    have hv := List.mem_range.1 hv
    by_cases hm : v ∈ xs.map Prod.fst
    · obtain ⟨⟨u, f⟩, hq, rfl⟩ := List.mem_map.1 hm
      have h2 := outL_at (N := N) hx.far.nodup hv hq
      have h3 := of_decide_eq_true (h _ hq)
      simp only at h2 h3 ⊢
      rw [h2]
      simp
      omega
    · rw [outL_no hv hm]
      simp
set_option maxRecDepth 20000 in
set_option maxHeartbeats 4000000 in
theorem r45Adm (N t : Nat) (A : Option Addr) (c : Nat) (E : List Edg) (B : Option Addr) (cb : Nat) (H : List Nat) (xs : List (Nat × Nat)) (w : World) (h : Rd w A 3 E.length (esCells E)) (h2 : Rd w B 1 N (wv H)) (hx : SeaOk N t E true xs) (ht : t < N) (hH : ∀ j, j < N → gn H j < 18446744073709551616) :
    Calls Try.prog 54 #[.agg #[.int .i64 (N : Int), .slice A E.length c], .int .i64 (t : Int), .slice B N cb] w fun e w' => e = .returned (.bool (admB xs H)) ∧ Grows w w' := by
  have hN : (N : Int) ≤ 4096 := (right_in hx.ok.right).2.1
  have C1 := hide (fun (W : World) (g : Grows w W) => show Calls Try.prog 25 #[.agg #[.int .i64 (N : Int), .slice A E.length c], .int .i64 (t : Int), .agg #[.bool true, .slice none 0 0, .slice none 0 0, .slice none 0 0, .int .u64 0]] W fun e w' =>
      ∃ gd, e = .returned (.slice (some ⟨gd, 0, none⟩) N N) ∧ Row1 w' gd 33 1 N N (wv (outL N xs)) ∧ Grows W w' from by
    rw [← hx.ref]
    exact r14All N t A c E (allO true) none none none 0 0 0 W (h.grows g) (rdNone _ _) (rdNone _ _) (rdNone _ _) hx.ok hx.wb)
  have HV := hide (okH_adm (H := H) hx)
  rw [← HV.out]
  clear HV
  have HD := hide (outL_len N xs)
  have HB := hide h2
  have HL := hide (show H.length = N from h2.wlen)
  have HH := hide hH
  clear h h2 hx hH
  generalize outL N xs = D at *
  have hDf : ∀ v, (gn D v : Int) = (gn D v : Int) := fun _ => rfl
  clear hDf
  go_enter Try.func54, Try.ntmps54
  go_upto_region 1 with fail
  obtain ⟨W0, hW0⟩ : ∃ W0, W0 = w.alloc (.cells #[.int .i64 (N : Int), .slice A E.length c] 24) := ⟨_, rfl⟩
  have a1 : Arr W0 w.heap.size 24 [.int .i64 (N : Int), .slice A E.length c] := by rw [hW0]; exact Arr.make _ _ _
  have hg0 : Grows w W0 := by rw [hW0]; exact (Grows.refl _).new _
  have hb0 := HB.out.grows hg0
  have HB := hide hb0
  clear hb0
  obtain ⟨x0, rfl⟩ := hg0.later
  rw [← hW0]
  clear hW0 hg0
  generalize w.heap.size = b0 at *
  go_wp2_with (go_at_call 25; refine (C1.out _ (by repeat (first | exact Grows.refl _ | refine Grows.now ?_ _ | refine Grows.new ?_ _ | refine Grows.drewN ?_ _ | refine Grows.drew ?_ | assumption | (refine Grows.set ?_ (by first | omega | (simp; done) | (simp; omega)) _)))).mono ?_; rintro e W1 ⟨gd, rfl, hrow, hg⟩)
  have HG := hide (Grows.trans (show Grows w x0.now from (by repeat (first | exact Grows.refl _ | refine Grows.now ?_ _ | refine Grows.new ?_ _ | refine Grows.drewN ?_ _ | refine Grows.drew ?_ | assumption | (refine Grows.set ?_ (by first | omega | (simp; done) | (simp; omega)) _)))) hg)
  have HRW := hide hrow
  have a2 : Arr W1 b0 24 [.int .i64 (N : Int), .slice A E.length c] := a1.grow hg
  have hb1 := HB.out.grows hg
  have HB := hide hb1
  clear hb1 hg hrow a1 C1
  go_loopw [8] (fun s8 wr => ∃ k : Nat, k ≤ N ∧ s8 = .int .i64 (k : Int) ∧ (∀ j, j < k → (!(decide (gn D j < farV) && decide (gn D j < gn H j))) = true) ∧ ∃ y : Later W1, wr = y.now) (fun s8 _ => N - (Go.RowKit.intOf s8).toNat)
  case atStart => exact ⟨0, by omega, by go_num, (fun j h => absurd h (by omega)), ⟨_, Grows.refl _⟩, rfl⟩
  case round =>
    obtain ⟨k, hk, rfl, hall, y, rfl⟩ := hrel
    have HA := hide hall
    clear hall
    have hgw : Grows w y.now := HG.out.trans y.grows
    by_cases hlt : k < N
    · obtain ⟨bH, oH, rfl, hcH⟩ := HB.out.at_ (by omega)
      have d1 : Holds W1 ⟨bH, oH + k, none⟩ (.int .u64 (gn H k : Int)) := ⟨hcH _ _ (wv_at (by have := HL.out; omega))⟩
      have d2 : Holds W1 ⟨gd, k, none⟩ (.int .u64 (gn D k : Int)) := HRW.out.wvH HD.out hlt
      have hdk : decide ((k : Int) < (N : Int)) = true := decide_eq_true (by omega)
      have HX := hide (show (!(decide (gn D k < farV) && decide (gn D k < gn H k))) = true → ∀ j, j < k + 1 → (!(decide (gn D j < farV) && decide (gn D j < gn H j))) = true from fun h j hjk => by
        by_cases e1 : j = k
        · subst e1; exact h
        · exact HA.out j (by omega))
      have HY := hide (show (!(decide (gn D k < farV) && decide (gn D k < gn H k))) = false → okH D H N = false from fun h => by
        unfold okH
        rw [List.all_eq_false]
        exact ⟨k, List.mem_range.2 hlt, by rw [h]; decide⟩)
      obtain ⟨p, hp⟩ : ∃ z : Int, (gn D k : Int) = z := ⟨_, rfl⟩
      obtain ⟨q, hq⟩ : ∃ z : Int, (gn H k : Int) = z := ⟨_, rfl⟩
      rw [hq] at d1
      rw [hp] at d2
      have HS := hide (show (!(decide (gn D k < farV) && decide (gn D k < gn H k))) = !(decide (p < 4611686018427387904) && decide (p < q)) from by
        have e1 : decide (gn D k < farV) = decide (p < 4611686018427387904) := by apply decide_eq_decide.2; unfold farV; omega
        have e2 : decide (gn D k < gn H k) = decide (p < q) := by apply decide_eq_decide.2; omega
        rw [e1, e2])
      clear hp hq hcH
      by_cases h1 : p < 4611686018427387904
      · have hd1 : decide (p < 4611686018427387904) = true := decide_eq_true h1
        by_cases h2 : p < q
        · have hd2 : decide (p < q) = true := decide_eq_true h2
          have HZ := hide (HY.out (by rw [HS.out, hd1, hd2]; rfl))
          clear HX HY HS h2 h1
          go_upto_region 5 with fail
          ((first | refine wp_region_gen (by kernel_rfl) (by kernel_rfl) ?_); (repeat' (first | (refine gLex_val0 rfl (by kernel_rfl) (fun K hK => ?_); (go_simp; (try (simp only [↓IntWalk.iteOmega]; try go_simp)); (try simp (disch := omega) only [IntWalk.i64_in]); (try simp (disch := omega) only [IntWalk.u64_in]); first | (refine hK _ ?_; clear hK K) | (apply Exists.intro; refine ⟨fun x => ?_, hK _ ?_⟩; (first | fail); clear hK K))) | (refine gLex_undef rfl rfl rfl (by kernel_rfl) (fun K hK => ?_); go_simp; refine hK _ ?_; clear hK K) | (refine gLex_ask rfl rfl rfl ?_; first | (apply gAsk_yes; kernel_rfl; intro K hK; (go_simp; (try (simp only [↓IntWalk.iteOmega]; try go_simp)); (try simp (disch := omega) only [IntWalk.i64_in]); (try simp (disch := omega) only [IntWalk.u64_in]); first | (refine hK _ ?_; clear hK K) | (apply Exists.intro; refine ⟨fun x => ?_, hK _ ?_⟩; (first | fail); clear hK K))) | ((first | apply gAsk_no1 | apply gAsk_no2); kernel_rfl; intro K hK; simp [go_sem]; refine hK _ ?_; clear hK K) | (apply gAsk_part; kernel_rfl; all_goals (intro h K hK; (try simp only [Bool.not_true] at h); (try simp only [Bool.not_false] at h); (try simp only [decide_eq_true_eq] at h); (try simp only [decide_eq_false_iff_not] at h); first | (exfalso; first | contradiction | omega) | (go_simp; (try (simp only [↓IntWalk.iteOmega]; try go_simp)); (try simp (disch := omega) only [IntWalk.i64_in]); (try simp (disch := omega) only [IntWalk.u64_in]); first | (refine hK _ ?_; clear hK K) | (apply Exists.intro; refine ⟨fun x => ?_, hK _ ?_⟩; (first | fail); clear hK K))))))); all_goals ((apply gLex_end); intro x))
          go_wp2_with fail
          go_ret
          exact ⟨by rw [HZ.out]; rfl, (by repeat (first | exact Grows.refl _ | refine Grows.now ?_ _ | refine Grows.new ?_ _ | refine Grows.drewN ?_ _ | refine Grows.drew ?_ | assumption | (refine Grows.set ?_ (by first | omega | (simp; done) | (simp; omega)) _)))⟩
        · have hd2 : decide (p < q) = false := decide_eq_false h2
          have HZ := hide (HX.out (by rw [HS.out, hd1, hd2]; rfl))
          clear HX HY HS h2 h1
          go_upto_region 5 with fail
          ((first | refine wp_region_gen (by kernel_rfl) (by kernel_rfl) ?_); (repeat' (first | (refine gLex_val0 rfl (by kernel_rfl) (fun K hK => ?_); (go_simp; (try (simp only [↓IntWalk.iteOmega]; try go_simp)); (try simp (disch := omega) only [IntWalk.i64_in]); (try simp (disch := omega) only [IntWalk.u64_in]); first | (refine hK _ ?_; clear hK K) | (apply Exists.intro; refine ⟨fun x => ?_, hK _ ?_⟩; (first | fail); clear hK K))) | (refine gLex_undef rfl rfl rfl (by kernel_rfl) (fun K hK => ?_); go_simp; refine hK _ ?_; clear hK K) | (refine gLex_ask rfl rfl rfl ?_; first | (apply gAsk_yes; kernel_rfl; intro K hK; (go_simp; (try (simp only [↓IntWalk.iteOmega]; try go_simp)); (try simp (disch := omega) only [IntWalk.i64_in]); (try simp (disch := omega) only [IntWalk.u64_in]); first | (refine hK _ ?_; clear hK K) | (apply Exists.intro; refine ⟨fun x => ?_, hK _ ?_⟩; (first | fail); clear hK K))) | ((first | apply gAsk_no1 | apply gAsk_no2); kernel_rfl; intro K hK; simp [go_sem]; refine hK _ ?_; clear hK K) | (apply gAsk_part; kernel_rfl; all_goals (intro h K hK; (try simp only [Bool.not_true] at h); (try simp only [Bool.not_false] at h); (try simp only [decide_eq_true_eq] at h); (try simp only [decide_eq_false_iff_not] at h); first | (exfalso; first | contradiction | omega) | (go_simp; (try (simp only [↓IntWalk.iteOmega]; try go_simp)); (try simp (disch := omega) only [IntWalk.i64_in]); (try simp (disch := omega) only [IntWalk.u64_in]); first | (refine hK _ ?_; clear hK K) | (apply Exists.intro; refine ⟨fun x => ?_, hK _ ?_⟩; (first | fail); clear hK K))))))); all_goals ((apply gLex_end); intro x))
          go_wp2_with fail
          go_roundw
          case measure => simp [Go.RowKit.intOf]; omega
          case rel => exact ⟨k + 1, by omega, by go_num, HZ.out, ⟨_, (by repeat (first | exact Grows.refl _ | refine Grows.now ?_ _ | refine Grows.new ?_ _ | refine Grows.drewN ?_ _ | refine Grows.drew ?_ | assumption | (refine Grows.set ?_ (by first | omega | (simp; done) | (simp; omega)) _)))⟩, rfl⟩
      · have hd1 : decide (p < 4611686018427387904) = false := decide_eq_false h1
        have HZ := hide (HX.out (by rw [HS.out, hd1]; rfl))
        clear HX HY HS h1
        go_upto_region 5 with fail
        ((first | refine wp_region_gen (by kernel_rfl) (by kernel_rfl) ?_); (repeat' (first | (refine gLex_val0 rfl (by kernel_rfl) (fun K hK => ?_); (go_simp; (try (simp only [↓IntWalk.iteOmega]; try go_simp)); (try simp (disch := omega) only [IntWalk.i64_in]); (try simp (disch := omega) only [IntWalk.u64_in]); first | (refine hK _ ?_; clear hK K) | (apply Exists.intro; refine ⟨fun x => ?_, hK _ ?_⟩; (first | fail); clear hK K))) | (refine gLex_undef rfl rfl rfl (by kernel_rfl) (fun K hK => ?_); go_simp; refine hK _ ?_; clear hK K) | (refine gLex_ask rfl rfl rfl ?_; first | (apply gAsk_yes; kernel_rfl; intro K hK; (go_simp; (try (simp only [↓IntWalk.iteOmega]; try go_simp)); (try simp (disch := omega) only [IntWalk.i64_in]); (try simp (disch := omega) only [IntWalk.u64_in]); first | (refine hK _ ?_; clear hK K) | (apply Exists.intro; refine ⟨fun x => ?_, hK _ ?_⟩; (first | fail); clear hK K))) | ((first | apply gAsk_no1 | apply gAsk_no2); kernel_rfl; intro K hK; simp [go_sem]; refine hK _ ?_; clear hK K) | (apply gAsk_part; kernel_rfl; all_goals (intro h K hK; (try simp only [Bool.not_true] at h); (try simp only [Bool.not_false] at h); (try simp only [decide_eq_true_eq] at h); (try simp only [decide_eq_false_iff_not] at h); first | (exfalso; first | contradiction | omega) | (go_simp; (try (simp only [↓IntWalk.iteOmega]; try go_simp)); (try simp (disch := omega) only [IntWalk.i64_in]); (try simp (disch := omega) only [IntWalk.u64_in]); first | (refine hK _ ?_; clear hK K) | (apply Exists.intro; refine ⟨fun x => ?_, hK _ ?_⟩; (first | fail); clear hK K))))))); all_goals ((apply gLex_end); intro x))
        go_wp2_with fail
        go_roundw
        case measure => simp [Go.RowKit.intOf]; omega
        case rel => exact ⟨k + 1, by omega, by go_num, HZ.out, ⟨_, (by repeat (first | exact Grows.refl _ | refine Grows.now ?_ _ | refine Grows.new ?_ _ | refine Grows.drewN ?_ _ | refine Grows.drew ?_ | assumption | (refine Grows.set ?_ (by first | omega | (simp; done) | (simp; omega)) _)))⟩, rfl⟩
    · obtain rfl : k = N := by omega
      have hdk : decide ((k : Int) < (k : Int)) = false := decide_eq_false (by omega)
      have HZ : Hid (okH D H k = true) := by
        show okH D H k = true
        unfold okH
        rw [List.all_eq_true]
        exact fun v hv => HA.out v (List.mem_range.1 hv)
      go_wp2_with fail
      go_ret
      exact ⟨by rw [HZ.out]; rfl, (by repeat (first | exact Grows.refl _ | refine Grows.now ?_ _ | refine Grows.new ?_ _ | refine Grows.drewN ?_ _ | refine Grows.drew ?_ | assumption | (refine Grows.set ?_ (by first | omega | (simp; done) | (simp; omega)) _)))⟩
end Go.Proofs.Ytiljgkaffgclgaa

/- Contract: bounds by places, by the document. -/
namespace Go.Proofs.Ytiljgkaffgclgaa
open Go Go.RowKit
set_option maxRecDepth 20000 in
set_option maxHeartbeats 8000000 in
theorem r45Bounds (N t : Nat) (A : Option Addr) (c : Nat) (E : List Edg) (B : Option Addr) (d : Nat) (L : List Pl) (w : World) (h : Rd w A 3 E.length (esCells E)) (hr : rightF (N : Int) E = 0) (h2 : Rd w B 2 N (psCells L)) (ht : t < N) :
    Calls Try.prog 52 #[.agg #[.int .i64 (N : Int), .slice A E.length c], .slice B N d, .int .i64 (t : Int)] w fun e w' => ∃ A' c', e = .returned (.slice A' N c') ∧ Rd w' A' 1 N (wv (bndsN (kI L E E.length) L (gq L t) N)) ∧ Grows w w' := by
  obtain ⟨r1, r2, r3, r4, r5⟩ := right_in hr
  rw [Int.toNat_natCast] at r4
  have HK := hide (fun k (hk : k ≤ E.length) => kI_in (L := L) r5 k hk)
  have HR := hide h
  have HP := hide h2
  have HI := hide r4
  have HW := hide r5
  have hE2 : E.length ≤ 16384 := r3
  have hNz : (N : Int) ≤ 4096 := r2
  clear h h2 r1 r2 r3 r4 r5 hr
  go_enter Try.func52, Try.ntmps52
  go_upto_region 1 with fail
  obtain ⟨W0, hW0⟩ : ∃ W0, W0 = w.alloc (.cells #[.int .i64 (N : Int), .slice A E.length c] 24) := ⟨_, rfl⟩
  have a1 : Arr W0 w.heap.size 24 [.int .i64 (N : Int), .slice A E.length c] := by rw [hW0]; exact Arr.make _ _ _
  have hg0 : Grows w W0 := by rw [hW0]; exact (Grows.refl _).new _
  have hr0 := HR.out.grows hg0
  have hb0 := HP.out.grows hg0
  have HR := hide hr0
  have HP := hide hb0
  clear hr0 hb0
  obtain ⟨x0, rfl⟩ := hg0.later
  rw [← hW0]
  clear hW0 hg0
  generalize w.heap.size = b0 at *
  go_wp2_with fail
  go_loopw [7, 8] (fun s7 s8 wr => ∃ k : Nat, k ≤ E.length ∧ s8 = .int .i64 (k : Int) ∧ s7 = .int .u64 (kI L E k) ∧ ∃ y : Later x0.now, wr = y.now) (fun _ s8 _ => E.length - (Go.RowKit.intOf s8).toNat)
  case atStart => exact ⟨0, by omega, by go_num, rfl, ⟨_, Grows.refl _⟩, rfl⟩
  case round =>
    obtain ⟨k, hk, rfl, rfl, y, rfl⟩ := hrel
    by_cases hlt : k < E.length
    · have hdk : decide ((k : Int) < (E.length : Int)) = true := decide_eq_true (by omega)
      obtain ⟨bE, oE, rfl, hcE⟩ := HR.out.edgesH (by omega)
      obtain ⟨e1, e2, e3⟩ := hcE k hlt
      obtain ⟨bP, oP, rfl, hcP⟩ := HP.out.plH (by omega)
      obtain ⟨f1, f2⟩ := HI.out.f k hlt
      obtain ⟨t1, t2⟩ := HI.out.t k hlt
      obtain ⟨p1, p2⟩ := hcP _ f1
      obtain ⟨p3, p4⟩ := hcP _ t1
      have hKS : kI L E (k + 1) = kNext (kI L E k) (sqP (gq L (fN E k)) (gq L (tN E k))) (ge E k).w := rfl
      have C3 := hide (fun (W : World) => show Calls Try.prog 104 #[.agg #[.int .i64 (gq L (fN E k)).x, .int .i64 (gq L (fN E k)).y], .agg #[.int .i64 (gq L (tN E k)).x, .int .i64 (gq L (tN E k)).y]] W fun e w' => e = .returned (.int .u64 (sqP (gq L (fN E k)) (gq L (tN E k)))) ∧ Grows W w' from r9SquareV _ _ _ _ W)
      obtain ⟨s0, s1⟩ := sqP_bd (gq L (fN E k)) (gq L (tN E k))
      obtain ⟨w0, w1⟩ := HW.out k hlt
      obtain ⟨k0, k1⟩ := HK.out k hk
      rw [f2] at e1
      rw [t2] at e2
      generalize sqP (gq L (fN E k)) (gq L (tN E k)) = s at *
      generalize (ge E k).w = W at *
      generalize gq L (fN E k) = pf at *
      generalize gq L (tN E k) = pt at *
      have hf1 : fN E k < N := f1
      have ht1 : tN E k < N := t1
      clear hcE hcP f1 f2 t1 t2
      obtain ⟨n0, n1, n2, n3, _⟩ := kNext_ok k0 k1 s0 s1 w0 w1
      rw [← hKS] at n0 n1 n2 n3
      have HN3 := hide n3
      have HKN := hide hKS
      obtain ⟨kn, hkn⟩ : ∃ kn, kI L E (k + 1) = kn := ⟨_, rfl⟩
      rw [hkn] at n0 n1 n2 HN3 HKN
      have HKE := hide hkn
      clear hKS n3 hkn
      generalize kI L E k = kk at *
      generalize fN E k = nf at *
      generalize tN E k = nt at *
      go_wp2_with fail
      go_loopw [7] (fun s7 wr => ∃ K : Int, s7 = .int .u64 K ∧ kn ≤ K ∧ K ≤ kk ∧ ∃ z : Later x0.now, wr = z.now ∧ Arr z.now y.now.heap.size 77 [.int .i64 (nf : Int), .int .i64 (nt : Int), .int .u64 W]) (fun s7 _ => (Go.RowKit.intOf s7).toNat)
      case atStart => exact ⟨kk, rfl, n1, by omega, ⟨_, (by repeat (first | exact Grows.refl _ | refine Grows.now ?_ _ | refine Grows.new ?_ _ | refine Grows.drewN ?_ _ | refine Grows.drew ?_ | assumption | (refine Grows.set ?_ (by first | omega | (simp; done) | (simp; omega)) _)))⟩, rfl, Arr.make _ _ _⟩
      case round =>
        obtain ⟨K, rfl, hK1, hK2, z, rfl, aE⟩ := hrel
        by_cases hKn : K = kn
        · have C4 := hide (fun (W1 : World) => by
            have := r45fits K s W W1 (by omega) (by omega) s0 s1 w0 w1
            rw [hKn, n2, ← hKn] at this
            exact this)
          have HKN2 := hide hKn
          clear hKn
          go_upto_region 6 with fail
          ((first | refine wp_region_gen (by kernel_rfl) (by kernel_rfl) ?_); (repeat' (first | (refine gLex_val0 rfl (by kernel_rfl) (fun K hK => ?_); (go_simp; (try (simp only [↓IntWalk.iteOmega]; try go_simp)); (try simp (disch := omega) only [IntWalk.i64_in]); (try simp (disch := omega) only [IntWalk.u64_in]); first | (refine hK _ ?_; clear hK K) | (apply Exists.intro; refine ⟨fun x => ?_, hK _ ?_⟩; (first | (go_at_call 104; exact C3.out _) | (go_at_call 103; exact C4.out _)); clear hK K))) | (refine gLex_undef rfl rfl rfl (by kernel_rfl) (fun K hK => ?_); go_simp; refine hK _ ?_; clear hK K) | (refine gLex_ask rfl rfl rfl ?_; first | (apply gAsk_yes; kernel_rfl; intro K hK; (go_simp; (try (simp only [↓IntWalk.iteOmega]; try go_simp)); (try simp (disch := omega) only [IntWalk.i64_in]); (try simp (disch := omega) only [IntWalk.u64_in]); first | (refine hK _ ?_; clear hK K) | (apply Exists.intro; refine ⟨fun x => ?_, hK _ ?_⟩; (first | (go_at_call 104; exact C3.out _) | (go_at_call 103; exact C4.out _)); clear hK K))) | ((first | apply gAsk_no1 | apply gAsk_no2); kernel_rfl; intro K hK; simp [go_sem]; refine hK _ ?_; clear hK K) | (apply gAsk_part; kernel_rfl; all_goals (intro h K hK; (try simp only [Bool.not_true] at h); (try simp only [Bool.not_false] at h); (try simp only [decide_eq_true_eq] at h); (try simp only [decide_eq_false_iff_not] at h); first | (exfalso; first | contradiction | omega) | (go_simp; (try (simp only [↓IntWalk.iteOmega]; try go_simp)); (try simp (disch := omega) only [IntWalk.i64_in]); (try simp (disch := omega) only [IntWalk.u64_in]); first | (refine hK _ ?_; clear hK K) | (apply Exists.intro; refine ⟨fun x => ?_, hK _ ?_⟩; (first | (go_at_call 104; exact C3.out _) | (go_at_call 103; exact C4.out _)); clear hK K))))))); all_goals ((apply gLex_end); intro x))
          go_wp2_with fail
          go_roundw
          case measure => simp [Go.RowKit.intOf]; omega
          case rel => exact ⟨k + 1, by omega, by go_num, by rw [HKN2.out, HKE.out], ⟨x.now, z.grows.trans x.grows⟩, rfl⟩
        · have C4 := hide (fun (W1 : World) => by
            have := r45fits K s W W1 (by omega) (by omega) s0 s1 w0 w1
            rw [HN3.out K (by omega) hK2] at this
            exact this)
          have hw1 : IntKind.u64.wrap (K - 1) = K - 1 := IntWalk.u64_in _ (by omega)
          have HA := hide aE
          go_upto_region 6 with fail
          ((first | refine wp_region_gen (by kernel_rfl) (by kernel_rfl) ?_); (repeat' (first | (refine gLex_val0 rfl (by kernel_rfl) (fun K hK => ?_); (go_simp; (try (simp only [↓IntWalk.iteOmega]; try go_simp)); (try simp (disch := omega) only [IntWalk.i64_in]); (try simp (disch := omega) only [IntWalk.u64_in]); first | (refine hK _ ?_; clear hK K) | (apply Exists.intro; refine ⟨fun x => ?_, hK _ ?_⟩; (first | (go_at_call 104; exact C3.out _) | (go_at_call 103; exact C4.out _)); clear hK K))) | (refine gLex_undef rfl rfl rfl (by kernel_rfl) (fun K hK => ?_); go_simp; refine hK _ ?_; clear hK K) | (refine gLex_ask rfl rfl rfl ?_; first | (apply gAsk_yes; kernel_rfl; intro K hK; (go_simp; (try (simp only [↓IntWalk.iteOmega]; try go_simp)); (try simp (disch := omega) only [IntWalk.i64_in]); (try simp (disch := omega) only [IntWalk.u64_in]); first | (refine hK _ ?_; clear hK K) | (apply Exists.intro; refine ⟨fun x => ?_, hK _ ?_⟩; (first | (go_at_call 104; exact C3.out _) | (go_at_call 103; exact C4.out _)); clear hK K))) | ((first | apply gAsk_no1 | apply gAsk_no2); kernel_rfl; intro K hK; simp [go_sem]; refine hK _ ?_; clear hK K) | (apply gAsk_part; kernel_rfl; all_goals (intro h K hK; (try simp only [Bool.not_true] at h); (try simp only [Bool.not_false] at h); (try simp only [decide_eq_true_eq] at h); (try simp only [decide_eq_false_iff_not] at h); first | (exfalso; first | contradiction | omega) | (go_simp; (try (simp only [↓IntWalk.iteOmega]; try go_simp)); (try simp (disch := omega) only [IntWalk.i64_in]); (try simp (disch := omega) only [IntWalk.u64_in]); first | (refine hK _ ?_; clear hK K) | (apply Exists.intro; refine ⟨fun x => ?_, hK _ ?_⟩; (first | (go_at_call 104; exact C3.out _) | (go_at_call 103; exact C4.out _)); clear hK K))))))); all_goals ((apply gLex_end); intro x))
          go_wp2_with fail
          go_roundw
          case measure => simp [Go.RowKit.intOf]; omega
          case rel => exact ⟨K - 1, rfl, by omega, by omega, ⟨x.now, z.grows.trans x.grows⟩, rfl, HA.out.grow x.grows⟩
    · obtain rfl : k = E.length := by omega
      have hdk : decide ((E.length : Int) < (E.length : Int)) = false := decide_eq_false (by omega)
      have hK1 := HK.out E.length (Nat.le_refl _)
      obtain ⟨K, hKe⟩ : ∃ K, kI L E E.length = K := ⟨_, rfl⟩
      rw [hKe] at hK1 ⊢
      have HKE := hide hKe
      obtain ⟨k0, k1⟩ := hK1
      clear hKe HW HI HK hlt hk
      have HRP := hide (HP.out.grows y.grows)
      have HGW := hide (show Grows w y.now from (by repeat (first | exact Grows.refl _ | refine Grows.now ?_ _ | refine Grows.new ?_ _ | refine Grows.drewN ?_ _ | refine Grows.drew ?_ | assumption | (refine Grows.set ?_ (by first | omega | (simp; done) | (simp; omega)) _))))
      go_wp2_with fail
      go_loopw [10, 11] (fun s10 s11 wr => ∃ k : Nat, k ≤ N ∧ s11 = .int .i64 (k : Int) ∧ ∃ z : Later y.now, wr = z.now ∧ ∃ A' c', s10 = .slice A' k c' ∧ Own z.now y.now.heap.size 33 1 A' k c' (wv (bndsN K L (gq L t) k))) (fun _ s11 _ => N - (Go.RowKit.intOf s11).toNat)
      case atStart => exact ⟨0, by omega, by go_num, ⟨_, Grows.refl _⟩, rfl, none, 0, rfl, Own.nil _ _ _ _⟩
      case round =>
        obtain ⟨k, hk, rfl, z, rfl, A', c', rfl, hown⟩ := hrel
        have HO := hide hown
        clear hown
        by_cases hlt : k < N
        · have hdk : decide ((k : Int) < (N : Int)) = true := decide_eq_true (by omega)
          obtain ⟨bP, oP, rfl, hcP⟩ := HRP.out.plH (by omega)
          obtain ⟨p1, p2⟩ := hcP k hlt
          obtain ⟨p3, p4⟩ := hcP t ht
          have HS := hide (bndsN_succ k0 k1 L (gq L t) k)
          have C3 := hide (fun (W : World) => show Calls Try.prog 104 #[.agg #[.int .i64 (gq L k).x, .int .i64 (gq L k).y], .agg #[.int .i64 (gq L t).x, .int .i64 (gq L t).y]] W fun e w' => e = .returned (.int .u64 (sqP (gq L k) (gq L t))) ∧ Grows W w' from r9SquareV _ _ _ _ W)
          obtain ⟨q1, q2⟩ := sqP_bd (gq L k) (gq L t)
          obtain ⟨z1, z2⟩ := bnd_prod k0 k1 q1 q2
          have y1 := sq_nn K
          have y2 : K * K ≤ 1048576 := by have := mul_self_le k0 k1; omega
          have C4 := hide (fun (W : World) => show Calls Try.prog 105 #[.int .u64 (K * K * sqP (gq L k) (gq L t))] W fun e w' => e = .returned (.int .u64 (bndI K (gq L k) (gq L t))) ∧ Grows W w' from r9Root (K * K * sqP (gq L k) (gq L t)) W z1 (by omega))
          obtain ⟨KK, hKK⟩ : ∃ KK, K * K = KK := ⟨_, rfl⟩
          rw [hKK] at y1 y2 z1 z2 C4
          generalize sqP (gq L k) (gq L t) = s at *
          obtain ⟨KS, hKS⟩ : ∃ KS, KK * s = KS := ⟨_, rfl⟩
          rw [hKS] at z1 z2 C4
          generalize bndI K (gq L k) (gq L t) = bv at *
          generalize gq L k = pk at *
          clear hcP
          go_upto_region 12 with fail
          (refine wp_region_tail1 16 (by kernel_rfl) (by kernel_rfl) ?_; simp only [List.take_succ_cons, List.take_zero, List.drop_succ_cons, List.drop_zero]; (repeat' (first | (refine gLex_val0 rfl (by kernel_rfl) (fun K hK => ?_); (go_simp; (try (simp only [↓IntWalk.iteOmega]; try go_simp)); (try simp (disch := omega) only [IntWalk.i64_in]); (try simp (disch := omega) only [IntWalk.u64_in]); first | (refine hK _ ?_; clear hK K) | (apply Exists.intro; refine ⟨fun x => ?_, hK _ ?_⟩; (first | (go_at_call 104; exact C3.out _) | (go_at_call 105; exact C4.out _)); clear hK K))) | (refine gLex_undef rfl rfl rfl (by kernel_rfl) (fun K hK => ?_); go_simp; refine hK _ ?_; clear hK K) | (refine gLex_ask rfl rfl rfl ?_; first | (apply gAsk_yes; kernel_rfl; intro K hK; (go_simp; (try (simp only [↓IntWalk.iteOmega]; try go_simp)); (try simp (disch := omega) only [IntWalk.i64_in]); (try simp (disch := omega) only [IntWalk.u64_in]); first | (refine hK _ ?_; clear hK K) | (apply Exists.intro; refine ⟨fun x => ?_, hK _ ?_⟩; (first | (go_at_call 104; exact C3.out _) | (go_at_call 105; exact C4.out _)); clear hK K))) | ((first | apply gAsk_no1 | apply gAsk_no2); kernel_rfl; intro K hK; simp [go_sem]; refine hK _ ?_; clear hK K)))); refine gLex_prop rfl (by kernel_rfl) rfl (by simp) (One (.int .u64 bv)) (One.lasts _) (fun x => by (go_simp; exact ⟨(Grows.refl _).new _, _, rfl, inferInstance⟩)) ?_; refine gLex_endT1 (by simp) (fun x v hv => ?_); obtain ⟨gnew, rfl, hgnew⟩ := hv; simp only [Act.put, List.setIfInBounds_toArray, List.set_cons_zero, List.set_cons_succ])
          go_wp2_with (at_builtin; refine wp_app1 elemU64.elem rfl _ _ rfl y.now (by repeat (first | exact Grows.refl _ | refine Grows.now ?_ _ | refine Grows.new ?_ _ | refine Grows.drewN ?_ _ | refine Grows.drew ?_ | assumption | (refine Grows.set ?_ (by first | omega | (simp; done) | (simp; omega)) _))) k c' A' _ rfl (HO.out.grows (by repeat (first | exact Grows.refl _ | refine Grows.now ?_ _ | refine Grows.new ?_ _ | refine Grows.drewN ?_ _ | refine Grows.drew ?_ | assumption | (refine Grows.set ?_ (by first | omega | (simp; done) | (simp; omega)) _)))) _ _ _ rfl inferInstance rfl (by omega) ?_; intro A3 c3 y3 hown3; have HO3 := hide hown3; clear hown3)
          go_roundw
          case measure => simp [Go.RowKit.intOf]; omega
          case rel => exact ⟨k + 1, by omega, by go_num, y3, rfl, A3, c3, rfl, by rw [HS.out]; exact HO3.out⟩
        · obtain rfl : k = N := by omega
          have hdk : decide ((k : Int) < (k : Int)) = false := decide_eq_false (by omega)
          go_wp2_with fail
          go_ret
          exact ⟨A', c', rfl, by rw [HKE.out]; exact HO.out.rd, HGW.out.trans (by repeat (first | exact Grows.refl _ | refine Grows.now ?_ _ | refine Grows.new ?_ _ | refine Grows.drewN ?_ _ | refine Grows.drew ?_ | assumption | (refine Grows.set ?_ (by first | omega | (simp; done) | (simp; omega)) _)))⟩
end Go.Proofs.Ytiljgkaffgclgaa
