/- Contract: which changes make one graph of another one, by the answer. -/
import Derived.Test.YtpnncadglhlclaaDiff
namespace Go.Proofs.Ytpnncadglhlclaa
open Go Go.RowKit
set_option maxRecDepth 20000 in
set_option maxHeartbeats 8000000 in
theorem r33Diff (N : Int) (A : Option Addr) (n c : Nat) (E : List Edg) (N2 : Int) (B : Option Addr) (m d : Nat) (F : List Edg) (w : World) (ha : Rd w A 3 n (esCells E)) (hn : n ≤ 1000000) (hb : Rd w B 3 m (esCells F)) (hm : m ≤ 1000000) :
    Calls Try.prog 67 #[.agg #[.int .i64 N, .slice A n c], .agg #[.int .i64 N2, .slice B m d]] w (GiveD w (difV N E N2 F) (difB N E N2 F)) := by
  have hl := ha.elen
  have hl2 := hb.elen
  have C1 := fun W (g : Grows w W) => r5Right N A n c E W (ha.grows g) hn
  have C2 := fun W (g : Grows w W) => r5Right N2 B m d F W (hb.grows g) hm
  by_cases hr : rightF N E = 0
  · rw [hr] at C1
    have H1 := hide C1
    by_cases hr2 : rightF N2 F = 0
    · rw [hr2] at C2
      have H2 := hide C2
      by_cases hN : N = N2
      · by_cases hnm : n = m
        · have HYes := hide (fun (h : ∀ j, j < n → enB E F j = true) => (show difB N E N2 F = true from decide_eq_true ⟨hr, hr2, hN, by omega, fun j hj => h j (by omega)⟩))
          have HNo := hide (fun (k : Nat) (hk : k < n) (h : enB E F k = false) => dif_no (N := N) (E := E) (N2 := N2) (F := F) (fun hh => by have := hh.2.2.2.2 k (by omega); rw [h] at this; cases this))
          have HA := hide ha
          have HB := hide hb
          have HL := hide hl
          clear C1 C2 hr hr2 ha hb hl hl2
          subst hN hnm
          go_enter Try.func67, Try.ntmps67
          go_wp2_with fail
          refine (H1.out _ (by repeat (first | exact Grows.refl _ | refine Grows.now ?_ _ | refine Grows.new ?_ _ | refine Grows.drewN ?_ _ | refine Grows.drew ?_ | assumption | (refine Grows.set ?_ (by first | omega | (simp; done) | (simp; omega)) _)))).mono ?_; rintro e w' ⟨rfl, hg⟩; obtain ⟨x1, rfl⟩ := hg.later; clear hg
          go_wp2_with fail
          refine (H2.out _ (by repeat (first | exact Grows.refl _ | refine Grows.now ?_ _ | refine Grows.new ?_ _ | refine Grows.drewN ?_ _ | refine Grows.drew ?_ | assumption | (refine Grows.set ?_ (by first | omega | (simp; done) | (simp; omega)) _)))).mono ?_; rintro e w' ⟨rfl, hg⟩; obtain ⟨x2, rfl⟩ := hg.later; clear hg
          go_wp2_with fail
          have b0 : Mine x2.now ⟨w.heap.size, 0, none⟩ (.int .i64 N) := inferInstance
          have b1 : Mine x2.now ⟨w.heap.size, 1, none⟩ (.slice A n c) := inferInstance
          have b2 : Mine x2.now ⟨w.heap.size + 1, 0, none⟩ (.int .i64 N) := inferInstance
          have b3 : Mine x2.now ⟨w.heap.size + 1, 1, none⟩ (.slice B n d) := inferInstance
          have hg2 : Grows w x2.now := (by repeat (first | exact Grows.refl _ | refine Grows.now ?_ _ | refine Grows.new ?_ _ | refine Grows.drewN ?_ _ | refine Grows.drew ?_ | assumption | (refine Grows.set ?_ (by first | omega | (simp; done) | (simp; omega)) _)))
          go_loopw [7, 6] (fun i u wr => ∃ k : Nat, k ≤ n ∧ i = .int .i64 (k : Int) ∧ ∃ y : Later x2.now, wr = y.now ∧ ∃ A1 c1 s1, u = .slice A1 s1 c1 ∧ Hid (s1 = (difL E F k).length) ∧ Own y.now x2.now.heap.size 153 2 A1 s1 c1 (csCells (difL E F k)) ∧ Hid (∀ j, j < k → enB E F j = true)) (fun i _ _ => n - (intOf i).toNat)
          case atStart => exact ⟨0, by omega, by go_num, ⟨_, Grows.refl _⟩, rfl, none, 0, 0, rfl, rfl, Own.nil _ _ _ _, fun j h => by omega⟩
          case round =>
            obtain ⟨k, hk, rfl, y, rfl, A1, c1, s1, rfl, HS1, hown, HJ⟩ := hrel
            have HO := hide hown
            clear hown
            by_cases hend : n ≤ k
            · have hkn : k = n := by omega
              subst hkn
              have HV := hide (HYes.out HJ.out)
              go_wp2
              go_ret2
              have hv : difV N E N F = difL E F k := by unfold difV; rw [HV.out, HL.out]; rfl
              rw [HV.out, hv]
              refine ⟨A1, c1, by rw [← HS1.out]; rfl, ?_, (by repeat (first | exact Grows.refl _ | refine Grows.now ?_ _ | refine Grows.new ?_ _ | refine Grows.drewN ?_ _ | refine Grows.drew ?_ | assumption | (refine Grows.set ?_ (by first | omega | (simp; done) | (simp; omega)) _)))⟩
              rw [← HS1.out]
              exact HO.out.rd
            · have hys := y.size
              have hgw := hg2.size
              obtain ⟨b, off, rfl, hc⟩ := HA.out.edgesH (by omega)
              obtain ⟨b', off', rfl, hc'⟩ := HB.out.edgesH (by omega)
              obtain ⟨c2, c3, c4⟩ := hc k (by omega)
              obtain ⟨c5, c6, c7⟩ := hc' k (by omega)
              have c2 := Holds.mk (hg2.keeps c2.cell)
              have c3 := Holds.mk (hg2.keeps c3.cell)
              have c4 := Holds.mk (hg2.keeps c4.cell)
              have c5 := Holds.mk (hg2.keeps c5.cell)
              have c6 := Holds.mk (hg2.keeps c6.cell)
              have c7 := Holds.mk (hg2.keeps c7.cell)
              clear hc hc'
              have hs1 : s1 ≤ 1000000 := by have := HS1.out; have := difL_len E F k; omega
              have HN : Hid (difL E F (k + 1) = if (ge F k).w = (ge E k).w then difL E F k else difL E F k ++ [⟨k, (ge F k).w⟩]) := rfl
              have HE : Hid (enB E F k = ((ge F k).f == (ge E k).f && (ge F k).t == (ge E k).t)) := rfl
              have HNk := hide (fun h => HNo.out k (by omega) h)
              have HY2 := hide (fun (h : enB E F k = true) j (hj : j < k + 1) => (show enB E F j = true from by
                by_cases e : j = k
                · rw [e]; exact h
                · exact HJ.out j (by omega)))
              have hkd : decide (k < n) = true := decide_eq_true (by omega)
              generalize ge E k = x at *
              generalize ge F k = x' at *
              obtain ⟨f, t, v⟩ := x
              obtain ⟨f', t', v'⟩ := x'
              dsimp only at c2 c3 c4 c5 c6 c7 HN HE
              by_cases hf : f = f'
              · subst hf
                by_cases ht : t = t'
                · subst ht
                  have HE2 : Hid (enB E F k = true) := by show _ = _; rw [HE.out, beq_self_eq_true, beq_self_eq_true]; rfl
                  by_cases hv : v = v'
                  · subst hv
                    have HN2 : Hid (difL E F (k + 1) = difL E F k) := by show _ = _; rw [HN.out, if_pos rfl]
                    go_wp2_with fail
                    ((first | refine wp_region_gen (by kernel_rfl) (by kernel_rfl) ?_); (repeat' (first | (refine gLex_val0 rfl (by kernel_rfl) (fun K hK => ?_); (go_simp; (try (simp only [↓IntWalk.iteOmega]; try go_simp)); (try simp (disch := omega) only [IntWalk.i64_in]); (try simp (disch := omega) only [IntWalk.u64_in]); first | (refine hK _ ?_; clear hK K) | (apply Exists.intro; refine ⟨fun x => ?_, hK _ ?_⟩; (first | fail); clear hK K))) | (refine gLex_undef rfl rfl rfl (by kernel_rfl) (fun K hK => ?_); go_simp; refine hK _ ?_; clear hK K) | (refine gLex_ask rfl rfl rfl ?_; first | (apply gAsk_yes; kernel_rfl; intro K hK; (go_simp; (try (simp only [↓IntWalk.iteOmega]; try go_simp)); (try simp (disch := omega) only [IntWalk.i64_in]); (try simp (disch := omega) only [IntWalk.u64_in]); first | (refine hK _ ?_; clear hK K) | (apply Exists.intro; refine ⟨fun x => ?_, hK _ ?_⟩; (first | fail); clear hK K))) | ((first | apply gAsk_no1 | apply gAsk_no2); kernel_rfl; intro K hK; simp [go_sem]; refine hK _ ?_; clear hK K) | (apply gAsk_part; kernel_rfl; all_goals (intro h K hK; (try simp only [Bool.not_true] at h); (try simp only [Bool.not_false] at h); (try simp only [decide_eq_true_eq] at h); (try simp only [decide_eq_false_iff_not] at h); first | (exfalso; first | contradiction | omega) | (go_simp; (try (simp only [↓IntWalk.iteOmega]; try go_simp)); (try simp (disch := omega) only [IntWalk.i64_in]); (try simp (disch := omega) only [IntWalk.u64_in]); first | (refine hK _ ?_; clear hK K) | (apply Exists.intro; refine ⟨fun x => ?_, hK _ ?_⟩; (first | fail); clear hK K))))))); all_goals ((apply gLex_end); intro x))
                    go_wp2_with fail
                    ((first | refine wp_region_gen (by kernel_rfl) (by kernel_rfl) ?_); (repeat' (first | (refine gLex_val0 rfl (by kernel_rfl) (fun K hK => ?_); (go_simp; (try (simp only [↓IntWalk.iteOmega]; try go_simp)); (try simp (disch := omega) only [IntWalk.i64_in]); (try simp (disch := omega) only [IntWalk.u64_in]); first | (refine hK _ ?_; clear hK K) | (apply Exists.intro; refine ⟨fun x => ?_, hK _ ?_⟩; (first | fail); clear hK K))) | (refine gLex_undef rfl rfl rfl (by kernel_rfl) (fun K hK => ?_); go_simp; refine hK _ ?_; clear hK K) | (refine gLex_ask rfl rfl rfl ?_; first | (apply gAsk_yes; kernel_rfl; intro K hK; (go_simp; (try (simp only [↓IntWalk.iteOmega]; try go_simp)); (try simp (disch := omega) only [IntWalk.i64_in]); (try simp (disch := omega) only [IntWalk.u64_in]); first | (refine hK _ ?_; clear hK K) | (apply Exists.intro; refine ⟨fun x => ?_, hK _ ?_⟩; (first | fail); clear hK K))) | ((first | apply gAsk_no1 | apply gAsk_no2); kernel_rfl; intro K hK; simp [go_sem]; refine hK _ ?_; clear hK K) | (apply gAsk_part; kernel_rfl; all_goals (intro h K hK; (try simp only [Bool.not_true] at h); (try simp only [Bool.not_false] at h); (try simp only [decide_eq_true_eq] at h); (try simp only [decide_eq_false_iff_not] at h); first | (exfalso; first | contradiction | omega) | (go_simp; (try (simp only [↓IntWalk.iteOmega]; try go_simp)); (try simp (disch := omega) only [IntWalk.i64_in]); (try simp (disch := omega) only [IntWalk.u64_in]); first | (refine hK _ ?_; clear hK K) | (apply Exists.intro; refine ⟨fun x => ?_, hK _ ?_⟩; (first | fail); clear hK K))))))); all_goals ((apply gLex_end); intro y5))
                    go_wp2
                    exact ⟨⟨k + 1, by omega, by go_num, ⟨y5.now, (by repeat (first | exact Grows.refl _ | refine Grows.now ?_ _ | refine Grows.new ?_ _ | refine Grows.drewN ?_ _ | refine Grows.drew ?_ | assumption | (refine Grows.set ?_ (by first | omega | (simp; done) | (simp; omega)) _)))⟩, rfl, A1, c1, s1, rfl, by rw [HN2.out]; exact HS1, by rw [HN2.out]; exact (show Own y5.now _ _ _ _ _ _ _ from HO.out.grows (by repeat (first | exact Grows.refl _ | refine Grows.now ?_ _ | refine Grows.new ?_ _ | refine Grows.drewN ?_ _ | refine Grows.drew ?_ | assumption | (refine Grows.set ?_ (by first | omega | (simp; done) | (simp; omega)) _)))), HY2.out HE2.out⟩, by simp [intOf]; omega⟩
                  · have HN2 : Hid (difL E F (k + 1) = difL E F k ++ [⟨k, v'⟩]) := by show _ = _; rw [HN.out, if_neg (fun e => hv e.symm)]
                    have hvd : (v == v') = false := beq_eq_false_iff_ne.2 hv
                    clear hv
                    go_wp2_with fail
                    ((first | refine wp_region_gen (by kernel_rfl) (by kernel_rfl) ?_); (repeat' (first | (refine gLex_val0 rfl (by kernel_rfl) (fun K hK => ?_); (go_simp; (try (simp only [↓IntWalk.iteOmega]; try go_simp)); (try simp (disch := omega) only [IntWalk.i64_in]); (try simp (disch := omega) only [IntWalk.u64_in]); first | (refine hK _ ?_; clear hK K) | (apply Exists.intro; refine ⟨fun x => ?_, hK _ ?_⟩; (first | fail); clear hK K))) | (refine gLex_undef rfl rfl rfl (by kernel_rfl) (fun K hK => ?_); go_simp; refine hK _ ?_; clear hK K) | (refine gLex_ask rfl rfl rfl ?_; first | (apply gAsk_yes; kernel_rfl; intro K hK; (go_simp; (try (simp only [↓IntWalk.iteOmega]; try go_simp)); (try simp (disch := omega) only [IntWalk.i64_in]); (try simp (disch := omega) only [IntWalk.u64_in]); first | (refine hK _ ?_; clear hK K) | (apply Exists.intro; refine ⟨fun x => ?_, hK _ ?_⟩; (first | fail); clear hK K))) | ((first | apply gAsk_no1 | apply gAsk_no2); kernel_rfl; intro K hK; simp [go_sem]; refine hK _ ?_; clear hK K) | (apply gAsk_part; kernel_rfl; all_goals (intro h K hK; (try simp only [Bool.not_true] at h); (try simp only [Bool.not_false] at h); (try simp only [decide_eq_true_eq] at h); (try simp only [decide_eq_false_iff_not] at h); first | (exfalso; first | contradiction | omega) | (go_simp; (try (simp only [↓IntWalk.iteOmega]; try go_simp)); (try simp (disch := omega) only [IntWalk.i64_in]); (try simp (disch := omega) only [IntWalk.u64_in]); first | (refine hK _ ?_; clear hK K) | (apply Exists.intro; refine ⟨fun x => ?_, hK _ ?_⟩; (first | fail); clear hK K))))))); all_goals ((apply gLex_end); intro x))
                    go_wp2_with fail
                    ((first | refine wp_region_gen (by kernel_rfl) (by kernel_rfl) ?_); (repeat' (first | (refine gLex_val0 rfl (by kernel_rfl) (fun K hK => ?_); (go_simp; (try (simp only [↓IntWalk.iteOmega]; try go_simp)); (try simp (disch := omega) only [IntWalk.i64_in]); (try simp (disch := omega) only [IntWalk.u64_in]); first | (refine hK _ ?_; clear hK K) | (apply Exists.intro; refine ⟨fun x => ?_, hK _ ?_⟩; (first | fail); clear hK K))) | (refine gLex_undef rfl rfl rfl (by kernel_rfl) (fun K hK => ?_); go_simp; refine hK _ ?_; clear hK K) | (refine gLex_ask rfl rfl rfl ?_; first | (apply gAsk_yes; kernel_rfl; intro K hK; (go_simp; (try (simp only [↓IntWalk.iteOmega]; try go_simp)); (try simp (disch := omega) only [IntWalk.i64_in]); (try simp (disch := omega) only [IntWalk.u64_in]); first | (refine hK _ ?_; clear hK K) | (apply Exists.intro; refine ⟨fun x => ?_, hK _ ?_⟩; (first | fail); clear hK K))) | ((first | apply gAsk_no1 | apply gAsk_no2); kernel_rfl; intro K hK; simp [go_sem]; refine hK _ ?_; clear hK K) | (apply gAsk_part; kernel_rfl; all_goals (intro h K hK; (try simp only [Bool.not_true] at h); (try simp only [Bool.not_false] at h); (try simp only [decide_eq_true_eq] at h); (try simp only [decide_eq_false_iff_not] at h); first | (exfalso; first | contradiction | omega) | (go_simp; (try (simp only [↓IntWalk.iteOmega]; try go_simp)); (try simp (disch := omega) only [IntWalk.i64_in]); (try simp (disch := omega) only [IntWalk.u64_in]); first | (refine hK _ ?_; clear hK K) | (apply Exists.intro; refine ⟨fun x => ?_, hK _ ?_⟩; (first | fail); clear hK K))))))); all_goals ((apply gLex_end); intro y5))
                    go_wp2_with (at_builtin; refine wp_appSM elemRChg rfl _ _ rfl x2.now (by repeat (first | exact Grows.refl _ | refine Grows.now ?_ _ | refine Grows.new ?_ _ | refine Grows.drewN ?_ _ | refine Grows.drew ?_ | assumption | (refine Grows.set ?_ (by first | omega | (simp; done) | (simp; omega)) _))) s1 c1 A1 _ rfl (HO.out.grows (by repeat (first | exact Grows.refl _ | refine Grows.now ?_ _ | refine Grows.new ?_ _ | refine Grows.drewN ?_ _ | refine Grows.drew ?_ | assumption | (refine Grows.set ?_ (by first | omega | (simp; done) | (simp; omega)) _)))) _ _ [.int .i64 (k : Int), .int .u64 v'] rfl rfl (cs_new inferInstance inferInstance) (by intro u hu; simp at hu; rcases hu with rfl | rfl <;> rfl) (by omega) ?_; intro A3 c9 y3 hown3 _; have HO3 := hide hown3; clear hown3)
                    refine ⟨⟨k + 1, by omega, by go_num, y3, rfl, A3, c9, s1 + 1, rfl, ?_, ?_, HY2.out HE2.out⟩, by simp [intOf]; omega⟩
                    · show s1 + 1 = _
                      rw [HN2.out, List.length_append, HS1.out]; rfl
                    · rw [HN2.out, csCells_app]
                      exact HO3.out
                · have HE2 : Hid (enB E F k = false) := by show _ = _; rw [HE.out, beq_self_eq_true, beq_eq_false_iff_ne.2 (fun e => ht e.symm)]; rfl
                  have htd : (t == t') = false := beq_eq_false_iff_ne.2 ht
                  clear ht
                  go_wp2_with fail
                  ((first | refine wp_region_gen (by kernel_rfl) (by kernel_rfl) ?_); (repeat' (first | (refine gLex_val0 rfl (by kernel_rfl) (fun K hK => ?_); (go_simp; (try (simp only [↓IntWalk.iteOmega]; try go_simp)); (try simp (disch := omega) only [IntWalk.i64_in]); (try simp (disch := omega) only [IntWalk.u64_in]); first | (refine hK _ ?_; clear hK K) | (apply Exists.intro; refine ⟨fun x => ?_, hK _ ?_⟩; (first | fail); clear hK K))) | (refine gLex_undef rfl rfl rfl (by kernel_rfl) (fun K hK => ?_); go_simp; refine hK _ ?_; clear hK K) | (refine gLex_ask rfl rfl rfl ?_; first | (apply gAsk_yes; kernel_rfl; intro K hK; (go_simp; (try (simp only [↓IntWalk.iteOmega]; try go_simp)); (try simp (disch := omega) only [IntWalk.i64_in]); (try simp (disch := omega) only [IntWalk.u64_in]); first | (refine hK _ ?_; clear hK K) | (apply Exists.intro; refine ⟨fun x => ?_, hK _ ?_⟩; (first | fail); clear hK K))) | ((first | apply gAsk_no1 | apply gAsk_no2); kernel_rfl; intro K hK; simp [go_sem]; refine hK _ ?_; clear hK K) | (apply gAsk_part; kernel_rfl; all_goals (intro h K hK; (try simp only [Bool.not_true] at h); (try simp only [Bool.not_false] at h); (try simp only [decide_eq_true_eq] at h); (try simp only [decide_eq_false_iff_not] at h); first | (exfalso; first | contradiction | omega) | (go_simp; (try (simp only [↓IntWalk.iteOmega]; try go_simp)); (try simp (disch := omega) only [IntWalk.i64_in]); (try simp (disch := omega) only [IntWalk.u64_in]); first | (refine hK _ ?_; clear hK K) | (apply Exists.intro; refine ⟨fun x => ?_, hK _ ?_⟩; (first | fail); clear hK K))))))); all_goals ((apply gLex_end); intro x))
                  go_wp2
                  go_ret2
                  exact GiveD.no (HNk.out HE2.out) (by repeat (first | exact Grows.refl _ | refine Grows.now ?_ _ | refine Grows.new ?_ _ | refine Grows.drewN ?_ _ | refine Grows.drew ?_ | assumption | (refine Grows.set ?_ (by first | omega | (simp; done) | (simp; omega)) _)))
              · have HE2 : Hid (enB E F k = false) := by show _ = _; rw [HE.out, beq_eq_false_iff_ne.2 (fun e => hf e.symm)]; rfl
                have hfd : (f == f') = false := beq_eq_false_iff_ne.2 hf
                clear hf
                go_wp2_with fail
                ((first | refine wp_region_gen (by kernel_rfl) (by kernel_rfl) ?_); (repeat' (first | (refine gLex_val0 rfl (by kernel_rfl) (fun K hK => ?_); (go_simp; (try (simp only [↓IntWalk.iteOmega]; try go_simp)); (try simp (disch := omega) only [IntWalk.i64_in]); (try simp (disch := omega) only [IntWalk.u64_in]); first | (refine hK _ ?_; clear hK K) | (apply Exists.intro; refine ⟨fun x => ?_, hK _ ?_⟩; (first | fail); clear hK K))) | (refine gLex_undef rfl rfl rfl (by kernel_rfl) (fun K hK => ?_); go_simp; refine hK _ ?_; clear hK K) | (refine gLex_ask rfl rfl rfl ?_; first | (apply gAsk_yes; kernel_rfl; intro K hK; (go_simp; (try (simp only [↓IntWalk.iteOmega]; try go_simp)); (try simp (disch := omega) only [IntWalk.i64_in]); (try simp (disch := omega) only [IntWalk.u64_in]); first | (refine hK _ ?_; clear hK K) | (apply Exists.intro; refine ⟨fun x => ?_, hK _ ?_⟩; (first | fail); clear hK K))) | ((first | apply gAsk_no1 | apply gAsk_no2); kernel_rfl; intro K hK; simp [go_sem]; refine hK _ ?_; clear hK K) | (apply gAsk_part; kernel_rfl; all_goals (intro h K hK; (try simp only [Bool.not_true] at h); (try simp only [Bool.not_false] at h); (try simp only [decide_eq_true_eq] at h); (try simp only [decide_eq_false_iff_not] at h); first | (exfalso; first | contradiction | omega) | (go_simp; (try (simp only [↓IntWalk.iteOmega]; try go_simp)); (try simp (disch := omega) only [IntWalk.i64_in]); (try simp (disch := omega) only [IntWalk.u64_in]); first | (refine hK _ ?_; clear hK K) | (apply Exists.intro; refine ⟨fun x => ?_, hK _ ?_⟩; (first | fail); clear hK K))))))); all_goals ((apply gLex_end); intro x))
                go_wp2
                go_ret2
                exact GiveD.no (HNk.out HE2.out) (by repeat (first | exact Grows.refl _ | refine Grows.now ?_ _ | refine Grows.new ?_ _ | refine Grows.drewN ?_ _ | refine Grows.drew ?_ | assumption | (refine Grows.set ?_ (by first | omega | (simp; done) | (simp; omega)) _)))
        · have HV := hide (dif_no (N := N) (E := E) (N2 := N2) (F := F) (by omega))
          have hd : ((n : Int) == (m : Int)) = false := beq_eq_false_iff_ne.2 (by omega)
          have H2 := hide C2
          clear C1 C2 hr hr2 ha hb hl hl2
          subst hN
          go_enter Try.func67, Try.ntmps67
          go_wp2_with fail
          refine (H1.out _ (by repeat (first | exact Grows.refl _ | refine Grows.now ?_ _ | refine Grows.new ?_ _ | refine Grows.drewN ?_ _ | refine Grows.drew ?_ | assumption | (refine Grows.set ?_ (by first | omega | (simp; done) | (simp; omega)) _)))).mono ?_; rintro e w' ⟨rfl, hg⟩; obtain ⟨x1, rfl⟩ := hg.later; clear hg
          go_wp2_with fail
          refine (H2.out _ (by repeat (first | exact Grows.refl _ | refine Grows.now ?_ _ | refine Grows.new ?_ _ | refine Grows.drewN ?_ _ | refine Grows.drew ?_ | assumption | (refine Grows.set ?_ (by first | omega | (simp; done) | (simp; omega)) _)))).mono ?_; rintro e w' ⟨rfl, hg⟩; obtain ⟨x2, rfl⟩ := hg.later; clear hg
          go_wp2
          all_goals go_ret2
          all_goals exact GiveD.no HV.out (by repeat (first | exact Grows.refl _ | refine Grows.now ?_ _ | refine Grows.new ?_ _ | refine Grows.drewN ?_ _ | refine Grows.drew ?_ | assumption | (refine Grows.set ?_ (by first | omega | (simp; done) | (simp; omega)) _)))
      · have HV := hide (dif_no (N := N) (E := E) (N2 := N2) (F := F) (fun h => hN h.2.2.1))
        have hd : (N == N2) = false := beq_eq_false_iff_ne.2 hN
        have H2 := hide C2
        clear C1 C2 hr hr2 ha hb hl hl2 hN
        go_enter Try.func67, Try.ntmps67
        go_wp2_with fail
        refine (H1.out _ (by repeat (first | exact Grows.refl _ | refine Grows.now ?_ _ | refine Grows.new ?_ _ | refine Grows.drewN ?_ _ | refine Grows.drew ?_ | assumption | (refine Grows.set ?_ (by first | omega | (simp; done) | (simp; omega)) _)))).mono ?_; rintro e w' ⟨rfl, hg⟩; obtain ⟨x1, rfl⟩ := hg.later; clear hg
        go_wp2_with fail
        refine (H2.out _ (by repeat (first | exact Grows.refl _ | refine Grows.now ?_ _ | refine Grows.new ?_ _ | refine Grows.drewN ?_ _ | refine Grows.drew ?_ | assumption | (refine Grows.set ?_ (by first | omega | (simp; done) | (simp; omega)) _)))).mono ?_; rintro e w' ⟨rfl, hg⟩; obtain ⟨x2, rfl⟩ := hg.later; clear hg
        go_wp2
        all_goals go_ret2
        all_goals exact GiveD.no HV.out (by repeat (first | exact Grows.refl _ | refine Grows.now ?_ _ | refine Grows.new ?_ _ | refine Grows.drewN ?_ _ | refine Grows.drew ?_ | assumption | (refine Grows.set ?_ (by first | omega | (simp; done) | (simp; omega)) _)))
    · have HV := hide (dif_no (N := N) (E := E) (N2 := N2) (F := F) (fun h => hr2 h.2.1))
      have hd : (rightF N2 F == 0) = false := beq_eq_false_iff_ne.2 hr2
      have hd2 : (rightF N2 F != 0) = true := bne_iff_ne.2 hr2
      have H2 := hide C2
      clear C1 C2 hr ha hb hl hl2
      generalize rightF N2 F = r at *
      go_enter Try.func67, Try.ntmps67
      go_wp2_with fail
      refine (H1.out _ (by repeat (first | exact Grows.refl _ | refine Grows.now ?_ _ | refine Grows.new ?_ _ | refine Grows.drewN ?_ _ | refine Grows.drew ?_ | assumption | (refine Grows.set ?_ (by first | omega | (simp; done) | (simp; omega)) _)))).mono ?_; rintro e w' ⟨rfl, hg⟩; obtain ⟨x1, rfl⟩ := hg.later; clear hg
      go_wp2_with fail
      refine (H2.out _ (by repeat (first | exact Grows.refl _ | refine Grows.now ?_ _ | refine Grows.new ?_ _ | refine Grows.drewN ?_ _ | refine Grows.drew ?_ | assumption | (refine Grows.set ?_ (by first | omega | (simp; done) | (simp; omega)) _)))).mono ?_; rintro e w' ⟨rfl, hg⟩; obtain ⟨x2, rfl⟩ := hg.later; clear hg
      go_wp2
      all_goals go_ret2
      all_goals exact GiveD.no HV.out (by repeat (first | exact Grows.refl _ | refine Grows.now ?_ _ | refine Grows.new ?_ _ | refine Grows.drewN ?_ _ | refine Grows.drew ?_ | assumption | (refine Grows.set ?_ (by first | omega | (simp; done) | (simp; omega)) _)))
  · have HV := hide (dif_no (N := N) (E := E) (N2 := N2) (F := F) (fun h => hr h.1))
    have hd : (rightF N E == 0) = false := beq_eq_false_iff_ne.2 hr
    have H1 := hide C1
    have hd2 : (rightF N E != 0) = true := bne_iff_ne.2 hr
    clear C1 C2 ha hb hl hl2
    generalize rightF N E = r at *
    go_enter Try.func67, Try.ntmps67
    go_wp2_with fail
    refine (H1.out _ (by repeat (first | exact Grows.refl _ | refine Grows.now ?_ _ | refine Grows.new ?_ _ | refine Grows.drewN ?_ _ | refine Grows.drew ?_ | assumption | (refine Grows.set ?_ (by first | omega | (simp; done) | (simp; omega)) _)))).mono ?_; rintro e w' ⟨rfl, hg⟩; obtain ⟨x1, rfl⟩ := hg.later; clear hg
    go_wp2
    all_goals go_ret2
    all_goals exact GiveD.no HV.out (by repeat (first | exact Grows.refl _ | refine Grows.now ?_ _ | refine Grows.new ?_ _ | refine Grows.drewN ?_ _ | refine Grows.drew ?_ | assumption | (refine Grows.set ?_ (by first | omega | (simp; done) | (simp; omega)) _)))
end Go.Proofs.Ytpnncadglhlclaa
