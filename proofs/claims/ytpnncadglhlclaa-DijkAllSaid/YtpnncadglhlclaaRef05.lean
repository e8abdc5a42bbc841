/- Contracts: the answer for which graphs may be. -/
import Derived.Test.YtpnncadglhlclaaGraph
namespace Go.Proofs.Ytpnncadglhlclaa
open Go Go.RowKit
set_option maxHeartbeats 400000 in
theorem r5node (N v : Int) (s : Value) (w : World) : Calls Try.prog 111 #[.agg #[.int .i64 N, s], .int .i64 v] w fun e w' => e = .returned (.bool (nodeB N v)) ∧ Grows w w' := by
  go_enter Try.func111, Try.ntmps111
  go_wp2
  all_goals go_ret
  all_goals exact ⟨ret_bool (bool_ext (by unfold nodeB; simp; try omega)), (by repeat (first | exact Grows.refl _ | refine Grows.now ?_ _ | refine Grows.new ?_ _ | refine Grows.drewN ?_ _ | refine Grows.drew ?_ | assumption | (refine Grows.set ?_ (by first | omega | (simp; done) | (simp; omega)) _)))⟩

set_option maxHeartbeats 400000 in
theorem r5weight (x : Int) (w : World) : Calls Try.prog 112 #[.int .u64 x] w fun e w' => e = .returned (.bool (wtB x)) ∧ w = w' := by
  go_enter Try.func112, Try.ntmps112
  go_wp2
  all_goals go_ret
  all_goals exact ⟨ret_bool (bool_ext (by unfold wtB; simp; try omega)), rfl⟩

theorem any_false_iff {E : List Edg} {p : Edg → Bool} {n : Nat} (hl : E.length = n) (h : ∀ j, j < n → p (ge E j) = false) : E.any p = false := by
  rw [List.any_eq_false]
  intro e he
  obtain ⟨j, hj, rfl⟩ := List.mem_iff_getElem.1 he
  have := h j (by omega)
  simpa [ge, hj] using this
theorem any_true_at {E : List Edg} {p : Edg → Bool} {j : Nat} (hj : j < E.length) (h : p (ge E j) = true) : E.any p = true := by
  rw [List.any_eq_true]
  exact ⟨ge E j, by simp [ge, hj], h⟩

set_option maxRecDepth 20000 in
set_option maxHeartbeats 4000000 in
theorem r5Right (N : Int) (A : Option Addr) (n c : Nat) (E : List Edg) (w : World) (h : Rd w A 3 n (esCells E)) (hn : n ≤ 1000000) :
    Calls Try.prog 74 #[.agg #[.int .i64 N, .slice A n c]] w fun e w' => e = .returned (.int .i64 (rightF N E)) ∧ Grows w w' := by
  have HL := hide h.elen
  have HR := hide h
  clear h
  by_cases h1 : N < 1 ∨ 4096 < N
  · have HW : Hid (rightF N E = 2) := by unfold rightF; rw [if_pos h1]; rfl
    go_enter Try.func74, Try.ntmps74
    go_wp2
    all_goals go_ret
    all_goals exact ⟨ret_int HW.out.symm, (by repeat (first | exact Grows.refl _ | refine Grows.now ?_ _ | refine Grows.new ?_ _ | refine Grows.drewN ?_ _ | refine Grows.drew ?_ | assumption | (refine Grows.set ?_ (by first | omega | (simp; done) | (simp; omega)) _)))⟩
  have h3 : 1 ≤ N := by omega
  have h4 : N ≤ 4096 := by omega
  by_cases h2 : 16384 < n
  · have HW : Hid (rightF N E = 5) := by unfold rightF; rw [if_neg h1, if_pos (by have := HL.out; omega)]; rfl
    clear h1
    go_enter Try.func74, Try.ntmps74
    go_wp2
    all_goals go_ret
    all_goals exact ⟨ret_int HW.out.symm, (by repeat (first | exact Grows.refl _ | refine Grows.now ?_ _ | refine Grows.new ?_ _ | refine Grows.drewN ?_ _ | refine Grows.drew ?_ | assumption | (refine Grows.set ?_ (by first | omega | (simp; done) | (simp; omega)) _)))⟩
  have HN := hide (show ∀ x, rightF N E = x ↔ (if E.any (looseB N) then (7 : Int) else if E.any heavyB then 2 else 0) = x from fun x => by unfold rightF; rw [if_neg h1, if_neg (by have := HL.out; omega)])
  have HG0 := hide (HR.out.new (.cells #[.int .i64 N, .slice A n c] 24))
  clear h1
  go_enter Try.func74, Try.ntmps74
  go_wp2
  go_loopw [3] (fun i wr => ∃ k : Nat, k ≤ n ∧ i = .int .i64 (k : Int) ∧ (∃ x : Later (w.alloc (.cells #[.int .i64 N, .slice A n c] 24)), wr = x.now) ∧ ∀ j, j < k → looseB N (ge E j) = false) (fun i _ => n - (intOf i).toNat)
  case atStart => exact ⟨0, by omega, by go_num, ⟨⟨_, Grows.refl _⟩, rfl⟩, fun j h1 => by omega⟩
  case round =>
    obtain ⟨q, hq, rfl, ⟨x, rfl⟩, hall⟩ := hrel
    have HA := hide hall
    clear hall
    by_cases hend : n ≤ q
    · have HB := hide (any_false_iff HL.out fun j hj => HA.out j (by omega))
      have hd : decide (q < n) = false := by simp; omega
      go_wp2
      go_loopw [4] (fun i wr => ∃ k : Nat, k ≤ n ∧ i = .int .i64 (k : Int) ∧ (∃ x : Later (w.alloc (.cells #[.int .i64 N, .slice A n c] 24)), wr = x.now) ∧ ∀ j, j < k → heavyB (ge E j) = false) (fun i _ => n - (intOf i).toNat)
      case atStart => exact ⟨0, by omega, by go_num, ⟨_, rfl⟩, fun j h1 => by omega⟩
      case round =>
        obtain ⟨r, hr, rfl, ⟨y, rfl⟩, hall⟩ := hrel
        have HC := hide hall
        clear hall
        by_cases hend2 : n ≤ r
        · have HW : Hid (rightF N E = 0) := by
            have h := any_false_iff (p := heavyB) HL.out fun j hj => HC.out j (by omega)
            rw [show Hid (rightF N E = 0) = (rightF N E = 0) from rfl, HN.out, HB.out, h]; rfl
          go_wp2
          go_ret
          exact ⟨ret_int HW.out.symm, (by repeat (first | exact Grows.refl _ | refine Grows.now ?_ _ | refine Grows.new ?_ _ | refine Grows.drewN ?_ _ | refine Grows.drew ?_ | assumption | (refine Grows.set ?_ (by first | omega | (simp; done) | (simp; omega)) _)))⟩
        · obtain ⟨b, off, rfl, hc⟩ := HG0.out.edges (by omega)
          obtain ⟨hc1, hc2, hc3⟩ := hc r (by omega)
          clear hc hc1 hc2
          cases hp : wtB (ge E r).w with
          | false =>
            have HW : Hid (rightF N E = 2) := by
              have h := any_true_at (p := heavyB) (E := E) (j := r) (by have := HL.out; omega) (by unfold heavyB; rw [hp]; rfl)
              rw [show Hid (rightF N E = 2) = (rightF N E = 2) from rfl, HN.out, HB.out, h]; rfl
            have C := fun W => r5weight (ge E r).w W
            rw [hp] at C
            have HD := hide C
            clear hp C
            go_wp2_with (first | (go_at_call 112; refine (HD.out _).mono ?_; rintro e w' ⟨rfl, rfl⟩))
            go_ret
            exact ⟨ret_int HW.out.symm, (by repeat (first | exact Grows.refl _ | refine Grows.now ?_ _ | refine Grows.new ?_ _ | refine Grows.drewN ?_ _ | refine Grows.drew ?_ | assumption | (refine Grows.set ?_ (by first | omega | (simp; done) | (simp; omega)) _)))⟩
          | true =>
            have HP : Hid (heavyB (ge E r) = false) := by unfold heavyB; rw [hp]; rfl
            have C := fun W => r5weight (ge E r).w W
            rw [hp] at C
            have HD := hide C
            clear hp C
            go_wp2_with (first | (go_at_call 112; refine (HD.out _).mono ?_; rintro e w' ⟨rfl, rfl⟩))
            go_roundw
            case measure => simp [intOf]; omega
            case rel =>
              refine ⟨r + 1, by omega, by go_num, ⟨_, rfl⟩, fun j h1 => ?_⟩
              by_cases hj : j = r
              · rw [hj]; exact HP.out
              · exact HC.out j (by omega)
    · obtain ⟨b, off, rfl, hc⟩ := HG0.out.edges (by omega)
      obtain ⟨hc1, hc2, hc3⟩ := hc q (by omega)
      clear hc hc3
      have C1 := fun W => r5node N (ge E q).f (.slice (some ⟨b, off, none⟩) n c) W
      have C2 := fun W => r5node N (ge E q).t (.slice (some ⟨b, off, none⟩) n c) W
      have HLo := hide (show looseB N (ge E q) = (!nodeB N (ge E q).f || (!nodeB N (ge E q).t || decide ((ge E q).f = (ge E q).t))) from rfl)
      have HT : Hid (looseB N (ge E q) = true → rightF N E = 7) := fun h => by
        have h' := any_true_at (p := looseB N) (E := E) (j := q) (by have := HL.out; omega) h
        rw [HN.out, h']; rfl
      cases h1 : nodeB N (ge E q).f with
      | false =>
        rw [h1] at C1
        have HD := hide C1
        have HW := hide (HT.out (by rw [HLo.out, h1]; rfl))
        clear C1 C2 h1
        go_wp2_with fail
        ((first | refine wp_region_gen2 (by kernel_rfl) (by kernel_rfl) ?_ | refine wp_region_gen (by kernel_rfl) (by kernel_rfl) ?_); (repeat' (first | (refine gLex_val0 rfl (by kernel_rfl) (fun K hK => ?_); (go_simp; (try (simp only [↓IntWalk.iteOmega]; try go_simp)); (try simp (disch := omega) only [IntWalk.i64_in]); (try simp (disch := omega) only [IntWalk.u64_in]); first | (refine hK _ ?_; clear hK K) | (apply Exists.intro; refine ⟨fun x => ?_, hK _ ?_⟩; (first | (go_at_call 111; exact HD.out _)); clear hK K))) | (refine gLex_undef rfl rfl rfl (by kernel_rfl) (fun K hK => ?_); go_simp; refine hK _ ?_; clear hK K) | (refine gLex_ask rfl rfl rfl ?_; first | (apply gAsk_yes; kernel_rfl; intro K hK; (go_simp; (try (simp only [↓IntWalk.iteOmega]; try go_simp)); (try simp (disch := omega) only [IntWalk.i64_in]); (try simp (disch := omega) only [IntWalk.u64_in]); first | (refine hK _ ?_; clear hK K) | (apply Exists.intro; refine ⟨fun x => ?_, hK _ ?_⟩; (first | (go_at_call 111; exact HD.out _)); clear hK K))) | ((first | apply gAsk_no1 | apply gAsk_no2); kernel_rfl; intro K hK; simp [go_sem]; refine hK _ ?_; clear hK K) | (apply gAsk_part; kernel_rfl; all_goals (intro h K hK; (try simp only [Bool.not_true] at h); (try simp only [Bool.not_false] at h); (try simp only [decide_eq_true_eq] at h); (try simp only [decide_eq_false_iff_not] at h); first | (exfalso; first | contradiction | omega) | (go_simp; (try (simp only [↓IntWalk.iteOmega]; try go_simp)); (try simp (disch := omega) only [IntWalk.i64_in]); (try simp (disch := omega) only [IntWalk.u64_in]); first | (refine hK _ ?_; clear hK K) | (apply Exists.intro; refine ⟨fun x => ?_, hK _ ?_⟩; (first | (go_at_call 111; exact HD.out _)); clear hK K))))))); all_goals ((apply gLex_end); intro x))
        go_wp2
        go_ret
        exact ⟨ret_int HW.out.symm, (by repeat (first | exact Grows.refl _ | refine Grows.now ?_ _ | refine Grows.new ?_ _ | refine Grows.drewN ?_ _ | refine Grows.drew ?_ | assumption | (refine Grows.set ?_ (by first | omega | (simp; done) | (simp; omega)) _)))⟩
      | true =>
        rw [h1] at C1
        have HD := hide C1
        clear C1
        cases h2 : nodeB N (ge E q).t with
        | false =>
          rw [h2] at C2
          have HE := hide C2
          have HW := hide (HT.out (by rw [HLo.out, h1, h2]; rfl))
          clear C2 h1 h2
          go_wp2_with fail
          ((first | refine wp_region_gen2 (by kernel_rfl) (by kernel_rfl) ?_ | refine wp_region_gen (by kernel_rfl) (by kernel_rfl) ?_); (repeat' (first | (refine gLex_val0 rfl (by kernel_rfl) (fun K hK => ?_); (go_simp; (try (simp only [↓IntWalk.iteOmega]; try go_simp)); (try simp (disch := omega) only [IntWalk.i64_in]); (try simp (disch := omega) only [IntWalk.u64_in]); first | (refine hK _ ?_; clear hK K) | (apply Exists.intro; refine ⟨fun x => ?_, hK _ ?_⟩; (first | (go_at_call_of 111 ((ge E q).f); exact HD.out _) | (go_at_call_of 111 ((ge E q).t); exact HE.out _)); clear hK K))) | (refine gLex_undef rfl rfl rfl (by kernel_rfl) (fun K hK => ?_); go_simp; refine hK _ ?_; clear hK K) | (refine gLex_ask rfl rfl rfl ?_; first | (apply gAsk_yes; kernel_rfl; intro K hK; (go_simp; (try (simp only [↓IntWalk.iteOmega]; try go_simp)); (try simp (disch := omega) only [IntWalk.i64_in]); (try simp (disch := omega) only [IntWalk.u64_in]); first | (refine hK _ ?_; clear hK K) | (apply Exists.intro; refine ⟨fun x => ?_, hK _ ?_⟩; (first | (go_at_call_of 111 ((ge E q).f); exact HD.out _) | (go_at_call_of 111 ((ge E q).t); exact HE.out _)); clear hK K))) | ((first | apply gAsk_no1 | apply gAsk_no2); kernel_rfl; intro K hK; simp [go_sem]; refine hK _ ?_; clear hK K) | (apply gAsk_part; kernel_rfl; all_goals (intro h K hK; (try simp only [Bool.not_true] at h); (try simp only [Bool.not_false] at h); (try simp only [decide_eq_true_eq] at h); (try simp only [decide_eq_false_iff_not] at h); first | (exfalso; first | contradiction | omega) | (go_simp; (try (simp only [↓IntWalk.iteOmega]; try go_simp)); (try simp (disch := omega) only [IntWalk.i64_in]); (try simp (disch := omega) only [IntWalk.u64_in]); first | (refine hK _ ?_; clear hK K) | (apply Exists.intro; refine ⟨fun x => ?_, hK _ ?_⟩; (first | (go_at_call_of 111 ((ge E q).f); exact HD.out _) | (go_at_call_of 111 ((ge E q).t); exact HE.out _)); clear hK K))))))); all_goals ((apply gLex_end); intro x))
          go_wp2
          go_ret
          exact ⟨ret_int HW.out.symm, (by repeat (first | exact Grows.refl _ | refine Grows.now ?_ _ | refine Grows.new ?_ _ | refine Grows.drewN ?_ _ | refine Grows.drew ?_ | assumption | (refine Grows.set ?_ (by first | omega | (simp; done) | (simp; omega)) _)))⟩
        | true =>
          rw [h2] at C2
          have HE := hide C2
          by_cases h5 : (ge E q).f = (ge E q).t
          · have HW := hide (HT.out (by rw [HLo.out, h1, h2, decide_eq_true h5]; rfl))
            have h5' : ((ge E q).f == (ge E q).t) = true := by simpa using h5
            clear C2 h1 h2 h5
            go_wp2_with fail
            ((first | refine wp_region_gen2 (by kernel_rfl) (by kernel_rfl) ?_ | refine wp_region_gen (by kernel_rfl) (by kernel_rfl) ?_); (repeat' (first | (refine gLex_val0 rfl (by kernel_rfl) (fun K hK => ?_); (go_simp; (try (simp only [↓IntWalk.iteOmega]; try go_simp)); (try simp (disch := omega) only [IntWalk.i64_in]); (try simp (disch := omega) only [IntWalk.u64_in]); first | (refine hK _ ?_; clear hK K) | (apply Exists.intro; refine ⟨fun x => ?_, hK _ ?_⟩; (first | (go_at_call_of 111 ((ge E q).f); exact HD.out _) | (go_at_call_of 111 ((ge E q).t); exact HE.out _)); clear hK K))) | (refine gLex_undef rfl rfl rfl (by kernel_rfl) (fun K hK => ?_); go_simp; refine hK _ ?_; clear hK K) | (refine gLex_ask rfl rfl rfl ?_; first | (apply gAsk_yes; kernel_rfl; intro K hK; (go_simp; (try (simp only [↓IntWalk.iteOmega]; try go_simp)); (try simp (disch := omega) only [IntWalk.i64_in]); (try simp (disch := omega) only [IntWalk.u64_in]); first | (refine hK _ ?_; clear hK K) | (apply Exists.intro; refine ⟨fun x => ?_, hK _ ?_⟩; (first | (go_at_call_of 111 ((ge E q).f); exact HD.out _) | (go_at_call_of 111 ((ge E q).t); exact HE.out _)); clear hK K))) | ((first | apply gAsk_no1 | apply gAsk_no2); kernel_rfl; intro K hK; simp [go_sem]; refine hK _ ?_; clear hK K) | (apply gAsk_part; kernel_rfl; all_goals (intro h K hK; (try simp only [Bool.not_true] at h); (try simp only [Bool.not_false] at h); (try simp only [decide_eq_true_eq] at h); (try simp only [decide_eq_false_iff_not] at h); first | (exfalso; first | contradiction | omega) | (go_simp; (try (simp only [↓IntWalk.iteOmega]; try go_simp)); (try simp (disch := omega) only [IntWalk.i64_in]); (try simp (disch := omega) only [IntWalk.u64_in]); first | (refine hK _ ?_; clear hK K) | (apply Exists.intro; refine ⟨fun x => ?_, hK _ ?_⟩; (first | (go_at_call_of 111 ((ge E q).f); exact HD.out _) | (go_at_call_of 111 ((ge E q).t); exact HE.out _)); clear hK K))))))); all_goals ((apply gLex_end); intro x))
            go_wp2
            go_ret
            exact ⟨ret_int HW.out.symm, (by repeat (first | exact Grows.refl _ | refine Grows.now ?_ _ | refine Grows.new ?_ _ | refine Grows.drewN ?_ _ | refine Grows.drew ?_ | assumption | (refine Grows.set ?_ (by first | omega | (simp; done) | (simp; omega)) _)))⟩
          · have HP : Hid (looseB N (ge E q) = false) := by rw [show Hid (looseB N (ge E q) = false) = (looseB N (ge E q) = false) from rfl, HLo.out, h1, h2, decide_eq_false h5]; rfl
            have h5' : ((ge E q).f == (ge E q).t) = false := by simpa using h5
            clear C2 h1 h2 h5
            go_wp2_with fail
            ((first | refine wp_region_gen2 (by kernel_rfl) (by kernel_rfl) ?_ | refine wp_region_gen (by kernel_rfl) (by kernel_rfl) ?_); (repeat' (first | (refine gLex_val0 rfl (by kernel_rfl) (fun K hK => ?_); (go_simp; (try (simp only [↓IntWalk.iteOmega]; try go_simp)); (try simp (disch := omega) only [IntWalk.i64_in]); (try simp (disch := omega) only [IntWalk.u64_in]); first | (refine hK _ ?_; clear hK K) | (apply Exists.intro; refine ⟨fun x => ?_, hK _ ?_⟩; (first | (go_at_call_of 111 ((ge E q).f); exact HD.out _) | (go_at_call_of 111 ((ge E q).t); exact HE.out _)); clear hK K))) | (refine gLex_undef rfl rfl rfl (by kernel_rfl) (fun K hK => ?_); go_simp; refine hK _ ?_; clear hK K) | (refine gLex_ask rfl rfl rfl ?_; first | (apply gAsk_yes; kernel_rfl; intro K hK; (go_simp; (try (simp only [↓IntWalk.iteOmega]; try go_simp)); (try simp (disch := omega) only [IntWalk.i64_in]); (try simp (disch := omega) only [IntWalk.u64_in]); first | (refine hK _ ?_; clear hK K) | (apply Exists.intro; refine ⟨fun x => ?_, hK _ ?_⟩; (first | (go_at_call_of 111 ((ge E q).f); exact HD.out _) | (go_at_call_of 111 ((ge E q).t); exact HE.out _)); clear hK K))) | ((first | apply gAsk_no1 | apply gAsk_no2); kernel_rfl; intro K hK; simp [go_sem]; refine hK _ ?_; clear hK K) | (apply gAsk_part; kernel_rfl; all_goals (intro h K hK; (try simp only [Bool.not_true] at h); (try simp only [Bool.not_false] at h); (try simp only [decide_eq_true_eq] at h); (try simp only [decide_eq_false_iff_not] at h); first | (exfalso; first | contradiction | omega) | (go_simp; (try (simp only [↓IntWalk.iteOmega]; try go_simp)); (try simp (disch := omega) only [IntWalk.i64_in]); (try simp (disch := omega) only [IntWalk.u64_in]); first | (refine hK _ ?_; clear hK K) | (apply Exists.intro; refine ⟨fun x => ?_, hK _ ?_⟩; (first | (go_at_call_of 111 ((ge E q).f); exact HD.out _) | (go_at_call_of 111 ((ge E q).t); exact HE.out _)); clear hK K))))))); all_goals ((apply gLex_end); intro x))
            go_wp2
            go_roundw
            case measure => simp [intOf]; omega
            case rel =>
              refine ⟨q + 1, by omega, by go_num, ⟨_, rfl⟩, fun j h1 => ?_⟩
              by_cases hj : j = q
              · rw [hj]; exact HP.out
              · exact HA.out j (by omega)

end Go.Proofs.Ytpnncadglhlclaa
