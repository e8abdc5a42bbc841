/- Contracts: the answer for which graphs may be. -/
import Derived.Test.YtomednfddpggaaaQBridgeFarther01
import Derived.Test.YtomednfddpggaaaQBridgeFarther00
import Derived.Deep.DeepCutAuto
import Derived.Lib.SliceRun
import Derived.RangeFuncRecord
import Derived.Shelf.Slices.CompactI
import Derived.Laws.IdiomCopy
import Derived.Shelf.RegionOpen
import Derived.OrdersIn
import Derived.TacticsIn
/- Contracts: the answer for which graphs may be. -/
namespace Go.Proofs.Ytomednfddpggaaa
open Go Go.RowKit
set_option maxHeartbeats 400000 in
theorem r5node (N v : Int) (s : Value) (w : World) : Calls Try.prog 66 #[.agg #[.int .i64 N, s], .int .i64 v] w fun e w' => e = .returned (.bool (nodeB N v)) ∧ Grows w w' := by
  go_enter Try.func66, Try.ntmps66
  go_wp2
  all_goals go_ret
  all_goals exact ⟨ret_bool (bool_ext (by unfold nodeB; simp; try omega)), (by repeat (first | exact Grows.refl _ | refine Grows.now ?_ _ | refine Grows.new ?_ _ | refine Grows.drewN ?_ _ | refine Grows.drew ?_ | assumption | (refine Grows.set ?_ (by first | omega | (simp; done) | (simp; omega)) _)))⟩

set_option maxHeartbeats 400000 in
theorem r5weight (x : Int) (w : World) : Calls Try.prog 67 #[.int .u64 x] w fun e w' => e = .returned (.bool (wtB x)) ∧ w = w' := by
  go_enter Try.func67, Try.ntmps67
  go_wp2
  all_goals go_ret
  all_goals exact ⟨ret_bool (bool_ext (by unfold wtB; simp; try omega)), rfl⟩

theorem any_false_iff {E : List Edg} {p : Edg → Bool} {n : Nat} (hl : E.length = n) (h : ∀ j, j < n → p (ge E j) = false) : E.any p = false := by
  rw [List.any_eq_false]
  intro e he
  obtain ⟨j, hj, rfl⟩ := List.mem_iff_getElem.1 he
  have := h j (by omega)
  simpa [ge, hj] using this
theorem any_true_at {E : List Edg} {p : Edg → Bool} {j : Nat} (hj : j < E.length) (h : p (ge E j) = true) : E.any p = true := by
  rw [List.any_eq_true]
  exact ⟨ge E j, by simp [ge, hj], h⟩

set_option maxRecDepth 20000 in
set_option maxHeartbeats 4000000 in
theorem r5Right (N : Int) (A : Option Addr) (n c : Nat) (E : List Edg) (w : World) (h : Rd w A 3 n (esCells E)) (hn : n ≤ 1000000) :
    Calls Try.prog 31 #[.agg #[.int .i64 N, .slice A n c]] w fun e w' => e = .returned (.int .i64 (rightF N E)) ∧ Grows w w' := by
  have HL := hide h.elen
  have HR := hide h
  clear h
  by_cases h1 : N < 1 ∨ 4096 < N
  · have HW : Hid (rightF N E = 2) := by unfold rightF; rw [if_pos h1]; rfl
    go_enter Try.func31, Try.ntmps31
    go_wp2
    all_goals go_ret
    all_goals exact ⟨ret_int HW.out.symm, (by repeat (first | exact Grows.refl _ | refine Grows.now ?_ _ | refine Grows.new ?_ _ | refine Grows.drewN ?_ _ | refine Grows.drew ?_ | assumption | (refine Grows.set ?_ (by first | omega | (simp; done) | (simp; omega)) _)))⟩
  have h3 : 1 ≤ N := by omega
  have h4 : N ≤ 4096 := by omega
  by_cases h2 : 16384 < n
  · have HW : Hid (rightF N E = 5) := by unfold rightF; rw [if_neg h1, if_pos (by have := HL.out; omega)]; rfl
    clear h1
    go_enter Try.func31, Try.ntmps31
    go_wp2
    all_goals go_ret
    all_goals exact ⟨ret_int HW.out.symm, (by repeat (first | exact Grows.refl _ | refine Grows.now ?_ _ | refine Grows.new ?_ _ | refine Grows.drewN ?_ _ | refine Grows.drew ?_ | assumption | (refine Grows.set ?_ (by first | omega | (simp; done) | (simp; omega)) _)))⟩
  have HN := hide (show ∀ x, rightF N E = x ↔ (if E.any (looseB N) then (7 : Int) else if E.any heavyB then 2 else 0) = x from fun x => by unfold rightF; rw [if_neg h1, if_neg (by have := HL.out; omega)])
  have HG0 := hide (HR.out.new (.cells #[.int .i64 N, .slice A n c] 24))
  clear h1
  go_enter Try.func31, Try.ntmps31
  go_wp2
  go_loopw [3] (fun i wr => ∃ k : Nat, k ≤ n ∧ i = .int .i64 (k : Int) ∧ (∃ x : Later (w.alloc (.cells #[.int .i64 N, .slice A n c] 24)), wr = x.now) ∧ ∀ j, j < k → looseB N (ge E j) = false) (fun i _ => n - (intOf i).toNat)
  case atStart => exact ⟨0, by omega, by go_num, ⟨⟨_, Grows.refl _⟩, rfl⟩, fun j h1 => by omega⟩
  case round =>
    obtain ⟨q, hq, rfl, ⟨x, rfl⟩, hall⟩ := hrel
    have HA := hide hall
    clear hall
    by_cases hend : n ≤ q
    · have HB := hide (any_false_iff HL.out fun j hj => HA.out j (by omega))
      have hd : decide (q < n) = false := by simp; omega
      go_wp2
      go_loopw [4] (fun i wr => ∃ k : Nat, k ≤ n ∧ i = .int .i64 (k : Int) ∧ (∃ x : Later (w.alloc (.cells #[.int .i64 N, .slice A n c] 24)), wr = x.now) ∧ ∀ j, j < k → heavyB (ge E j) = false) (fun i _ => n - (intOf i).toNat)
      case atStart => exact ⟨0, by omega, by go_num, ⟨_, rfl⟩, fun j h1 => by omega⟩
      case round =>
        obtain ⟨r, hr, rfl, ⟨y, rfl⟩, hall⟩ := hrel
        have HC := hide hall
        clear hall
        by_cases hend2 : n ≤ r
        · have HW : Hid (rightF N E = 0) := by
            have h := any_false_iff (p := heavyB) HL.out fun j hj => HC.out j (by omega)
            rw [show Hid (rightF N E = 0) = (rightF N E = 0) from rfl, HN.out, HB.out, h]; rfl
          go_wp2
          go_ret
          exact ⟨ret_int HW.out.symm, (by repeat (first | exact Grows.refl _ | refine Grows.now ?_ _ | refine Grows.new ?_ _ | refine Grows.drewN ?_ _ | refine Grows.drew ?_ | assumption | (refine Grows.set ?_ (by first | omega | (simp; done) | (simp; omega)) _)))⟩
        · obtain ⟨b, off, rfl, hc⟩ := HG0.out.edges (by omega)
          obtain ⟨hc1, hc2, hc3⟩ := hc r (by omega)
          clear hc hc1 hc2
          cases hp : wtB (ge E r).w with
          | false =>
            have HW : Hid (rightF N E = 2) := by
              have h := any_true_at (p := heavyB) (E := E) (j := r) (by have := HL.out; omega) (by unfold heavyB; rw [hp]; rfl)
              rw [show Hid (rightF N E = 2) = (rightF N E = 2) from rfl, HN.out, HB.out, h]; rfl
            have C := fun W => r5weight (ge E r).w W
            rw [hp] at C
            have HD := hide C
            clear hp C
            go_wp2_with (first | (go_at_call 67; refine (HD.out _).mono ?_; rintro e w' ⟨rfl, rfl⟩))
            go_ret
            exact ⟨ret_int HW.out.symm, (by repeat (first | exact Grows.refl _ | refine Grows.now ?_ _ | refine Grows.new ?_ _ | refine Grows.drewN ?_ _ | refine Grows.drew ?_ | assumption | (refine Grows.set ?_ (by first | omega | (simp; done) | (simp; omega)) _)))⟩
          | true =>
            have HP : Hid (heavyB (ge E r) = false) := by unfold heavyB; rw [hp]; rfl
            have C := fun W => r5weight (ge E r).w W
            rw [hp] at C
            have HD := hide C
            clear hp C
            go_wp2_with (first | (go_at_call 67; refine (HD.out _).mono ?_; rintro e w' ⟨rfl, rfl⟩))
            go_roundw
            case measure => simp [intOf]; omega
            case rel =>
              refine ⟨r + 1, by omega, by go_num, ⟨_, rfl⟩, fun j h1 => ?_⟩
              by_cases hj : j = r
              · rw [hj]; exact HP.out
              · exact HC.out j (by omega)
    · obtain ⟨b, off, rfl, hc⟩ := HG0.out.edges (by omega)
      obtain ⟨hc1, hc2, hc3⟩ := hc q (by omega)
      clear hc hc3
      have C1 := fun W => r5node N (ge E q).f (.slice (some ⟨b, off, none⟩) n c) W
      have C2 := fun W => r5node N (ge E q).t (.slice (some ⟨b, off, none⟩) n c) W
      have HLo := hide (show looseB N (ge E q) = (!nodeB N (ge E q).f || (!nodeB N (ge E q).t || decide ((ge E q).f = (ge E q).t))) from rfl)
      have HT : Hid (looseB N (ge E q) = true → rightF N E = 7) := fun h => by
        have h' := any_true_at (p := looseB N) (E := E) (j := q) (by have := HL.out; omega) h
        rw [HN.out, h']; rfl
      cases h1 : nodeB N (ge E q).f with
      | false =>
        rw [h1] at C1
        have HD := hide C1
        have HW := hide (HT.out (by rw [HLo.out, h1]; rfl))
        clear C1 C2 h1
        go_wp2_with fail
        ((first | refine wp_region_gen2 (by kernel_rfl) (by kernel_rfl) ?_ | refine wp_region_gen (by kernel_rfl) (by kernel_rfl) ?_); (repeat' (first | (refine gLex_val0 rfl (by kernel_rfl) (fun K hK => ?_); (go_simp; (try (simp only [↓IntWalk.iteOmega]; try go_simp)); (try simp (disch := omega) only [IntWalk.i64_in]); (try simp (disch := omega) only [IntWalk.u64_in]); first | (refine hK _ ?_; clear hK K) | (apply Exists.intro; refine ⟨fun x => ?_, hK _ ?_⟩; (first | (go_at_call 66; exact HD.out _)); clear hK K))) | (refine gLex_undef rfl rfl rfl (by kernel_rfl) (fun K hK => ?_); go_simp; refine hK _ ?_; clear hK K) | (refine gLex_ask rfl rfl rfl ?_; first | (apply gAsk_yes; kernel_rfl; intro K hK; (go_simp; (try (simp only [↓IntWalk.iteOmega]; try go_simp)); (try simp (disch := omega) only [IntWalk.i64_in]); (try simp (disch := omega) only [IntWalk.u64_in]); first | (refine hK _ ?_; clear hK K) | (apply Exists.intro; refine ⟨fun x => ?_, hK _ ?_⟩; (first | (go_at_call 66; exact HD.out _)); clear hK K))) | ((first | apply gAsk_no1 | apply gAsk_no2); kernel_rfl; intro K hK; simp [go_sem]; refine hK _ ?_; clear hK K) | (apply gAsk_part; kernel_rfl; all_goals (intro h K hK; (try simp only [Bool.not_true] at h); (try simp only [Bool.not_false] at h); (try simp only [decide_eq_true_eq] at h); (try simp only [decide_eq_false_iff_not] at h); first | (exfalso; first | contradiction | omega) | (go_simp; (try (simp only [↓IntWalk.iteOmega]; try go_simp)); (try simp (disch := omega) only [IntWalk.i64_in]); (try simp (disch := omega) only [IntWalk.u64_in]); first | (refine hK _ ?_; clear hK K) | (apply Exists.intro; refine ⟨fun x => ?_, hK _ ?_⟩; (first | (go_at_call 66; exact HD.out _)); clear hK K))))))); all_goals ((apply gLex_end); intro x))
        go_wp2
        go_ret
        exact ⟨ret_int HW.out.symm, (by repeat (first | exact Grows.refl _ | refine Grows.now ?_ _ | refine Grows.new ?_ _ | refine Grows.drewN ?_ _ | refine Grows.drew ?_ | assumption | (refine Grows.set ?_ (by first | omega | (simp; done) | (simp; omega)) _)))⟩
      | true =>
        rw [h1] at C1
        have HD := hide C1
        clear C1
        cases h2 : nodeB N (ge E q).t with
        | false =>
          rw [h2] at C2
          have HE := hide C2
          have HW := hide (HT.out (by rw [HLo.out, h1, h2]; rfl))
          clear C2 h1 h2
          go_wp2_with fail
          ((first | refine wp_region_gen2 (by kernel_rfl) (by kernel_rfl) ?_ | refine wp_region_gen (by kernel_rfl) (by kernel_rfl) ?_); (repeat' (first | (refine gLex_val0 rfl (by kernel_rfl) (fun K hK => ?_); (go_simp; (try (simp only [↓IntWalk.iteOmega]; try go_simp)); (try simp (disch := omega) only [IntWalk.i64_in]); (try simp (disch := omega) only [IntWalk.u64_in]); first | (refine hK _ ?_; clear hK K) | (apply Exists.intro; refine ⟨fun x => ?_, hK _ ?_⟩; (first | (go_at_call_of 66 ((ge E q).f); exact HD.out _) | (go_at_call_of 66 ((ge E q).t); exact HE.out _)); clear hK K))) | (refine gLex_undef rfl rfl rfl (by kernel_rfl) (fun K hK => ?_); go_simp; refine hK _ ?_; clear hK K) | (refine gLex_ask rfl rfl rfl ?_; first | (apply gAsk_yes; kernel_rfl; intro K hK; (go_simp; (try (simp only [↓IntWalk.iteOmega]; try go_simp)); (try simp (disch := omega) only [IntWalk.i64_in]); (try simp (disch := omega) only [IntWalk.u64_in]); first | (refine hK _ ?_; clear hK K) | (apply Exists.intro; refine ⟨fun x => ?_, hK _ ?_⟩; (first | (go_at_call_of 66 ((ge E q).f); exact HD.out _) | (go_at_call_of 66 ((ge E q).t); exact HE.out _)); clear hK K))) | ((first | apply gAsk_no1 | apply gAsk_no2); kernel_rfl; intro K hK; simp [go_sem]; refine hK _ ?_; clear hK K) | (apply gAsk_part; kernel_rfl; all_goals (intro h K hK; (try simp only [Bool.not_true] at h); (try simp only [Bool.not_false] at h); (try simp only [decide_eq_true_eq] at h); (try simp only [decide_eq_false_iff_not] at h); first | (exfalso; first | contradiction | omega) | (go_simp; (try (simp only [↓IntWalk.iteOmega]; try go_simp)); (try simp (disch := omega) only [IntWalk.i64_in]); (try simp (disch := omega) only [IntWalk.u64_in]); first | (refine hK _ ?_; clear hK K) | (apply Exists.intro; refine ⟨fun x => ?_, hK _ ?_⟩; (first | (go_at_call_of 66 ((ge E q).f); exact HD.out _) | (go_at_call_of 66 ((ge E q).t); exact HE.out _)); clear hK K))))))); all_goals ((apply gLex_end); intro x))
          go_wp2
          go_ret
          exact ⟨ret_int HW.out.symm, (by repeat (first | exact Grows.refl _ | refine Grows.now ?_ _ | refine Grows.new ?_ _ | refine Grows.drewN ?_ _ | refine Grows.drew ?_ | assumption | (refine Grows.set ?_ (by first | omega | (simp; done) | (simp; omega)) _)))⟩
        | true =>
          rw [h2] at C2
          have HE := hide C2
          by_cases h5 : (ge E q).f = (ge E q).t
          · have HW := hide (HT.out (by rw [HLo.out, h1, h2, decide_eq_true h5]; rfl))
            have h5' : ((ge E q).f == (ge E q).t) = true := by simpa using h5
            clear C2 h1 h2 h5
            go_wp2_with fail
            ((first | refine wp_region_gen2 (by kernel_rfl) (by kernel_rfl) ?_ | refine wp_region_gen (by kernel_rfl) (by kernel_rfl) ?_); (repeat' (first | (refine gLex_val0 rfl (by kernel_rfl) (fun K hK => ?_); (go_simp; (try (simp only [↓IntWalk.iteOmega]; try go_simp)); (try simp (disch := omega) only [IntWalk.i64_in]); (try simp (disch := omega) only [IntWalk.u64_in]); first | (refine hK _ ?_; clear hK K) | (apply Exists.intro; refine ⟨fun x => ?_, hK _ ?_⟩; (first | (go_at_call_of 66 ((ge E q).f); exact HD.out _) | (go_at_call_of 66 ((ge E q).t); exact HE.out _)); clear hK K))) | (refine gLex_undef rfl rfl rfl (by kernel_rfl) (fun K hK => ?_); go_simp; refine hK _ ?_; clear hK K) | (refine gLex_ask rfl rfl rfl ?_; first | (apply gAsk_yes; kernel_rfl; intro K hK; (go_simp; (try (simp only [↓IntWalk.iteOmega]; try go_simp)); (try simp (disch := omega) only [IntWalk.i64_in]); (try simp (disch := omega) only [IntWalk.u64_in]); first | (refine hK _ ?_; clear hK K) | (apply Exists.intro; refine ⟨fun x => ?_, hK _ ?_⟩; (first | (go_at_call_of 66 ((ge E q).f); exact HD.out _) | (go_at_call_of 66 ((ge E q).t); exact HE.out _)); clear hK K))) | ((first | apply gAsk_no1 | apply gAsk_no2); kernel_rfl; intro K hK; simp [go_sem]; refine hK _ ?_; clear hK K) | (apply gAsk_part; kernel_rfl; all_goals (intro h K hK; (try simp only [Bool.not_true] at h); (try simp only [Bool.not_false] at h); (try simp only [decide_eq_true_eq] at h); (try simp only [decide_eq_false_iff_not] at h); first | (exfalso; first | contradiction | omega) | (go_simp; (try (simp only [↓IntWalk.iteOmega]; try go_simp)); (try simp (disch := omega) only [IntWalk.i64_in]); (try simp (disch := omega) only [IntWalk.u64_in]); first | (refine hK _ ?_; clear hK K) | (apply Exists.intro; refine ⟨fun x => ?_, hK _ ?_⟩; (first | (go_at_call_of 66 ((ge E q).f); exact HD.out _) | (go_at_call_of 66 ((ge E q).t); exact HE.out _)); clear hK K))))))); all_goals ((apply gLex_end); intro x))
            go_wp2
            go_ret
            exact ⟨ret_int HW.out.symm, (by repeat (first | exact Grows.refl _ | refine Grows.now ?_ _ | refine Grows.new ?_ _ | refine Grows.drewN ?_ _ | refine Grows.drew ?_ | assumption | (refine Grows.set ?_ (by first | omega | (simp; done) | (simp; omega)) _)))⟩
          · have HP : Hid (looseB N (ge E q) = false) := by rw [show Hid (looseB N (ge E q) = false) = (looseB N (ge E q) = false) from rfl, HLo.out, h1, h2, decide_eq_false h5]; rfl
            have h5' : ((ge E q).f == (ge E q).t) = false := by simpa using h5
            clear C2 h1 h2 h5
            go_wp2_with fail
            ((first | refine wp_region_gen2 (by kernel_rfl) (by kernel_rfl) ?_ | refine wp_region_gen (by kernel_rfl) (by kernel_rfl) ?_); (repeat' (first | (refine gLex_val0 rfl (by kernel_rfl) (fun K hK => ?_); (go_simp; (try (simp only [↓IntWalk.iteOmega]; try go_simp)); (try simp (disch := omega) only [IntWalk.i64_in]); (try simp (disch := omega) only [IntWalk.u64_in]); first | (refine hK _ ?_; clear hK K) | (apply Exists.intro; refine ⟨fun x => ?_, hK _ ?_⟩; (first | (go_at_call_of 66 ((ge E q).f); exact HD.out _) | (go_at_call_of 66 ((ge E q).t); exact HE.out _)); clear hK K))) | (refine gLex_undef rfl rfl rfl (by kernel_rfl) (fun K hK => ?_); go_simp; refine hK _ ?_; clear hK K) | (refine gLex_ask rfl rfl rfl ?_; first | (apply gAsk_yes; kernel_rfl; intro K hK; (go_simp; (try (simp only [↓IntWalk.iteOmega]; try go_simp)); (try simp (disch := omega) only [IntWalk.i64_in]); (try simp (disch := omega) only [IntWalk.u64_in]); first | (refine hK _ ?_; clear hK K) | (apply Exists.intro; refine ⟨fun x => ?_, hK _ ?_⟩; (first | (go_at_call_of 66 ((ge E q).f); exact HD.out _) | (go_at_call_of 66 ((ge E q).t); exact HE.out _)); clear hK K))) | ((first | apply gAsk_no1 | apply gAsk_no2); kernel_rfl; intro K hK; simp [go_sem]; refine hK _ ?_; clear hK K) | (apply gAsk_part; kernel_rfl; all_goals (intro h K hK; (try simp only [Bool.not_true] at h); (try simp only [Bool.not_false] at h); (try simp only [decide_eq_true_eq] at h); (try simp only [decide_eq_false_iff_not] at h); first | (exfalso; first | contradiction | omega) | (go_simp; (try (simp only [↓IntWalk.iteOmega]; try go_simp)); (try simp (disch := omega) only [IntWalk.i64_in]); (try simp (disch := omega) only [IntWalk.u64_in]); first | (refine hK _ ?_; clear hK K) | (apply Exists.intro; refine ⟨fun x => ?_, hK _ ?_⟩; (first | (go_at_call_of 66 ((ge E q).f); exact HD.out _) | (go_at_call_of 66 ((ge E q).t); exact HE.out _)); clear hK K))))))); all_goals ((apply gLex_end); intro x))
            go_wp2
            go_roundw
            case measure => simp [intOf]; omega
            case rel =>
              refine ⟨q + 1, by omega, by go_num, ⟨_, rfl⟩, fun j h1 => ?_⟩
              by_cases hj : j = q
              · rw [hj]; exact HP.out
              · exact HA.out j (by omega)

end Go.Proofs.Ytomednfddpggaaa

/- Contracts: rows of edges, by the program and by its answer. -/
namespace Go.Proofs.Ytomednfddpggaaa
open Go Go.RowKit
theorem gi_mem {l : List Int} {j : Nat} (h : j < l.length) : gi l j ∈ l := by
  unfold gi
  rw [List.getD_eq_getElem?_getD, List.getElem?_eq_getElem h]
  exact List.getElem_mem h
theorem mem_gi {l : List Int} {x : Int} (h : x ∈ l) : ∃ j, j < l.length ∧ gi l j = x := by
  obtain ⟨j, hj, rfl⟩ := List.mem_iff_getElem.1 h
  exact ⟨j, hj, by simp [gi, hj]⟩

set_option maxRecDepth 20000 in
set_option maxHeartbeats 1000000 in
theorem indexI (A : Option Addr) (n c : Nat) (E : List Int) (k : FuncId) (cap : Array Value) (p : Int → Bool) (w : World) (h : Rd w A 1 n (E.map (.int .i64))) (hn : n ≤ 1000000) (hk : ∀ args W, (callFunc k args).run Try.prog W = .ok (.enter k args) W)
    (hf : ∀ W, Grows w W → ∀ e, Calls Try.prog k (#[.int .i64 e] ++ cap) W fun x w' => x = .returned (.bool (p e)) ∧ Grows W w') :
    Calls Try.prog 99 #[.slice A n c, .func (.func k) #[] cap] w fun e w' => e = .returned (.int .i64 (firstI p E)) ∧ Grows w w' := by
  have HL := hide (show E.length = n by simpa using h.len)
  have HR := hide h
  have HF := hide hf
  clear h hf
  go_enter Try.func99, Try.ntmps99
  go_wp2
  go_loopw [8] (fun i wr => ∃ k : Nat, k ≤ n ∧ i = .int .i64 (k : Int) ∧ (∃ x : Later w, wr = x.now) ∧ ∀ j, j < k → p (gi E j) = false) (fun i _ => n - (intOf i).toNat)
  case atStart => exact ⟨0, by omega, by go_num, ⟨⟨w, Grows.refl w⟩, rfl⟩, fun j h1 => by omega⟩
  case round =>
    obtain ⟨q, hq, rfl, ⟨x, rfl⟩, hall⟩ := hrel
    have HA := hide hall
    clear hall
    by_cases hend : n ≤ q
    · go_wp2
      go_ret
      refine ⟨ret_int ?_, (by repeat (first | exact Grows.refl _ | refine Grows.now ?_ _ | refine Grows.new ?_ _ | refine Grows.drewN ?_ _ | refine Grows.drew ?_ | assumption | (refine Grows.set ?_ (by first | omega | (simp; done) | (simp; omega)) _)))⟩
      have hl := HL.out
      have hh := HA.out
      rw [firstI_none]
      intro e he
      obtain ⟨j, hj, rfl⟩ := mem_gi he
      exact hh j (by omega)
    · obtain ⟨b, off, rfl, hc⟩ := HR.out.ints (by omega)
      have hc1 := hc q (by omega)
      clear hc
      go_wp2_with fail
      refine (HF.out _ (by repeat (first | exact Grows.refl _ | refine Grows.now ?_ _ | refine Grows.new ?_ _ | refine Grows.drewN ?_ _ | refine Grows.drew ?_ | assumption | (refine Grows.set ?_ (by first | omega | (simp; done) | (simp; omega)) _))) (gi E q)).mono ?_; rintro e w' ⟨rfl, hg⟩; obtain ⟨x1, rfl⟩ := Grows.later2 hg; clear hg
      cases hp : p (gi E q) with
      | true =>
        have HW : Hid (firstI p E = q) := firstI_at p 0 E q (by have := HL.out; omega) HA.out hp
        clear hp
        go_wp2
        go_ret
        exact ⟨ret_int HW.out.symm, (by repeat (first | exact Grows.refl _ | refine Grows.now ?_ _ | refine Grows.new ?_ _ | refine Grows.drewN ?_ _ | refine Grows.drew ?_ | assumption | (refine Grows.set ?_ (by first | omega | (simp; done) | (simp; omega)) _)))⟩
      | false =>
        have HP := hide hp
        clear hp
        go_wp2
        go_roundw
        case measure => simp [intOf]; omega
        case rel =>
          refine ⟨q + 1, by omega, by go_num, ⟨_, rfl⟩, fun j h1 => ?_⟩
          by_cases hj : j = q
          · rw [hj]; exact HP.out
          · exact HA.out j (by omega)

set_option maxHeartbeats 1000000 in
theorem containsI (A : Option Addr) (n c : Nat) (E : List Int) (k : FuncId) (cap : Array Value) (p : Int → Bool) (w : World) (h : Rd w A 1 n (E.map (.int .i64))) (hn : n ≤ 1000000) (hk : ∀ args W, (callFunc k args).run Try.prog W = .ok (.enter k args) W)
    (hf : ∀ W, Grows w W → ∀ e, Calls Try.prog k (#[.int .i64 e] ++ cap) W fun x w' => x = .returned (.bool (p e)) ∧ Grows W w') :
    Calls Try.prog 64 #[.slice A n c, .func (.func k) #[] cap] w fun e w' => e = .returned (.bool (E.any p)) ∧ Grows w w' := by
  have HC := hide (indexI A n c E k cap p w h hn hk hf)
  have HV := hide (firstI_any p E)
  clear h hf hk
  go_enter Try.func64, Try.ntmps64
  go_wp2_with (first | (go_at_call 99; refine (HC.out).mono ?_; rintro e w' ⟨rfl, hg⟩; (first | obtain ⟨x, rfl⟩ := Grows.later2 hg | obtain ⟨x, rfl⟩ := Grows.later hg); clear hg))
  all_goals go_ret
  all_goals exact ⟨ret_bool (by rw [← HV.out]), (by repeat (first | exact Grows.refl _ | refine Grows.now ?_ _ | refine Grows.new ?_ _ | refine Grows.drewN ?_ _ | refine Grows.drew ?_ | assumption | (refine Grows.set ?_ (by first | omega | (simp; done) | (simp; omega)) _)))⟩

def edgeB (m : Nat) (e : Int) : Bool := decide (0 ≤ e ∧ e < m)
set_option maxHeartbeats 400000 in
theorem gEdge (N e : Int) (A : Option Addr) (m c : Nat) (w : World) : Calls Try.prog 37 #[.agg #[.int .i64 N, .slice A m c], .int .i64 e] w fun x w' => x = .returned (.bool (edgeB m e)) ∧ Grows w w' := by
  go_enter Try.func37, Try.ntmps37
  go_wp2
  all_goals go_ret
  all_goals exact ⟨ret_bool (bool_ext (by unfold edgeB; simp; try omega)), (by repeat (first | exact Grows.refl _ | refine Grows.now ?_ _ | refine Grows.new ?_ _ | refine Grows.drewN ?_ _ | refine Grows.drew ?_ | assumption | (refine Grows.set ?_ (by first | omega | (simp; done) | (simp; omega)) _)))⟩

/-- Are all edges of a graph that may be? -/
def edgesB (N : Int) (E : List Edg) (l : List Int) : Bool := decide (rightF N E = 0) && !(l.any fun e => !edgeB E.length e)

end Go.Proofs.Ytomednfddpggaaa

/- Contracts: a graph copied; a graph with one weight changed. -/
namespace Go.Proofs.Ytomednfddpggaaa
open Go Go.RowKit
theorem es_one (E : List Edg) : ∀ u ∈ esCells E, u.oneCell' = true := by
  intro u hu
  obtain ⟨e, _, h⟩ := List.mem_flatMap.1 hu
  unfold eCells at h
  simp at h
  rcases h with rfl | rfl | rfl <;> rfl
set_option maxRecDepth 20000 in
set_option maxHeartbeats 2000000 in
theorem cloneE (A : Option Addr) (n c : Nat) (E : List Edg) (w : World) (h : Rd w A 3 n (esCells E)) (hn : n ≤ 1000000) :
    Calls Try.prog 39 #[.slice A n c] w fun e w' => ∃ A' c', e = .returned (.slice A' n c') ∧ Own w' w.heap.size 68 3 A' n c' (esCells E) ∧ Grows w w' := by
  cases A with
  | none =>
    have hn0 : n = 0 := by
      rcases Nat.eq_zero_or_pos n with h0 | h0
      · exact h0
      · obtain ⟨_, _, e, _⟩ := h.2 h0 (by omega); cases e
    subst hn0
    have hE : E = [] := List.eq_nil_of_length_eq_zero h.elen
    subst hE
    clear h
    have hnil := fun (w : World) (a : Option Addr) (n c n' c' : Nat) => Lib.run_eql_slice_nil (P := Try.prog) w 22 68 a n c n' c' Try.underlying22
    go_enter Try.func39, Try.ntmps39
    go_wp2
    go_ret
    exact ⟨none, 0, rfl, Own.nil _ _ _ _, (by repeat (first | exact Grows.refl _ | refine Grows.now ?_ _ | refine Grows.new ?_ _ | refine Grows.drewN ?_ _ | refine Grows.drew ?_ | assumption | (refine Grows.set ?_ (by first | omega | (simp; done) | (simp; omega)) _)))⟩
  | some ad =>
    have HR := hide h
    clear h
    have hnil := fun (w : World) (a : Option Addr) (n c n' c' : Nat) => Lib.run_eql_slice_nil (P := Try.prog) w 22 68 a n c n' c' Try.underlying22
    go_enter Try.func39, Try.ntmps39
    go_wp2_with (at_builtin; refine wp_appAll elemEdge rfl _ _ rfl w (by repeat (first | exact Grows.refl _ | refine Grows.now ?_ _ | refine Grows.new ?_ _ | refine Grows.drewN ?_ _ | refine Grows.drew ?_ | assumption | (refine Grows.set ?_ (by first | omega | (simp; done) | (simp; omega)) _))) 0 0 _ [] rfl (Own.empty _ _ _ _ (Nat.le_refl _)) ad n c _ rfl (HR.out.grows (by repeat (first | exact Grows.refl _ | refine Grows.now ?_ _ | refine Grows.new ?_ _ | refine Grows.drewN ?_ _ | refine Grows.drew ?_ | assumption | (refine Grows.set ?_ (by first | omega | (simp; done) | (simp; omega)) _)))) (es_one E) (by omega) ?_; intro A3 c3 y3 hown3; have HO3 := hide hown3; clear hown3)
    go_ret
    exact ⟨A3, c3, by first | rfl | (simp; done) | (rw [Nat.zero_add]; rfl), by have := HO3.out; rwa [Nat.zero_add, List.nil_append] at this, (by repeat (first | exact Grows.refl _ | refine Grows.now ?_ _ | refine Grows.new ?_ _ | refine Grows.drewN ?_ _ | refine Grows.drew ?_ | assumption | (refine Grows.set ?_ (by first | omega | (simp; done) | (simp; omega)) _)))⟩
theorem Own.low {w : World} {B n c size : Nat} {e : TypeId} {A : Option Addr} {xs : List Value} (h : Own w B e size A n c xs) {q : Addr} (hq : q.block < B) (u : Value) : Own (w.setCell q u) B e size A n c xs := by
  refine ⟨h.1, ?_⟩
  rcases h.2 with h1 | ⟨g, cap, cur, h1, h2, h3, h4⟩
  · exact .inl h1
  · refine .inr ⟨g, cap, cur, h1, h2, ?_, h4⟩
    rw [← h3]
    simp [World.setCell, Array.getElem?_modify]
    intro e
    omega
theorem Own.base {w : World} {B B' n c size : Nat} {e : TypeId} {A : Option Addr} {xs : List Value} (h : Own w B e size A n c xs) (hB : B' ≤ B) : Own w B' e size A n c xs := by
  refine ⟨h.1, ?_⟩
  rcases h.2 with h1 | ⟨g, cap, cur, h1, h2, h3⟩
  · exact .inl h1
  · exact .inr ⟨g, cap, cur, h1, Nat.le_trans hB h2, h3⟩
/-- A graph in memory of the call's own. -/
def GiveOG (w : World) (N : Int) (E : List Edg) (e : Ending) (w' : World) : Prop := ∃ A c, e = .returned (.agg #[.int .i64 N, .slice A E.length c]) ∧ Own w' w.heap.size 68 3 A E.length c (esCells E) ∧ Grows w w'
set_option maxRecDepth 20000 in
set_option maxHeartbeats 2000000 in
theorem gClone (N : Int) (A : Option Addr) (n c : Nat) (E : List Edg) (w : World) (h : Rd w A 3 n (esCells E)) (hn : n ≤ 1000000) :
    Calls Try.prog 80 #[.agg #[.int .i64 N, .slice A n c]] w (GiveOG w N E) := by
  have HL := hide h.elen
  have HC := hide (fun W (g : Grows w W) => cloneE A n c E W (h.grows g) hn)
  clear h
  go_enter Try.func80, Try.ntmps80
  go_upto_region 1 with fail
  go_region_with (go_at_call 39; refine (HC.out _ (by repeat (first | exact Grows.refl _ | refine Grows.now ?_ _ | refine Grows.new ?_ _ | refine Grows.drewN ?_ _ | refine Grows.drew ?_ | assumption | (refine Grows.set ?_ (by first | omega | (simp; done) | (simp; omega)) _)))).mono ?_; rintro e w' ⟨A1, c1, rfl, ho1, hg⟩; obtain ⟨x1, rfl⟩ := hg.later; have HO1 := hide ho1; clear hg ho1)
  all_goals go_wp2_with fail
  all_goals refine bodyPost_ret (v := .agg #[.int .i64 N, .slice A1 n c1]) (by simp (maxDischargeDepth := 6) [results, Try.results80, go_sem, *]) rfl ⟨A1, c1, by rw [HL.out], ?_, (by repeat (first | exact Grows.refl _ | refine Grows.now ?_ _ | refine Grows.new ?_ _ | refine Grows.drewN ?_ _ | refine Grows.drew ?_ | assumption | (refine Grows.set ?_ (by first | omega | (simp; done) | (simp; omega)) _)))⟩
  all_goals rw [HL.out]
  all_goals exact ((HO1.out.low (by simp) _).low (by simp) _).base (by simp; omega)
end Go.Proofs.Ytomednfddpggaaa

/- What a step may turn: of what was there, only the blocks of a set. -/
namespace Go.Proofs.Ytomednfddpggaaa
open Go Go.RowKit

/-- Of what was there, only blocks of S have turned; new memory may have come. -/
structure Touch (S : Nat → Prop) (w w' : World) : Prop where
  os : w'.os = w.os
  tape : w'.tape = w.tape
  output : w'.output = w.output
  size : w.heap.size ≤ w'.heap.size
  block : ∀ k, k < w.heap.size → ¬ S k → w'.heap[k]? = w.heap[k]?

/-- The new blocks between two worlds. -/
def New (w w' : World) (k : Nat) : Prop := w.heap.size ≤ k ∧ k < w'.heap.size

section
variable {S S' : Nat → Prop} {a b c w w' : World}
theorem Touch.refl (S : Nat → Prop) (w : World) : Touch S w w := ⟨rfl, rfl, rfl, Nat.le_refl _, fun _ _ _ => rfl⟩
theorem Grows.touch (h : Grows w w') (S : Nat → Prop) : Touch S w w' := ⟨h.os, h.tape, h.output, h.size, fun k hk _ => h.block k hk⟩
theorem Touch.trans2 (h : Touch S a b) (k : Touch S' b c) (hs : ∀ k, S' k → S k ∨ a.heap.size ≤ k) : Touch S a c :=
  ⟨k.os.trans h.os, k.tape.trans h.tape, k.output.trans h.output, Nat.le_trans h.size k.size, fun i hi hn =>
    (k.block i (Nat.lt_of_lt_of_le hi h.size) fun e => by rcases hs i e with h1 | h1; exact hn h1; omega).trans (h.block i hi hn)⟩
theorem Touch.trans (h : Touch S a b) (k : Touch S b c) : Touch S a c := h.trans2 k fun _ h => .inl h
theorem Touch.mono (h : Touch S a b) (hs : ∀ k, S k → S' k) : Touch S' a b := ⟨h.os, h.tape, h.output, h.size, fun k hk hn => h.block k hk fun e => hn (hs k e)⟩
theorem Touch.grows (h : Touch S a b) (k : Grows b c) : Touch S a c := h.trans (k.touch S)
theorem Touch.now (h : Touch S a b) (x : Later b) : Touch S a x.now := h.grows x.grows
theorem Touch.new (h : Touch S a b) (o : Obj) : Touch S a (b.alloc o) := h.grows ((Grows.refl b).new o)
theorem Touch.drew (h : Touch S a b) : Touch S a b.drew := h.grows (Grows.refl b).drew
theorem Touch.drewN (h : Touch S a b) (n : Nat) : Touch S a (b.drewN n) := h.grows ((Grows.refl b).drewN n)
theorem heap_setCell (w : World) (p : Addr) (u : Value) (k : Nat) (h : k ≠ p.block) : (w.setCell p u).heap[k]? = w.heap[k]? := Below.heap_setCell w p u k h
theorem size_setCell (w : World) (p : Addr) (u : Value) : (w.setCell p u).heap.size = w.heap.size := by simp [World.setCell]
theorem Touch.set (h : Touch S a b) {p : Addr} (hp : S p.block ∨ a.heap.size ≤ p.block) (u : Value) : Touch S a (b.setCell p u) := by
  refine ⟨h.os, h.tape, h.output, by rw [size_setCell]; exact h.size, fun k hk hn => ?_⟩
  rw [heap_setCell _ _ _ _ (fun e => by subst e; rcases hp with hp | hp; exact hn hp; omega)]
  exact h.block k hk hn
theorem Touch.put (h : Touch S a b) {r : Nat} (hr : S r ∨ a.heap.size ≤ r) (o : Obj) : Touch S a (b.putObj r o) := by
  refine ⟨h.os, h.tape, h.output, by simp; exact h.size, fun k hk hn => ?_⟩
  rw [World.putObj_heap_other (fun e => by subst e; rcases hr with hp | hp; exact hn hp; omega)]
  exact h.block k hk hn
theorem Touch.grown {row : Option Nat} (h : Touch S a b) (hg : b.grownBy c row) (hr : ∀ k, row = some k → S k ∨ a.heap.size ≤ k) : Touch S a c := by
  refine ⟨hg.os.trans h.os, hg.tape.trans h.tape, hg.output.trans h.output, Nat.le_trans h.size hg.size, fun k hk hn => ?_⟩
  refine (hg.block k (Nat.lt_of_lt_of_le hk h.size) fun e => ?_).trans (h.block k hk hn)
  rcases hr k e.symm with h1 | h1
  · exact hn h1
  · omega
/-- Below n all is as it was, where S lies above n. -/
theorem Touch.below (h : Touch S a b) {n : Nat} (hs : ∀ k, S k → n ≤ k) (hn : n ≤ a.heap.size) : Below n a b :=
  ⟨h.os, h.tape, h.output, h.size, fun k hk => h.block k (by omega) fun e => by have := hs k e; omega⟩
theorem Touch.later {w0 : World} (hw0 : Grows w0 a) (h : Touch S a b) (hs : ∀ k, S k → w0.heap.size ≤ k) : Grows w0 b :=
  Below.trans hw0 (h.below hs hw0.size)
theorem Touch.cell (h : Touch S a b) {p : Addr} (hp : ¬ S p.block) {u : Value} (hc : a.cell? p = some u) : b.cell? p = some u := by
  rw [← hc]
  exact World.cell?_of_block (w := a) (h.block p.block (World.block_lt_of_cell? a p hc) hp)
theorem Touch.frozen (h : Touch S a b) {p : Addr} (hp : ¬ S p.block) {u : Value} (hc : a.cell? p = some u) : b.frozen? p = a.frozen? p :=
  World.frozen?_of_block (w := a) (h.block p.block (World.block_lt_of_cell? a p hc) hp)
theorem Touch.at (h : Touch S a b) {k : Nat} {o : Obj} (hp : ¬ S k) (hc : a.heap[k]? = some o) : b.heap[k]? = some o :=
  (h.block k (Array.getElem?_eq_some_iff.1 hc).1 hp).trans hc
theorem Mine.touch {p : Addr} {v : Value} (h : Mine a p v) (ht : Touch S a b) (hp : ¬ S p.block) : Mine b p v :=
  ⟨ht.cell hp h.cell, (ht.frozen hp h.cell).trans h.free⟩
theorem Holds.touch {p : Addr} {v : Value} (h : Holds a p v) (ht : Touch S a b) (hp : ¬ S p.block) : Holds b p v := ⟨ht.cell hp h.cell⟩
theorem Rd.touch {A : Option Addr} {size n : Nat} {xs : List Value} (h : Rd a A size n xs) (ht : Touch S a b) (hp : ∀ p, A = some p → ¬ S p.block) : Rd b A size n xs :=
  ⟨h.1, fun h1 h2 => by
    obtain ⟨g, off, e, hc⟩ := h.2 h1 h2
    exact ⟨g, off, e, fun j u hu => ht.cell (p := ⟨g, off + j, none⟩) (hp ⟨g, off, none⟩ e) (hc j u hu)⟩⟩
end

/-- The blocks of B and of M are as they were. -/
def Keeps (B M : Nat → Prop) (w w' : World) : Prop := Touch (fun k => ¬ (B k ∨ M k)) w w'
section
variable {B M M' S : Nat → Prop} {a b c : World}
theorem Keeps.refl (B M : Nat → Prop) (a : World) : Keeps B M a a := Touch.refl _ _
theorem Keeps.trans (h : Keeps B M a b) (k : Keeps B M b c) : Keeps B M a c := Touch.trans h k
theorem Keeps.mono (h : Keeps B M a b) (hM : ∀ k, M' k → M k) : Keeps B M' a b := Touch.mono h fun k h1 e => h1 (e.elim .inl fun e => .inr (hM k e))
theorem Touch.keeps (h : Touch S a b) (hs : ∀ k, S k → ¬ (B k ∨ M k)) : Keeps B M a b := Touch.mono h hs
theorem Keeps.at (h : Keeps B M a b) {k : Nat} {o : Obj} (hk : B k ∨ M k) (hc : a.heap[k]? = some o) : b.heap[k]? = some o :=
  Touch.at h (fun h1 => h1 hk) hc
theorem Keeps.cell (h : Keeps B M a b) {p : Addr} (hk : B p.block ∨ M p.block) {u : Value} (hc : a.cell? p = some u) : b.cell? p = some u :=
  Touch.cell h (fun h1 => h1 hk) hc
end
end Go.Proofs.Ytomednfddpggaaa

/- Contract: an edge is struck out of an own row of edges (slices.Delete). -/
namespace Go.Proofs.Ytomednfddpggaaa
open Go Go.RowKit
/-- Cells laid over an array from place o on. -/
def layA (cur : Array Value) : Nat → List Value → Array Value
  | _, [] => cur
  | o, v :: r => layA (cur.setIfInBounds o v) (o + 1) r
theorem layA_size (vs : List Value) : ∀ (cur : Array Value) (o : Nat), (layA cur o vs).size = cur.size := by
  induction vs with
  | nil => exact fun _ _ => rfl
  | cons v r ih => exact fun cur o => (ih _ _).trans (by simp)
theorem layA_get (vs : List Value) : ∀ (cur : Array Value) (o k : Nat), o + vs.length ≤ cur.size → (layA cur o vs)[k]? = if o ≤ k ∧ k < o + vs.length then vs[k - o]? else cur[k]? := by
  induction vs with
  | nil =>
    intro cur o k _
    rw [if_neg (by simp only [List.length_nil]; omega)]
    rfl
  | cons v r ih =>
    intro cur o k h
    simp only [List.length_cons] at h
    show (layA (cur.setIfInBounds o v) (o + 1) r)[k]? = _
    rw [ih _ _ _ (by simp; omega)]
    by_cases h1 : k = o
    · subst h1
      rw [if_neg (by omega), if_pos (by simp)]
      simp [show k < cur.size by omega]
    · by_cases h2 : o ≤ k ∧ k < o + (v :: r).length
      · rw [if_pos h2]
        simp only [List.length_cons] at h2
        rw [if_pos (by omega), show k - o = (k - (o + 1)) + 1 by omega, List.getElem?_cons_succ]
      · rw [if_neg h2]
        simp only [List.length_cons] at h2
        rw [if_neg (by omega), Array.getElem?_setIfInBounds_ne (Ne.symm h1)]
theorem setCells_at {t : TypeId} {g : Nat} (vs : List Value) : ∀ (w : World) (cur : Array Value) (o : Nat), w.heap[g]? = some (.cells cur t (0, 0)) → (w.setCells g o vs).heap[g]? = some (.cells (layA cur o vs) t (0, 0)) := by
  induction vs with
  | nil => exact fun _ _ _ h => h
  | cons v r ih =>
    intro w cur o h
    refine ih _ _ _ ?_
    simp [World.setCell, Array.getElem?_modify, h]
theorem setCells_touch {g : Nat} (vs : List Value) : ∀ (w : World) (o : Nat), Touch (fun k => k = g) w (w.setCells g o vs) := by
  induction vs with
  | nil => exact fun w _ => Touch.refl _ w
  | cons v r ih => exact fun w o => ((Touch.refl (fun k => k = g) w).set (p := ⟨g, o, none⟩) (.inl rfl) v).trans (ih _ _)
theorem run_clearE (w : World) (ty : TypeId) (b o c : Nat) (hc : ∀ j, j < 3 → (w.cell? ⟨b, o + j, none⟩).isSome = true) (hf : ∀ j, j < 3 → w.frozen? ⟨b, o + j, none⟩ = false) :
    (Builtin.clear_ #[22] ty #[.slice (some ⟨b, o, none⟩) 1 c]).run Try.prog w = .ok (.tuple #[]) (w.setCells b o [.int .i64 0, .int .i64 0, .int .u64 0]) := by
  have hv : ∀ w, (zeroValue 68).run Try.prog w = .ok (.agg #[.int .i64 0, .int .i64 0, .int .u64 0]) w := fun w => by kernel_rfl
  have hzc : (Builtin.zeroCells (Value.agg #[.int .i64 0, .int .i64 0, .int .u64 0]).cells 1).toList = [.int .i64 0, .int .i64 0, .int .u64 0] := by kernel_rfl
  have hst := run_storeCells_cells (P := Try.prog) b o [.int .i64 0, .int .i64 0, .int .u64 0] 0 w (by simpa using hc) (by simpa using hf) (by intro v hv'; simp at hv'; rcases hv' with rfl | rfl | rfl <;> rfl)
  simp only [Nat.add_zero] at hst
  simp [Builtin.clear_, run_underlying Try.underlying22, hv, hzc, hst]
theorem esCells_app (a b : List Edg) : esCells (a ++ b) = esCells a ++ esCells b := by simp [esCells, List.flatMap_append]
theorem esCells_erase (E : List Edg) (i : Nat) (hi : i < E.length) : esCells (E.eraseIdx i) = (esCells E).take (i * 3) ++ (esCells E).drop ((i + 1) * 3) := by
  have e1 : esCells E = esCells (E.take i) ++ esCells (E.drop i) := by rw [← esCells_app, List.take_append_drop]
  have e2 : esCells E = esCells (E.take (i + 1)) ++ esCells (E.drop (i + 1)) := by rw [← esCells_app, List.take_append_drop]
  have l1 : (esCells (E.take i)).length = i * 3 := by rw [esCells_length, List.length_take]; congr 1; omega
  have l2 : (esCells (E.take (i + 1))).length = (i + 1) * 3 := by rw [esCells_length, List.length_take]; congr 1; omega
  rw [List.eraseIdx_eq_take_drop_succ, esCells_app]
  congr 1
  · rw [e1, ← l1, List.take_left]
  · rw [e2, ← l2, List.drop_left]
set_option maxRecDepth 20000 in
set_option maxHeartbeats 4000000 in
theorem delE (B : Nat) (w : World) (A : Option Addr) (c : Nat) (E : List Edg) (e : Nat) (ho : Own w B 68 3 A E.length c (esCells E)) (he : e < E.length) (hn : E.length ≤ 1000000) :
    Calls Try.prog 38 #[.slice A E.length c, .int .i64 (e : Int), .int .i64 ((e : Int) + 1)] w fun x w' => x = .returned (.slice A (E.eraseIdx e).length c) ∧ Touch (fun k => ∃ p, A = some p ∧ p.block = k) w w' ∧ Own w' B 68 3 A (E.eraseIdx e).length c (esCells (E.eraseIdx e)) := by
  obtain ⟨i0, _, hi0, hz0, hz1, hz2⟩ : ∃ (i : TypeInfo) (z : Value), Try.prog.info? 68 = some i ∧ i.zero = some z ∧ i.size = 3 ∧ i.bytes = 24 := by
    have h : (Try.prog.info? 68).map (fun i => (i.zero, i.size, i.bytes)) = some (some (.agg #[.int .i64 0, .int .i64 0, .int .u64 0]), 3, 24) := by kernel_rfl
    obtain ⟨i, h1, h2, h3, h4⟩ := info_parts h
    exact ⟨i, _, h1, h2, h3, h4⟩
  obtain ⟨g, cur, rfl, hB, hh, hnc, hsz, htk⟩ := ho.at_ (by omega)
  have hm : c ≤ maxLen := by
    rcases ho.2 with ⟨h1, _⟩ | ⟨g2, cap, cur2, h1, _, _, _, h5, _⟩
    · cases h1
    · injection h1 with _ _ h7; subst h7; exact h5
  have hlE : (esCells E).length = E.length * 3 := esCells_length E
  have hcur : ∀ k, k < E.length * 3 → cur[k]? = (esCells E)[k]? := fun k hk => by
    rw [← htk, List.getElem?_take, if_pos hk]
    simp
  obtain ⟨news, hnews⟩ : ∃ news, news = (esCells E).drop ((e + 1) * 3) := ⟨_, rfl⟩
  have hlen : news.length = (E.length - (e + 1)) * 3 := by rw [hnews, List.length_drop, hlE, Nat.sub_mul]
  have hcell : ∀ k, w.drew.cell? ⟨g, k, none⟩ = cur[k]? := fun k => by show w.cell? _ = _; simp [World.cell?, hh]
  have hfroz : ∀ k, w.drew.frozen? ⟨g, k, none⟩ = false := fun k => by show w.frozen? _ = _; simp [World.frozen?, hh]
  obtain ⟨ad, hA, hsrc⟩ : ∃ ad : Addr, (if c = e + 1 then some (⟨g, 0, none⟩ : Addr) else some ⟨g, (e + 1) * 3, none⟩) = some ad ∧ Hid (∀ t u, news[t]? = some u → w.drew.cell? (ad.add t) = some u) := by
    by_cases h : c = e + 1
    · refine ⟨⟨g, 0, none⟩, by simp [h], fun t u hu => ?_⟩
      have h0 : news.length = 0 := by rw [hlen]; have : E.length - (e + 1) = 0 := by omega
                                      rw [this]
      rw [List.length_eq_zero_iff.1 h0] at hu
      simp at hu
    · refine ⟨⟨g, (e + 1) * 3, none⟩, by simp [h], fun t u hu => ?_⟩
      have ht : t < (E.length - (e + 1)) * 3 := by
        have := (List.getElem?_eq_some_iff.1 hu).1
        rwa [hlen] at this
      rw [hnews, List.getElem?_drop] at hu
      rw [Addr.add_lit, hcell, hcur _ (by omega)]
      exact hu
  have s1 : Hid (news.length = (E.length - (e + 1)) * 3) := hlen
  have s2 : Hid (∀ u ∈ news, u.oneCell' = true) := fun u hu => es_one E u (by rw [hnews] at hu; exact List.mem_of_mem_drop hu)
  have s3 : Hid (∀ t, t < news.length → (w.drew.cell? ⟨g, 0 + e * 3 + t, none⟩).isSome = true ∧ w.drew.frozen? ⟨g, 0 + e * 3 + t, none⟩ = false) := fun t ht => by
    rw [hlen] at ht
    refine ⟨?_, hfroz _⟩
    rw [hcell, hcur _ (by omega), List.getElem?_eq_getElem (by rw [hlE]; omega)]
    rfl
  obtain ⟨W1, hW1⟩ : ∃ W1, W1 = w.drew.setCells g (0 + e * 3) news := ⟨_, rfl⟩
  have hh1 : W1.heap[g]? = some (.cells (layA cur (e * 3) news) 68 (0, 0)) := by
    rw [hW1, Nat.zero_add]
    exact setCells_at news w.drew cur (e * 3) hh
  have hsz1 : (layA cur (e * 3) news).size = c * 3 := by rw [layA_size, hsz]
  have hcl : ∀ ty cc, (Builtin.clear_ #[22] ty #[.slice (some ⟨g, (E.length - 1) * 3, none⟩) 1 cc]).run Try.prog W1 = .ok (.tuple #[]) (W1.setCells g ((E.length - 1) * 3) [.int .i64 0, .int .i64 0, .int .u64 0]) := fun ty cc =>
    run_clearE W1 ty g ((E.length - 1) * 3) cc (fun j hj => by simp only [World.cell?, hh1]; rw [Array.getElem?_eq_getElem (by rw [hsz1]; omega)]; rfl) (fun j hj => by simp [World.frozen?, hh1])
  have HT := hide (show Touch (fun k => ∃ p, some (⟨g, 0, none⟩ : Addr) = some p ∧ p.block = k) w (W1.setCells g ((E.length - 1) * 3) [.int .i64 0, .int .i64 0, .int .u64 0]) from by
    rw [hW1]
    exact ((((Touch.refl (fun k => k = g) w).drew).trans (setCells_touch _ _ _)).trans (setCells_touch _ _ _)).mono (fun k hk => ⟨_, rfl, hk.symm⟩))
  have hle : (E.eraseIdx e).length = E.length - 1 := List.length_eraseIdx_of_lt he
  have HO := hide (show Own (W1.setCells g ((E.length - 1) * 3) [.int .i64 0, .int .i64 0, .int .u64 0]) B 68 3 (some ⟨g, 0, none⟩) (E.eraseIdx e).length c (esCells (E.eraseIdx e)) from by
    have hh2 := setCells_at [.int .i64 0, .int .i64 0, .int .u64 0] W1 _ ((E.length - 1) * 3) hh1
    refine ⟨esCells_length _, .inr ⟨g, c, _, rfl, hB, hh2, by omega, hm, by rw [layA_size, hsz1], ?_⟩⟩
    rw [hle, esCells_erase E e he]
    apply List.ext_getElem?
    intro k
    rw [List.getElem?_take]
    have l1 : ((esCells E).take (e * 3)).length = e * 3 := by rw [List.length_take, hlE]; omega
    by_cases hk : k < (E.length - 1) * 3
    · rw [if_pos hk, Array.getElem?_toList, layA_get _ _ _ _ (by rw [hsz1]; simp; omega), if_neg (by omega), layA_get _ _ _ _ (by rw [hsz, hlen]; omega)]
      by_cases hk2 : k < e * 3
      · rw [if_neg (by omega), List.getElem?_append_left (by rw [l1]; exact hk2), List.getElem?_take, if_pos hk2]
        exact hcur k (by omega)
      · rw [if_pos (by rw [hlen]; omega), List.getElem?_append_right (by rw [l1]; omega), l1, hnews]
    · rw [if_neg hk, List.getElem?_eq_none (by rw [List.length_append, l1, List.length_drop, hlE]; omega)])
  have HW : Hid (W1 = w.drew.setCells g (0 + e * 3) news) := hW1
  clear hh hcur hcell hfroz hh1 hsz1 hW1 ho hB hsz htk hlE hnews hlen
  have mixed : Try.prog.follows .mixedOrders = true := by kernel_rfl
  have hic : e ≤ c := by omega
  have hjc : e + 1 ≤ c := by omega
  have hq : e + (E.length - (e + 1)) = E.length - 1 := by omega
  have hq2 : E.length - (E.length - 1) = 1 := by omega
  have hq3 : ¬ c = E.length - 1 := by omega
  have hq4 : E.length - 1 ≤ E.length := by omega
  have hq5 : E.length - 1 ≤ c := by omega
  have h01 : 0 ≤ (e : Int) + 1 := by omega
  have h02 : (e : Int) + 1 ≤ (E.length : Int) := by omega
  go_enter Try.func38, Try.ntmps38
  go_wp2_with fail
  go_region_law_o (refine step_append_room rfl (.tmp 22) (.tmp 25) 22 rfl 68 i0 3 Try.underlying22 hi0 hz1 g 0 e c (by simp [Act.eval, Act.put]) ad (E.length - (e + 1)) (c - (e + 1)) news (by simp [Act.eval, Act.put]) s1.out hsrc.out s2.out (by omega) s3.out ?_; rw [← HW.out])
  go_wp2_with fail
  go_ret
  exact ⟨by rw [hle]; rfl, HT.out, HO.out⟩
end Go.Proofs.Ytomednfddpggaaa

/- Regions that draw their order, inside a round of a range over a function: the same one walk. -/
namespace Go.Proofs.Ytomednfddpggaaa
open Go Go.RowKit

/-- A fence that lets all in. -/
structure WideF (F : Fence) : Prop where
  fn : ∀ f, F.fn f
  calls : ∀ (n : Nat) (P : Program) (f : FuncId) (args : Array Value) (w : World) (R : Ending → World → Prop), Calls P f args w R → CallsIn F n P f args w R
  depth : F.depth = none
theorem wideF_wide : WideF Fence.wide := ⟨fun _ => trivial, fun _ _ _ _ _ _ h => callsIn_wide.2 h, rfl⟩
theorem wideF_round (l : Nat) : WideF (Fence.wide.inRound l) := ⟨fun _ => trivial, fun _ _ _ _ _ _ h => callsIn_wide.2 h, rfl⟩

theorem wide_fn (f : FuncId) : Fence.wide.fn f = True := rfl
theorem wide_depth : Fence.wide.depth = none := rfl
attribute [go_sem] wide_fn wide_depth

def noDefer (l : List Oper) : Bool := l.all fun o => match o.op with | .defer _ => false | _ => true

section
variable {F : Fence} {m : Nat} {P : Program} {ops : Array Oper} {md : Region.Mode} {w0 : World}

theorem semAt_of {o : Oper} (h : (match o.op with | .defer _ => false | _ => true) = true) (r : Option Nat) (ρ : Operand → Value) : o.semAt r ρ = execOp ρ o := by
  cases r with
  | none => exact Oper.semAt_none ρ o
  | some l => exact Oper.semAt_some l ρ o fun c e => by rw [e] at h; cases h

theorem wpIn_of_runs (hF : WideF F) {o : Oper} (hd : (match o.op with | .defer _ => false | _ => true) = true) {a' : Act} {w : World} {q : Value → World → Prop} {K : Act → World → Prop} {Q : Exit → Act → World → Prop}
    (hrun : runsTo P q ((execOp a'.eval o).run P w)) (hK : ∀ u w', q u w' → K (a'.put o.dst u) w') : o.wpIn F m P a' w K Q := by
  unfold Oper.wpIn
  refine ⟨fun f _ => hF.fn f, ?_⟩
  rw [semAt_of hd]
  generalize (execOp a'.eval o).run P w = res at hrun
  cases res with
  | halt x w' => simp only [runsTo] at hrun
  | ok x w' =>
    cases x <;> simp only [runsTo] at hrun <;> simp only [Oper.uponIn]
    case value u => exact hK _ _ hrun
    case skip => exact hK _ _ hrun
    case enter f args =>
      refine ⟨fun h => (by rw [hF.depth] at h; cases h), hF.calls _ _ _ _ _ _ (hrun.mono fun e w'' ⟨u, he, hq⟩ => ?_)⟩
      subst he
      exact hK _ _ hq

theorem wpAnyIn_of_gAny (hF : WideF F) (hnd : ∀ o ∈ ops.toList, (match o.op with | .defer _ => false | _ => true) = true) {Q : Exit → Act → World → Prop} : ∀ (n : Nat) (l : Array Bool) (a : Act) (G : Env) (a' : Act) (w : World), Grows w0 w → AllLast G → Conc G a a' w →
    gAny P md ops w0 (fun a G => ∀ w, Grows w0 w → ∀ a', Conc G a a' w → Q .normal a' w) n l a G → wpAnyIn F m P md ops Q n l a' w
  | 0, _, _, _, _, _, hw, _, hc, h => ⟨h.1, h.2 _ hw _ hc⟩
  | n + 1, l, a, G, a', w, hw, hG, hc, h => by
    refine ⟨fun h0 => h.1 h0 _ hw _ hc, fun i hi => ?_⟩
    have h1 := h.2 i hi
    unfold gOp at h1
    unfold wpOpIn
    split
    · rename_i ho
      simp only [ho] at h1
      exact wpAnyIn_of_gAny hF hnd n _ a G a' w hw hG hc h1
    · rename_i o ho
      simp only [ho] at h1
      obtain ⟨r, ⟨hg, hd, hy⟩, hK⟩ := h1
      rw [wanted_conc hg hc]
      rcases hy with ⟨hwant, hl, hf, howe⟩ | ⟨hwant, rfl⟩
      · rw [if_pos hwant]
        exact wpIn_of_runs hF (hnd o (by have := Array.mem_of_getElem? ho; simpa using this)) (howe w hw a' (fun t _ => hc.2 t)) fun u w' hq =>
          wpAnyIn_of_gAny hF hnd n _ _ _ _ _ (hw.trans hq.1) (hG.putG hl) (hc.step hG hq.1 hd hf hq.2) hK
      · rw [hwant]
        simp only [Bool.false_eq_true, if_false]
        refine ⟨fun f _ => hF.fn f, ?_⟩
        have hG0 : putG G o.dst (.inl undef) = G := by cases o.dst <;> rfl
        rw [hG0] at hK
        have hc0 := hc.step hG (Grows.refl w) hd (r := .inl undef) (u := undef) trivial rfl
        rw [hG0] at hc0
        exact wpAnyIn_of_gAny hF hnd n _ _ _ _ _ hw hG hc0 hK

theorem wpIn_region_from (hF : WideF F) {w0 : World} {id : Nat} {Q : Exit → Act → World → Prop} {a : Act} {w : World} {l : List Oper} (hm : P.follows .mixedOrders = true) (hB : Region.lexB .any l.toArray = true) (hnd : noDefer l = true)
    (hw0 : Grows w0 w) (h : gLex P l.toArray w0 (fun a G => ∀ w', Grows w0 w' → ∀ a', Conc G a a' w' → Q .normal a' w') l a Env.no) : (Code.region id l.toArray true).wpIn F m P Q a w := by
  simp only [Region.lexB, Bool.and_eq_true] at hB
  refine wpIn_region_any hm (wpAnyIn_of_gAny hF (by simpa [noDefer, List.all_eq_true] using hnd) (w0 := w0) _ _ a Env.no _ _ (hw0.trans (Grows.drawn w _)) (fun t p h => by cases h) ⟨rfl, fun t => rfl⟩ ?_)
  have := gAny_of_lex (ops := l.toArray) (md := .any) l 0 (Array.replicate l.length false) a Env.no (by simp) (by simpa using hB.2) h
  simpa using this

theorem wpIn_region_gen (hF : WideF F) {id : Nat} {Q : Exit → Act → World → Prop} {a : Act} {w : World} {l : List Oper} (hm : P.follows .mixedOrders = true) (hB : Region.lexB .any l.toArray = true) (hnd : noDefer l = true)
    (h : gLex P l.toArray w (fun a G => ∀ w', Grows w w' → ∀ a', Conc G a a' w' → Q .normal a' w') l a Env.no) : (Code.region id l.toArray true).wpIn F m P Q a w :=
  wpIn_region_from hF hm hB hnd (Grows.refl w) h
theorem wpIn_region_gen2 (hF : WideF F) {id : Nat} {Q : Exit → Act → World → Prop} {a : Act} {w : World} {x : Later w} {l : List Oper} (hm : P.follows .mixedOrders = true) (hB : Region.lexB .any l.toArray = true) (hnd : noDefer l = true)
    (h : gLex P l.toArray w (fun a G => ∀ w', Grows w w' → ∀ a', Conc G a a' w' → Q .normal a' w') l a Env.no) : (Code.region id l.toArray true).wpIn F m P Q a x.now :=
  wpIn_region_from hF hm hB hnd x.grows h
/-- What holds of the plain walk of a list of operations holds in a round. -/
theorem calls_in (hF : WideF F) {f : FuncId} {args : Array Value} {w : World} {R : Ending → World → Prop} (h : Calls P f args w R) : CallsIn F m P f args w R := hF.calls _ _ _ _ _ _ h
end
end Go.Proofs.Ytomednfddpggaaa
