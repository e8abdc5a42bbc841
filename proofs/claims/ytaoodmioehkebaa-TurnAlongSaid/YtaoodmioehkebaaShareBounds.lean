/- The law ShareBounds: its walk. -/
import Derived.Test.YtaoodmioehkebaaOpenG
namespace Go.Proofs.Ytaoodmioehkebaa
open Go Go.RowKit Go.Maps
def lightG (N : Int) (n : Nat) : Bool := decide ((N ≤ 100 ∨ 4096 < N) ∧ n ≤ 300)
set_option maxHeartbeats 400000 in
theorem lLight (N : Int) (A : Option Addr) (n c : Nat) (w : World) : Calls Try.prog 30 #[.agg #[.int .i64 N, .slice A n c]] w fun e w' => e = .returned (.bool (lightG N n)) ∧ Grows w w' := by
  go_enter Try.func30, Try.ntmps30
  go_wp2
  all_goals go_ret
  all_goals exact ⟨ret_bool (bool_ext (by unfold lightG; simp; try omega)), (by repeat (first | exact Grows.refl _ | refine Grows.now ?_ _ | refine Grows.new ?_ _ | refine Grows.drewN ?_ _ | refine Grows.drew ?_ | assumption | (refine Grows.set ?_ (by first | omega | (simp; done) | (simp; omega)) _)))⟩

def lightR (n : Nat) (R : List Row) : Bool := decide (n ≤ 60 ∧ R.length ≤ 12 ∧ ∀ k, k < R.length → (gr R k).n ≤ 60)
set_option maxHeartbeats 1000000 in
theorem lLight26 (B : Option Addr) (n d : Nat) (B' : Option Addr) (n' d' : Nat) (R : List Row) (w : World) (hr : Rd w B' 1 n' (R.map rowVal)) :
    Calls Try.prog 31 #[.slice B n d, .slice B' n' d'] w fun e w' => e = .returned (.bool (lightR n R)) ∧ w = w' := by
  have HL := hide (show R.length = n' by simpa using hr.len)
  have HR := hide hr
  clear hr
  by_cases h1 : (60 : Int) < n
  · have HW : Hid (lightR n R = false) := decide_eq_false (by omega)
    go_enter Try.func31, Try.ntmps31
    go_wp2
    go_ret
    exact ⟨ret_bool HW.out.symm, rfl⟩
  by_cases h2 : (12 : Int) < n'
  · have HW : Hid (lightR n R = false) := decide_eq_false (by have := HL.out; omega)
    go_enter Try.func31, Try.ntmps31
    go_wp2
    go_ret
    exact ⟨ret_bool HW.out.symm, rfl⟩
  have hA : n ≤ 60 ∧ n' ≤ 12 := by omega
  obtain ⟨h3, h4⟩ := hA
  go_enter Try.func31, Try.ntmps31
  go_wp2
  go_loop [5] (fun i => ∃ k : Nat, k ≤ n' ∧ i = .int .i64 (k : Int) ∧ ∀ j, j < k → (gr R j).n ≤ 60) (fun i => n' - (intOf i).toNat)
  case atStart => exact ⟨0, by omega, by go_num, fun j h => by omega⟩
  case round =>
    obtain ⟨k, hk, rfl, hall⟩ := hrel
    have HA := hide hall
    clear hall
    by_cases hend : n' ≤ k
    · have HW : Hid (lightR n R = true) := decide_eq_true ⟨h3, by have := HL.out; omega, fun j hj => HA.out j (by have := HL.out; omega)⟩
      go_wp2
      go_ret
      exact ⟨ret_bool HW.out.symm, rfl⟩
    · obtain ⟨b, off, rfl, hc⟩ := HR.out.rows (by omega)
      have hc1 := hc k (by omega)
      clear hc
      by_cases h5 : (gr R k).n ≤ 60
      · go_wp2
        go_round
        case measure => simp [intOf]; omega
        case rel =>
          refine ⟨k + 1, by omega, by go_num, fun j hj => ?_⟩
          by_cases e : j = k
          · rw [e]; exact h5
          · exact HA.out j (by omega)
      · have HW : Hid (lightR n R = false) := decide_eq_false (fun h => h5 (h.2.2 k (by have := HL.out; omega)))
        go_wp2
        go_ret
        exact ⟨ret_bool HW.out.symm, rfl⟩

set_option maxRecDepth 20000 in
set_option maxHeartbeats 1000000 in
theorem alive26 (w : World) : Calls Try.prog 32 #[] w fun e w' => e = .returned (.bool true) ∧ Grows w w' := by
  have R1 : Rd ((w.alloc (.cells #[.int .i64 0, .int .i64 1, .int .i64 2] 3)).alloc (.cells #[.int .i64 1, .int .i64 2, .int .i64 5] 3)) (some ⟨w.heap.size, 0, none⟩) 1 3 (([0, 1, 2] : List Int).map (.int .i64)) :=
    (Rd.made [.int .i64 0, .int .i64 1, .int .i64 2] rfl).new _
  have R2 : Rd ((w.alloc (.cells #[.int .i64 0, .int .i64 1, .int .i64 2] 3)).alloc (.cells #[.int .i64 1, .int .i64 2, .int .i64 5] 3)) (some ⟨w.heap.size + 1, 0, none⟩) 1 3 (([1, 2, 5] : List Int).map (.int .i64)) := by
    have h := Rd.made (w := w.alloc (.cells #[.int .i64 0, .int .i64 1, .int .i64 2] 3)) (t := 3) (size := 1) (n := 3) [.int .i64 1, .int .i64 2, .int .i64 5] rfl
    rw [show (w.alloc (.cells #[.int .i64 0, .int .i64 1, .int .i64 2] 3)).heap.size = w.heap.size + 1 by simp] at h
    exact h
  have HC := hide (shStretches _ 3 3 [0, 1, 2] _ 3 3 [1, 2, 5] _ R1 (by omega) (by intro j hj; match j, hj with | 0, _ => exact ⟨by decide, by decide⟩ | 1, _ => exact ⟨by decide, by decide⟩ | 2, _ => exact ⟨by decide, by decide⟩)
      R2 (by omega) (by intro j hj; match j, hj with | 0, _ => exact ⟨by decide, by decide⟩ | 1, _ => exact ⟨by decide, by decide⟩ | 2, _ => exact ⟨by decide, by decide⟩))
  clear R1 R2
  have HS := hide (show ∀ o l : List Int, o = [1, 2, 5] → l = [0, 1, 2] → (stK (fun z => decide (z ∈ o)) l l.length).2 = [(1, 3)] from by rintro _ _ rfl rfl; decide +kernel)
  have heq : ∀ W : World, (Op.equalIn 10000 79 (.agg #[.int .i64 1, .int .i64 3]) (.agg #[.int .i64 1, .int .i64 3])).run Try.prog W = .ok true W := fun W => by kernel_rfl
  go_enter Try.func32, Try.ntmps32
  go_wp2_with fail
  refine HC.out.mono ?_
  rintro e w1 ⟨B, A, c, rfl, hB, hown, hg⟩
  rw [HS.out [1, 2, 5] [0, 1, 2] rfl rfl] at hown ⊢
  obtain ⟨x, rfl⟩ := hg.later
  obtain ⟨g, cur, rfl, hgB, _⟩ := hown.at_ (by simp)
  have hc0 : x.now.cell? ⟨g, 0, none⟩ = some (.int .i64 1) := hown.cell rfl rfl
  have hc1 : x.now.cell? ⟨g, 1, none⟩ = some (.int .i64 3) := hown.cell rfl rfl
  clear hown hg
  go_wp2
  all_goals go_ret
  all_goals exact ⟨rfl, (by repeat (first | exact Grows.refl _ | refine Grows.now ?_ _ | refine Grows.new ?_ _ | refine Grows.drewN ?_ _ | refine Grows.drew ?_ | assumption | (refine Grows.set ?_ (by first | omega | (simp; done) | (simp; omega)) _)))⟩

set_option maxRecDepth 20000 in
set_option maxHeartbeats 2000000 in
theorem shareBoundsW (N : Int) (A : Option Addr) (m c : Nat) (E : List Edg) (B : Option Addr) (n d : Nat) (l : List Int) (B' : Option Addr) (n' d' : Nat) (R : List Row) (a b base : Int) (w : World)
    (_ : I64 N) (_ : m ≤ c) (h : Rd w A 3 m (esCells E)) (_ : ∀ k, k < m → edgOk (ge E k)) (hnd : n ≤ d) (ha : Rd w B 1 n (l.map (.int .i64))) (_ : ∀ z ∈ l, (Lit.int .i64 z).wf = true) (_ : n' ≤ d') (hr : Rd w B' 1 n' (R.map rowVal)) (hR : ∀ k, k < n' → rowIn w (gr R k))
    (hua : U64 a) (_ : U64 b) (hb : U64 base) :
    Calls Try.prog 8 #[.agg #[.int .i64 N, .slice A m c], .slice B n d, .slice B' n' d', .agg #[.int .u64 a, .int .u64 b], .int .u64 base] w fun e w' => e = .returned (.bool true) ∧ Grows w w' := by
  have hl : R.length = n' := by simpa using hr.len
  have hok : rowsOk w R := fun k hk => (hR k (by omega)).1
  have C1 := fun W => lLight N A m c W
  have C2 := fun W (g : Grows w W) => calls_same (lLight26 B n d B' n' d' R W (hr.grows g))
  cases h1 : lightG N m with
  | false =>
    rw [h1] at C1
    have H1 := hide C1
    clear C1 C2 h1 h ha hr hR hok hua hb hl
    go_enter Try.func8, Try.ntmps8
    go_wp2_with (first | (go_at_call 30; refine (H1.out _).mono ?_; rintro e w' ⟨rfl, hg⟩; (first | obtain ⟨x, rfl⟩ := Grows.later2 hg | obtain ⟨x, rfl⟩ := Grows.later hg); clear hg) | (go_at_call 32; refine (alive26 _).mono ?_; rintro e w' ⟨rfl, hg⟩; (first | obtain ⟨x, rfl⟩ := Grows.later2 hg | obtain ⟨x, rfl⟩ := Grows.later hg); clear hg))
    go_ret
    exact ⟨rfl, (by repeat (first | exact Grows.refl _ | refine Grows.now ?_ _ | refine Grows.new ?_ _ | refine Grows.drewN ?_ _ | refine Grows.drew ?_ | assumption | (refine Grows.set ?_ (by first | omega | (simp; done) | (simp; omega)) _)))⟩
  | true =>
  cases h2 : lightR n R with
  | false =>
    rw [h1] at C1
    rw [h2] at C2
    have H1 := hide C1
    have H2 := hide C2
    clear C1 C2 h1 h2 h ha hr hR hok hua hb hl
    go_enter Try.func8, Try.ntmps8
    go_wp2_with (first | (go_at_call 30; refine (H1.out _).mono ?_; rintro e w' ⟨rfl, hg⟩; (first | obtain ⟨x, rfl⟩ := Grows.later2 hg | obtain ⟨x, rfl⟩ := Grows.later hg); clear hg) | (go_at_call 31; refine (H2.out _ (by repeat (first | exact Grows.refl _ | refine Grows.now ?_ _ | refine Grows.new ?_ _ | refine Grows.drewN ?_ _ | refine Grows.drew ?_ | assumption | (refine Grows.set ?_ (by first | omega | (simp; done) | (simp; omega)) _)))).mono ?_; rintro e w' ⟨rfl, hg⟩; (first | obtain ⟨x, rfl⟩ := Grows.later2 hg | obtain ⟨x, rfl⟩ := Grows.later hg); clear hg) | (go_at_call 32; refine (alive26 _).mono ?_; rintro e w' ⟨rfl, hg⟩; (first | obtain ⟨x, rfl⟩ := Grows.later2 hg | obtain ⟨x, rfl⟩ := Grows.later hg); clear hg))
    go_ret
    exact ⟨rfl, (by repeat (first | exact Grows.refl _ | refine Grows.now ?_ _ | refine Grows.new ?_ _ | refine Grows.drewN ?_ _ | refine Grows.drew ?_ | assumption | (refine Grows.set ?_ (by first | omega | (simp; done) | (simp; omega)) _)))⟩
  | true =>
    have q1 : (N ≤ 100 ∨ 4096 < N) ∧ m ≤ 300 := of_decide_eq_true h1
    have q2 : n ≤ 60 ∧ R.length ≤ 12 ∧ ∀ k, k < R.length → (gr R k).n ≤ 60 := of_decide_eq_true h2
    have hs : ∀ k, k < n' → (gr R k).n ≤ 1000000 := fun k hk => by have := q2.2.2 k (by omega); omega
    have hm : m ≤ 1000000 := by omega
    have hn : n ≤ 1000000 := by omega
    have hn' : n' ≤ 1000000 := by omega
    rw [h1] at C1
    rw [h2] at C2
    have H1 := hide C1
    have H2 := hide C2
    have H3 := hide (fun W (g : Grows w W) => r26With N A m c E B n d l B' n' d' R W (h.grows g) hm (ha.grows g) hn hnd (hr.grows g) hn' (hok.grows g) hs)
    have H4 := hide (fun W (g : Grows w W) => shWith N A m c E B n d l B' n' d' R W (h.grows g) hm (ha.grows g) hn (hr.grows g) hn' (hok.grows g) hs)
    have H5 := hide (fun W (g : Grows w W) => shLittle N A m c E B n d l B' n' d' R a b base W (h.grows g) hm (ha.grows g) hn (hr.grows g) hn' (hok.grows g) hs hb)
    have H6 := hide (fun W (g : Grows w W) => r26Little N A m c E B n d l B' n' d' R a b base W (h.grows g) hm (ha.grows g) hn hnd (hr.grows g) hn' (hok.grows g) hs hua hb)
    have H7 := hide (fun W => shShort (withK N E l R n') a b base W (withK_u64 _ _ _ _ _) hb)
    have H8 := hide (fun W => shShort base a b (withK N E l R n') W hb (withK_u64 _ _ _ _ _))
    have H9 := hide (fun W => rStretched (withK N E l R n') a b base W (withK_u64 _ _ _ _ _) hua hb)
    have H10 := hide (fun W => rStretched base a b (withK N E l R n') W hb hua (withK_u64 _ _ _ _ _))
    clear C1 C2 h1 h2 h ha hr hR hok hua hb hl q1 q2 hs hm hn hn'
    go_enter Try.func8, Try.ntmps8
    go_wp2_with (first | (go_at_call 30; refine (H1.out _).mono ?_; rintro e w' ⟨rfl, hg⟩; (first | obtain ⟨x, rfl⟩ := Grows.later2 hg | obtain ⟨x, rfl⟩ := Grows.later hg); clear hg) | (go_at_call 31; refine (H2.out _ (by repeat (first | exact Grows.refl _ | refine Grows.now ?_ _ | refine Grows.new ?_ _ | refine Grows.drewN ?_ _ | refine Grows.drew ?_ | assumption | (refine Grows.set ?_ (by first | omega | (simp; done) | (simp; omega)) _)))).mono ?_; rintro e w' ⟨rfl, hg⟩; (first | obtain ⟨x, rfl⟩ := Grows.later2 hg | obtain ⟨x, rfl⟩ := Grows.later hg); clear hg) | (go_at_call 33; refine (H3.out _ (by repeat (first | exact Grows.refl _ | refine Grows.now ?_ _ | refine Grows.new ?_ _ | refine Grows.drewN ?_ _ | refine Grows.drew ?_ | assumption | (refine Grows.set ?_ (by first | omega | (simp; done) | (simp; omega)) _)))).mono ?_; rintro e w' ⟨rfl, hg⟩; (first | obtain ⟨x, rfl⟩ := Grows.later2 hg | obtain ⟨x, rfl⟩ := Grows.later hg); clear hg))
    ((first | refine wp_region_gen2 (by kernel_rfl) (by kernel_rfl) ?_ | refine wp_region_gen (by kernel_rfl) (by kernel_rfl) ?_); (repeat' (first | (refine gLex_val0 rfl (by kernel_rfl) (fun K hK => ?_); (go_simp; (try (simp only [↓IntWalk.iteOmega]; try go_simp)); (try simp (disch := omega) only [IntWalk.i64_in]); (try simp (disch := omega) only [IntWalk.u64_in]); first | (refine hK _ ?_; clear hK K) | (apply Exists.intro; refine ⟨fun x => ?_, hK _ ?_⟩; (first | (go_at_call 34; exact H4.out _ (by repeat (first | exact Grows.refl _ | refine Grows.now ?_ _ | refine Grows.new ?_ _ | refine Grows.drewN ?_ _ | refine Grows.drew ?_ | assumption | (refine Grows.set ?_ (by first | omega | (simp; done) | (simp; omega)) _)))) | (go_at_call 35; exact H5.out _ (by repeat (first | exact Grows.refl _ | refine Grows.now ?_ _ | refine Grows.new ?_ _ | refine Grows.drewN ?_ _ | refine Grows.drew ?_ | assumption | (refine Grows.set ?_ (by first | omega | (simp; done) | (simp; omega)) _)))) | (go_at_call 36; exact H6.out _ (by repeat (first | exact Grows.refl _ | refine Grows.now ?_ _ | refine Grows.new ?_ _ | refine Grows.drewN ?_ _ | refine Grows.drew ?_ | assumption | (refine Grows.set ?_ (by first | omega | (simp; done) | (simp; omega)) _)))) | (go_at_call 37; first | with_reducible exact H7.out _ | with_reducible exact H8.out _) | (go_at_call 38; first | with_reducible exact H9.out _ | with_reducible exact H10.out _) | (go_at_call 32; exact alive26 _)); clear hK K))) | (refine gLex_undef rfl rfl rfl (by kernel_rfl) (fun K hK => ?_); go_simp; refine hK _ ?_; clear hK K) | (refine gLex_ask rfl rfl rfl ?_; first | (apply gAsk_yes; kernel_rfl; intro K hK; (go_simp; (try (simp only [↓IntWalk.iteOmega]; try go_simp)); (try simp (disch := omega) only [IntWalk.i64_in]); (try simp (disch := omega) only [IntWalk.u64_in]); first | (refine hK _ ?_; clear hK K) | (apply Exists.intro; refine ⟨fun x => ?_, hK _ ?_⟩; (first | (go_at_call 34; exact H4.out _ (by repeat (first | exact Grows.refl _ | refine Grows.now ?_ _ | refine Grows.new ?_ _ | refine Grows.drewN ?_ _ | refine Grows.drew ?_ | assumption | (refine Grows.set ?_ (by first | omega | (simp; done) | (simp; omega)) _)))) | (go_at_call 35; exact H5.out _ (by repeat (first | exact Grows.refl _ | refine Grows.now ?_ _ | refine Grows.new ?_ _ | refine Grows.drewN ?_ _ | refine Grows.drew ?_ | assumption | (refine Grows.set ?_ (by first | omega | (simp; done) | (simp; omega)) _)))) | (go_at_call 36; exact H6.out _ (by repeat (first | exact Grows.refl _ | refine Grows.now ?_ _ | refine Grows.new ?_ _ | refine Grows.drewN ?_ _ | refine Grows.drew ?_ | assumption | (refine Grows.set ?_ (by first | omega | (simp; done) | (simp; omega)) _)))) | (go_at_call 37; first | with_reducible exact H7.out _ | with_reducible exact H8.out _) | (go_at_call 38; first | with_reducible exact H9.out _ | with_reducible exact H10.out _) | (go_at_call 32; exact alive26 _)); clear hK K))) | ((first | apply gAsk_no1 | apply gAsk_no2); kernel_rfl; intro K hK; simp [go_sem]; refine hK _ ?_; clear hK K) | (apply gAsk_part; kernel_rfl; all_goals (intro h K hK; (try simp only [Bool.not_true] at h); (try simp only [Bool.not_false] at h); (try simp only [decide_eq_true_eq] at h); (try simp only [decide_eq_false_iff_not] at h); first | (exfalso; first | contradiction | omega) | (go_simp; (try (simp only [↓IntWalk.iteOmega]; try go_simp)); (try simp (disch := omega) only [IntWalk.i64_in]); (try simp (disch := omega) only [IntWalk.u64_in]); first | (refine hK _ ?_; clear hK K) | (apply Exists.intro; refine ⟨fun x => ?_, hK _ ?_⟩; (first | (go_at_call 34; exact H4.out _ (by repeat (first | exact Grows.refl _ | refine Grows.now ?_ _ | refine Grows.new ?_ _ | refine Grows.drewN ?_ _ | refine Grows.drew ?_ | assumption | (refine Grows.set ?_ (by first | omega | (simp; done) | (simp; omega)) _)))) | (go_at_call 35; exact H5.out _ (by repeat (first | exact Grows.refl _ | refine Grows.now ?_ _ | refine Grows.new ?_ _ | refine Grows.drewN ?_ _ | refine Grows.drew ?_ | assumption | (refine Grows.set ?_ (by first | omega | (simp; done) | (simp; omega)) _)))) | (go_at_call 36; exact H6.out _ (by repeat (first | exact Grows.refl _ | refine Grows.now ?_ _ | refine Grows.new ?_ _ | refine Grows.drewN ?_ _ | refine Grows.drew ?_ | assumption | (refine Grows.set ?_ (by first | omega | (simp; done) | (simp; omega)) _)))) | (go_at_call 37; first | with_reducible exact H7.out _ | with_reducible exact H8.out _) | (go_at_call 38; first | with_reducible exact H9.out _ | with_reducible exact H10.out _) | (go_at_call 32; exact alive26 _)); clear hK K))))))); all_goals ((apply gLex_end); intro x))
    go_wp2
    go_ret
    exact ⟨rfl, (by repeat (first | exact Grows.refl _ | refine Grows.now ?_ _ | refine Grows.new ?_ _ | refine Grows.drewN ?_ _ | refine Grows.drew ?_ | assumption | (refine Grows.set ?_ (by first | omega | (simp; done) | (simp; omega)) _)))⟩

end Go.Proofs.Ytaoodmioehkebaa
