/- The law LocalLess: for every input it returns true, and each argument reads as before. No condition. -/
import Derived.Test.YtiljgkaffgclgaaQLocalLess02
import Derived.Test.YtiljgkaffgclgaaQMarksBounds13
import Derived.Test.YtiljgkaffgclgaaQMarksBounds15
/- The law LocalLess, walked: a way that has no part that is not as short as any passes at each place, and whoever passes with a ratio passes with a lesser one. -/
namespace Go.Proofs.Ytiljgkaffgclgaa
open Go Go.RowKit
def cmpI (x y : Int) : Int := if x < y then -1 else if y < x then 1 else 0
set_option maxRecDepth 20000 in
set_option maxHeartbeats 4000000 in
theorem r2Cmp (a b a' b' : Int) (w : World) (h1 : rrB a b = true) (h2 : rrB a' b' = true) :
    Calls Try.prog 36 #[.agg #[.int .u64 a, .int .u64 b], .agg #[.int .u64 a', .int .u64 b']] w fun e w' => e = .returned (.int .i64 (cmpI (a * b') (a' * b))) ∧ Grows w w' := by
  obtain ⟨p1, p2, p3, p4⟩ := rrB_spec h1
  obtain ⟨q1, q2, q3, q4⟩ := rrB_spec h2
  have C1 := hide (fun (W : World) => rRight a b W (rrB_u64 h1).1)
  have C2 := hide (fun (W : World) => rRight a' b' W (rrB_u64 h2).1)
  rw [h1] at C1
  rw [h2] at C2
  have x0 : 0 ≤ a * b' := Int.mul_nonneg p1 (by omega)
  have y0 : 0 ≤ a' * b := Int.mul_nonneg q1 (by omega)
  have x1 : a * b' ≤ 1048576 * 1048576 := Int.mul_le_mul p2 q4 (by omega) (by omega)
  have y1 : a' * b ≤ 1048576 * 1048576 := Int.mul_le_mul q2 p4 (by omega) (by omega)
  have HC := hide (show cmpI (a * b') (a' * b) = if a * b' < a' * b then -1 else if a' * b < a * b' then 1 else 0 from rfl)
  obtain ⟨r, hr⟩ : ∃ r, cmpI (a * b') (a' * b) = r := ⟨_, rfl⟩
  rw [hr] at HC ⊢
  clear hr h1 h2
  have x2 : a * b' < 18446744073709551616 := by omega
  have y2 : a' * b < 18446744073709551616 := by omega
  clear x1 y1
  by_cases g1 : a * b' < a' * b
  · skip
    go_enter Try.func36, Try.ntmps36
    go_wp2_with fail
    refine (C1.out _).mono ?_; rintro e w' ⟨rfl, hg⟩; obtain ⟨z1, rfl⟩ := hg.later; clear hg
    go_wp2_with fail
    refine (C2.out _).mono ?_; rintro e w' ⟨rfl, hg⟩; obtain ⟨z2, rfl⟩ := hg.later; clear hg
    go_upto_region 3 with fail
    ((first | refine wp_region_gen (by kernel_rfl) (by kernel_rfl) ?_); (repeat' (first | (refine gLex_val0 rfl (by kernel_rfl) (fun K hK => ?_); (go_simp; (try (simp only [↓IntWalk.iteOmega]; try go_simp)); (try simp (disch := omega) only [IntWalk.i64_in]); (try simp (disch := omega) only [IntWalk.u64_in]); first | (refine hK _ ?_; clear hK K) | (apply Exists.intro; refine ⟨fun x => ?_, hK _ ?_⟩; (first | fail); clear hK K))) | (refine gLex_undef rfl rfl rfl (by kernel_rfl) (fun K hK => ?_); go_simp; refine hK _ ?_; clear hK K) | (refine gLex_ask rfl rfl rfl ?_; first | (apply gAsk_yes; kernel_rfl; intro K hK; (go_simp; (try (simp only [↓IntWalk.iteOmega]; try go_simp)); (try simp (disch := omega) only [IntWalk.i64_in]); (try simp (disch := omega) only [IntWalk.u64_in]); first | (refine hK _ ?_; clear hK K) | (apply Exists.intro; refine ⟨fun x => ?_, hK _ ?_⟩; (first | fail); clear hK K))) | ((first | apply gAsk_no1 | apply gAsk_no2); kernel_rfl; intro K hK; simp [go_sem]; refine hK _ ?_; clear hK K) | (apply gAsk_part; kernel_rfl; all_goals (intro h K hK; (try simp only [Bool.not_true] at h); (try simp only [Bool.not_false] at h); (try simp only [decide_eq_true_eq] at h); (try simp only [decide_eq_false_iff_not] at h); first | (exfalso; first | contradiction | omega) | (go_simp; (try (simp only [↓IntWalk.iteOmega]; try go_simp)); (try simp (disch := omega) only [IntWalk.i64_in]); (try simp (disch := omega) only [IntWalk.u64_in]); first | (refine hK _ ?_; clear hK K) | (apply Exists.intro; refine ⟨fun x => ?_, hK _ ?_⟩; (first | fail); clear hK K))))))); all_goals ((apply gLex_end); intro x))
    go_wp2_with fail
    go_ret
    exact ⟨by rw [HC.out, if_pos g1]; rfl, (by repeat (first | exact Grows.refl _ | refine Grows.now ?_ _ | refine Grows.new ?_ _ | refine Grows.drewN ?_ _ | refine Grows.drew ?_ | assumption | (refine Grows.set ?_ (by first | omega | (simp; done) | (simp; omega)) _)))⟩
  · by_cases g2 : a' * b < a * b'
    · skip
      go_enter Try.func36, Try.ntmps36
      go_wp2_with fail
      refine (C1.out _).mono ?_; rintro e w' ⟨rfl, hg⟩; obtain ⟨z1, rfl⟩ := hg.later; clear hg
      go_wp2_with fail
      refine (C2.out _).mono ?_; rintro e w' ⟨rfl, hg⟩; obtain ⟨z2, rfl⟩ := hg.later; clear hg
      go_upto_region 3 with fail
      ((first | refine wp_region_gen (by kernel_rfl) (by kernel_rfl) ?_); (repeat' (first | (refine gLex_val0 rfl (by kernel_rfl) (fun K hK => ?_); (go_simp; (try (simp only [↓IntWalk.iteOmega]; try go_simp)); (try simp (disch := omega) only [IntWalk.i64_in]); (try simp (disch := omega) only [IntWalk.u64_in]); first | (refine hK _ ?_; clear hK K) | (apply Exists.intro; refine ⟨fun x => ?_, hK _ ?_⟩; (first | fail); clear hK K))) | (refine gLex_undef rfl rfl rfl (by kernel_rfl) (fun K hK => ?_); go_simp; refine hK _ ?_; clear hK K) | (refine gLex_ask rfl rfl rfl ?_; first | (apply gAsk_yes; kernel_rfl; intro K hK; (go_simp; (try (simp only [↓IntWalk.iteOmega]; try go_simp)); (try simp (disch := omega) only [IntWalk.i64_in]); (try simp (disch := omega) only [IntWalk.u64_in]); first | (refine hK _ ?_; clear hK K) | (apply Exists.intro; refine ⟨fun x => ?_, hK _ ?_⟩; (first | fail); clear hK K))) | ((first | apply gAsk_no1 | apply gAsk_no2); kernel_rfl; intro K hK; simp [go_sem]; refine hK _ ?_; clear hK K) | (apply gAsk_part; kernel_rfl; all_goals (intro h K hK; (try simp only [Bool.not_true] at h); (try simp only [Bool.not_false] at h); (try simp only [decide_eq_true_eq] at h); (try simp only [decide_eq_false_iff_not] at h); first | (exfalso; first | contradiction | omega) | (go_simp; (try (simp only [↓IntWalk.iteOmega]; try go_simp)); (try simp (disch := omega) only [IntWalk.i64_in]); (try simp (disch := omega) only [IntWalk.u64_in]); first | (refine hK _ ?_; clear hK K) | (apply Exists.intro; refine ⟨fun x => ?_, hK _ ?_⟩; (first | fail); clear hK K))))))); all_goals ((apply gLex_end); intro x))
      go_wp2_with fail
      go_ret
      exact ⟨by rw [HC.out, if_neg (show ¬ a * b' < a' * b by omega), if_pos g2]; rfl, (by repeat (first | exact Grows.refl _ | refine Grows.now ?_ _ | refine Grows.new ?_ _ | refine Grows.drewN ?_ _ | refine Grows.drew ?_ | assumption | (refine Grows.set ?_ (by first | omega | (simp; done) | (simp; omega)) _)))⟩
    · skip
      go_enter Try.func36, Try.ntmps36
      go_wp2_with fail
      refine (C1.out _).mono ?_; rintro e w' ⟨rfl, hg⟩; obtain ⟨z1, rfl⟩ := hg.later; clear hg
      go_wp2_with fail
      refine (C2.out _).mono ?_; rintro e w' ⟨rfl, hg⟩; obtain ⟨z2, rfl⟩ := hg.later; clear hg
      go_upto_region 3 with fail
      ((first | refine wp_region_gen (by kernel_rfl) (by kernel_rfl) ?_); (repeat' (first | (refine gLex_val0 rfl (by kernel_rfl) (fun K hK => ?_); (go_simp; (try (simp only [↓IntWalk.iteOmega]; try go_simp)); (try simp (disch := omega) only [IntWalk.i64_in]); (try simp (disch := omega) only [IntWalk.u64_in]); first | (refine hK _ ?_; clear hK K) | (apply Exists.intro; refine ⟨fun x => ?_, hK _ ?_⟩; (first | fail); clear hK K))) | (refine gLex_undef rfl rfl rfl (by kernel_rfl) (fun K hK => ?_); go_simp; refine hK _ ?_; clear hK K) | (refine gLex_ask rfl rfl rfl ?_; first | (apply gAsk_yes; kernel_rfl; intro K hK; (go_simp; (try (simp only [↓IntWalk.iteOmega]; try go_simp)); (try simp (disch := omega) only [IntWalk.i64_in]); (try simp (disch := omega) only [IntWalk.u64_in]); first | (refine hK _ ?_; clear hK K) | (apply Exists.intro; refine ⟨fun x => ?_, hK _ ?_⟩; (first | fail); clear hK K))) | ((first | apply gAsk_no1 | apply gAsk_no2); kernel_rfl; intro K hK; simp [go_sem]; refine hK _ ?_; clear hK K) | (apply gAsk_part; kernel_rfl; all_goals (intro h K hK; (try simp only [Bool.not_true] at h); (try simp only [Bool.not_false] at h); (try simp only [decide_eq_true_eq] at h); (try simp only [decide_eq_false_iff_not] at h); first | (exfalso; first | contradiction | omega) | (go_simp; (try (simp only [↓IntWalk.iteOmega]; try go_simp)); (try simp (disch := omega) only [IntWalk.i64_in]); (try simp (disch := omega) only [IntWalk.u64_in]); first | (refine hK _ ?_; clear hK K) | (apply Exists.intro; refine ⟨fun x => ?_, hK _ ?_⟩; (first | fail); clear hK K))))))); all_goals ((apply gLex_end); intro x))
      go_wp2_with fail
      go_ret
      exact ⟨by rw [HC.out, if_neg (show ¬ a * b' < a' * b by omega), if_neg (show ¬ a' * b < a * b' by omega)]; rfl, (by repeat (first | exact Grows.refl _ | refine Grows.now ?_ _ | refine Grows.new ?_ _ | refine Grows.drewN ?_ _ | refine Grows.drew ?_ | assumption | (refine Grows.set ?_ (by first | omega | (simp; done) | (simp; omega)) _)))⟩
set_option maxRecDepth 20000 in
set_option maxHeartbeats 4000000 in
theorem loTestNo (N : Int) (A : Option Addr) (c : Nat) (E : List Edg) (s : Int) (B : Option Addr) (d : Nat) (l : List Int) (at_ a b base : Int) (w : World) (h : Rd w A 3 E.length (esCells E)) (h2 : Rd w B 1 l.length (l.map (.int .i64))) (hl : l.length ≤ 1000) (hE : E.length ≤ 1000000)
    (his : isB N E s l = false) :
    Calls Try.prog 33 #[.agg #[.int .i64 N, .slice A E.length c], .int .i64 s, .slice B l.length d, .int .i64 at_, .agg #[.int .u64 a, .int .u64 b], .int .u64 base] w fun e w' => e = .returned (.bool false) ∧ Grows w w' := by
  have C1 := hide (fun (W : World) (g : Grows w W) => pNodes N A E.length c E s B l.length d l W (h.grows g) hE (h2.grows g) (by omega))
  rw [his] at C1
  clear h h2
  go_enter Try.func33, Try.ntmps33
  go_wp2_with fail
  refine (C1.out _ (by repeat (first | exact Grows.refl _ | refine Grows.now ?_ _ | refine Grows.new ?_ _ | refine Grows.drewN ?_ _ | refine Grows.drew ?_ | assumption | (refine Grows.set ?_ (by first | omega | (simp; done) | (simp; omega)) _)))).mono ?_; rintro e w' ⟨A1, c1, rfl, _, hg⟩; obtain ⟨x1, rfl⟩ := hg.later; clear hg
  go_wp2_with fail
  go_ret
  exact ⟨rfl, (by repeat (first | exact Grows.refl _ | refine Grows.now ?_ _ | refine Grows.new ?_ _ | refine Grows.drewN ?_ _ | refine Grows.drew ?_ | assumption | (refine Grows.set ?_ (by first | omega | (simp; done) | (simp; omega)) _)))⟩
set_option maxRecDepth 40000 in
set_option maxHeartbeats 8000000 in
theorem localLessW (N : Int) (A : Option Addr) (n c : Nat) (E : List Edg) (s : Int) (B : Option Addr) (m d : Nat) (l : List Int) (at_ : Int) (a b a' b' : Int) (w : World)
    (_ : I64 N) (_ : n ≤ c) (h : Rd w A 3 n (esCells E)) (_ : ∀ k, k < n → edgOk (ge E k)) (_ : -9223372036854775808 ≤ s ∧ s < 9223372036854775808) (_ : m ≤ d) (h2 : Rd w B 1 m (l.map (.int .i64))) (_ : ∀ z ∈ l, (Lit.int .i64 z).wf = true) (_ : -9223372036854775808 ≤ at_ ∧ at_ < 9223372036854775808) (ua : U64 a) (_ : U64 b) (ua' : U64 a') (_ : U64 b') :
    Calls Try.prog 5 #[.agg #[.int .i64 N, .slice A n c], .int .i64 s, .slice B m d, .int .i64 at_, .agg #[.int .u64 a, .int .u64 b], .agg #[.int .u64 a', .int .u64 b']] w fun e w' => e = .returned (.bool true) ∧ Grows w w' := by
  obtain rfl : E.length = n := h.elen
  obtain rfl : l.length = m := by simpa using h2.len
  have CL := hide (fun (W : World) => lLight N A E.length c W)
  cases hq : lightG N E.length with
  | false =>
    rw [hq] at CL
    clear h h2 ua ua'
    go_enter Try.func5, Try.ntmps5
    go_wp2_with (first | (go_at_call 29; refine (CL.out _).mono ?_; rintro e w' ⟨rfl, hg⟩; (first | obtain ⟨x, rfl⟩ := Grows.later2 hg | obtain ⟨x, rfl⟩ := Grows.later hg); clear hg) | (go_at_call 30; refine (alive27 _).mono ?_; rintro e w' ⟨rfl, hg⟩; (first | obtain ⟨x, rfl⟩ := Grows.later2 hg | obtain ⟨x, rfl⟩ := Grows.later hg); clear hg))
    go_ret
    exact ⟨rfl, (by repeat (first | exact Grows.refl _ | refine Grows.now ?_ _ | refine Grows.new ?_ _ | refine Grows.drewN ?_ _ | refine Grows.drew ?_ | assumption | (refine Grows.set ?_ (by first | omega | (simp; done) | (simp; omega)) _)))⟩
  | true =>
    rw [hq] at CL
    have hE : E.length ≤ 1000000 := by unfold lightG at hq; simp at hq; omega
    clear hq
    by_cases hbad : (20 < N ∧ N ≤ 4096) ∨ 20 < l.length ∨ at_ < 0 ∨ (l.length : Int) < at_
    · clear h h2 ua ua'
      by_cases h1 : 20 < N ∧ N ≤ 4096
      · obtain ⟨h1, h3⟩ := h1
        clear hbad
        go_enter Try.func5, Try.ntmps5
        go_wp2_with fail
        refine (CL.out _).mono ?_; rintro e w' ⟨rfl, hg⟩; obtain ⟨x1, rfl⟩ := hg.later; clear hg
        go_wp2_with fail
        refine (alive27 _).mono ?_; rintro e w' ⟨rfl, hg⟩; obtain ⟨x7, rfl⟩ := hg.later; clear hg
        go_wp2_with fail
        go_ret
        exact ⟨rfl, (by repeat (first | exact Grows.refl _ | refine Grows.now ?_ _ | refine Grows.new ?_ _ | refine Grows.drewN ?_ _ | refine Grows.drew ?_ | assumption | (refine Grows.set ?_ (by first | omega | (simp; done) | (simp; omega)) _)))⟩
      · by_cases h4 : 20 < N
        · have h5 : 4096 < N := by omega
          clear h1
          by_cases h6 : 20 < l.length
          · clear hbad
            go_enter Try.func5, Try.ntmps5
            go_wp2_with fail
            refine (CL.out _).mono ?_; rintro e w' ⟨rfl, hg⟩; obtain ⟨x1, rfl⟩ := hg.later; clear hg
            go_wp2_with fail
            refine (alive27 _).mono ?_; rintro e w' ⟨rfl, hg⟩; obtain ⟨x7, rfl⟩ := hg.later; clear hg
            go_wp2_with fail
            go_ret
            exact ⟨rfl, (by repeat (first | exact Grows.refl _ | refine Grows.now ?_ _ | refine Grows.new ?_ _ | refine Grows.drewN ?_ _ | refine Grows.drew ?_ | assumption | (refine Grows.set ?_ (by first | omega | (simp; done) | (simp; omega)) _)))⟩
          · by_cases h7 : at_ < 0
            · clear hbad
              go_enter Try.func5, Try.ntmps5
              go_wp2_with fail
              refine (CL.out _).mono ?_; rintro e w' ⟨rfl, hg⟩; obtain ⟨x1, rfl⟩ := hg.later; clear hg
              go_wp2_with fail
              refine (alive27 _).mono ?_; rintro e w' ⟨rfl, hg⟩; obtain ⟨x7, rfl⟩ := hg.later; clear hg
              go_wp2_with fail
              go_ret
              exact ⟨rfl, (by repeat (first | exact Grows.refl _ | refine Grows.now ?_ _ | refine Grows.new ?_ _ | refine Grows.drewN ?_ _ | refine Grows.drew ?_ | assumption | (refine Grows.set ?_ (by first | omega | (simp; done) | (simp; omega)) _)))⟩
            · have h8 : (l.length : Int) < at_ := by omega
              clear hbad
              go_enter Try.func5, Try.ntmps5
              go_wp2_with fail
              refine (CL.out _).mono ?_; rintro e w' ⟨rfl, hg⟩; obtain ⟨x1, rfl⟩ := hg.later; clear hg
              go_wp2_with fail
              refine (alive27 _).mono ?_; rintro e w' ⟨rfl, hg⟩; obtain ⟨x7, rfl⟩ := hg.later; clear hg
              go_wp2_with fail
              go_ret
              exact ⟨rfl, (by repeat (first | exact Grows.refl _ | refine Grows.now ?_ _ | refine Grows.new ?_ _ | refine Grows.drewN ?_ _ | refine Grows.drew ?_ | assumption | (refine Grows.set ?_ (by first | omega | (simp; done) | (simp; omega)) _)))⟩
        · clear h1
          by_cases h6 : 20 < l.length
          · clear hbad
            go_enter Try.func5, Try.ntmps5
            go_wp2_with fail
            refine (CL.out _).mono ?_; rintro e w' ⟨rfl, hg⟩; obtain ⟨x1, rfl⟩ := hg.later; clear hg
            go_wp2_with fail
            refine (alive27 _).mono ?_; rintro e w' ⟨rfl, hg⟩; obtain ⟨x7, rfl⟩ := hg.later; clear hg
            go_wp2_with fail
            go_ret
            exact ⟨rfl, (by repeat (first | exact Grows.refl _ | refine Grows.now ?_ _ | refine Grows.new ?_ _ | refine Grows.drewN ?_ _ | refine Grows.drew ?_ | assumption | (refine Grows.set ?_ (by first | omega | (simp; done) | (simp; omega)) _)))⟩
          · by_cases h7 : at_ < 0
            · clear hbad
              go_enter Try.func5, Try.ntmps5
              go_wp2_with fail
              refine (CL.out _).mono ?_; rintro e w' ⟨rfl, hg⟩; obtain ⟨x1, rfl⟩ := hg.later; clear hg
              go_wp2_with fail
              refine (alive27 _).mono ?_; rintro e w' ⟨rfl, hg⟩; obtain ⟨x7, rfl⟩ := hg.later; clear hg
              go_wp2_with fail
              go_ret
              exact ⟨rfl, (by repeat (first | exact Grows.refl _ | refine Grows.now ?_ _ | refine Grows.new ?_ _ | refine Grows.drewN ?_ _ | refine Grows.drew ?_ | assumption | (refine Grows.set ?_ (by first | omega | (simp; done) | (simp; omega)) _)))⟩
            · have h8 : (l.length : Int) < at_ := by omega
              clear hbad
              go_enter Try.func5, Try.ntmps5
              go_wp2_with fail
              refine (CL.out _).mono ?_; rintro e w' ⟨rfl, hg⟩; obtain ⟨x1, rfl⟩ := hg.later; clear hg
              go_wp2_with fail
              refine (alive27 _).mono ?_; rintro e w' ⟨rfl, hg⟩; obtain ⟨x7, rfl⟩ := hg.later; clear hg
              go_wp2_with fail
              go_ret
              exact ⟨rfl, (by repeat (first | exact Grows.refl _ | refine Grows.now ?_ _ | refine Grows.new ?_ _ | refine Grows.drewN ?_ _ | refine Grows.drew ?_ | assumption | (refine Grows.set ?_ (by first | omega | (simp; done) | (simp; omega)) _)))⟩
    · have hl20 : l.length ≤ 20 := by omega
      have hl : l.length ≤ 1000 := by omega
      have hat0 : ¬ at_ < 0 := by omega
      have hat1 : ¬ (l.length : Int) < at_ := by omega
      have hNN : ¬ (20 < N ∧ N ≤ 4096) := by omega
      have CW := hide (fun (W : World) (g : Grows w W) => r8Weight N A E.length c E B l.length d l W (h.grows g) hE (h2.grows g) (by omega))
      have CN := hide (fun (W : World) (g : Grows w W) => r8Nodes N A E.length c E s B l.length d l W (h.grows g) hE (h2.grows g) (by omega))
      clear hbad
      cases his : isB N E s l with
      | false =>
        have CT := hide (fun (z : Int) (W : World) (g : Grows w W) => loTestNo N A c E s B d l at_ a b z W (h.grows g) (h2.grows g) hl hE his)
        rw [his] at CN
        obtain ⟨bs, hbs⟩ : ∃ bs, (if edgesB N E l then wtK E l l.length else 0) = bs := ⟨_, rfl⟩
        rw [hbs] at CW
        generalize edgesB N E l = eb at *
        clear h h2 his ua ua' hbs
        by_cases hN20 : 20 < N
        · have hN4 : ¬ N ≤ 4096 := by omega
          clear hNN
          go_enter Try.func5, Try.ntmps5
          go_wp2_with fail
          refine (CL.out _).mono ?_; rintro e w' ⟨rfl, hg⟩; obtain ⟨x1, rfl⟩ := hg.later; clear hg
          have b1 : Arr x1.now w.heap.size 24 [.int .i64 N, .slice A E.length c] := Arr.grow ⟨by simp [heap_push, Array.getElem_push, Array.getElem?_push, eq_add2]⟩ x1.grows
          have b2 : Arr x1.now (w.heap.size + 1) 56 [.int .u64 a, .int .u64 b] := Arr.grow ⟨by simp [heap_push, Array.getElem_push, Array.getElem?_push, eq_add2]⟩ x1.grows
          go_wp2_with fail
          refine (CW.out _ (by repeat (first | exact Grows.refl _ | refine Grows.now ?_ _ | refine Grows.new ?_ _ | refine Grows.drewN ?_ _ | refine Grows.drew ?_ | assumption | (refine Grows.set ?_ (by first | omega | (simp; done) | (simp; omega)) _)))).mono ?_; rintro e w' ⟨rfl, hg⟩; obtain ⟨x2, rfl⟩ := hg.later; clear hg
          go_wp2_with fail
          refine (CN.out _ (by repeat (first | exact Grows.refl _ | refine Grows.now ?_ _ | refine Grows.new ?_ _ | refine Grows.drewN ?_ _ | refine Grows.drew ?_ | assumption | (refine Grows.set ?_ (by first | omega | (simp; done) | (simp; omega)) _)))).mono ?_; rintro e w' ⟨A1, c1, rfl, _, hg⟩; obtain ⟨x3, rfl⟩ := hg.later; clear hg
          go_wp2_with fail
          refine (CT.out _ _ (by repeat (first | exact Grows.refl _ | refine Grows.now ?_ _ | refine Grows.new ?_ _ | refine Grows.drewN ?_ _ | refine Grows.drew ?_ | assumption | (refine Grows.set ?_ (by first | omega | (simp; done) | (simp; omega)) _)))).mono ?_; rintro e w' ⟨rfl, hg⟩; obtain ⟨x4, rfl⟩ := hg.later; clear hg
          go_wp2_with fail
          refine (alive27 _).mono ?_; rintro e w' ⟨rfl, hg⟩; obtain ⟨x7, rfl⟩ := hg.later; clear hg
          go_wp2_with fail
          go_ret
          exact ⟨rfl, (by repeat (first | exact Grows.refl _ | refine Grows.now ?_ _ | refine Grows.new ?_ _ | refine Grows.drewN ?_ _ | refine Grows.drew ?_ | assumption | (refine Grows.set ?_ (by first | omega | (simp; done) | (simp; omega)) _)))⟩
        · clear hNN
          go_enter Try.func5, Try.ntmps5
          go_wp2_with fail
          refine (CL.out _).mono ?_; rintro e w' ⟨rfl, hg⟩; obtain ⟨x1, rfl⟩ := hg.later; clear hg
          have b1 : Arr x1.now w.heap.size 24 [.int .i64 N, .slice A E.length c] := Arr.grow ⟨by simp [heap_push, Array.getElem_push, Array.getElem?_push, eq_add2]⟩ x1.grows
          have b2 : Arr x1.now (w.heap.size + 1) 56 [.int .u64 a, .int .u64 b] := Arr.grow ⟨by simp [heap_push, Array.getElem_push, Array.getElem?_push, eq_add2]⟩ x1.grows
          go_wp2_with fail
          refine (CW.out _ (by repeat (first | exact Grows.refl _ | refine Grows.now ?_ _ | refine Grows.new ?_ _ | refine Grows.drewN ?_ _ | refine Grows.drew ?_ | assumption | (refine Grows.set ?_ (by first | omega | (simp; done) | (simp; omega)) _)))).mono ?_; rintro e w' ⟨rfl, hg⟩; obtain ⟨x2, rfl⟩ := hg.later; clear hg
          go_wp2_with fail
          refine (CN.out _ (by repeat (first | exact Grows.refl _ | refine Grows.now ?_ _ | refine Grows.new ?_ _ | refine Grows.drewN ?_ _ | refine Grows.drew ?_ | assumption | (refine Grows.set ?_ (by first | omega | (simp; done) | (simp; omega)) _)))).mono ?_; rintro e w' ⟨A1, c1, rfl, _, hg⟩; obtain ⟨x3, rfl⟩ := hg.later; clear hg
          go_wp2_with fail
          refine (CT.out _ _ (by repeat (first | exact Grows.refl _ | refine Grows.now ?_ _ | refine Grows.new ?_ _ | refine Grows.drewN ?_ _ | refine Grows.drew ?_ | assumption | (refine Grows.set ?_ (by first | omega | (simp; done) | (simp; omega)) _)))).mono ?_; rintro e w' ⟨rfl, hg⟩; obtain ⟨x4, rfl⟩ := hg.later; clear hg
          go_wp2_with fail
          refine (alive27 _).mono ?_; rintro e w' ⟨rfl, hg⟩; obtain ⟨x7, rfl⟩ := hg.later; clear hg
          go_wp2_with fail
          go_ret
          exact ⟨rfl, (by repeat (first | exact Grows.refl _ | refine Grows.now ?_ _ | refine Grows.new ?_ _ | refine Grows.drewN ?_ _ | refine Grows.drew ?_ | assumption | (refine Grows.set ?_ (by first | omega | (simp; done) | (simp; omega)) _)))⟩
      | true =>
        obtain ⟨hr, _, _, hed⟩ := isB_right his
        have hNpos := (right_in hr).1
        have hN4 : N ≤ 4096 := (right_in hr).2.1
        have hN20 : ¬ 20 < N := by omega
        obtain ⟨NN, rfl⟩ : ∃ NN : Nat, N = NN := ⟨N.toNat, by omega⟩
        obtain ⟨F, T, hM⟩ := mks_any hr
        rw [his] at CN
        rw [hed, if_pos rfl] at CW
        have hwb := wtK_bd hed l.length (Nat.le_refl _)
        have hbase : U64 (wtK E l l.length) := ⟨hwb.1, by omega⟩
        have CT := hide (fun (p q : Int) (W : World) (g : Grows w W) => loTest NN A c E F T hM s B d l at_ p q (wtK E l l.length) W (h.grows g) (h2.grows g) hl hE his hbase)
        have CB := hide (fun (W : World) (g : Grows w W) => loWorst NN A c E F T hM s B d l W (h.grows g) (h2.grows g) hl hE his)
        have CR1 := hide (fun (W : World) => rRight a b W ua)
        have CR2 := hide (fun (W : World) => rRight a' b' W ua')
        have HALL := hide (fun (hno : ∀ i' j', i' < j' → j' ≤ l.length → badB E F s l i' j' = false) (hrr : rrB a b = true) => show tsB (NN : Int) E F s l at_ a b (wtK E l l.length) = true from
          loc_all his ⟨by omega, by omega⟩ hrr (fun i j hij hj => by
            obtain ⟨_, h4⟩ := part_le2 hM his hij hj
            unfold exB
            rw [decide_eq_true_eq]
            by_cases e : i = j
            · subst e
              rw [hM.self (nk_in his i hj).1]
              omega
            · have h5 := hno i j (by omega) hj
              unfold badB at h5
              rw [decide_eq_false_iff_not] at h5
              omega))
        have HLES := hide (fun (h3 : rrB a b = true) (h4 : rrB a' b' = true) (h5 : a' * b ≤ a * b') (h6 : tsB (NN : Int) E F s l at_ a b (wtK E l l.length) = true) => loc_less hM h3 h4 hwb.1 h5 h6)
        clear h h2 hM hr hed hwb hbase his ua ua' hNN
        generalize wtK E l l.length = bs at *
        generalize nodesL (NN : Int) E s l = ns at *
        cases hra : rrB a b with
        | false =>
          rw [hra] at CR1
          clear HALL HLES
          go_enter Try.func5, Try.ntmps5
          go_wp2_with fail
          refine (CL.out _).mono ?_; rintro e w' ⟨rfl, hg⟩; obtain ⟨x1, rfl⟩ := hg.later; clear hg
          have b1 : Arr x1.now w.heap.size 24 [.int .i64 (NN : Int), .slice A E.length c] := Arr.grow ⟨by simp [heap_push, Array.getElem_push, Array.getElem?_push, eq_add2]⟩ x1.grows
          have b2 : Arr x1.now (w.heap.size + 1) 56 [.int .u64 a, .int .u64 b] := Arr.grow ⟨by simp [heap_push, Array.getElem_push, Array.getElem?_push, eq_add2]⟩ x1.grows
          go_wp2_with fail
          refine (CW.out _ (by repeat (first | exact Grows.refl _ | refine Grows.now ?_ _ | refine Grows.new ?_ _ | refine Grows.drewN ?_ _ | refine Grows.drew ?_ | assumption | (refine Grows.set ?_ (by first | omega | (simp; done) | (simp; omega)) _)))).mono ?_; rintro e w' ⟨rfl, hg⟩; obtain ⟨x2, rfl⟩ := hg.later; clear hg
          go_wp2_with fail
          refine (CN.out _ (by repeat (first | exact Grows.refl _ | refine Grows.now ?_ _ | refine Grows.new ?_ _ | refine Grows.drewN ?_ _ | refine Grows.drew ?_ | assumption | (refine Grows.set ?_ (by first | omega | (simp; done) | (simp; omega)) _)))).mono ?_; rintro e w' ⟨A1, c1, rfl, _, hg⟩; obtain ⟨x3, rfl⟩ := hg.later; clear hg
          go_wp2_with fail
          refine (CR1.out _).mono ?_; rintro e w' ⟨rfl, hg⟩; obtain ⟨x4, rfl⟩ := hg.later; clear hg
          go_wp2_with fail
          refine (alive27 _).mono ?_; rintro e w' ⟨rfl, hg⟩; obtain ⟨x7, rfl⟩ := hg.later; clear hg
          go_wp2_with fail
          go_ret
          exact ⟨rfl, (by repeat (first | exact Grows.refl _ | refine Grows.now ?_ _ | refine Grows.new ?_ _ | refine Grows.drewN ?_ _ | refine Grows.drew ?_ | assumption | (refine Grows.set ?_ (by first | omega | (simp; done) | (simp; omega)) _)))⟩
        | true =>
          rw [hra] at CR1
          go_enter Try.func5, Try.ntmps5
          go_wp2_with fail
          refine (CL.out _).mono ?_; rintro e w' ⟨rfl, hg⟩; obtain ⟨x1, rfl⟩ := hg.later; clear hg
          have b1 : Arr x1.now w.heap.size 24 [.int .i64 (NN : Int), .slice A E.length c] := Arr.grow ⟨by simp [heap_push, Array.getElem_push, Array.getElem?_push, eq_add2]⟩ x1.grows
          have b2 : Arr x1.now (w.heap.size + 1) 56 [.int .u64 a, .int .u64 b] := Arr.grow ⟨by simp [heap_push, Array.getElem_push, Array.getElem?_push, eq_add2]⟩ x1.grows
          have b3 : Arr x1.now (w.heap.size + 1 + 1) 56 [.int .u64 a', .int .u64 b'] := Arr.grow ⟨by simp [heap_push, Array.getElem_push, Array.getElem?_push, eq_add2]⟩ x1.grows
          go_wp2_with fail
          refine (CW.out _ (by repeat (first | exact Grows.refl _ | refine Grows.now ?_ _ | refine Grows.new ?_ _ | refine Grows.drewN ?_ _ | refine Grows.drew ?_ | assumption | (refine Grows.set ?_ (by first | omega | (simp; done) | (simp; omega)) _)))).mono ?_; rintro e w' ⟨rfl, hg⟩; obtain ⟨x2, rfl⟩ := hg.later; clear hg
          go_wp2_with fail
          refine (CN.out _ (by repeat (first | exact Grows.refl _ | refine Grows.now ?_ _ | refine Grows.new ?_ _ | refine Grows.drewN ?_ _ | refine Grows.drew ?_ | assumption | (refine Grows.set ?_ (by first | omega | (simp; done) | (simp; omega)) _)))).mono ?_; rintro e w' ⟨A1, c1, rfl, _, hg⟩; obtain ⟨x3, rfl⟩ := hg.later; clear hg
          go_wp2_with fail
          refine (CR1.out _).mono ?_; rintro e w' ⟨rfl, hg⟩; obtain ⟨x4, rfl⟩ := hg.later; clear hg
          go_wp2_with fail
          refine (CR2.out _).mono ?_; rintro e w' ⟨rfl, hg⟩; obtain ⟨x5, rfl⟩ := hg.later; clear hg
          cases hrb : rrB a' b' with
          | false =>
            clear HALL HLES
            go_wp2_with fail
            refine (alive27 _).mono ?_; rintro e w' ⟨rfl, hg⟩; obtain ⟨x7, rfl⟩ := hg.later; clear hg
            go_wp2_with fail
            go_ret
            exact ⟨rfl, (by repeat (first | exact Grows.refl _ | refine Grows.now ?_ _ | refine Grows.new ?_ _ | refine Grows.drewN ?_ _ | refine Grows.drew ?_ | assumption | (refine Grows.set ?_ (by first | omega | (simp; done) | (simp; omega)) _)))⟩
          | true =>
            have CC := hide (fun (W : World) => r2Cmp a b a' b' W hra hrb)
            have HL2 := hide (HLES.out hra hrb)
            have HA2 := hide (fun h => HALL.out h hra)
            clear HALL HLES hra hrb
            have hcm : (0 ≤ cmpI (a * b') (a' * b) ∧ a' * b ≤ a * b') ∨ cmpI (a * b') (a' * b) < 0 := by
              unfold cmpI
              by_cases h1 : a * b' < a' * b
              · rw [if_pos h1]; exact .inr (by omega)
              · rw [if_neg h1]
                left
                split <;> omega
            generalize cmpI (a * b') (a' * b) = cr at *
            go_wp2_with fail
            refine (CB.out _ (by repeat (first | exact Grows.refl _ | refine Grows.now ?_ _ | refine Grows.new ?_ _ | refine Grows.drewN ?_ _ | refine Grows.drew ?_ | assumption | (refine Grows.set ?_ (by first | omega | (simp; done) | (simp; omega)) _)))).mono ?_
            rintro e w' ⟨⟨i, j, _, _, _, _, rfl⟩ | ⟨hno, rfl⟩, hg⟩
            · obtain ⟨x6, rfl⟩ := hg.later
              clear hg HA2
              go_wp2_with fail
              refine (CC.out _).mono ?_; rintro e w' ⟨rfl, hg⟩; obtain ⟨x8, rfl⟩ := hg.later; clear hg
              rcases hcm with ⟨hc1, hc2⟩ | hc1
              · have HT2 := hide (HL2.out hc2)
                clear hc2
                cases hta : tsB (NN : Int) E F s l at_ a b bs with
                | false =>
                  have CTa := hide (fun (W : World) (g : Grows w W) => show Calls Try.prog 33 #[.agg #[.int .i64 (NN : Int), .slice A E.length c], .int .i64 s, .slice B l.length d, .int .i64 at_, .agg #[.int .u64 a, .int .u64 b], .int .u64 bs] W fun e w' => e = .returned (.bool false) ∧ Grows W w' from by have := CT.out a b W g; rwa [hta] at this)
                  clear hta HT2
                  go_wp2_with fail
                  refine (CTa.out _ (by repeat (first | exact Grows.refl _ | refine Grows.now ?_ _ | refine Grows.new ?_ _ | refine Grows.drewN ?_ _ | refine Grows.drew ?_ | assumption | (refine Grows.set ?_ (by first | omega | (simp; done) | (simp; omega)) _)))).mono ?_; rintro e w' ⟨rfl, hg⟩; obtain ⟨x9, rfl⟩ := hg.later; clear hg
                  go_wp2_with fail
                  refine (alive27 _).mono ?_; rintro e w' ⟨rfl, hg⟩; obtain ⟨x10, rfl⟩ := hg.later; clear hg
                  go_wp2_with fail
                  go_ret
                  exact ⟨rfl, (by repeat (first | exact Grows.refl _ | refine Grows.now ?_ _ | refine Grows.new ?_ _ | refine Grows.drewN ?_ _ | refine Grows.drew ?_ | assumption | (refine Grows.set ?_ (by first | omega | (simp; done) | (simp; omega)) _)))⟩
                | true =>
                  have CTa := hide (fun (W : World) (g : Grows w W) => show Calls Try.prog 33 #[.agg #[.int .i64 (NN : Int), .slice A E.length c], .int .i64 s, .slice B l.length d, .int .i64 at_, .agg #[.int .u64 a, .int .u64 b], .int .u64 bs] W fun e w' => e = .returned (.bool true) ∧ Grows W w' from by have := CT.out a b W g; rwa [hta] at this)
                  have CTb := hide (fun (W : World) (g : Grows w W) => show Calls Try.prog 33 #[.agg #[.int .i64 (NN : Int), .slice A E.length c], .int .i64 s, .slice B l.length d, .int .i64 at_, .agg #[.int .u64 a', .int .u64 b'], .int .u64 bs] W fun e w' => e = .returned (.bool true) ∧ Grows W w' from by have := CT.out a' b' W g; rwa [HT2.out hta] at this)
                  clear hta HT2
                  go_wp2_with fail
                  refine (CTa.out _ (by repeat (first | exact Grows.refl _ | refine Grows.now ?_ _ | refine Grows.new ?_ _ | refine Grows.drewN ?_ _ | refine Grows.drew ?_ | assumption | (refine Grows.set ?_ (by first | omega | (simp; done) | (simp; omega)) _)))).mono ?_; rintro e w' ⟨rfl, hg⟩; obtain ⟨x9, rfl⟩ := hg.later; clear hg
                  go_wp2_with fail
                  refine (CTb.out _ (by repeat (first | exact Grows.refl _ | refine Grows.now ?_ _ | refine Grows.new ?_ _ | refine Grows.drewN ?_ _ | refine Grows.drew ?_ | assumption | (refine Grows.set ?_ (by first | omega | (simp; done) | (simp; omega)) _)))).mono ?_; rintro e w' ⟨rfl, hg⟩; obtain ⟨x11, rfl⟩ := hg.later; clear hg
                  go_wp2_with fail
                  refine (alive27 _).mono ?_; rintro e w' ⟨rfl, hg⟩; obtain ⟨x10, rfl⟩ := hg.later; clear hg
                  go_wp2_with fail
                  go_ret
                  exact ⟨rfl, (by repeat (first | exact Grows.refl _ | refine Grows.now ?_ _ | refine Grows.new ?_ _ | refine Grows.drewN ?_ _ | refine Grows.drew ?_ | assumption | (refine Grows.set ?_ (by first | omega | (simp; done) | (simp; omega)) _)))⟩
              · go_wp2_with fail
                refine (alive27 _).mono ?_; rintro e w' ⟨rfl, hg⟩; obtain ⟨x10, rfl⟩ := hg.later; clear hg
                go_wp2_with fail
                go_ret
                exact ⟨rfl, (by repeat (first | exact Grows.refl _ | refine Grows.now ?_ _ | refine Grows.new ?_ _ | refine Grows.drewN ?_ _ | refine Grows.drew ?_ | assumption | (refine Grows.set ?_ (by first | omega | (simp; done) | (simp; omega)) _)))⟩
            · obtain ⟨x6, rfl⟩ := hg.later
              have hta := HA2.out hno
              have CTa := hide (fun (W : World) (g : Grows w W) => show Calls Try.prog 33 #[.agg #[.int .i64 (NN : Int), .slice A E.length c], .int .i64 s, .slice B l.length d, .int .i64 at_, .agg #[.int .u64 a, .int .u64 b], .int .u64 bs] W fun e w' => e = .returned (.bool true) ∧ Grows W w' from by have := CT.out a b W g; rwa [hta] at this)
              have HTA := hide hta
              clear hg HA2 hno hta
              go_wp2_with fail
              refine (CTa.out _ (by repeat (first | exact Grows.refl _ | refine Grows.now ?_ _ | refine Grows.new ?_ _ | refine Grows.drewN ?_ _ | refine Grows.drew ?_ | assumption | (refine Grows.set ?_ (by first | omega | (simp; done) | (simp; omega)) _)))).mono ?_; rintro e w' ⟨rfl, hg⟩; obtain ⟨x7, rfl⟩ := hg.later; clear hg
              go_wp2_with fail
              refine (CC.out _).mono ?_; rintro e w' ⟨rfl, hg⟩; obtain ⟨x8, rfl⟩ := hg.later; clear hg
              rcases hcm with ⟨hc1, hc2⟩ | hc1
              · have CTb := hide (fun (W : World) (g : Grows w W) => show Calls Try.prog 33 #[.agg #[.int .i64 (NN : Int), .slice A E.length c], .int .i64 s, .slice B l.length d, .int .i64 at_, .agg #[.int .u64 a', .int .u64 b'], .int .u64 bs] W fun e w' => e = .returned (.bool true) ∧ Grows W w' from by have := CT.out a' b' W g; rwa [HL2.out hc2 HTA.out] at this)
                clear hc2
                go_wp2_with fail
                refine (CTa.out _ (by repeat (first | exact Grows.refl _ | refine Grows.now ?_ _ | refine Grows.new ?_ _ | refine Grows.drewN ?_ _ | refine Grows.drew ?_ | assumption | (refine Grows.set ?_ (by first | omega | (simp; done) | (simp; omega)) _)))).mono ?_; rintro e w' ⟨rfl, hg⟩; obtain ⟨x9, rfl⟩ := hg.later; clear hg
                go_wp2_with fail
                refine (CTb.out _ (by repeat (first | exact Grows.refl _ | refine Grows.now ?_ _ | refine Grows.new ?_ _ | refine Grows.drewN ?_ _ | refine Grows.drew ?_ | assumption | (refine Grows.set ?_ (by first | omega | (simp; done) | (simp; omega)) _)))).mono ?_; rintro e w' ⟨rfl, hg⟩; obtain ⟨x11, rfl⟩ := hg.later; clear hg
                go_wp2_with fail
                refine (alive27 _).mono ?_; rintro e w' ⟨rfl, hg⟩; obtain ⟨x10, rfl⟩ := hg.later; clear hg
                go_wp2_with fail
                go_ret
                exact ⟨rfl, (by repeat (first | exact Grows.refl _ | refine Grows.now ?_ _ | refine Grows.new ?_ _ | refine Grows.drewN ?_ _ | refine Grows.drew ?_ | assumption | (refine Grows.set ?_ (by first | omega | (simp; done) | (simp; omega)) _)))⟩
              · go_wp2_with fail
                refine (alive27 _).mono ?_; rintro e w' ⟨rfl, hg⟩; obtain ⟨x10, rfl⟩ := hg.later; clear hg
                go_wp2_with fail
                go_ret
                exact ⟨rfl, (by repeat (first | exact Grows.refl _ | refine Grows.now ?_ _ | refine Grows.new ?_ _ | refine Grows.drewN ?_ _ | refine Grows.drew ?_ | assumption | (refine Grows.set ?_ (by first | omega | (simp; done) | (simp; omega)) _)))⟩
end Go.Proofs.Ytiljgkaffgclgaa

/- The law LocalLess: for every input it returns true, and each argument reads as before. No condition. -/
namespace Go.Proofs.Ytiljgkaffgclgaa.lawLocalLess
open Go Go.ChangeShapes Go.WideShapes Go.ChangeAt Go.RowKit Go.Proofs.Ytiljgkaffgclgaa

theorem own : ownKnob Try.prog.godebug = none := by kernel_rfl
theorem laidOut : laidOutB Try.prog = true := by kernel_rfl

set_option maxRecDepth 100000 in
theorem lifted (os : Os) (started : os.Started) (H : Type) (enc : TypeId × Value → H) :
    ReturnsInHanded {} Try.checked os 5 .any (Rows.localLessSpec.pre6 enc Try.prog Try.f5 Rows.localLessRow.domain false) (Rows.localLessSpec.post enc Try.prog Try.f5 false true false false) := by
  refine returnsInHanded_of_change (C := Try.checked) own started (by kernel_rfl) Try.func5
    (ChangeSpec.witness6 (enc := enc) (C := Try.checked) false ⟨#[], #[.agg #[.int .i64 0, .slice none 0 0], .int .i64 0, .slice none 0 0, .int .i64 0, .agg #[.int .u64 0, .int .u64 0], .agg #[.int .u64 0, .int .u64 0]], []⟩ 8 (by kernel_rfl) (by kernel_rfl) (by kernel_rfl) (by kernel_rfl)) ?_
  intro W base args ds gs before hval0 hW hcnd _
  have hval : ∀ (j : Nat) t v, Try.f5.params[j]? = some t → args[j]? = some v → Value.okWide Try.prog W .any base t v := hval0
  have hW' := hW
  obtain ⟨p, q, hA0, hV, rfl, hfz, hnd⟩ := hW
  have hA : DataW.TrodAll enc Try.prog W 0 (fun _ => true) true Try.f5.params.toList args.toList ds p := hA0
  rw [Try.params5] at hA hval
  obtain ⟨v0, vs0, d0, ds0, p0, q0, hargs, rfl, rfl, h0, r0⟩ := trodAll_cons hA
  obtain ⟨v1, vs1, d1, ds1, p1, q1, rfl, rfl, rfl, h1, r1⟩ := trodAll_cons r0
  obtain ⟨v2, vs2, d2, ds2, p2, q2, rfl, rfl, rfl, h2, r2⟩ := trodAll_cons r1
  obtain ⟨v3, vs3, d3, ds3, p3, q3, rfl, rfl, rfl, h3, r3⟩ := trodAll_cons r2
  obtain ⟨v4, vs4, d4, ds4, p4, q4, rfl, rfl, rfl, h4, r4⟩ := trodAll_cons r3
  obtain ⟨v5, vs5, d5, ds5, p5, q5, rfl, rfl, rfl, h5, r5⟩ := trodAll_cons r4
  obtain ⟨rfl, rfl, rfl⟩ := trodAll_nil r5
  obtain rfl : args = #[v0, v1, v2, v3, v4, v5] := by cases args; simp_all
  obtain ⟨rfl, rfl⟩ := trodVars_none hV
  have k0 := h0
  have lt0 : ∀ x ∈ p0, x.block < W.heap.size := by obtain ⟨m, hm⟩ := k0; exact DataW.trod_lt m _ _ _ hm
  obtain ⟨a0, A0, n0, c0, z0, rfl, x0, l0, w0, u0⟩ := open_graph Try.underlying24 Try.underlying3 Try.underlying22 Try.underlying77 Try.underlying3 Try.underlying3 Try.underlying33 ⟨rfl, rfl, rfl⟩ ⟨by kernel_rfl, by kernel_rfl, by kernel_rfl⟩ (by kernel_rfl) (by kernel_rfl) (by kernel_rfl) (hval 0 24 v0 rfl rfl) h0
  have k1 := h1
  have lt1 : ∀ x ∈ p1, x.block < W.heap.size := by obtain ⟨m, hm⟩ := k1; exact DataW.trod_lt m _ _ _ hm
  obtain ⟨a1, rfl, w1⟩ := open_i64 Try.underlying3 (hval 1 3 v1 rfl rfl) h1
  have k2 := h2
  have lt2 : ∀ x ∈ p2, x.block < W.heap.size := by obtain ⟨m, hm⟩ := k2; exact DataW.trod_lt m _ _ _ hm
  obtain ⟨A2, n2, c2, z2, rfl, l2, w2, u2⟩ := open_numsC Try.underlying25 Try.underlying3 (by kernel_rfl) (hval 2 25 v2 rfl rfl) h2
  have k3 := h3
  have lt3 : ∀ x ∈ p3, x.block < W.heap.size := by obtain ⟨m, hm⟩ := k3; exact DataW.trod_lt m _ _ _ hm
  obtain ⟨a3, rfl, w3⟩ := open_i64 Try.underlying3 (hval 3 3 v3 rfl rfl) h3
  have k4 := h4
  have lt4 : ∀ x ∈ p4, x.block < W.heap.size := by obtain ⟨m, hm⟩ := k4; exact DataW.trod_lt m _ _ _ hm
  obtain ⟨a4, b4, rfl, w4, u4⟩ := open_uu Try.underlying56 Try.underlying33 Try.underlying33 (by kernel_rfl) (by kernel_rfl) (hval 4 56 v4 rfl rfl) h4
  have k5 := h5
  have lt5 : ∀ x ∈ p5, x.block < W.heap.size := by obtain ⟨m, hm⟩ := k5; exact DataW.trod_lt m _ _ _ hm
  obtain ⟨a5, b5, rfl, w5, u5⟩ := open_uu Try.underlying56 Try.underlying33 Try.underlying33 (by kernel_rfl) (by kernel_rfl) (hval 5 56 v5 rfl rfl) h5
  clear hA0 hval0
  refine (localLessW a0 A0 n0 c0 z0 a1 A2 n2 c2 z2 a3 a4 b4 a5 b5 W x0 l0 w0 u0 w1 l2 w2 u2 w3 w4 u4 w5 u5).mono fun e W' ⟨he, bel⟩ => ?_
  subst he
  exact ⟨_, rfl, _, _, _, [], _, [], hW', trodAll_mk1 (shut_bool Try.underlying4 _), (trodAll_cons_mk (Below.trod laidOut (by kernel_rfl) (of_decide_eq_true (by kernel_rfl)) k0 bel lt0) (trodAll_cons_mk (Below.trod laidOut (by kernel_rfl) (of_decide_eq_true (by kernel_rfl)) k1 bel lt1) (trodAll_cons_mk (Below.trod laidOut (by kernel_rfl) (of_decide_eq_true (by kernel_rfl)) k2 bel lt2) (trodAll_cons_mk (Below.trod laidOut (by kernel_rfl) (of_decide_eq_true (by kernel_rfl)) k3 bel lt3) (trodAll_cons_mk (Below.trod laidOut (by kernel_rfl) (of_decide_eq_true (by kernel_rfl)) k4 bel lt4) (trodAll_cons_mk (Below.trod laidOut (by kernel_rfl) (of_decide_eq_true (by kernel_rfl)) k5 bel lt5) trodAll_mk0)))))), rfl, Below.frame bel _, fun h => by cases h⟩

theorem over : Rows.localLessRow.holds Try.pinned (OpenSpec.ofChange Rows.localLessSpec) :=
  OpenClaim.holds_of_wide 5 Try.f5 rfl rfl rfl rfl rfl rfl rfl ⟨rfl, rfl, rfl, rfl, rfl⟩ rfl rfl rfl rfl rfl (by kernel_rfl) Try.func5 (by kernel_rfl)
    (of_decide_eq_true (by kernel_rfl)) (by unfold Func.isWrapper; first | (rw [if_pos (by decide +kernel)]; kernel_rfl) | (rw [if_neg (by decide +kernel)]; exact ⟨rfl, rfl⟩))
    (fun os started H enc _ => lifted os started H enc)

end Go.Proofs.Ytiljgkaffgclgaa.lawLocalLess
namespace Go.Proofs.Ytiljgkaffgclgaa
/-- The statement. -/
theorem localLess_proved : Rows.LocalLessSaid := lawLocalLess.over
#print axioms localLess_proved
end Go.Proofs.Ytiljgkaffgclgaa
