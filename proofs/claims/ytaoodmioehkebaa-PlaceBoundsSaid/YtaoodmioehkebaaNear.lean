/- Contracts: which place lies nearest. -/
import Derived.Test.YtaoodmioehkebaaPlaces
namespace Go.Proofs.Ytaoodmioehkebaa
open Go Go.RowKit
theorem sqI_comm' (a b c d : Int) : sqI a b c d = sqI c d a b := by
  unfold sqI
  have e1 : (a - c) * (a - c) = (c - a) * (c - a) := by rw [show a - c = -(c - a) by omega, Int.neg_mul_neg]
  have e2 : (b - d) * (b - d) = (d - b) * (d - b) := by rw [show b - d = -(d - b) by omega, Int.neg_mul_neg]
  rw [e1, e2]
theorem sqV_comm' (a b c d : Int) : sqV a b c d = sqV c d a b := by
  unfold sqV
  rw [sqI_comm', Bool.and_comm]
def dS (p : Pl) (E : List Pl) (k : Nat) : Int := sqV p.x p.y (gp E k).x (gp E k).y
/-- The first one of the nearest ones of the first k. -/
def nb (p : Pl) (E : List Pl) : Nat → Nat
  | 0 => 0
  | k + 1 => if dS p E k < dS p E (nb p E k) then k else nb p E k
theorem nb_succ (p : Pl) (E : List Pl) (k : Nat) : nb p E (k + 1) = if dS p E k < dS p E (nb p E k) then k else nb p E k := rfl
theorem nb_lt (p : Pl) (E : List Pl) : ∀ k, 0 < k → nb p E k < k
  | 0, h => absurd h (by omega)
  | 1, _ => by rw [nb_succ]; simp [nb]
  | k + 2, _ => by
    rw [nb_succ]
    have := nb_lt p E (k + 1) (by omega)
    split <;> omega
def nearI (p : Pl) (E : List Pl) : Int := if E.length = 0 ∨ E.all okP = false ∨ okP p = false then -1 else nb p E E.length
def leastI (p : Pl) (E : List Pl) (k : Nat) : Int := if k = 0 then 18446744073709551615 else dS p E (nb p E k)
def bestI (p : Pl) (E : List Pl) (k : Nat) : Int := if k = 0 then -1 else nb p E k
theorem dS_bd (p : Pl) (E : List Pl) (k : Nat) : 0 ≤ dS p E k ∧ dS p E k ≤ 8796093022208 := sqV_bd _ _ _ _
theorem step_lt {p : Pl} {E : List Pl} {k : Nat} (h : dS p E k < leastI p E k) : bestI p E (k + 1) = k ∧ leastI p E (k + 1) = dS p E k := by
  unfold bestI leastI at *
  by_cases h0 : k = 0
  · subst h0
    have : nb p E 1 = 0 := by rw [nb_succ]; simp [nb]
    simp [this]
  · rw [if_neg h0] at h
    have : nb p E (k + 1) = k := by rw [nb_succ, if_pos h]
    simp [this]
theorem step_ge {p : Pl} {E : List Pl} {k : Nat} (h : ¬ dS p E k < leastI p E k) : bestI p E (k + 1) = bestI p E k ∧ leastI p E (k + 1) = leastI p E k := by
  unfold bestI leastI at *
  by_cases h0 : k = 0
  · subst h0
    have := (dS_bd p E 0).2
    simp at h
    omega
  · rw [if_neg h0] at h
    have : nb p E (k + 1) = nb p E k := by rw [nb_succ, if_neg h]
    simp [this, h0]
set_option maxRecDepth 20000 in
set_option maxHeartbeats 2000000 in
theorem plNear (A : Option Addr) (n c : Nat) (E : List Pl) (p : Pl) (w : World) (h : Rd w A 2 n (psCells E)) (hn : n ≤ 1000000) : Calls Try.prog 51 #[.slice A n c, pVal p] w fun e w' => e = .returned (.int .i64 (nearI p E)) ∧ Grows w w' := by
  have HL := hide h.plen
  have C1 := fun W (g : Grows w W) => plRight A n c E W (h.grows g) hn
  have C2 := fun W => plOne p.x p.y W
  have hR := (Grows.refl w).new (.cells #[.int .i64 p.x, .int .i64 p.y] 23)
  have HR := hide (h.grows hR)
  clear h hR
  by_cases h0 : n = 0
  · subst h0
    have HW : Hid (nearI p E = -1) := by unfold nearI; exact if_pos (.inl HL.out)
    unfold pVal
    go_enter Try.func51, Try.ntmps51
    go_wp2
    go_ret
    exact ⟨ret_int HW.out.symm, (by repeat (first | exact Grows.refl _ | refine Grows.now ?_ _ | refine Grows.new ?_ _ | refine Grows.drewN ?_ _ | refine Grows.drew ?_ | assumption | (refine Grows.set ?_ (by first | omega | (simp; done) | (simp; omega)) _)))⟩
  cases h1 : E.all okP with
  | false =>
    have HW : Hid (nearI p E = -1) := by unfold nearI; exact if_pos (.inr (.inl h1))
    rw [h1] at C1
    have H1 := hide C1
    clear C1 h1
    unfold pVal
    have hd : ((n : Int) == 0) = false := by simpa using h0
    go_enter Try.func51, Try.ntmps51
    go_wp2_with (first | (go_at_call 41; refine (H1.out _ (by repeat (first | exact Grows.refl _ | refine Grows.now ?_ _ | refine Grows.new ?_ _ | refine Grows.drewN ?_ _ | refine Grows.drew ?_ | assumption | (refine Grows.set ?_ (by first | omega | (simp; done) | (simp; omega)) _)))).mono ?_; rintro e w' ⟨rfl, hg⟩; (first | obtain ⟨x, rfl⟩ := Grows.later2 hg | obtain ⟨x, rfl⟩ := Grows.later hg); clear hg))
    go_ret
    exact ⟨ret_int HW.out.symm, (by repeat (first | exact Grows.refl _ | refine Grows.now ?_ _ | refine Grows.new ?_ _ | refine Grows.drewN ?_ _ | refine Grows.drew ?_ | assumption | (refine Grows.set ?_ (by first | omega | (simp; done) | (simp; omega)) _)))⟩
  | true =>
  cases h2 : okP p with
  | false =>
    have HW : Hid (nearI p E = -1) := by unfold nearI; exact if_pos (.inr (.inr h2))
    rw [h1] at C1
    unfold okP at h2
    rw [h2] at C2
    have H1 := hide C1
    have H2 := hide C2
    clear C1 C2 h1 h2
    unfold pVal
    have hd : ((n : Int) == 0) = false := by simpa using h0
    go_enter Try.func51, Try.ntmps51
    go_wp2_with (first | (go_at_call 41; refine (H1.out _ (by repeat (first | exact Grows.refl _ | refine Grows.now ?_ _ | refine Grows.new ?_ _ | refine Grows.drewN ?_ _ | refine Grows.drew ?_ | assumption | (refine Grows.set ?_ (by first | omega | (simp; done) | (simp; omega)) _)))).mono ?_; rintro e w' ⟨rfl, hg⟩; (first | obtain ⟨x, rfl⟩ := Grows.later2 hg | obtain ⟨x, rfl⟩ := Grows.later hg); clear hg) | (go_at_call 61; refine (H2.out _).mono ?_; rintro e w' ⟨rfl, hg⟩; (first | obtain ⟨x, rfl⟩ := Grows.later2 hg | obtain ⟨x, rfl⟩ := Grows.later hg); clear hg))
    go_ret
    exact ⟨ret_int HW.out.symm, (by repeat (first | exact Grows.refl _ | refine Grows.now ?_ _ | refine Grows.new ?_ _ | refine Grows.drewN ?_ _ | refine Grows.drew ?_ | assumption | (refine Grows.set ?_ (by first | omega | (simp; done) | (simp; omega)) _)))⟩
  | true =>
    have HW : Hid (nearI p E = bestI p E n) := by unfold nearI bestI; rw [if_neg (by rw [h1, h2, HL.out]; simp; omega), if_neg h0, HL.out]; exact rfl
    rw [h1] at C1
    unfold okP at h2
    rw [h2] at C2
    have H1 := hide C1
    have H2 := hide C2
    clear C1 C2 h1 h2
    unfold pVal
    have hd : ((n : Int) == 0) = false := by simpa using h0
    have k0 : (w.alloc (.cells #[.int .i64 p.x, .int .i64 p.y] 23)).cell? ⟨w.heap.size, 0, none⟩ = some (.int .i64 p.x) := by simp [go_sem]
    have k1 : (w.alloc (.cells #[.int .i64 p.x, .int .i64 p.y] 23)).cell? ⟨w.heap.size, 1, none⟩ = some (.int .i64 p.y) := by simp [go_sem]
    go_enter Try.func51, Try.ntmps51
    go_wp2_with (first | (go_at_call 41; refine (H1.out _ (by repeat (first | exact Grows.refl _ | refine Grows.now ?_ _ | refine Grows.new ?_ _ | refine Grows.drewN ?_ _ | refine Grows.drew ?_ | assumption | (refine Grows.set ?_ (by first | omega | (simp; done) | (simp; omega)) _)))).mono ?_; rintro e w' ⟨rfl, hg⟩; (first | obtain ⟨x, rfl⟩ := Grows.later2 hg | obtain ⟨x, rfl⟩ := Grows.later hg); clear hg) | (go_at_call 61; refine (H2.out _).mono ?_; rintro e w' ⟨rfl, hg⟩; (first | obtain ⟨x, rfl⟩ := Grows.later2 hg | obtain ⟨x, rfl⟩ := Grows.later hg); clear hg))
    go_loopw [25, 5, 6] (fun i b l wr => ∃ k : Nat, k ≤ n ∧ i = .int .i64 (k : Int) ∧ b = .int .i64 (bestI p E k) ∧ l = .int .u64 (leastI p E k) ∧ ∃ y : Later (w.alloc (.cells #[.int .i64 p.x, .int .i64 p.y] 23)), wr = y.now) (fun i _ _ _ => n - (intOf i).toNat)
    case atStart => exact ⟨0, by omega, by go_num, rfl, rfl, _, rfl⟩
    case round =>
      obtain ⟨q, hq, rfl, rfl, rfl, y, rfl⟩ := hrel
      by_cases hend : n ≤ q
      · have hqn : q = n := by omega
        subst hqn
        go_wp2
        go_ret
        exact ⟨ret_int HW.out.symm, (by repeat (first | exact Grows.refl _ | refine Grows.now ?_ _ | refine Grows.new ?_ _ | refine Grows.drewN ?_ _ | refine Grows.drew ?_ | assumption | (refine Grows.set ?_ (by first | omega | (simp; done) | (simp; omega)) _)))⟩
      · obtain ⟨b, off, rfl, hc⟩ := HR.out.places (by omega)
        obtain ⟨hc1, hc2⟩ := hc q (by omega)
        clear hc
        have H3 := hide (fun W => plSquareV p.x p.y (gp E q).x (gp E q).y W)
        have HD : Hid (sqV p.x p.y (gp E q).x (gp E q).y = dS p E q) := rfl
        by_cases hlt : dS p E q < leastI p E q
        · obtain ⟨e1, e2⟩ := step_lt hlt
          rw [HD.out] at H3
          have E1 := hide e1
          have E2 := hide e2
          clear e1 e2 HD
          go_wp2_with (first | (go_at_call 19; refine (H3.out _).mono ?_; rintro e w' ⟨rfl, hg⟩; (first | obtain ⟨x, rfl⟩ := Grows.later2 hg | obtain ⟨x, rfl⟩ := Grows.later hg); clear hg))
          go_roundw
          case measure => simp [intOf]; omega
          case rel => exact ⟨q + 1, by omega, by go_num, by rw [E1.out], by rw [E2.out], Grows.later (by repeat (first | exact Grows.refl _ | refine Grows.now ?_ _ | refine Grows.new ?_ _ | refine Grows.drewN ?_ _ | refine Grows.drew ?_ | assumption | (refine Grows.set ?_ (by first | omega | (simp; done) | (simp; omega)) _)))⟩
        · obtain ⟨e1, e2⟩ := step_ge hlt
          rw [HD.out] at H3
          have E1 := hide e1
          have E2 := hide e2
          clear e1 e2 HD
          go_wp2_with (first | (go_at_call 19; refine (H3.out _).mono ?_; rintro e w' ⟨rfl, hg⟩; (first | obtain ⟨x, rfl⟩ := Grows.later2 hg | obtain ⟨x, rfl⟩ := Grows.later hg); clear hg))
          go_roundw
          case measure => simp [intOf]; omega
          case rel => exact ⟨q + 1, by omega, by go_num, by rw [E1.out], by rw [E2.out], Grows.later (by repeat (first | exact Grows.refl _ | refine Grows.now ?_ _ | refine Grows.new ?_ _ | refine Grows.drewN ?_ _ | refine Grows.drew ?_ | assumption | (refine Grows.set ?_ (by first | omega | (simp; done) | (simp; omega)) _)))⟩
set_option maxRecDepth 20000 in
set_option maxHeartbeats 2000000 in
theorem r9Near (A : Option Addr) (n c : Nat) (E : List Pl) (p : Pl) (w : World) (h : Rd w A 2 n (psCells E)) (hn : n ≤ 1000000) : Calls Try.prog 52 #[.slice A n c, pVal p] w fun e w' => e = .returned (.int .i64 (nearI p E)) ∧ Grows w w' := by
  have HL := hide h.plen
  have C1 := fun W (g : Grows w W) => r9Right A n c E W (h.grows g) hn
  have C2 := fun W => r9One p.x p.y W
  have hR := (Grows.refl w).new (.cells #[.int .i64 p.x, .int .i64 p.y] 23)
  have HR := hide (h.grows hR)
  clear h hR
  by_cases h0 : n = 0
  · subst h0
    have HW : Hid (nearI p E = -1) := by unfold nearI; exact if_pos (.inl HL.out)
    unfold pVal
    go_enter Try.func52, Try.ntmps52
    go_wp2
    go_ret
    exact ⟨ret_int HW.out.symm, (by repeat (first | exact Grows.refl _ | refine Grows.now ?_ _ | refine Grows.new ?_ _ | refine Grows.drewN ?_ _ | refine Grows.drew ?_ | assumption | (refine Grows.set ?_ (by first | omega | (simp; done) | (simp; omega)) _)))⟩
  cases h1 : E.all okP with
  | false =>
    have HW : Hid (nearI p E = -1) := by unfold nearI; exact if_pos (.inr (.inl h1))
    rw [h1] at C1
    have H1 := hide C1
    clear C1 h1
    unfold pVal
    have hd : ((n : Int) == 0) = false := by simpa using h0
    go_enter Try.func52, Try.ntmps52
    go_wp2_with (first | (go_at_call 27; refine (H1.out _ (by repeat (first | exact Grows.refl _ | refine Grows.now ?_ _ | refine Grows.new ?_ _ | refine Grows.drewN ?_ _ | refine Grows.drew ?_ | assumption | (refine Grows.set ?_ (by first | omega | (simp; done) | (simp; omega)) _)))).mono ?_; rintro e w' ⟨rfl, hg⟩; (first | obtain ⟨x, rfl⟩ := Grows.later2 hg | obtain ⟨x, rfl⟩ := Grows.later hg); clear hg))
    go_ret
    exact ⟨ret_int HW.out.symm, (by repeat (first | exact Grows.refl _ | refine Grows.now ?_ _ | refine Grows.new ?_ _ | refine Grows.drewN ?_ _ | refine Grows.drew ?_ | assumption | (refine Grows.set ?_ (by first | omega | (simp; done) | (simp; omega)) _)))⟩
  | true =>
  cases h2 : okP p with
  | false =>
    have HW : Hid (nearI p E = -1) := by unfold nearI; exact if_pos (.inr (.inr h2))
    rw [h1] at C1
    unfold okP at h2
    rw [h2] at C2
    have H1 := hide C1
    have H2 := hide C2
    clear C1 C2 h1 h2
    unfold pVal
    have hd : ((n : Int) == 0) = false := by simpa using h0
    go_enter Try.func52, Try.ntmps52
    go_wp2_with (first | (go_at_call 27; refine (H1.out _ (by repeat (first | exact Grows.refl _ | refine Grows.now ?_ _ | refine Grows.new ?_ _ | refine Grows.drewN ?_ _ | refine Grows.drew ?_ | assumption | (refine Grows.set ?_ (by first | omega | (simp; done) | (simp; omega)) _)))).mono ?_; rintro e w' ⟨rfl, hg⟩; (first | obtain ⟨x, rfl⟩ := Grows.later2 hg | obtain ⟨x, rfl⟩ := Grows.later hg); clear hg) | (go_at_call 26; refine (H2.out _).mono ?_; rintro e w' ⟨rfl, hg⟩; (first | obtain ⟨x, rfl⟩ := Grows.later2 hg | obtain ⟨x, rfl⟩ := Grows.later hg); clear hg))
    go_ret
    exact ⟨ret_int HW.out.symm, (by repeat (first | exact Grows.refl _ | refine Grows.now ?_ _ | refine Grows.new ?_ _ | refine Grows.drewN ?_ _ | refine Grows.drew ?_ | assumption | (refine Grows.set ?_ (by first | omega | (simp; done) | (simp; omega)) _)))⟩
  | true =>
    have HW : Hid (nearI p E = nb p E n) := by unfold nearI; rw [if_neg (by rw [h1, h2, HL.out]; simp; omega), HL.out]; exact rfl
    rw [h1] at C1
    unfold okP at h2
    rw [h2] at C2
    have H1 := hide C1
    have H2 := hide C2
    clear C1 C2 h1 h2
    unfold pVal
    have hd : ((n : Int) == 0) = false := by simpa using h0
    have k0 : (w.alloc (.cells #[.int .i64 p.x, .int .i64 p.y] 23)).cell? ⟨w.heap.size, 0, none⟩ = some (.int .i64 p.x) := by simp [go_sem]
    have k1 : (w.alloc (.cells #[.int .i64 p.x, .int .i64 p.y] 23)).cell? ⟨w.heap.size, 1, none⟩ = some (.int .i64 p.y) := by simp [go_sem]
    go_enter Try.func52, Try.ntmps52
    go_wp2_with (first | (go_at_call 27; refine (H1.out _ (by repeat (first | exact Grows.refl _ | refine Grows.now ?_ _ | refine Grows.new ?_ _ | refine Grows.drewN ?_ _ | refine Grows.drew ?_ | assumption | (refine Grows.set ?_ (by first | omega | (simp; done) | (simp; omega)) _)))).mono ?_; rintro e w' ⟨rfl, hg⟩; (first | obtain ⟨x, rfl⟩ := Grows.later2 hg | obtain ⟨x, rfl⟩ := Grows.later hg); clear hg) | (go_at_call 26; refine (H2.out _).mono ?_; rintro e w' ⟨rfl, hg⟩; (first | obtain ⟨x, rfl⟩ := Grows.later2 hg | obtain ⟨x, rfl⟩ := Grows.later hg); clear hg))
    go_loopw [6, 5] (fun i b wr => ∃ k : Nat, k ≤ n ∧ i = .int .i64 (k : Int) ∧ b = .int .i64 (nb p E k : Int) ∧ ∃ y : Later (w.alloc (.cells #[.int .i64 p.x, .int .i64 p.y] 23)), wr = y.now) (fun i _ _ => n - (intOf i).toNat)
    case atStart => exact ⟨0, by omega, by go_num, rfl, _, rfl⟩
    case round =>
      obtain ⟨q, hq, rfl, rfl, y, rfl⟩ := hrel
      by_cases hend : n ≤ q
      · have hqn : q = n := by omega
        subst hqn
        go_wp2
        go_ret
        exact ⟨ret_int HW.out.symm, (by repeat (first | exact Grows.refl _ | refine Grows.now ?_ _ | refine Grows.new ?_ _ | refine Grows.drewN ?_ _ | refine Grows.drew ?_ | assumption | (refine Grows.set ?_ (by first | omega | (simp; done) | (simp; omega)) _)))⟩
      · have hnb : nb p E q < n := by
          by_cases h : q = 0
          · subst h; simp [nb]; omega
          · have := nb_lt p E q (by omega); omega
        obtain ⟨b, off, rfl, hc⟩ := HR.out.places (by omega)
        obtain ⟨hc1, hc2⟩ := hc q (by omega)
        obtain ⟨hc3, hc4⟩ := hc (nb p E q) hnb
        clear hc
        have C3 := fun W => r9SquareV (gp E q).x (gp E q).y p.x p.y W
        have C4 := fun W => r9SquareV (gp E (nb p E q)).x (gp E (nb p E q)).y p.x p.y W
        rw [sqV_comm' (gp E q).x (gp E q).y p.x p.y] at C3
        rw [sqV_comm' (gp E (nb p E q)).x (gp E (nb p E q)).y p.x p.y] at C4
        have HS := hide (nb_succ p E q)
        generalize hnbq : nb p E q = m at *
        have e1 : sqV p.x p.y (gp E q).x (gp E q).y = dS p E q := rfl
        have e2 : sqV p.x p.y (gp E m).x (gp E m).y = dS p E m := rfl
        rw [e1] at C3
        rw [e2] at C4
        have H3 := hide C3
        have H4 := hide C4
        clear C3 C4 e1 e2
        by_cases hlt : dS p E q < dS p E m
        · have E1 : Hid (nb p E (q + 1) = q) := by rw [HS.out, if_pos hlt]; exact rfl
          clear HS
          go_wp2_with fail
          ((first | refine wp_region_gen2 (by kernel_rfl) (by kernel_rfl) ?_ | refine wp_region_gen (by kernel_rfl) (by kernel_rfl) ?_); (repeat' (first | (refine gLex_val0 rfl (by kernel_rfl) (fun K hK => ?_); (go_simp; (try (simp only [↓IntWalk.iteOmega]; try go_simp)); (try simp (disch := omega) only [IntWalk.i64_in]); (try simp (disch := omega) only [IntWalk.u64_in]); first | (refine hK _ ?_; clear hK K) | (apply Exists.intro; refine ⟨fun x => ?_, hK _ ?_⟩; (first | (go_at_call 20; first | with_reducible exact H3.out _ | with_reducible exact H4.out _)); clear hK K))) | (refine gLex_undef rfl rfl rfl (by kernel_rfl) (fun K hK => ?_); go_simp; refine hK _ ?_; clear hK K) | (refine gLex_ask rfl rfl rfl ?_; first | (apply gAsk_yes; kernel_rfl; intro K hK; (go_simp; (try (simp only [↓IntWalk.iteOmega]; try go_simp)); (try simp (disch := omega) only [IntWalk.i64_in]); (try simp (disch := omega) only [IntWalk.u64_in]); first | (refine hK _ ?_; clear hK K) | (apply Exists.intro; refine ⟨fun x => ?_, hK _ ?_⟩; (first | (go_at_call 20; first | with_reducible exact H3.out _ | with_reducible exact H4.out _)); clear hK K))) | ((first | apply gAsk_no1 | apply gAsk_no2); kernel_rfl; intro K hK; simp [go_sem]; refine hK _ ?_; clear hK K) | (apply gAsk_part; kernel_rfl; all_goals (intro h K hK; (try simp only [Bool.not_true] at h); (try simp only [Bool.not_false] at h); (try simp only [decide_eq_true_eq] at h); (try simp only [decide_eq_false_iff_not] at h); first | (exfalso; first | contradiction | omega) | (go_simp; (try (simp only [↓IntWalk.iteOmega]; try go_simp)); (try simp (disch := omega) only [IntWalk.i64_in]); (try simp (disch := omega) only [IntWalk.u64_in]); first | (refine hK _ ?_; clear hK K) | (apply Exists.intro; refine ⟨fun x => ?_, hK _ ?_⟩; (first | (go_at_call 20; first | with_reducible exact H3.out _ | with_reducible exact H4.out _)); clear hK K))))))); all_goals ((apply gLex_end); intro x))
          go_wp2
          exact ⟨⟨q + 1, by omega, by go_num, by rw [E1.out], Grows.later (by repeat (first | exact Grows.refl _ | refine Grows.now ?_ _ | refine Grows.new ?_ _ | refine Grows.drewN ?_ _ | refine Grows.drew ?_ | assumption | (refine Grows.set ?_ (by first | omega | (simp; done) | (simp; omega)) _)))⟩, by simp [intOf]; omega⟩
        · have E1 : Hid (nb p E (q + 1) = m) := by rw [HS.out, if_neg hlt]; exact rfl
          clear HS
          go_wp2_with fail
          ((first | refine wp_region_gen2 (by kernel_rfl) (by kernel_rfl) ?_ | refine wp_region_gen (by kernel_rfl) (by kernel_rfl) ?_); (repeat' (first | (refine gLex_val0 rfl (by kernel_rfl) (fun K hK => ?_); (go_simp; (try (simp only [↓IntWalk.iteOmega]; try go_simp)); (try simp (disch := omega) only [IntWalk.i64_in]); (try simp (disch := omega) only [IntWalk.u64_in]); first | (refine hK _ ?_; clear hK K) | (apply Exists.intro; refine ⟨fun x => ?_, hK _ ?_⟩; (first | (go_at_call 20; first | with_reducible exact H3.out _ | with_reducible exact H4.out _)); clear hK K))) | (refine gLex_undef rfl rfl rfl (by kernel_rfl) (fun K hK => ?_); go_simp; refine hK _ ?_; clear hK K) | (refine gLex_ask rfl rfl rfl ?_; first | (apply gAsk_yes; kernel_rfl; intro K hK; (go_simp; (try (simp only [↓IntWalk.iteOmega]; try go_simp)); (try simp (disch := omega) only [IntWalk.i64_in]); (try simp (disch := omega) only [IntWalk.u64_in]); first | (refine hK _ ?_; clear hK K) | (apply Exists.intro; refine ⟨fun x => ?_, hK _ ?_⟩; (first | (go_at_call 20; first | with_reducible exact H3.out _ | with_reducible exact H4.out _)); clear hK K))) | ((first | apply gAsk_no1 | apply gAsk_no2); kernel_rfl; intro K hK; simp [go_sem]; refine hK _ ?_; clear hK K) | (apply gAsk_part; kernel_rfl; all_goals (intro h K hK; (try simp only [Bool.not_true] at h); (try simp only [Bool.not_false] at h); (try simp only [decide_eq_true_eq] at h); (try simp only [decide_eq_false_iff_not] at h); first | (exfalso; first | contradiction | omega) | (go_simp; (try (simp only [↓IntWalk.iteOmega]; try go_simp)); (try simp (disch := omega) only [IntWalk.i64_in]); (try simp (disch := omega) only [IntWalk.u64_in]); first | (refine hK _ ?_; clear hK K) | (apply Exists.intro; refine ⟨fun x => ?_, hK _ ?_⟩; (first | (go_at_call 20; first | with_reducible exact H3.out _ | with_reducible exact H4.out _)); clear hK K))))))); all_goals ((apply gLex_end); intro x))
          go_wp2
          exact ⟨⟨q + 1, by omega, by go_num, by rw [E1.out], Grows.later (by repeat (first | exact Grows.refl _ | refine Grows.now ?_ _ | refine Grows.new ?_ _ | refine Grows.drewN ?_ _ | refine Grows.drew ?_ | assumption | (refine Grows.set ?_ (by first | omega | (simp; done) | (simp; omega)) _)))⟩, by simp [intOf]; omega⟩
end Go.Proofs.Ytaoodmioehkebaa
