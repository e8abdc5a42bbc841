/- Contracts: the window at a place of offsets, and its answer. -/
import Derived.Test.YtgplpgldhoelcaaGreatQPenWays00
import Derived.Test.YtgplpgldhoelcaaGreatQPenWays02
namespace Go.Proofs.YtgplpgldhoelcaaGreat
open Go Go.RowKit
set_option maxHeartbeats 400000 in
theorem cmpLess (a b : Int) (w : World) :
    Calls Tryz.prog 257 #[.int .u64 a, .int .u64 b] w fun e w' => e = .returned (.bool (decide (a < b))) ∧ w = w' := by
  go_enter Tryz.func257, Tryz.ntmps257
  go_wp2
  all_goals go_ret
  all_goals exact ⟨ret_bool (by simp; try omega), rfl⟩

def srtB (xs : List Int) : Bool := decide (∀ i, i < xs.length - 1 → gi xs i ≤ gi xs (i + 1))

set_option maxHeartbeats 400000 in
theorem isSorted (A : Option Addr) (n c : Nat) (xs : List Int) (w : World) (h : Rd w A 1 n (xs.map (.int .u64))) (hn : n ≤ 1000000) :
    Calls Tryz.prog 239 #[.slice A n c] w fun e w' => e = .returned (.bool (srtB xs)) ∧ Grows w w' := by
  have HL := hide (show xs.length = n by simpa using h.len)
  have HR := hide h
  clear h
  go_enter Tryz.func239, Tryz.ntmps239
  go_wp2
  go_loopw [3] (fun i wr => ∃ k : Nat, k < n + 1 ∧ i = .int .i64 ((k : Int) - 1) ∧ Grows w wr ∧ ∀ j, k ≤ j + 1 → j + 1 < n → gi xs j ≤ gi xs (j + 1)) (fun i _ => (intOf i).toNat)
  case atStart => exact ⟨n, by omega, by go_num, Grows.refl w, fun j h1 h2 => by omega⟩
  case round =>
    obtain ⟨k, hk, rfl, hg, hall⟩ := hrel
    have HA := hide hall
    clear hall
    obtain ⟨x, rfl⟩ := Grows.later hg
    clear hg
    by_cases hk1 : k ≤ 1
    · go_wp2
      go_ret
      refine ⟨ret_bool ?_, GG⟩
      have := HA.out
      have hl := HL.out
      exact (decide_eq_true (fun i hi => this i (by omega) (by omega))).symm
    · obtain ⟨m, rfl⟩ : ∃ m, k = m + 2 := ⟨k - 2, by omega⟩
      rw [show (((m + 2 : Nat) : Int) - 1) = (m : Int) + 1 by omega]
      obtain ⟨b, off, rfl, hc⟩ := HR.out.ints (by omega)
      have hc1 := hc (m + 1) (by omega)
      have hc2 := hc m (by omega)
      clear hc
      go_wp2_with fail
      ((first | refine wp_region_gen2 (by kernel_rfl) (by kernel_rfl) ?_ | refine wp_region_gen (by kernel_rfl) (by kernel_rfl) ?_); (repeat' ((first | refine gLex_val0 rfl (by kernel_rfl) (fun K hK => ?_) | refine gLex_undef rfl rfl rfl (by kernel_rfl) (fun K hK => ?_) | (refine gLex_ask rfl rfl rfl ?_; first | (apply gAsk_yes; kernel_rfl; intro K hK) | ((first | apply gAsk_no1 | apply gAsk_no2); kernel_rfl; intro K hK) | (apply gAsk_part; kernel_rfl; all_goals (intro h K hK; (try simp only [Bool.not_true] at h); (try simp only [Bool.not_false] at h); (try simp only [decide_eq_true_eq] at h); (try simp only [decide_eq_false_iff_not] at h); try (exfalso; first | contradiction | omega))))) <;> (go_simp; (try (simp only [↓IntWalk.iteOmega]; try go_simp)); (try simp (disch := omega) only [IntWalk.i64_in]); (try simp (disch := omega) only [IntWalk.u64_in]); first | (refine hK _ ?_; clear hK K) | (apply Exists.intro; refine ⟨fun x => ?_, hK _ ?_⟩; (first | (go_at_call 257; exact calls_same (cmpLess _ _ _))); clear hK K)))); all_goals ((apply gLex_end); intro x))
      go_wp2
      · go_ret
        refine ⟨ret_bool ?_, GG⟩
        have hl := HL.out
        have hlt : gi xs (m + 1) < gi xs m := by assumption
        exact (decide_eq_false (fun h => by have := h m (by omega); omega)).symm
      · have hge : gi xs m ≤ gi xs (m + 1) := by assumption
        go_roundw
        case rel =>
          refine ⟨m + 1, by omega, by go_num, GG, fun j h1 h2 => ?_⟩
          by_cases hj : j = m
          · subst hj; exact hge
          · exact HA.out j (by omega) h2
        case measure => simp [intOf]

def rcB (n a b base : Int) : Bool := decide (a = 0) || wiB base b a n

set_option maxHeartbeats 400000 in
theorem localWindow1 (n a b base : Int) (g h : Nat) (w : World) (hn : U64 n) (hb : U64 base) (c0 : w.cell? ⟨g, 0, none⟩ = some (.int .u64 a)) (c1 : w.cell? ⟨g, 1, none⟩ = some (.int .u64 b)) (c2 : w.cell? ⟨h, 0, none⟩ = some (.int .u64 base)) :
    Calls Tryz.prog 240 #[.int .u64 n, .pointer (some ⟨g, 0, none⟩), .pointer (some ⟨h, 0, none⟩)] w fun e w' => e = .returned (.bool (rcB n a b base)) ∧ Grows w w' := by
  have H := hide hn
  have K1 := hide hb
  clear hn hb
  by_cases ha : a = 0
  · subst ha
    go_enter Tryz.func240, Tryz.ntmps240
    go_wp2
    go_ret
    exact ⟨ret_bool (by simp [rcB]), GG⟩
  · have hd : (a == 0) = false := by simpa using ha
    have HD := hide ha
    clear ha
    go_enter Tryz.func240, Tryz.ntmps240
    go_wp2_with (first | (go_at_call 158; refine (ratioWithin _ _ _ _ _ K1.out H.out).mono ?_; rintro e w' ⟨rfl, hg⟩; (first | obtain ⟨x, rfl⟩ := Grows.later2 hg | obtain ⟨x, rfl⟩ := Grows.later hg); clear hg))
    go_ret
    exact ⟨ret_bool (by simp [rcB, HD.out]), GG⟩

set_option maxHeartbeats 400000 in
theorem rReaches (n a b base : Int) (w : World) (hn : U64 n) (hb : U64 b) (hbase : U64 base) :
    Calls Tryz.prog 211 #[.int .u64 n, .agg #[.int .u64 a, .int .u64 b], .int .u64 base] w fun e w' => e = .returned (.bool (rcB n a b base)) ∧ Grows w w' := by
  have H := hide hn
  have K1 := hide hbase
  have K2 := hide hb
  clear hn hbase hb
  by_cases ha : a = 0
  · subst ha
    go_enter Tryz.func211, Tryz.ntmps211
    go_wp2
    go_ret
    exact ⟨ret_bool (by simp [rcB]), GG⟩
  · have hd : (a == 0) = false := by simpa using ha
    have HD := hide ha
    clear ha
    go_enter Tryz.func211, Tryz.ntmps211
    go_wp2_with (first | (go_at_call 49; refine (rWithin _ _ _ _ _ K1.out K2.out H.out).mono ?_; rintro e w' ⟨rfl, hg⟩; (first | obtain ⟨x, rfl⟩ := Grows.later2 hg | obtain ⟨x, rfl⟩ := Grows.later hg); clear hg))
    go_ret
    exact ⟨ret_bool (by simp [rcB, HD.out]), GG⟩

def offB (xs : List Int) : Bool := decide (∀ i, i < xs.length → if i = 0 then gi xs 0 = 0 else gi xs (i - 1) ≤ gi xs i)

set_option maxHeartbeats 400000 in
theorem rRises (A : Option Addr) (n c : Nat) (xs : List Int) (w : World) (h : Rd w A 1 n (xs.map (.int .u64))) (hn : n ≤ 1000000) :
    Calls Tryz.prog 210 #[.slice A n c] w fun e w' => e = .returned (.bool (offB xs)) ∧ Grows w w' := by
  have HL := hide (show xs.length = n by simpa using h.len)
  have HR := hide h
  clear h
  go_enter Tryz.func210, Tryz.ntmps210
  go_wp2
  go_loopw [3] (fun i wr => ∃ k : Nat, k ≤ n ∧ i = .int .i64 (k : Int) ∧ Grows w wr ∧ ∀ i, i < k → if i = 0 then gi xs 0 = 0 else gi xs (i - 1) ≤ gi xs i) (fun i _ => n - (intOf i).toNat)
  case atStart => exact ⟨0, by omega, by go_num, Grows.refl w, fun j h1 => by omega⟩
  case round =>
    obtain ⟨k, hk, rfl, hg, hall⟩ := hrel
    have HA := hide hall
    clear hall
    obtain ⟨x, rfl⟩ := Grows.later hg
    clear hg
    by_cases hk1 : n ≤ k
    · go_wp2
      go_ret
      refine ⟨ret_bool ?_, GG⟩
      have hh := HA.out
      have hl := HL.out
      exact (decide_eq_true (fun i hi => hh i (by omega))).symm
    · obtain ⟨b, off, rfl, hc⟩ := HR.out.ints (by omega)
      have hc1 := hc k (by omega)
      by_cases hk0 : k = 0
      · subst hk0
        simp only [Nat.add_zero] at hc1
        clear hc
        go_wp2_with fail
        ((first | refine wp_region_gen2 (by kernel_rfl) (by kernel_rfl) ?_ | refine wp_region_gen (by kernel_rfl) (by kernel_rfl) ?_); (repeat' ((first | refine gLex_val0 rfl (by kernel_rfl) (fun K hK => ?_) | refine gLex_undef rfl rfl rfl (by kernel_rfl) (fun K hK => ?_) | (refine gLex_ask rfl rfl rfl ?_; first | (apply gAsk_yes; kernel_rfl; intro K hK) | ((first | apply gAsk_no1 | apply gAsk_no2); kernel_rfl; intro K hK) | (apply gAsk_part; kernel_rfl; all_goals (intro h K hK; (try simp only [Bool.not_true] at h); (try simp only [Bool.not_false] at h); (try simp only [decide_eq_true_eq] at h); (try simp only [decide_eq_false_iff_not] at h); try (exfalso; first | contradiction | omega))))) <;> (go_simp; (try (simp only [↓IntWalk.iteOmega]; try go_simp)); (try simp (disch := omega) only [IntWalk.i64_in]); (try simp (disch := omega) only [IntWalk.u64_in]); refine hK _ ?_; clear hK K))); all_goals ((apply gLex_end); intro x))
        all_goals go_wp2
        · go_roundw
          case rel =>
            refine ⟨1, by omega, by go_num, GG, fun j h1 => ?_⟩
            obtain rfl : j = 0 := by omega
            simpa using ‹(gi xs 0 != 0) = false›
          case measure => simp [intOf]; omega
        · go_ret
          refine ⟨ret_bool ?_, GG⟩
          have hl := HL.out
          have hne : ¬ gi xs 0 = 0 := by simpa using ‹(gi xs 0 != 0) = true›
          exact (decide_eq_false (fun h => hne (by have := h 0 (by omega); simpa using this))).symm
      · obtain ⟨m, rfl⟩ : ∃ m, k = m + 1 := ⟨k - 1, by omega⟩
        have hc2 := hc m (by omega)
        clear hc
        have hd : (((m + 1 : Nat) : Int) == 0) = false := by simp; omega
        have hd2 : ((m : Int) + 1 == 0) = false := by simp; omega
        go_wp2_with fail
        ((first | refine wp_region_gen2 (by kernel_rfl) (by kernel_rfl) ?_ | refine wp_region_gen (by kernel_rfl) (by kernel_rfl) ?_); (repeat' ((first | refine gLex_val0 rfl (by kernel_rfl) (fun K hK => ?_) | refine gLex_undef rfl rfl rfl (by kernel_rfl) (fun K hK => ?_) | (refine gLex_ask rfl rfl rfl ?_; first | (apply gAsk_yes; kernel_rfl; intro K hK) | ((first | apply gAsk_no1 | apply gAsk_no2); kernel_rfl; intro K hK) | (apply gAsk_part; kernel_rfl; all_goals (intro h K hK; (try simp only [Bool.not_true] at h); (try simp only [Bool.not_false] at h); (try simp only [decide_eq_true_eq] at h); (try simp only [decide_eq_false_iff_not] at h); try (exfalso; first | contradiction | omega))))) <;> (go_simp; (try (simp only [↓IntWalk.iteOmega]; try go_simp)); (try simp (disch := omega) only [IntWalk.i64_in]); (try simp (disch := omega) only [IntWalk.u64_in]); refine hK _ ?_; clear hK K))); all_goals ((apply gLex_end); intro x))
        all_goals go_wp2
        · go_ret
          refine ⟨ret_bool ?_, GG⟩
          have hl := HL.out
          have hlt : gi xs (m + 1) < gi xs m := by assumption
          exact (decide_eq_false (fun h => by have := h (m + 1) (by omega); simp at this; omega)).symm
        · have hge : gi xs m ≤ gi xs (m + 1) := by assumption
          go_roundw
          case rel =>
            refine ⟨m + 2, by omega, by go_num, GG, fun j h1 => ?_⟩
            by_cases hj : j = m + 1
            · subst hj; simpa using hge
            · exact HA.out j (by omega)
          case measure => simp [intOf]; omega

end Go.Proofs.YtgplpgldhoelcaaGreat

