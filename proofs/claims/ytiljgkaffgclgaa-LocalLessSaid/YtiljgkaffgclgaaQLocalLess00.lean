/- Plain law: parts of a row of edges, and how far their ends lie apart; windows of one ratio and of a lesser one. -/
import Derived.Test.YtiljgkaffgclgaaQMarksBounds00
import Derived.Test.YtiljgkaffgclgaaRows
import Derived.Test.YtiljgkaffgclgaaQMarksBounds02
import Derived.Test.YtiljgkaffgclgaaQMarksBounds01
import Derived.Test.YtiljgkaffgclgaaQMarksBounds07
import Derived.Test.YtiljgkaffgclgaaQMarksBounds13
import Derived.Lib.SliceRun
import Derived.Test.YtiljgkaffgclgaaQMarksBounds19
import Derived.Test.YtiljgkaffgclgaaQMarksBounds15
/- Contracts: ratio and its answer. -/
namespace Go.Proofs.Ytiljgkaffgclgaa
open Go Go.RowKit
set_option maxHeartbeats 400000 in
theorem ratioRight1 (n l : Int) (w : World) :
    Calls Try.prog 174 #[.int .u64 n, .int .u64 l] w fun e w' => e = .returned (.bool (decide (l ≤ n ∧ n ≤ 1048576))) ∧ w = w' := by
  go_enter Try.func174, Try.ntmps174
  go_wp2
  all_goals go_ret
  all_goals exact ⟨ret_bool (by simp; try omega), rfl⟩

def rrB (a b : Int) : Bool := decide (0 ≤ a ∧ a ≤ 1048576 ∧ 1 ≤ b ∧ b ≤ 1048576)
theorem rrB_u64 {a b : Int} (h : rrB a b = true) : U64 a ∧ U64 b := by
  unfold rrB at h
  unfold U64
  simp at h
  omega

set_option maxHeartbeats 400000 in
theorem ratioRight (a b : Int) (w : World) :
    Calls Try.prog 137 #[.agg #[.int .u64 a, .int .u64 b]] w fun e w' => e = .returned (.bool (rrB a b)) ∧ Grows w w' := by
  go_enter Try.func137, Try.ntmps137
  go_wp2_with (first | (go_at_call 174; refine (ratioRight1 _ _ _).mono ?_; rintro e w' ⟨rfl, rfl⟩))
  all_goals go_ret
  all_goals exact ⟨ret_bool (bool_ext (by unfold rrB; simp; try omega)), (by repeat (first | exact Grows.refl _ | refine Grows.now ?_ _ | refine Grows.new ?_ _ | refine Grows.drewN ?_ _ | refine Grows.drew ?_ | assumption | (refine Grows.set ?_ (by first | omega | (simp; done) | (simp; omega)) _)))⟩

def moB (a b c d : Int) : Bool := decide (a < c ∨ (a = c ∧ b ≤ d))
set_option maxHeartbeats 400000 in
theorem ratioMost (a b c d : Int) (w : World) :
    Calls Try.prog 176 #[.agg #[.int .u64 a, .int .u64 b], .agg #[.int .u64 c, .int .u64 d]] w fun e w' => e = .returned (.bool (moB a b c d)) ∧ Grows w w' := by
  go_enter Try.func176, Try.ntmps176
  go_wp2
  all_goals go_ret
  all_goals exact ⟨ret_bool (bool_ext (by unfold moB; simp; try omega)), (by repeat (first | exact Grows.refl _ | refine Grows.now ?_ _ | refine Grows.new ?_ _ | refine Grows.drewN ?_ _ | refine Grows.drew ?_ | assumption | (refine Grows.set ?_ (by first | omega | (simp; done) | (simp; omega)) _)))⟩

def hiP (a b : Int) : Int := a * b / 18446744073709551616
def loP (a b : Int) : Int := a * b % 18446744073709551616

set_option maxHeartbeats 400000 in
theorem ratioTimes (a b : Int) (w : World) (ha : U64 a) (hb : U64 b) :
    Calls Try.prog 175 #[.int .u64 a, .int .u64 b] w fun e w' => e = .returned (.agg #[.int .u64 (hiP a b), .int .u64 (loP a b)]) ∧ Grows w w' := by
  obtain ⟨a, rfl, ha'⟩ := ha.nat
  obtain ⟨b, rfl, hb'⟩ := hb.nat
  have H := hide ha'
  have K := hide hb'
  clear ha hb ha' hb'
  go_enter Try.func175, Try.ntmps175
  go_wp2_with (go_at_call 185; refine (Try.bits_Mul64 _ _ H.out K.out _).mono ?_; rintro e w' ⟨rfl, rfl⟩)
  exact bodyPost_ret (v := .agg #[.int .u64 (hiP a b), .int .u64 (loP a b)]) (by simp [results, Try.results175, go_sem, hiP, loP]) rfl ⟨rfl, (by repeat (first | exact Grows.refl _ | refine Grows.now ?_ _ | refine Grows.new ?_ _ | refine Grows.drewN ?_ _ | refine Grows.drew ?_ | assumption | (refine Grows.set ?_ (by first | omega | (simp; done) | (simp; omega)) _)))⟩

/-- Is n at most the ratio a by b of base? -/
def wiB (n a b base : Int) : Bool := rrB a b && decide (n * b ≤ base * a)

theorem wi_of (w a b base : Int) : moB (hiP w b) (loP w b) (hiP base a) (loP base a) = decide (w * b ≤ base * a) := by
  unfold moB hiP loP
  rw [Bool.eq_iff_iff]
  simp only [decide_eq_true_eq]
  generalize w * b = x
  generalize base * a = y
  omega

set_option maxHeartbeats 400000 in
theorem ratioWithin (n a b base : Int) (w : World) (hn : U64 n) (hb : U64 base) :
    Calls Try.prog 139 #[.int .u64 n, .agg #[.int .u64 a, .int .u64 b], .int .u64 base] w fun e w' => e = .returned (.bool (wiB n a b base)) ∧ Grows w w' := by
  have H := hide hn
  have K1 := hide hb
  clear hn hb
  have c1 := fun w => ratioRight a b w
  cases hr : rrB a b with
  | true =>
    rw [hr] at c1
    have HR := hide (rrB_u64 hr)
    have HW : Hid (wiB n a b base = decide (n * b ≤ base * a)) := by unfold wiB; rw [hr]; exact Bool.true_and _
    have HC := hide c1
    clear hr c1
    go_enter Try.func139, Try.ntmps139
    go_wp2_with fail
    ((first | refine wp_region_gen2 (by kernel_rfl) (by kernel_rfl) ?_ | refine wp_region_gen (by kernel_rfl) (by kernel_rfl) ?_); (repeat' (first | (refine gLex_val0 rfl (by kernel_rfl) (fun K hK => ?_); (go_simp; (try (simp only [↓IntWalk.iteOmega]; try go_simp)); (try simp (disch := omega) only [IntWalk.i64_in]); (try simp (disch := omega) only [IntWalk.u64_in]); first | (refine hK _ ?_; clear hK K) | (apply Exists.intro; refine ⟨fun x => ?_, hK _ ?_⟩; (first | (go_at_call 137; exact HC.out _) | (go_at_call 175; exact ratioTimes _ _ _ (by first | exact H.out | exact K1.out) (by first | exact HR.out.1 | exact HR.out.2)) | (go_at_call 176; exact ratioMost _ _ _ _ _)); clear hK K))) | (refine gLex_undef rfl rfl rfl (by kernel_rfl) (fun K hK => ?_); go_simp; refine hK _ ?_; clear hK K) | (refine gLex_ask rfl rfl rfl ?_; first | (apply gAsk_yes; kernel_rfl; intro K hK; (go_simp; (try (simp only [↓IntWalk.iteOmega]; try go_simp)); (try simp (disch := omega) only [IntWalk.i64_in]); (try simp (disch := omega) only [IntWalk.u64_in]); first | (refine hK _ ?_; clear hK K) | (apply Exists.intro; refine ⟨fun x => ?_, hK _ ?_⟩; (first | (go_at_call 137; exact HC.out _) | (go_at_call 175; exact ratioTimes _ _ _ (by first | exact H.out | exact K1.out) (by first | exact HR.out.1 | exact HR.out.2)) | (go_at_call 176; exact ratioMost _ _ _ _ _)); clear hK K))) | ((first | apply gAsk_no1 | apply gAsk_no2); kernel_rfl; intro K hK; simp [go_sem]; refine hK _ ?_; clear hK K) | (apply gAsk_part; kernel_rfl; all_goals (intro h K hK; (try simp only [Bool.not_true] at h); (try simp only [Bool.not_false] at h); (try simp only [decide_eq_true_eq] at h); (try simp only [decide_eq_false_iff_not] at h); first | (exfalso; first | contradiction | omega) | (go_simp; (try (simp only [↓IntWalk.iteOmega]; try go_simp)); (try simp (disch := omega) only [IntWalk.i64_in]); (try simp (disch := omega) only [IntWalk.u64_in]); first | (refine hK _ ?_; clear hK K) | (apply Exists.intro; refine ⟨fun x => ?_, hK _ ?_⟩; (first | (go_at_call 137; exact HC.out _) | (go_at_call 175; exact ratioTimes _ _ _ (by first | exact H.out | exact K1.out) (by first | exact HR.out.1 | exact HR.out.2)) | (go_at_call 176; exact ratioMost _ _ _ _ _)); clear hK K))))))); all_goals ((apply gLex_end); intro x))
    go_wp2
    go_ret
    exact ⟨ret_bool (by rw [wi_of, HW.out]), (by repeat (first | exact Grows.refl _ | refine Grows.now ?_ _ | refine Grows.new ?_ _ | refine Grows.drewN ?_ _ | refine Grows.drew ?_ | assumption | (refine Grows.set ?_ (by first | omega | (simp; done) | (simp; omega)) _)))⟩
  | false =>
    rw [hr] at c1
    have HW : Hid (wiB n a b base = false) := by unfold wiB; rw [hr]; rfl
    have HC := hide c1
    clear hr c1
    go_enter Try.func139, Try.ntmps139
    go_wp2_with fail
    ((first | refine wp_region_gen2 (by kernel_rfl) (by kernel_rfl) ?_ | refine wp_region_gen (by kernel_rfl) (by kernel_rfl) ?_); (repeat' (first | (refine gLex_val0 rfl (by kernel_rfl) (fun K hK => ?_); (go_simp; (try (simp only [↓IntWalk.iteOmega]; try go_simp)); (try simp (disch := omega) only [IntWalk.i64_in]); (try simp (disch := omega) only [IntWalk.u64_in]); first | (refine hK _ ?_; clear hK K) | (apply Exists.intro; refine ⟨fun x => ?_, hK _ ?_⟩; (first | (go_at_call 137; exact HC.out _)); clear hK K))) | (refine gLex_undef rfl rfl rfl (by kernel_rfl) (fun K hK => ?_); go_simp; refine hK _ ?_; clear hK K) | (refine gLex_ask rfl rfl rfl ?_; first | (apply gAsk_yes; kernel_rfl; intro K hK; (go_simp; (try (simp only [↓IntWalk.iteOmega]; try go_simp)); (try simp (disch := omega) only [IntWalk.i64_in]); (try simp (disch := omega) only [IntWalk.u64_in]); first | (refine hK _ ?_; clear hK K) | (apply Exists.intro; refine ⟨fun x => ?_, hK _ ?_⟩; (first | (go_at_call 137; exact HC.out _)); clear hK K))) | ((first | apply gAsk_no1 | apply gAsk_no2); kernel_rfl; intro K hK; simp [go_sem]; refine hK _ ?_; clear hK K) | (apply gAsk_part; kernel_rfl; all_goals (intro h K hK; (try simp only [Bool.not_true] at h); (try simp only [Bool.not_false] at h); (try simp only [decide_eq_true_eq] at h); (try simp only [decide_eq_false_iff_not] at h); first | (exfalso; first | contradiction | omega) | (go_simp; (try (simp only [↓IntWalk.iteOmega]; try go_simp)); (try simp (disch := omega) only [IntWalk.i64_in]); (try simp (disch := omega) only [IntWalk.u64_in]); first | (refine hK _ ?_; clear hK K) | (apply Exists.intro; refine ⟨fun x => ?_, hK _ ?_⟩; (first | (go_at_call 137; exact HC.out _)); clear hK K))))))); all_goals ((apply gLex_end); intro x))
    go_wp2
    go_ret
    exact ⟨ret_bool HW.out.symm, (by repeat (first | exact Grows.refl _ | refine Grows.now ?_ _ | refine Grows.new ?_ _ | refine Grows.drewN ?_ _ | refine Grows.drew ?_ | assumption | (refine Grows.set ?_ (by first | omega | (simp; done) | (simp; omega)) _)))⟩

end Go.Proofs.Ytiljgkaffgclgaa

/- Contracts: the answer for ratio. -/
namespace Go.Proofs.Ytiljgkaffgclgaa
open Go Go.RowKit
set_option maxHeartbeats 400000 in
theorem rRight (a b : Int) (w : World) (ha : U64 a) :
    Calls Try.prog 34 #[.agg #[.int .u64 a, .int .u64 b]] w fun e w' => e = .returned (.bool (rrB a b)) ∧ Grows w w' := by
  have H := hide ha
  clear ha
  go_enter Try.func34, Try.ntmps34
  go_wp2
  all_goals go_ret
  all_goals exact ⟨ret_bool (bool_ext (by have := H.out.1; unfold rrB; simp; try omega)), (by repeat (first | exact Grows.refl _ | refine Grows.now ?_ _ | refine Grows.new ?_ _ | refine Grows.drewN ?_ _ | refine Grows.drew ?_ | assumption | (refine Grows.set ?_ (by first | omega | (simp; done) | (simp; omega)) _)))⟩

theorem times_plain (a b : Int) (ha : U64 a) (hb : 0 ≤ b ∧ b ≤ 2097152) :
    IntKind.u64.wrap (IntKind.u64.wrap (a / 4294967296 * b) / 4294967296 + IntKind.u64.wrap ((IntKind.u64.wrap (a / 4294967296 * b)).tmod 4294967296 + IntKind.u64.wrap (a.tmod 4294967296 * b) / 4294967296) / 4294967296) = a * b / 18446744073709551616 ∧
    (IntKind.u64.wrap ((IntKind.u64.wrap (a / 4294967296 * b)).tmod 4294967296 + IntKind.u64.wrap (a.tmod 4294967296 * b) / 4294967296)).tmod 4294967296 = a * b / 4294967296 % 4294967296 ∧
    (IntKind.u64.wrap (a.tmod 4294967296 * b)).tmod 4294967296 = a * b % 4294967296 := by
  obtain ⟨h0, h1⟩ := ha
  obtain ⟨b0, b1⟩ := hb
  have e1 : a.tmod 4294967296 = a % 4294967296 := Int.tmod_eq_emod_of_nonneg h0
  have hp : ∀ x : Int, 0 ≤ x → x < 4294967296 → 0 ≤ x * b ∧ x * b ≤ 4294967295 * 2097152 := fun x hx hx' =>
    ⟨Int.mul_nonneg hx b0, Int.mul_le_mul (by omega) b1 b0 (by omega)⟩
  have p1 := hp (a / 4294967296) (by omega) (by omega)
  have p2 := hp (a % 4294967296) (by omega) (by omega)
  have hab : a * b = (a / 4294967296 * b) * 4294967296 + a % 4294967296 * b := by
    have : a = a / 4294967296 * 4294967296 + a % 4294967296 := by omega
    conv => lhs; rw [this]
    rw [Int.add_mul, Int.mul_assoc, Int.mul_comm 4294967296 b, Int.mul_assoc]
  rw [hab, e1]
  generalize a / 4294967296 * b = x at *
  generalize a % 4294967296 * b = y at *
  rw [IntWalk.u64_in x (by omega), IntWalk.u64_in y (by omega), Int.tmod_eq_emod_of_nonneg p1.1, Int.tmod_eq_emod_of_nonneg p2.1, IntWalk.u64_in (x % 4294967296 + y / 4294967296) (by omega),
    Int.tmod_eq_emod_of_nonneg (by omega), IntWalk.u64_in _ (by omega)]
  refine ⟨by omega, by omega, by omega⟩

def moB3 (a b c d e f : Int) : Bool := decide (a < d ∨ a = d ∧ (b < e ∨ b = e ∧ c ≤ f))
theorem moB3_of (x y : Int) : moB3 (x / 18446744073709551616) (x / 4294967296 % 4294967296) (x % 4294967296) (y / 18446744073709551616) (y / 4294967296 % 4294967296) (y % 4294967296) = decide (x ≤ y) := by
  unfold moB3
  rw [Bool.eq_iff_iff]
  simp only [decide_eq_true_eq]
  omega

theorem rrB_spec {a b : Int} (h : rrB a b = true) : 0 ≤ a ∧ a ≤ 1048576 ∧ 1 ≤ b ∧ b ≤ 1048576 := by simpa [rrB] using h

/-- Is n at most base and the ratio a by b of it? -/
def stB (n a b base : Int) : Bool := rrB a b && decide (n * b ≤ base * (a + b))

end Go.Proofs.Ytiljgkaffgclgaa

/- Contracts: the window at a place of offsets, and its answer. -/
namespace Go.Proofs.Ytiljgkaffgclgaa
open Go Go.RowKit
set_option maxHeartbeats 400000 in
theorem cmpLess (a b : Int) (w : World) :
    Calls Try.prog 173 #[.int .u64 a, .int .u64 b] w fun e w' => e = .returned (.bool (decide (a < b))) ∧ w = w' := by
  go_enter Try.func173, Try.ntmps173
  go_wp2
  all_goals go_ret
  all_goals exact ⟨ret_bool (by simp; try omega), rfl⟩

/-- Does a list rise? -/
def srtB (xs : List Int) : Bool := decide (∀ i, i < xs.length - 1 → gi xs i ≤ gi xs (i + 1))

set_option maxHeartbeats 400000 in
theorem isSorted (A : Option Addr) (n c : Nat) (xs : List Int) (w : World) (h : Rd w A 1 n (xs.map (.int .u64))) (hn : n ≤ 1000000) :
    Calls Try.prog 136 #[.slice A n c] w fun e w' => e = .returned (.bool (srtB xs)) ∧ Grows w w' := by
  have HL := hide (show xs.length = n by simpa using h.len)
  have HR := hide h
  clear h
  go_enter Try.func136, Try.ntmps136
  go_wp2
  go_loopw [3] (fun i wr => ∃ k : Nat, k < n + 1 ∧ i = .int .i64 ((k : Int) - 1) ∧ Grows w wr ∧ ∀ j, k ≤ j + 1 → j + 1 < n → gi xs j ≤ gi xs (j + 1)) (fun i _ => (intOf i).toNat)
  case atStart => exact ⟨n, by omega, by go_num, Grows.refl w, fun j h1 h2 => by omega⟩
  case round =>
    obtain ⟨k, hk, rfl, hg, hall⟩ := hrel
    have HA := hide hall
    clear hall
    obtain ⟨x, rfl⟩ := Grows.later hg
    clear hg
    by_cases hk1 : k ≤ 1
    · go_wp2
      go_ret
      refine ⟨ret_bool ?_, (by repeat (first | exact Grows.refl _ | refine Grows.now ?_ _ | refine Grows.new ?_ _ | refine Grows.drewN ?_ _ | refine Grows.drew ?_ | assumption | (refine Grows.set ?_ (by first | omega | (simp; done) | (simp; omega)) _)))⟩
      have := HA.out
      have hl := HL.out
      exact (decide_eq_true (fun i hi => this i (by omega) (by omega))).symm
    · obtain ⟨m, rfl⟩ : ∃ m, k = m + 2 := ⟨k - 2, by omega⟩
      rw [show (((m + 2 : Nat) : Int) - 1) = (m : Int) + 1 by omega]
      obtain ⟨b, off, rfl, hc⟩ := HR.out.ints (by omega)
      have hc1 := hc (m + 1) (by omega)
      have hc2 := hc m (by omega)
      clear hc
      go_wp2_with fail
      ((first | refine wp_region_gen2 (by kernel_rfl) (by kernel_rfl) ?_ | refine wp_region_gen (by kernel_rfl) (by kernel_rfl) ?_); (repeat' (first | (refine gLex_val0 rfl (by kernel_rfl) (fun K hK => ?_); (go_simp; (try (simp only [↓IntWalk.iteOmega]; try go_simp)); (try simp (disch := omega) only [IntWalk.i64_in]); (try simp (disch := omega) only [IntWalk.u64_in]); first | (refine hK _ ?_; clear hK K) | (apply Exists.intro; refine ⟨fun x => ?_, hK _ ?_⟩; (first | (go_at_call 173; exact calls_same (cmpLess _ _ _))); clear hK K))) | (refine gLex_undef rfl rfl rfl (by kernel_rfl) (fun K hK => ?_); go_simp; refine hK _ ?_; clear hK K) | (refine gLex_ask rfl rfl rfl ?_; first | (apply gAsk_yes; kernel_rfl; intro K hK; (go_simp; (try (simp only [↓IntWalk.iteOmega]; try go_simp)); (try simp (disch := omega) only [IntWalk.i64_in]); (try simp (disch := omega) only [IntWalk.u64_in]); first | (refine hK _ ?_; clear hK K) | (apply Exists.intro; refine ⟨fun x => ?_, hK _ ?_⟩; (first | (go_at_call 173; exact calls_same (cmpLess _ _ _))); clear hK K))) | ((first | apply gAsk_no1 | apply gAsk_no2); kernel_rfl; intro K hK; simp [go_sem]; refine hK _ ?_; clear hK K) | (apply gAsk_part; kernel_rfl; all_goals (intro h K hK; (try simp only [Bool.not_true] at h); (try simp only [Bool.not_false] at h); (try simp only [decide_eq_true_eq] at h); (try simp only [decide_eq_false_iff_not] at h); first | (exfalso; first | contradiction | omega) | (go_simp; (try (simp only [↓IntWalk.iteOmega]; try go_simp)); (try simp (disch := omega) only [IntWalk.i64_in]); (try simp (disch := omega) only [IntWalk.u64_in]); first | (refine hK _ ?_; clear hK K) | (apply Exists.intro; refine ⟨fun x => ?_, hK _ ?_⟩; (first | (go_at_call 173; exact calls_same (cmpLess _ _ _))); clear hK K))))))); all_goals ((apply gLex_end); intro x))
      go_wp2
      · go_ret
        refine ⟨ret_bool ?_, (by repeat (first | exact Grows.refl _ | refine Grows.now ?_ _ | refine Grows.new ?_ _ | refine Grows.drewN ?_ _ | refine Grows.drew ?_ | assumption | (refine Grows.set ?_ (by first | omega | (simp; done) | (simp; omega)) _)))⟩
        have hl := HL.out
        have hlt : gi xs (m + 1) < gi xs m := by assumption
        exact (decide_eq_false (fun h => by have := h m (by omega); omega)).symm
      · have hge : gi xs m ≤ gi xs (m + 1) := by assumption
        go_roundw
        case rel =>
          refine ⟨m + 1, by omega, by go_num, (by repeat (first | exact Grows.refl _ | refine Grows.now ?_ _ | refine Grows.new ?_ _ | refine Grows.drewN ?_ _ | refine Grows.drew ?_ | assumption | (refine Grows.set ?_ (by first | omega | (simp; done) | (simp; omega)) _))), fun j h1 h2 => ?_⟩
          by_cases hj : j = m
          · subst hj; exact hge
          · exact HA.out j (by omega) h2
        case measure => simp [intOf]

/-- Is the ratio a by b of base within n? -/
def rcB (n a b base : Int) : Bool := decide (a = 0) || wiB base b a n

set_option maxHeartbeats 400000 in
theorem localWindow1 (n a b base : Int) (g h : Nat) (w : World) (hn : U64 n) (hb : U64 base) (c0 : w.cell? ⟨g, 0, none⟩ = some (.int .u64 a)) (c1 : w.cell? ⟨g, 1, none⟩ = some (.int .u64 b)) (c2 : w.cell? ⟨h, 0, none⟩ = some (.int .u64 base)) :
    Calls Try.prog 138 #[.int .u64 n, .pointer (some ⟨g, 0, none⟩), .pointer (some ⟨h, 0, none⟩)] w fun e w' => e = .returned (.bool (rcB n a b base)) ∧ Grows w w' := by
  have H := hide hn
  have K1 := hide hb
  clear hn hb
  by_cases ha : a = 0
  · subst ha
    go_enter Try.func138, Try.ntmps138
    go_wp2
    go_ret
    exact ⟨ret_bool (by simp [rcB]), (by repeat (first | exact Grows.refl _ | refine Grows.now ?_ _ | refine Grows.new ?_ _ | refine Grows.drewN ?_ _ | refine Grows.drew ?_ | assumption | (refine Grows.set ?_ (by first | omega | (simp; done) | (simp; omega)) _)))⟩
  · have hd : (a == 0) = false := by simpa using ha
    have HD := hide ha
    clear ha
    go_enter Try.func138, Try.ntmps138
    go_wp2_with (first | (go_at_call 139; refine (ratioWithin _ _ _ _ _ K1.out H.out).mono ?_; rintro e w' ⟨rfl, hg⟩; (first | obtain ⟨x, rfl⟩ := Grows.later2 hg | obtain ⟨x, rfl⟩ := Grows.later hg); clear hg))
    go_ret
    exact ⟨ret_bool (by simp [rcB, HD.out]), (by repeat (first | exact Grows.refl _ | refine Grows.now ?_ _ | refine Grows.new ?_ _ | refine Grows.drewN ?_ _ | refine Grows.drew ?_ | assumption | (refine Grows.set ?_ (by first | omega | (simp; done) | (simp; omega)) _)))⟩

/-- May these offsets be? -/
def offB (xs : List Int) : Bool := decide (∀ i, i < xs.length → if i = 0 then gi xs 0 = 0 else gi xs (i - 1) ≤ gi xs i)

end Go.Proofs.Ytiljgkaffgclgaa

/- Contracts: the window at a place of offsets, and its answer: the two functions. -/
namespace Go.Proofs.Ytiljgkaffgclgaa
open Go Go.RowKit
/-- The last place, from k down, at which R holds; else 0. -/
def dn (R : Nat → Bool) : Nat → Nat
  | 0 => 0
  | k + 1 => if R (k + 1) then k + 1 else dn R k
/-- The first place, from k up, at which R holds; else the last one. -/
def up (R : Nat → Bool) : Nat → Nat → Nat
  | 0, k => k
  | d + 1, k => if R k then k else up R d (k + 1)
theorem dn_succ (R : Nat → Bool) (k : Nat) : dn R (k + 1) = if R (k + 1) then k + 1 else dn R k := rfl
theorem dn_none {R : Nat → Bool} {k : Nat} : (∀ j, j ≤ k → R j = false) → dn R k = 0 := by
  induction k with
  | zero => intro _; rfl
  | succ k ih => intro h; unfold dn; rw [h (k + 1) (by omega)]; exact ih fun j hj => h j (by omega)
theorem dn_at {R : Nat → Bool} {m k : Nat} (hk : k ≤ m) (h : ∀ j, k < j → j ≤ m → R j = false) : dn R m = dn R k := by
  induction m with
  | zero => rw [show k = 0 by omega]
  | succ m ih =>
    by_cases e : k = m + 1
    · rw [e]
    · rw [dn_succ, h (m + 1) (by omega) (by omega)]
      exact ih (by omega) fun j h1 h2 => h j h1 (by omega)
theorem dn_hit {R : Nat → Bool} {k : Nat} (h : R k = true) : dn R k = k := by
  cases k with
  | zero => rfl
  | succ k => unfold dn; rw [h]; rfl
theorem up_at {R : Nat → Bool} : ∀ {d k m : Nat}, k ≤ m → m ≤ k + d → (∀ j, k ≤ j → j < m → R j = false) → up R d k = up R (k + d - m) m
  | 0, k, m, h1, h2, _ => by rw [show m = k by omega, show k + 0 - k = 0 by omega]
  | d + 1, k, m, h1, h2, h => by
    by_cases e : k = m
    · subst e; rw [show k + (d + 1) - k = d + 1 by omega]
    · unfold up
      rw [h k (by omega) (by omega)]
      have := up_at (d := d) (k := k + 1) (m := m) (by omega) (by omega) (fun j hj hj' => h j (by omega) hj')
      rw [show k + (d + 1) - m = k + 1 + d - m by omega]
      cases hd : k + 1 + d - m <;> simp_all [up]
theorem up_hit {R : Nat → Bool} {d k : Nat} (h : R k = true) : up R d k = k := by
  cases d with
  | zero => rfl
  | succ d => unfold up; rw [h]; rfl

def uw (a b : Int) : Int := IntKind.u64.wrap (a - b)
theorem uw_u64 (a b : Int) : U64 (uw a b) := by unfold uw U64; rw [IntKind.wrap_u64]; omega
def wgB (at_ : Int) (n : Nat) (xs : List Int) (a b : Int) : Bool := decide (0 ≤ at_ ∧ at_ < n) && (offB xs && rrB a b)
def wdn (xs : List Int) (a b base : Int) (m : Nat) : Nat → Bool := fun k => rcB (uw (gi xs m) (gi xs k)) a b base
def wup (xs : List Int) (a b base : Int) (m : Nat) : Nat → Bool := fun k => rcB (uw (gi xs k) (gi xs m)) a b base
def winI (at_ : Int) (n : Nat) (xs : List Int) (a b base : Int) : Int := if wgB at_ n xs a b then (dn (wdn xs a b base at_.toNat) at_.toNat : Nat) else 0
def winJ (at_ : Int) (n : Nat) (xs : List Int) (a b base : Int) : Int := if wgB at_ n xs a b then (up (wup xs a b base at_.toNat) (n - 1 - at_.toNat) at_.toNat : Nat) else 0
def winV (at_ : Int) (n : Nat) (xs : List Int) (a b base : Int) : Value := .tuple #[.int .i64 (winI at_ n xs a b base), .int .i64 (winJ at_ n xs a b base), .bool (wgB at_ n xs a b)]
theorem winV_bad {at_ : Int} {n : Nat} {xs : List Int} {a b base : Int} (h : wgB at_ n xs a b = false) : Value.tuple #[.int .i64 0, .int .i64 0, .bool false] = winV at_ n xs a b base := by
  unfold winV winI winJ
  rw [h]
  simp
theorem wgB_at {at_ : Int} {n : Nat} {xs : List Int} {a b : Int} (h : at_ < 0 ∨ (n : Int) ≤ at_) : wgB at_ n xs a b = false := by
  unfold wgB
  rw [show decide (0 ≤ at_ ∧ at_ < n) = false from decide_eq_false (by omega)]
  rfl
theorem wgB_off {at_ : Int} {n : Nat} {xs : List Int} {a b : Int} (h : offB xs = false) : wgB at_ n xs a b = false := by simp [wgB, h]
theorem wgB_rr {at_ : Int} {n : Nat} {xs : List Int} {a b : Int} (h : rrB a b = false) : wgB at_ n xs a b = false := by simp [wgB, h]
theorem wgB_ok {at_ : Int} {n : Nat} {xs : List Int} {a b : Int} (h1 : ¬ at_ < 0) (h2 : ¬ (n : Int) ≤ at_) (h3 : offB xs = true) (h4 : rrB a b = true) : wgB at_ n xs a b = true := by
  unfold wgB
  rw [show decide (0 ≤ at_ ∧ at_ < n) = true from decide_eq_true (by omega), h3, h4]
  rfl
theorem ret_val {a b : Value} (h : a = b) : Ending.returned a = .returned b := by rw [h]
theorem off_of {xs : List Int} {n : Nat} (hl : xs.length = n) (hn : 0 < n) : offB xs = (decide (gi xs 0 = 0) && srtB xs) := by
  unfold offB srtB
  rw [Bool.eq_iff_iff]
  simp only [decide_eq_true_eq, Bool.and_eq_true]
  constructor
  · intro h
    refine ⟨by simpa using h 0 (by omega), fun i hi => ?_⟩
    simpa using h (i + 1) (by omega)
  · rintro ⟨h0, h⟩ i hi
    by_cases e : i = 0
    · subst e; simpa using h0
    · rw [if_neg e]
      have := h (i - 1) (by omega)
      rwa [show i - 1 + 1 = i by omega] at this

theorem winV_ok {m n : Nat} {xs : List Int} {a b base : Int} {i j : Nat} (h : wgB m n xs a b = true) (hi : dn (wdn xs a b base m) m = i) (hj : up (wup xs a b base m) (n - 1 - m) m = j) :
    winV m n xs a b base = .tuple #[.int .i64 (i : Int), .int .i64 (j : Int), .bool true] := by
  unfold winV winI winJ
  rw [h]
  simp [hi, hj]

end Go.Proofs.Ytiljgkaffgclgaa

/- Contracts: what a row of edges weighs, by the program and by its answer. -/
namespace Go.Proofs.Ytiljgkaffgclgaa
open Go Go.RowKit
/-- What the first k edges of a row weigh. -/
def wtK (E : List Edg) (l : List Int) : Nat → Int
  | 0 => 0
  | k + 1 => wtK E l k + (ge E (gi l k).toNat).w
theorem wtK_succ (E : List Edg) (l : List Int) (k : Nat) : wtK E l (k + 1) = wtK E l k + (ge E (gi l k).toNat).w := rfl
theorem right_weight {N : Int} {E : List Edg} (h : rightF N E = 0) {k : Nat} (hk : k < E.length) : 1 ≤ (ge E k).w ∧ (ge E k).w ≤ 4294967296 := by
  unfold rightF at h
  split at h
  · omega
  · split at h
    · omega
    · split at h
      · omega
      · split at h
        · omega
        · rename_i h4
          have h5 : E.any heavyB = false := by simpa using h4
          rw [List.any_eq_false] at h5
          have hm : ge E k ∈ E := by
            unfold ge
            rw [List.getD_eq_getElem?_getD, List.getElem?_eq_getElem hk]
            exact List.getElem_mem _
          have := h5 _ hm
          unfold heavyB wtB at this
          simpa using this
theorem edges_in2 {N : Int} {E : List Edg} {l : List Int} (h : edgesB N E l = true) {k : Nat} (hk : k < l.length) : rightF N E = 0 ∧ 0 ≤ gi l k ∧ (gi l k).toNat < E.length := by
  unfold edgesB at h
  simp only [Bool.and_eq_true, Bool.not_eq_true', List.any_eq_false, decide_eq_true_eq] at h
  have := h.2 _ (gi_mem hk)
  unfold edgeB at this
  simp at this
  exact ⟨h.1, by omega, by omega⟩
theorem wtK_bd {N : Int} {E : List Edg} {l : List Int} (h : edgesB N E l = true) : ∀ k, k ≤ l.length → 0 ≤ wtK E l k ∧ wtK E l k ≤ k * 4294967296
  | 0, _ => by simp [wtK]
  | k + 1, hk => by
    have ih := wtK_bd h k (by omega)
    obtain ⟨h1, h2, h3⟩ := edges_in2 h (k := k) (by omega)
    have := right_weight h1 h3
    rw [wtK_succ]
    omega
/-- The row of all sums. -/
def ofL (E : List Edg) (l : List Int) (n k : Nat) : List Int := (List.range n).map fun j => if j ≤ k then wtK E l j else 0
theorem ofL_len (E : List Edg) (l : List Int) (n k : Nat) : (ofL E l n k).length = n := by simp [ofL]
theorem ofL_at (E : List Edg) (l : List Int) {n k j : Nat} (hj : j < n) (hk : j ≤ k) : (ofL E l n k)[j]? = some (wtK E l j) := by simp [ofL, hj, hk]
theorem ofL_start (E : List Edg) (l : List Int) (n : Nat) : (ofL E l n 0).map (Value.int .u64) = List.replicate n (.int .u64 0) := by
  apply List.ext_getElem (by simp [ofL])
  intro j h1 h2
  simp only [ofL, List.map_map, List.getElem_map, List.getElem_range, List.getElem_replicate, Function.comp]
  split
  · rename_i h
    have : j = 0 := by omega
    subst this
    rfl
  · rfl
theorem ofL_next (E : List Edg) (l : List Int) (n k : Nat) : ((ofL E l n k).map (Value.int .u64)).set (k + 1) (.int .u64 (wtK E l (k + 1))) = (ofL E l n (k + 1)).map (.int .u64) := by
  apply List.ext_getElem (by simp [ofL])
  intro j h1 h2
  rw [List.getElem_set]
  simp only [ofL, List.map_map, List.getElem_map, List.getElem_range, Function.comp]
  by_cases hj : k + 1 = j
  · subst hj; simp
  · rw [if_neg hj]
    by_cases h3 : j ≤ k
    · rw [if_pos h3, if_pos (by omega)]
    · rw [if_neg h3, if_neg (by omega)]
theorem ofL_end (E : List Edg) (l : List Int) (n : Nat) : ofL E l (n + 1) n = (List.range (n + 1)).map (wtK E l) := by
  unfold ofL
  apply List.map_congr_left
  intro j hj
  rw [if_pos (by have := List.mem_range.1 hj; omega)]
set_option maxRecDepth 20000 in
set_option maxHeartbeats 2000000 in
theorem r8Weight (N : Int) (A : Option Addr) (m c : Nat) (E : List Edg) (B : Option Addr) (n d : Nat) (l : List Int) (w : World) (h : Rd w A 3 m (esCells E)) (hm : m ≤ 1000000) (h' : Rd w B 1 n (l.map (.int .i64))) (hn : n ≤ 1000000) :
    Calls Try.prog 31 #[.agg #[.int .i64 N, .slice A m c], .slice B n d] w fun e w' => e = .returned (.tuple #[.int .u64 (if edgesB N E l then wtK E l l.length else 0), .bool (edgesB N E l)]) ∧ Grows w w' := by
  have HL := hide (show l.length = n by simpa using h'.len)
  have HE := hide h.elen
  have C1 := fun (W : World) (g : Grows w W) => r8edges N A m c E B n d l W (h.grows g) hm (h'.grows g) hn
  have HR := hide h
  have HS := hide h'
  clear h h'
  cases he : edgesB N E l with
  | false =>
    rw [he] at C1
    have H1 := hide C1
    clear C1 he
    go_enter Try.func31, Try.ntmps31
    go_wp2_with (first | (go_at_call 85; refine (H1.out _ (by repeat (first | exact Grows.refl _ | refine Grows.now ?_ _ | refine Grows.new ?_ _ | refine Grows.drewN ?_ _ | refine Grows.drew ?_ | assumption | (refine Grows.set ?_ (by first | omega | (simp; done) | (simp; omega)) _)))).mono ?_; rintro e w' ⟨rfl, hg⟩; (first | obtain ⟨x, rfl⟩ := Grows.later2 hg | obtain ⟨x, rfl⟩ := Grows.later hg); clear hg))
    go_ret2
    exact ⟨rfl, (by repeat (first | exact Grows.refl _ | refine Grows.now ?_ _ | refine Grows.new ?_ _ | refine Grows.drewN ?_ _ | refine Grows.drew ?_ | assumption | (refine Grows.set ?_ (by first | omega | (simp; done) | (simp; omega)) _)))⟩
  | true =>
    have HI := hide (fun k (hk : k < n) => edges_in2 he (k := k) (by rw [HL.out]; exact hk))
    have HB := hide (fun k (hk : k ≤ n) => wtK_bd he k (by rw [HL.out]; exact hk))
    rw [he] at C1
    have H1 := hide C1
    clear C1 he
    go_enter Try.func31, Try.ntmps31
    go_wp2_with (first | (go_at_call 85; refine (H1.out _ (by repeat (first | exact Grows.refl _ | refine Grows.now ?_ _ | refine Grows.new ?_ _ | refine Grows.drewN ?_ _ | refine Grows.drew ?_ | assumption | (refine Grows.set ?_ (by first | omega | (simp; done) | (simp; omega)) _)))).mono ?_; rintro e w' ⟨rfl, hg⟩; (first | obtain ⟨x, rfl⟩ := Grows.later2 hg | obtain ⟨x, rfl⟩ := Grows.later hg); clear hg))
    go_loopw [7, 6] (fun i u wr => ∃ k : Nat, k ≤ n ∧ i = .int .i64 (k : Int) ∧ u = .int .u64 (wtK E l k) ∧ ∃ y : Later x.now, wr = y.now) (fun i _ _ => n - (intOf i).toNat)
    case atStart => exact ⟨0, by omega, by go_num, rfl, ⟨_, Grows.refl _⟩, rfl⟩
    case round =>
      obtain ⟨k, hk, rfl, rfl, y, rfl⟩ := hrel
      by_cases hend : n ≤ k
      · have hkm : k = n := by omega
        subst hkm
        go_wp2
        go_ret2
        exact ⟨by rw [HL.out]; rfl, (by repeat (first | exact Grows.refl _ | refine Grows.now ?_ _ | refine Grows.new ?_ _ | refine Grows.drewN ?_ _ | refine Grows.drew ?_ | assumption | (refine Grows.set ?_ (by first | omega | (simp; done) | (simp; omega)) _)))⟩
      · obtain ⟨b, off, rfl, hc⟩ := HS.out.intsH (by omega)
        have c1 := hc k (by omega)
        obtain ⟨i0, i1, i2⟩ := HI.out k (by omega)
        have hw := right_weight i0 i2
        rw [HE.out] at i2
        obtain ⟨b2, off2, rfl, hc2⟩ := HR.out.edgesH (by omega)
        obtain ⟨c2, c3, c4⟩ := hc2 (gi l k).toNat i2
        obtain ⟨b0, b1⟩ := HB.out k (by omega)
        have HN := hide (wtK_succ E l k)
        clear hc hc2 i0
        generalize wtK E l k = a at *
        generalize (ge E (gi l k).toNat).w = v at *
        generalize hq : gi l k = q at *
        obtain ⟨q, rfl⟩ := Int.eq_ofNat_of_zero_le i1
        simp only [Int.toNat_natCast] at i2 c2 c3 c4
        go_wp2_with fail
        ((first | refine wp_region_gen (by kernel_rfl) (by kernel_rfl) ?_); (repeat' (first | (refine gLex_val0 rfl (by kernel_rfl) (fun K hK => ?_); (go_simp; (try (simp only [↓IntWalk.iteOmega]; try go_simp)); (try simp (disch := omega) only [IntWalk.i64_in]); (try simp (disch := omega) only [IntWalk.u64_in]); first | (refine hK _ ?_; clear hK K) | (apply Exists.intro; refine ⟨fun x => ?_, hK _ ?_⟩; (first | fail); clear hK K))) | (refine gLex_undef rfl rfl rfl (by kernel_rfl) (fun K hK => ?_); go_simp; refine hK _ ?_; clear hK K) | (refine gLex_ask rfl rfl rfl ?_; first | (apply gAsk_yes; kernel_rfl; intro K hK; (go_simp; (try (simp only [↓IntWalk.iteOmega]; try go_simp)); (try simp (disch := omega) only [IntWalk.i64_in]); (try simp (disch := omega) only [IntWalk.u64_in]); first | (refine hK _ ?_; clear hK K) | (apply Exists.intro; refine ⟨fun x => ?_, hK _ ?_⟩; (first | fail); clear hK K))) | ((first | apply gAsk_no1 | apply gAsk_no2); kernel_rfl; intro K hK; simp [go_sem]; refine hK _ ?_; clear hK K) | (apply gAsk_part; kernel_rfl; all_goals (intro h K hK; (try simp only [Bool.not_true] at h); (try simp only [Bool.not_false] at h); (try simp only [decide_eq_true_eq] at h); (try simp only [decide_eq_false_iff_not] at h); first | (exfalso; first | contradiction | omega) | (go_simp; (try (simp only [↓IntWalk.iteOmega]; try go_simp)); (try simp (disch := omega) only [IntWalk.i64_in]); (try simp (disch := omega) only [IntWalk.u64_in]); first | (refine hK _ ?_; clear hK K) | (apply Exists.intro; refine ⟨fun x => ?_, hK _ ?_⟩; (first | fail); clear hK K))))))); all_goals ((apply gLex_end); intro x))
        go_wp2
        exact ⟨⟨k + 1, by omega, by go_num, by rw [HN.out], Grows.later (by repeat (first | exact Grows.refl _ | refine Grows.now ?_ _ | refine Grows.new ?_ _ | refine Grows.drewN ?_ _ | refine Grows.drew ?_ | assumption | (refine Grows.set ?_ (by first | omega | (simp; done) | (simp; omega)) _)))⟩, by simp [intOf]; omega⟩
/-- What Offsets hands back. -/
def OffPost (E : List Edg) (l : List Int) (b : Bool) (w : World) (e : Ending) (w' : World) : Prop :=
  if b then ∃ g c, e = .returned (.slice (some ⟨g, 0, none⟩) (l.length + 1) c) ∧ Rd w' (some ⟨g, 0, none⟩) 1 (l.length + 1) (((List.range (l.length + 1)).map (wtK E l)).map (.int .u64)) ∧ Grows w w'
  else e = .returned (.slice none 0 0) ∧ Grows w w'
set_option maxRecDepth 20000 in
set_option maxHeartbeats 2000000 in
theorem pOffsets (N : Int) (A : Option Addr) (m c : Nat) (E : List Edg) (B : Option Addr) (n d : Nat) (l : List Int) (w : World) (h : Rd w A 3 m (esCells E)) (hm : m ≤ 1000000) (h' : Rd w B 1 n (l.map (.int .i64))) (hn : n ≤ 1000000) :
    Calls Try.prog 87 #[.agg #[.int .i64 N, .slice A m c], .slice B n d] w (OffPost E l (edgesB N E l) w) := by
  have HL := hide (show l.length = n by simpa using h'.len)
  have HE := hide h.elen
  have C1 := fun (W : World) (g : Grows w W) => pEdges N A m c E B n d l W (h.grows g) hm (h'.grows g) hn
  have HR := hide h
  have HS := hide h'
  clear h h'
  cases he : edgesB N E l with
  | false =>
    rw [he] at C1
    have H1 := hide C1
    clear C1 he
    go_enter Try.func87, Try.ntmps87
    go_wp2_with (first | (go_at_call 140; refine (H1.out _ (by repeat (first | exact Grows.refl _ | refine Grows.now ?_ _ | refine Grows.new ?_ _ | refine Grows.drewN ?_ _ | refine Grows.drew ?_ | assumption | (refine Grows.set ?_ (by first | omega | (simp; done) | (simp; omega)) _)))).mono ?_; rintro e w' ⟨rfl, hg⟩; (first | obtain ⟨x, rfl⟩ := Grows.later2 hg | obtain ⟨x, rfl⟩ := Grows.later hg); clear hg))
    go_ret
    exact ⟨rfl, (by repeat (first | exact Grows.refl _ | refine Grows.now ?_ _ | refine Grows.new ?_ _ | refine Grows.drewN ?_ _ | refine Grows.drew ?_ | assumption | (refine Grows.set ?_ (by first | omega | (simp; done) | (simp; omega)) _)))⟩
  | true =>
    have HI := hide (fun k (hk : k < n) => edges_in2 he (k := k) (by rw [HL.out]; exact hk))
    have HB := hide (fun k (hk : k ≤ n) => wtK_bd he k (by rw [HL.out]; exact hk))
    rw [he] at C1
    have H1 := hide C1
    clear C1 he
    go_enter Try.func87, Try.ntmps87
    go_wp2_with (first | (go_at_call 140; refine (H1.out _ (by repeat (first | exact Grows.refl _ | refine Grows.now ?_ _ | refine Grows.new ?_ _ | refine Grows.drewN ?_ _ | refine Grows.drew ?_ | assumption | (refine Grows.set ?_ (by first | omega | (simp; done) | (simp; omega)) _)))).mono ?_; rintro e w' ⟨rfl, hg⟩; obtain ⟨x, rfl⟩ := hg.later; clear hg) | (at_make; refine wp_make1 elemU64 rfl _ _ rfl x.now (Grows.refl _) (n + 1) rfl rfl (by omega) (by omega) (by omega) ?_; intro g0 y0 hg0 hown0; have HO0 := hide hown0; clear hown0))
    go_loopw [18] (fun i wr => ∃ k : Nat, k ≤ n ∧ i = .int .i64 (k : Int) ∧ ∃ y : Later x.now, wr = y.now ∧ Own y.now x.now.heap.size 33 1 (some ⟨g0, 0, none⟩) (n + 1) (n + 1) ((ofL E l (n + 1) k).map (.int .u64))) (fun i _ => n - (intOf i).toNat)
    case atStart => exact ⟨0, by omega, by go_num, y0, rfl, by rw [ofL_start]; exact HO0.out⟩
    case round =>
      obtain ⟨k, hk, rfl, y, rfl, hown⟩ := hrel
      have HO := hide hown
      clear hown
      by_cases hend : n ≤ k
      · have hkm : k = n := by omega
        subst hkm
        have hr := HO.out.rd
        rw [ofL_end] at hr
        have HRd := hide hr
        clear hr
        go_wp2
        go_ret
        exact ⟨g0, k + 1, by rw [HL.out]; rfl, by rw [HL.out]; exact HRd.out, (by repeat (first | exact Grows.refl _ | refine Grows.now ?_ _ | refine Grows.new ?_ _ | refine Grows.drewN ?_ _ | refine Grows.drew ?_ | assumption | (refine Grows.set ?_ (by first | omega | (simp; done) | (simp; omega)) _)))⟩
      · obtain ⟨b, off, rfl, hc⟩ := HS.out.intsH (by omega)
        have c1 := hc k (by omega)
        obtain ⟨i0, i1, i2⟩ := HI.out k (by omega)
        have hw := right_weight i0 i2
        rw [HE.out] at i2
        obtain ⟨b2, off2, rfl, hc2⟩ := HR.out.edgesH (by omega)
        obtain ⟨c2, c3, c4⟩ := hc2 (gi l k).toNat i2
        obtain ⟨b0, b1⟩ := HB.out k (by omega)
        have HN := hide (wtK_succ E l k)
        have HX := hide (ofL_next E l (n + 1) k)
        obtain ⟨g, hg, hgB, hcs⟩ := HO.out.at (by omega)
        injection hg with hg
        injection hg with hg
        subst hg
        have m1 := hcs k _ (by rw [List.getElem?_map, ofL_at E l (by omega) (Nat.le_refl k)]; rfl)
        obtain ⟨u, hu⟩ : ∃ u, ((ofL E l (n + 1) k).map (Value.int .u64))[k + 1]? = some u := ⟨_, List.getElem?_eq_getElem (by rw [List.length_map, ofL_len]; omega)⟩
        have m2 := hcs (k + 1) _ hu
        clear hc hc2 i0 hcs hu
        generalize wtK E l k = a at *
        generalize (ge E (gi l k).toNat).w = v at *
        generalize hq : gi l k = q at *
        obtain ⟨q, rfl⟩ := Int.eq_ofNat_of_zero_le i1
        simp only [Int.toNat_natCast] at i2 c2 c3 c4
        go_wp2_with fail
        go_region
        go_wp2
        refine ⟨⟨k + 1, by omega, by go_num, ⟨_, (y.grows.set (p := ⟨g0, k + 1, none⟩) hgB (.int .u64 (a + v))).drew⟩, rfl, ?_⟩, by simp [intOf]; omega⟩
        rw [← HX.out, HN.out]
        exact (HO.out.set rfl (by omega) (k + 1) (.int .u64 (a + v))).grows ((Grows.refl _).drew)
end Go.Proofs.Ytiljgkaffgclgaa

/- Plain law: parts of a row of edges, and how far their ends lie apart; windows of one ratio and of a lesser one. -/
namespace Go.Proofs.Ytiljgkaffgclgaa
open Go Go.RowKit
theorem dn_le (R : Nat → Bool) : ∀ m, dn R m ≤ m
  | 0 => Nat.le_refl _
  | m + 1 => by
    rw [dn_succ]
    split
    · exact Nat.le_refl _
    · have := dn_le R m; omega
theorem up_le (R : Nat → Bool) : ∀ d k, k ≤ up R d k ∧ up R d k ≤ k + d
  | 0, k => ⟨Nat.le_refl _, Nat.le_refl _⟩
  | d + 1, k => by
    unfold up
    split
    · omega
    · have := up_le R d (k + 1); omega
theorem dn_mono {R R' : Nat → Bool} (h : ∀ k, R k = true → R' k = true) : ∀ m, dn R m ≤ dn R' m
  | 0 => Nat.le_refl _
  | m + 1 => by
    rw [dn_succ, dn_succ]
    have ih := dn_mono h m
    have hl := dn_le R m
    by_cases e : R (m + 1) = true
    · rw [if_pos e, if_pos (h _ e)]; exact Nat.le_refl _
    · rw [if_neg e]
      split <;> omega
theorem up_mono {R R' : Nat → Bool} (h : ∀ k, R k = true → R' k = true) : ∀ d k, up R' d k ≤ up R d k
  | 0, _ => Nat.le_refl _
  | d + 1, k => by
    have ih := up_mono h d (k + 1)
    have hl := up_le R d (k + 1)
    unfold up
    by_cases e : R k = true
    · rw [if_pos e, if_pos (h _ e)]; exact Nat.le_refl _
    · rw [if_neg e]
      split <;> omega
/-- What is within the one ratio is within a lesser one. -/
theorem rc_less {n a b a' b' base : Int} (hb : 0 ≤ base) (h1 : rrB a b = true) (h2 : rrB a' b' = true) (hle : a' * b ≤ a * b') (h : rcB n a b base = true) : rcB n a' b' base = true := by
  unfold rcB wiB at *
  unfold rrB at *
  simp only [Bool.or_eq_true, Bool.and_eq_true, decide_eq_true_eq] at *
  by_cases e : a' = 0
  · exact .inl e
  · refine .inr ⟨by omega, ?_⟩
    have hp : 1 ≤ a' * b := by
      have : 1 * 1 ≤ a' * b := Int.mul_le_mul (by omega) (by omega) (by omega) (by omega)
      omega
    rcases h with h | ⟨_, h⟩
    · subst h; simp at hle; omega
    · have k1 : base * a * b' ≤ n * b * b' := Int.mul_le_mul_of_nonneg_right h (by omega)
      have k0 : n * b * b' = n * b' * b := by ac_rfl
      have k2 : base * (a' * b) ≤ base * (a * b') := Int.mul_le_mul_of_nonneg_left hle hb
      have k3 : base * a' * b ≤ n * b' * b := by
        rw [← k0, Int.mul_assoc]
        rw [Int.mul_assoc] at k1
        omega
      exact Int.le_of_mul_le_mul_right k3 (by omega)
/-- The nodes of a row of edges, by numbers. -/
def nk (E : List Edg) (s : Int) (l : List Int) (k : Nat) : Nat := (ndI E s l k).toNat
section
variable {NN : Nat} {E : List Edg} {F T : Nat → List Nat} {s : Int} {l : List Int}
theorem isB_right {N : Int} (h : isB N E s l = true) : rightF N E = 0 ∧ nodeB N s = true ∧ lkB E s l l.length = true ∧ edgesB N E l = true := by
  unfold isB at h
  simp only [Bool.and_eq_true] at h
  refine ⟨?_, h.2.1, h.2.2, h.1⟩
  have := h.1
  unfold edgesB at this
  simp only [Bool.and_eq_true, decide_eq_true_eq] at this
  exact this.1
theorem lkB_at (h : lkB E s l l.length = true) {k : Nat} (hk : k < l.length) : (ge E (gi l k).toNat).f = ndI E s l k := by
  have : lkB E s l (k + 1) = true := by
    cases hh : lkB E s l (k + 1) with
    | true => rfl
    | false =>
      have := lkB_mono hh (l.length - (k + 1))
      rw [show k + 1 + (l.length - (k + 1)) = l.length by omega, h] at this
      cases this
  simp only [lkB, Bool.and_eq_true, decide_eq_true_eq] at this
  exact this.2
theorem nk_in (his : isB (NN : Int) E s l = true) : ∀ k, k ≤ l.length → nk E s l k < NN ∧ ndI E s l k = (nk E s l k : Int)
  | 0, _ => by
    obtain ⟨_, h2, _⟩ := isB_right his
    unfold nodeB at h2
    simp at h2
    show s.toNat < NN ∧ s = (s.toNat : Int)
    omega
  | k + 1, hk => by
    obtain ⟨h1, _, _, h4⟩ := isB_right his
    have he := edges_in h4 (k := k) (by omega)
    have := ((right_in h1).2.2.2.1).t _ he.2
    rw [Int.toNat_natCast] at this
    exact this
theorem nk_hop (h : Mks NN E F T) (his : isB (NN : Int) E s l = true) {k : Nat} (hk : k < l.length) : gn (F (nk E s l k)) (nk E s l (k + 1)) < farV ∧ (gn (F (nk E s l k)) (nk E s l (k + 1)) : Int) ≤ wtK E l (k + 1) - wtK E l k := by
  obtain ⟨h1, _, h3, h4⟩ := isB_right his
  have he := edges_in h4 (k := k) hk
  obtain ⟨f1, f2, f3, f4⟩ := h.hop h1 he.2
  have e1 : fN E (gi l k).toNat = nk E s l k := by
    unfold fN nk
    rw [lkB_at h3 hk]
  have e2 : tN E (gi l k).toNat = nk E s l (k + 1) := rfl
  rw [e1, e2] at f3 f4
  refine ⟨f4, ?_⟩
  rw [wtK_succ]
  have hw := (right_in h1).2.2.2.2 _ he.2
  have e3 : gn (wtF (NN : Int) E []) (gi l k).toNat = (ge E (gi l k).toNat).w.toNat := by
    have : wtF (NN : Int) E [] = eW E := by
      unfold wtF
      rw [if_neg (by omega), if_neg (by simp), if_neg (by simp)]
    rw [this]
    simp [gn, eW, ge, he.2]
  rw [e3] at f3
  omega
/-- The ends of a part lie no farther apart than it weighs. -/
theorem part_le (h : Mks NN E F T) (his : isB (NN : Int) E s l = true) {i : Nat} : ∀ d, i + d ≤ l.length → gn (F (nk E s l i)) (nk E s l (i + d)) < farV ∧ (gn (F (nk E s l i)) (nk E s l (i + d)) : Int) ≤ wtK E l (i + d) - wtK E l i
  | 0, hd => by
    have hi := (nk_in his i (by omega)).1
    rw [Nat.add_zero, h.self hi]
    unfold farV
    omega
  | d + 1, hd => by
    obtain ⟨h1, _⟩ := isB_right his
    obtain ⟨h2, h3⟩ := part_le h his (i := i) d (by omega)
    obtain ⟨h4, h5⟩ := nk_hop h his (k := i + d) (show i + d < l.length by omega)
    have := h.tri h1 (nk_in his i (by omega)).1 (nk_in his (i + d) (by omega)).1 (nk_in his (i + (d + 1)) (by omega)).1 h2 h4
    rw [show i + (d + 1) = i + d + 1 by omega] at this ⊢
    omega
theorem part_le2 (h : Mks NN E F T) (his : isB (NN : Int) E s l = true) {i j : Nat} (hij : i ≤ j) (hj : j ≤ l.length) : gn (F (nk E s l i)) (nk E s l j) < farV ∧ (gn (F (nk E s l i)) (nk E s l j) : Int) ≤ wtK E l j - wtK E l i := by
  have := part_le h his (i := i) (j - i) (by omega)
  rwa [show i + (j - i) = j by omega] at this
/-- Is a part as short as any between its ends? -/
def exB (E : List Edg) (F : Nat → List Nat) (s : Int) (l : List Int) (i j : Nat) : Bool := decide ((gn (F (nk E s l i)) (nk E s l j) : Int) = wtK E l j - wtK E l i)
theorem ex_sub (h : Mks NN E F T) (his : isB (NN : Int) E s l = true) {i j i' j' : Nat} (h1 : i ≤ i') (h2 : i' ≤ j') (h3 : j' ≤ j) (h4 : j ≤ l.length) (hx : exB E F s l i j = true) : exB E F s l i' j' = true := by
  obtain ⟨hr, _⟩ := isB_right his
  unfold exB at *
  rw [decide_eq_true_eq] at *
  obtain ⟨a1, a2⟩ := part_le2 h his h1 (by omega)
  obtain ⟨b1, b2⟩ := part_le2 h his h2 (by omega)
  obtain ⟨c1, c2⟩ := part_le2 h his h3 h4
  have n1 := (nk_in his i (by omega)).1
  have n2 := (nk_in his i' (by omega)).1
  have n3 := (nk_in his j' (by omega)).1
  have n4 := (nk_in his j h4).1
  obtain ⟨t1, t2⟩ := h.tri hr n1 n2 n3 a1 b1
  have t3 := (h.tri hr n1 n3 n4 t2 c1).1
  omega
/-- Does a row pass at a place? -/
def tsB (N : Int) (E : List Edg) (F : Nat → List Nat) (s : Int) (l : List Int) (at_ a b base : Int) : Bool :=
  isB N E s l && (wgB at_ (l.length + 1) ((List.range (l.length + 1)).map (wtK E l)) a b && exB E F s l (winI at_ (l.length + 1) ((List.range (l.length + 1)).map (wtK E l)) a b base).toNat (winJ at_ (l.length + 1) ((List.range (l.length + 1)).map (wtK E l)) a b base).toNat)
theorem offs_at (E : List Edg) (l : List Int) {k : Nat} (hk : k ≤ l.length) : gi ((List.range (l.length + 1)).map (wtK E l)) k = wtK E l k := by
  simp [gi, show k < l.length + 1 by omega]
theorem offs_ok (his : isB (NN : Int) E s l = true) : offB ((List.range (l.length + 1)).map (wtK E l)) = true := by
  obtain ⟨h1, _, _, h4⟩ := isB_right his
  unfold offB
  rw [decide_eq_true_eq]
  intro i hi
  simp at hi
  split
  · rw [offs_at E l (by omega)]; rfl
  · obtain ⟨k, rfl⟩ : ∃ k, i = k + 1 := ⟨i - 1, by omega⟩
    rw [show k + 1 - 1 = k by omega, offs_at E l (by omega), offs_at E l (by omega), wtK_succ]
    have he := edges_in h4 (k := k) (by omega)
    have := (right_in h1).2.2.2.2 _ he.2
    omega
theorem win_in {at_ : Int} {n : Nat} {xs : List Int} {a b base : Int} (h : wgB at_ n xs a b = true) : (winI at_ n xs a b base).toNat ≤ at_.toNat ∧ at_.toNat ≤ (winJ at_ n xs a b base).toNat ∧ (winJ at_ n xs a b base).toNat < n ∧ 0 ≤ winI at_ n xs a b base ∧ 0 ≤ winJ at_ n xs a b base := by
  have hat : 0 ≤ at_ ∧ at_ < n := by
    unfold wgB at h
    simp only [Bool.and_eq_true, decide_eq_true_eq] at h
    exact h.1
  unfold winI winJ
  rw [if_pos h, if_pos h]
  have h1 := dn_le (wdn xs a b base at_.toNat) at_.toNat
  have h2 := up_le (wup xs a b base at_.toNat) (n - 1 - at_.toNat) at_.toNat
  omega
/-- A row that has no part that is not as short as any passes at each place. -/
theorem loc_all {at_ a b base : Int} (his : isB (NN : Int) E s l = true) (hat : 0 ≤ at_ ∧ at_ ≤ l.length) (hrr : rrB a b = true)
    (hall : ∀ i j, i ≤ j → j ≤ l.length → exB E F s l i j = true) : tsB (NN : Int) E F s l at_ a b base = true := by
  have hw : wgB at_ (l.length + 1) ((List.range (l.length + 1)).map (wtK E l)) a b = true := by
    unfold wgB
    rw [offs_ok his, hrr, decide_eq_true (by omega)]
    rfl
  obtain ⟨h1, h2, h3, _⟩ := win_in (base := base) hw
  unfold tsB
  rw [his, hw, hall _ _ (by omega) (by omega)]
  rfl
/-- Whoever passes with a ratio passes with a lesser one. -/
theorem loc_less {at_ a b a' b' base : Int} (h : Mks NN E F T) (hrr : rrB a b = true) (hrr' : rrB a' b' = true) (hb : 0 ≤ base) (hle : a' * b ≤ a * b')
    (ht : tsB (NN : Int) E F s l at_ a b base = true) : tsB (NN : Int) E F s l at_ a' b' base = true := by
  unfold tsB at ht
  simp only [Bool.and_eq_true] at ht
  obtain ⟨his, hw, hx⟩ := ht
  have hw' : wgB at_ (l.length + 1) ((List.range (l.length + 1)).map (wtK E l)) a' b' = true := by
    unfold wgB at hw ⊢
    simp only [Bool.and_eq_true] at hw ⊢
    exact ⟨hw.1, hw.2.1, hrr'⟩
  obtain ⟨h1, h2, h3, h4, h5⟩ := win_in (base := base) hw
  obtain ⟨k1, k2, k3, k4, k5⟩ := win_in (base := base) hw'
  have hI : (winI at_ (l.length + 1) ((List.range (l.length + 1)).map (wtK E l)) a b base).toNat ≤ (winI at_ (l.length + 1) ((List.range (l.length + 1)).map (wtK E l)) a' b' base).toNat := by
    unfold winI
    rw [if_pos hw, if_pos hw']
    have := dn_mono (R := wdn ((List.range (l.length + 1)).map (wtK E l)) a b base at_.toNat) (R' := wdn ((List.range (l.length + 1)).map (wtK E l)) a' b' base at_.toNat) (fun k hk => rc_less hb hrr hrr' hle hk) at_.toNat
    omega
  have hJ : (winJ at_ (l.length + 1) ((List.range (l.length + 1)).map (wtK E l)) a' b' base).toNat ≤ (winJ at_ (l.length + 1) ((List.range (l.length + 1)).map (wtK E l)) a b base).toNat := by
    unfold winJ
    rw [if_pos hw, if_pos hw']
    have := up_mono (R := wup ((List.range (l.length + 1)).map (wtK E l)) a b base at_.toNat) (R' := wup ((List.range (l.length + 1)).map (wtK E l)) a' b' base at_.toNat) (fun k hk => rc_less hb hrr hrr' hle hk) (l.length + 1 - 1 - at_.toNat) at_.toNat
    omega
  unfold tsB
  rw [his, hw', ex_sub h his hI (by omega) hJ (by omega) hx]
  rfl
end
end Go.Proofs.Ytiljgkaffgclgaa
