/- Contracts: the window at a place of offsets, and its answer: the two functions. -/
import Derived.Lib.SliceRun
import Derived.Test.YtgplpgldhoelcaaGreatQPenWays01
import Derived.Test.YtgplpgldhoelcaaGreatQPenWays03
import Derived.Test.YtgplpgldhoelcaaGreatQPenWays05
import Derived.Test.YtgplpgldhoelcaaGreatQPenWays06
import Derived.Test.YtgplpgldhoelcaaGreatQPenWays16
import Derived.Test.YtgplpgldhoelcaaGreatQPenWays18
import Derived.Test.YtgplpgldhoelcaaGreatQPenWays19
namespace Go.Proofs.YtgplpgldhoelcaaGreat
open Go Go.RowKit
def dn (R : Nat → Bool) : Nat → Nat
  | 0 => 0
  | k + 1 => if R (k + 1) then k + 1 else dn R k
def up (R : Nat → Bool) : Nat → Nat → Nat
  | 0, k => k
  | d + 1, k => if R k then k else up R d (k + 1)
theorem dn_succ (R : Nat → Bool) (k : Nat) : dn R (k + 1) = if R (k + 1) then k + 1 else dn R k := rfl
theorem dn_none {R : Nat → Bool} {k : Nat} : (∀ j, j ≤ k → R j = false) → dn R k = 0 := by
  induction k with
  | zero => intro _; rfl
  | succ k ih => intro h; unfold dn; rw [h (k + 1) (by omega)]; exact ih fun j hj => h j (by omega)
theorem dn_at {R : Nat → Bool} {m k : Nat} (hk : k ≤ m) (h : ∀ j, k < j → j ≤ m → R j = false) : dn R m = dn R k := by
  induction m with
  | zero => rw [show k = 0 by omega]
  | succ m ih =>
    by_cases e : k = m + 1
    · rw [e]
    · rw [dn_succ, h (m + 1) (by omega) (by omega)]
      exact ih (by omega) fun j h1 h2 => h j h1 (by omega)
theorem dn_hit {R : Nat → Bool} {k : Nat} (h : R k = true) : dn R k = k := by
  cases k with
  | zero => rfl
  | succ k => unfold dn; rw [h]; rfl
theorem up_at {R : Nat → Bool} : ∀ {d k m : Nat}, k ≤ m → m ≤ k + d → (∀ j, k ≤ j → j < m → R j = false) → up R d k = up R (k + d - m) m
  | 0, k, m, h1, h2, _ => by rw [show m = k by omega, show k + 0 - k = 0 by omega]
  | d + 1, k, m, h1, h2, h => by
    by_cases e : k = m
    · subst e; rw [show k + (d + 1) - k = d + 1 by omega]
    · unfold up
      rw [h k (by omega) (by omega)]
      have := up_at (d := d) (k := k + 1) (m := m) (by omega) (by omega) (fun j hj hj' => h j (by omega) hj')
      rw [show k + (d + 1) - m = k + 1 + d - m by omega]
      cases hd : k + 1 + d - m <;> simp_all [up]
theorem up_hit {R : Nat → Bool} {d k : Nat} (h : R k = true) : up R d k = k := by
  cases d with
  | zero => rfl
  | succ d => unfold up; rw [h]; rfl

def uw (a b : Int) : Int := IntKind.u64.wrap (a - b)
theorem uw_u64 (a b : Int) : U64 (uw a b) := by unfold uw U64; rw [IntKind.wrap_u64]; omega
def wgB (at_ : Int) (n : Nat) (xs : List Int) (a b : Int) : Bool := decide (0 ≤ at_ ∧ at_ < n) && (offB xs && rrB a b)
def wdn (xs : List Int) (a b base : Int) (m : Nat) : Nat → Bool := fun k => rcB (uw (gi xs m) (gi xs k)) a b base
def wup (xs : List Int) (a b base : Int) (m : Nat) : Nat → Bool := fun k => rcB (uw (gi xs k) (gi xs m)) a b base
def winI (at_ : Int) (n : Nat) (xs : List Int) (a b base : Int) : Int := if wgB at_ n xs a b then (dn (wdn xs a b base at_.toNat) at_.toNat : Nat) else 0
def winJ (at_ : Int) (n : Nat) (xs : List Int) (a b base : Int) : Int := if wgB at_ n xs a b then (up (wup xs a b base at_.toNat) (n - 1 - at_.toNat) at_.toNat : Nat) else 0
def winV (at_ : Int) (n : Nat) (xs : List Int) (a b base : Int) : Value := .tuple #[.int .i64 (winI at_ n xs a b base), .int .i64 (winJ at_ n xs a b base), .bool (wgB at_ n xs a b)]
theorem winV_bad {at_ : Int} {n : Nat} {xs : List Int} {a b base : Int} (h : wgB at_ n xs a b = false) : Value.tuple #[.int .i64 0, .int .i64 0, .bool false] = winV at_ n xs a b base := by
  unfold winV winI winJ
  rw [h]
  simp
theorem wgB_at {at_ : Int} {n : Nat} {xs : List Int} {a b : Int} (h : at_ < 0 ∨ (n : Int) ≤ at_) : wgB at_ n xs a b = false := by
  unfold wgB
  rw [show decide (0 ≤ at_ ∧ at_ < n) = false from decide_eq_false (by omega)]
  rfl
theorem wgB_off {at_ : Int} {n : Nat} {xs : List Int} {a b : Int} (h : offB xs = false) : wgB at_ n xs a b = false := by simp [wgB, h]
theorem wgB_rr {at_ : Int} {n : Nat} {xs : List Int} {a b : Int} (h : rrB a b = false) : wgB at_ n xs a b = false := by simp [wgB, h]
theorem wgB_ok {at_ : Int} {n : Nat} {xs : List Int} {a b : Int} (h1 : ¬ at_ < 0) (h2 : ¬ (n : Int) ≤ at_) (h3 : offB xs = true) (h4 : rrB a b = true) : wgB at_ n xs a b = true := by
  unfold wgB
  rw [show decide (0 ≤ at_ ∧ at_ < n) = true from decide_eq_true (by omega), h3, h4]
  rfl
theorem ret_val {a b : Value} (h : a = b) : Ending.returned a = .returned b := by rw [h]
theorem off_of {xs : List Int} {n : Nat} (hl : xs.length = n) (hn : 0 < n) : offB xs = (decide (gi xs 0 = 0) && srtB xs) := by
  unfold offB srtB
  rw [Bool.eq_iff_iff]
  simp only [decide_eq_true_eq, Bool.and_eq_true]
  constructor
  · intro h
    refine ⟨by simpa using h 0 (by omega), fun i hi => ?_⟩
    simpa using h (i + 1) (by omega)
  · rintro ⟨h0, h⟩ i hi
    by_cases e : i = 0
    · subst e; simpa using h0
    · rw [if_neg e]
      have := h (i - 1) (by omega)
      rwa [show i - 1 + 1 = i by omega] at this

theorem winV_ok {m n : Nat} {xs : List Int} {a b base : Int} {i j : Nat} (h : wgB m n xs a b = true) (hi : dn (wdn xs a b base m) m = i) (hj : up (wup xs a b base m) (n - 1 - m) m = j) :
    winV m n xs a b base = .tuple #[.int .i64 (i : Int), .int .i64 (j : Int), .bool true] := by
  unfold winV winI winJ
  rw [h]
  simp [hi, hj]

set_option maxHeartbeats 2000000 in
theorem rWindow (A : Option Addr) (n c : Nat) (xs : List Int) (at_ a b base : Int) (w : World) (h : Rd w A 1 n (xs.map (.int .u64))) (hn : n ≤ 1000000) (ha : U64 a) (hb : U64 b) (hbase : U64 base) :
    Calls Tryz.prog 167 #[.slice A n c, .int .i64 at_, .agg #[.int .u64 a, .int .u64 b], .int .u64 base] w fun e w' => e = .returned (winV at_ n xs a b base) ∧ Grows w w' := by
  have HL := hide (show xs.length = n by simpa using h.len)
  have HR := hide h
  have HA := hide ha
  have HB := hide hb
  have HE := hide hbase
  have C1 := fun W (g : Grows w W) => rRises A n c xs W (HR.out.grows g) hn
  have C2 := fun W => rRight a b W ha
  clear h ha hb hbase
  by_cases h1 : at_ < 0
  · have HW : Hid (wgB at_ n xs a b = false) := wgB_at (by omega)
    clear C1 C2
    go_enter Tryz.func167, Tryz.ntmps167
    go_wp2
    go_ret3
    exact ⟨ret_val (winV_bad HW.out), GG⟩
  by_cases h2 : (n : Int) ≤ at_
  · have HW : Hid (wgB at_ n xs a b = false) := wgB_at (by omega)
    clear C1 C2
    go_enter Tryz.func167, Tryz.ntmps167
    go_wp2
    go_ret3
    exact ⟨ret_val (winV_bad HW.out), GG⟩
  cases h3 : offB xs with
  | false =>
    have HW : Hid (wgB at_ n xs a b = false) := wgB_off h3
    rw [h3] at C1
    have HC := hide C1
    clear C1 C2 h3
    go_enter Tryz.func167, Tryz.ntmps167
    go_wp2_with (first | (go_at_call 210; refine (HC.out _ GG).mono ?_; rintro e w' ⟨rfl, hg⟩; (first | obtain ⟨x, rfl⟩ := Grows.later2 hg | obtain ⟨x, rfl⟩ := Grows.later hg); clear hg))
    go_ret3
    exact ⟨ret_val (winV_bad HW.out), GG⟩
  | true =>
  cases h4 : rrB a b with
  | false =>
    have HW : Hid (wgB at_ n xs a b = false) := wgB_rr h4
    rw [h3] at C1
    rw [h4] at C2
    have HC := hide C1
    have HD := hide C2
    clear C1 C2 h3 h4
    go_enter Tryz.func167, Tryz.ntmps167
    go_wp2_with (first | (go_at_call 210; refine (HC.out _ GG).mono ?_; rintro e w' ⟨rfl, hg⟩; (first | obtain ⟨x, rfl⟩ := Grows.later2 hg | obtain ⟨x, rfl⟩ := Grows.later hg); clear hg) | (go_at_call 94; refine (HD.out _).mono ?_; rintro e w' ⟨rfl, hg⟩; (first | obtain ⟨x, rfl⟩ := Grows.later2 hg | obtain ⟨x, rfl⟩ := Grows.later hg); clear hg))
    go_ret3
    exact ⟨ret_val (winV_bad HW.out), GG⟩
  | true =>
    have HW : Hid (wgB at_ n xs a b = true) := wgB_ok h1 h2 h3 h4
    rw [h3] at C1
    rw [h4] at C2
    have HC := hide C1
    have HD := hide C2
    clear C1 C2 h3 h4
    obtain ⟨m, rfl⟩ : ∃ m : Nat, at_ = m := ⟨at_.toNat, by omega⟩
    go_enter Tryz.func167, Tryz.ntmps167
    go_wp2_with (first | (go_at_call 210; refine (HC.out _ GG).mono ?_; rintro e w' ⟨rfl, hg⟩; (first | obtain ⟨x, rfl⟩ := Grows.later2 hg | obtain ⟨x, rfl⟩ := Grows.later hg); clear hg) | (go_at_call 94; refine (HD.out _).mono ?_; rintro e w' ⟨rfl, hg⟩; (first | obtain ⟨x, rfl⟩ := Grows.later2 hg | obtain ⟨x, rfl⟩ := Grows.later hg); clear hg))
    go_loopw [11] (fun i wr => ∃ k : Nat, k ≤ m ∧ i = .int .i64 (k : Int) ∧ (∃ x : Later (w.alloc (.cells #[.int .u64 a, .int .u64 b] 71)), wr = x.now) ∧ ∀ j, k < j → j ≤ m → wdn xs a b base m j = false) (fun i _ => (intOf i).toNat)
    case atStart => exact ⟨m, by omega, by go_num, ⟨_, rfl⟩, fun j h1 h2 => by omega⟩
    case round =>
      obtain ⟨k, hk, rfl, ⟨x, rfl⟩, hall⟩ := hrel
      obtain ⟨b', off, rfl, hc⟩ := HR.out.ints (by omega)
      have hc1 := hc m (by omega)
      have hc2 := hc k (by omega)
      have HG := hide hc
      have HK := hide hall
      clear hall hc
      have CR := fun W => rReaches (uw (gi xs m) (gi xs k)) a b base W (uw_u64 _ _) HB.out HE.out
      cases hR : wdn xs a b base m k with
      | false =>
        have CR' := hide (fun W => show Calls _ _ _ W fun e w' => e = .returned (.bool false) ∧ Grows W w' from by have h := CR W; rw [show rcB (uw (gi xs m) (gi xs k)) a b base = false from hR] at h; exact h)
        have HF := hide hR
        clear CR hR
        by_cases hk0 : k = 0
        · subst hk0
          have HI : Hid (dn (wdn xs a b base m) m = 0) := dn_at hk HK.out
          clear hc1 hc2 CR'
          go_wp2_with fail
          ((first | refine wp_region_gen2 (by kernel_rfl) (by kernel_rfl) ?_ | refine wp_region_gen (by kernel_rfl) (by kernel_rfl) ?_); (repeat' ((first | refine gLex_val0 rfl (by kernel_rfl) (fun K hK => ?_) | refine gLex_undef rfl rfl rfl (by kernel_rfl) (fun K hK => ?_) | (refine gLex_ask rfl rfl rfl ?_; first | (apply gAsk_yes; kernel_rfl; intro K hK) | ((first | apply gAsk_no1 | apply gAsk_no2); kernel_rfl; intro K hK) | (apply gAsk_part; kernel_rfl; all_goals (intro h K hK; (try simp only [Bool.not_true] at h); (try simp only [Bool.not_false] at h); (try simp only [decide_eq_true_eq] at h); (try simp only [decide_eq_false_iff_not] at h); try (exfalso; first | contradiction | omega))))) <;> (go_simp; (try (simp only [↓IntWalk.iteOmega]; try go_simp)); (try simp (disch := omega) only [IntWalk.i64_in]); (try simp (disch := omega) only [IntWalk.u64_in]); refine hK _ ?_; clear hK K))); all_goals ((apply gLex_end); intro x))
          go_wp2_with fail
          clear HK
          go_loopw [12] (fun i wr => ∃ q : Nat, m ≤ q ∧ q < n ∧ i = .int .i64 (q : Int) ∧ (∃ x : Later (w.alloc (.cells #[.int .u64 a, .int .u64 b] 71)), wr = x.now) ∧ ∀ j, m ≤ j → j < q → wup xs a b base m j = false) (fun i _ => n - (intOf i).toNat)
          case atStart => exact ⟨m, by omega, by omega, by go_num, ⟨_, rfl⟩, fun j h1 h2 => by omega⟩
          case round =>
            obtain ⟨p, hp1, hp2, rfl, ⟨y, rfl⟩, hall⟩ := hrel
            have HU := hide hall
            have hc3 := HG.out m (by omega)
            have hc4 := HG.out p (by omega)
            clear hall
            have CU := fun W => rReaches (uw (gi xs p) (gi xs m)) a b base W (uw_u64 _ _) HB.out HE.out
            by_cases hlast : p = n - 1
            · have HJ : Hid (winV m n xs a b base = .tuple #[.int .i64 0, .int .i64 (p : Int), .bool true]) := winV_ok HW.out HI.out (by rw [up_at hp1 (by omega) HU.out, show m + (n - 1 - m) - p = 0 by omega]; rfl)
              have hd : decide ((p : Int) < (n : Int) - 1) = false := by simp; omega
              have hp3 : n ≤ p + 1 := by omega
              clear CU hc3 hc4 hlast
              go_wp2_with fail
              ((first | refine wp_region_gen2 (by kernel_rfl) (by kernel_rfl) ?_ | refine wp_region_gen (by kernel_rfl) (by kernel_rfl) ?_); (repeat' ((first | refine gLex_val0 rfl (by kernel_rfl) (fun K hK => ?_) | refine gLex_undef rfl rfl rfl (by kernel_rfl) (fun K hK => ?_) | (refine gLex_ask rfl rfl rfl ?_; first | (apply gAsk_yes; kernel_rfl; intro K hK) | ((first | apply gAsk_no1 | apply gAsk_no2); kernel_rfl; intro K hK) | (apply gAsk_part; kernel_rfl; all_goals (intro h K hK; (try simp only [Bool.not_true] at h); (try simp only [Bool.not_false] at h); (try simp only [decide_eq_true_eq] at h); (try simp only [decide_eq_false_iff_not] at h); try (exfalso; first | contradiction | omega))))) <;> (go_simp; (try (simp only [↓IntWalk.iteOmega]; try go_simp)); (try simp (disch := omega) only [IntWalk.i64_in]); (try simp (disch := omega) only [IntWalk.u64_in]); refine hK _ ?_; clear hK K))); all_goals ((apply gLex_end); intro x))
              go_wp2
              go_ret3
              exact ⟨ret_val HJ.out.symm, GG⟩
            cases hR2 : wup xs a b base m p with
            | true =>
              have CU' := hide (fun W => show Calls _ _ _ W fun e w' => e = .returned (.bool true) ∧ Grows W w' from by have h := CU W; rw [show rcB (uw (gi xs p) (gi xs m)) a b base = true from hR2] at h; exact h)
              have HJ : Hid (winV m n xs a b base = .tuple #[.int .i64 0, .int .i64 (p : Int), .bool true]) := winV_ok HW.out HI.out (by rw [up_at hp1 (by omega) HU.out]; exact up_hit hR2)
              clear CU hR2
              have hd : (p : Int) < (n : Int) - 1 := by omega
              go_wp2_with fail
              ((first | refine wp_region_gen2 (by kernel_rfl) (by kernel_rfl) ?_ | refine wp_region_gen (by kernel_rfl) (by kernel_rfl) ?_); (repeat' ((first | refine gLex_val0 rfl (by kernel_rfl) (fun K hK => ?_) | refine gLex_undef rfl rfl rfl (by kernel_rfl) (fun K hK => ?_) | (refine gLex_ask rfl rfl rfl ?_; first | (apply gAsk_yes; kernel_rfl; intro K hK) | ((first | apply gAsk_no1 | apply gAsk_no2); kernel_rfl; intro K hK) | (apply gAsk_part; kernel_rfl; all_goals (intro h K hK; (try simp only [Bool.not_true] at h); (try simp only [Bool.not_false] at h); (try simp only [decide_eq_true_eq] at h); (try simp only [decide_eq_false_iff_not] at h); try (exfalso; first | contradiction | omega))))) <;> (go_simp; (try (simp only [↓IntWalk.iteOmega]; try go_simp)); (try simp (disch := omega) only [IntWalk.i64_in]); (try simp (disch := omega) only [IntWalk.u64_in]); first | (refine hK _ ?_; clear hK K) | (apply Exists.intro; refine ⟨fun x => ?_, hK _ ?_⟩; (first | (go_at_call 211; exact CU'.out _)); clear hK K)))); all_goals ((apply gLex_end); intro x))
              go_wp2
              go_ret3
              exact ⟨ret_val HJ.out.symm, GG⟩
            | false =>
              have CU' := hide (fun W => show Calls _ _ _ W fun e w' => e = .returned (.bool false) ∧ Grows W w' from by have h := CU W; rw [show rcB (uw (gi xs p) (gi xs m)) a b base = false from hR2] at h; exact h)
              have HF2 := hide hR2
              clear CU hR2
              have hd : (p : Int) < (n : Int) - 1 := by omega
              go_wp2_with fail
              ((first | refine wp_region_gen2 (by kernel_rfl) (by kernel_rfl) ?_ | refine wp_region_gen (by kernel_rfl) (by kernel_rfl) ?_); (repeat' ((first | refine gLex_val0 rfl (by kernel_rfl) (fun K hK => ?_) | refine gLex_undef rfl rfl rfl (by kernel_rfl) (fun K hK => ?_) | (refine gLex_ask rfl rfl rfl ?_; first | (apply gAsk_yes; kernel_rfl; intro K hK) | ((first | apply gAsk_no1 | apply gAsk_no2); kernel_rfl; intro K hK) | (apply gAsk_part; kernel_rfl; all_goals (intro h K hK; (try simp only [Bool.not_true] at h); (try simp only [Bool.not_false] at h); (try simp only [decide_eq_true_eq] at h); (try simp only [decide_eq_false_iff_not] at h); try (exfalso; first | contradiction | omega))))) <;> (go_simp; (try (simp only [↓IntWalk.iteOmega]; try go_simp)); (try simp (disch := omega) only [IntWalk.i64_in]); (try simp (disch := omega) only [IntWalk.u64_in]); first | (refine hK _ ?_; clear hK K) | (apply Exists.intro; refine ⟨fun x => ?_, hK _ ?_⟩; (first | (go_at_call 211; exact CU'.out _)); clear hK K)))); all_goals ((apply gLex_end); intro x))
              go_wp2
              refine ⟨⟨p + 1, by omega, by omega, by go_num, ⟨_, rfl⟩, fun j h1 h2 => ?_⟩, by simp [intOf]; omega⟩
              by_cases hj : j = p
              · rw [hj]; exact HF2.out
              · exact HU.out j h1 (by omega)
        · obtain ⟨q, rfl⟩ : ∃ q, k = q + 1 := ⟨k - 1, by omega⟩
          go_wp2_with fail
          ((first | refine wp_region_gen2 (by kernel_rfl) (by kernel_rfl) ?_ | refine wp_region_gen (by kernel_rfl) (by kernel_rfl) ?_); (repeat' ((first | refine gLex_val0 rfl (by kernel_rfl) (fun K hK => ?_) | refine gLex_undef rfl rfl rfl (by kernel_rfl) (fun K hK => ?_) | (refine gLex_ask rfl rfl rfl ?_; first | (apply gAsk_yes; kernel_rfl; intro K hK) | ((first | apply gAsk_no1 | apply gAsk_no2); kernel_rfl; intro K hK) | (apply gAsk_part; kernel_rfl; all_goals (intro h K hK; (try simp only [Bool.not_true] at h); (try simp only [Bool.not_false] at h); (try simp only [decide_eq_true_eq] at h); (try simp only [decide_eq_false_iff_not] at h); try (exfalso; first | contradiction | omega))))) <;> (go_simp; (try (simp only [↓IntWalk.iteOmega]; try go_simp)); (try simp (disch := omega) only [IntWalk.i64_in]); (try simp (disch := omega) only [IntWalk.u64_in]); first | (refine hK _ ?_; clear hK K) | (apply Exists.intro; refine ⟨fun x => ?_, hK _ ?_⟩; (first | (go_at_call 211; exact CR'.out _)); clear hK K)))); all_goals ((apply gLex_end); intro x))
          go_wp2
          refine ⟨⟨q, by omega, rfl, ⟨_, rfl⟩, fun j h1 h2 => ?_⟩, by simp [intOf]⟩
          by_cases hj : j = q + 1
          · rw [hj]; exact HF.out
          · exact HK.out j (by omega) h2
      | true =>
        have CR' := hide (fun W => show Calls _ _ _ W fun e w' => e = .returned (.bool true) ∧ Grows W w' from by have h := CR W; rw [show rcB (uw (gi xs m) (gi xs k)) a b base = true from hR] at h; exact h)
        have HI : Hid (dn (wdn xs a b base m) m = k) := by rw [dn_at hk HK.out]; exact dn_hit hR
        clear CR hR
        by_cases hk0 : k = 0
        · subst hk0
          clear hc1 hc2 CR'
          go_wp2_with fail
          ((first | refine wp_region_gen2 (by kernel_rfl) (by kernel_rfl) ?_ | refine wp_region_gen (by kernel_rfl) (by kernel_rfl) ?_); (repeat' ((first | refine gLex_val0 rfl (by kernel_rfl) (fun K hK => ?_) | refine gLex_undef rfl rfl rfl (by kernel_rfl) (fun K hK => ?_) | (refine gLex_ask rfl rfl rfl ?_; first | (apply gAsk_yes; kernel_rfl; intro K hK) | ((first | apply gAsk_no1 | apply gAsk_no2); kernel_rfl; intro K hK) | (apply gAsk_part; kernel_rfl; all_goals (intro h K hK; (try simp only [Bool.not_true] at h); (try simp only [Bool.not_false] at h); (try simp only [decide_eq_true_eq] at h); (try simp only [decide_eq_false_iff_not] at h); try (exfalso; first | contradiction | omega))))) <;> (go_simp; (try (simp only [↓IntWalk.iteOmega]; try go_simp)); (try simp (disch := omega) only [IntWalk.i64_in]); (try simp (disch := omega) only [IntWalk.u64_in]); refine hK _ ?_; clear hK K))); all_goals ((apply gLex_end); intro x))
          go_wp2_with fail
          clear HK
          go_loopw [12] (fun i wr => ∃ q : Nat, m ≤ q ∧ q < n ∧ i = .int .i64 (q : Int) ∧ (∃ x : Later (w.alloc (.cells #[.int .u64 a, .int .u64 b] 71)), wr = x.now) ∧ ∀ j, m ≤ j → j < q → wup xs a b base m j = false) (fun i _ => n - (intOf i).toNat)
          case atStart => exact ⟨m, by omega, by omega, by go_num, ⟨_, rfl⟩, fun j h1 h2 => by omega⟩
          case round =>
            obtain ⟨p, hp1, hp2, rfl, ⟨y, rfl⟩, hall⟩ := hrel
            have HU := hide hall
            have hc3 := HG.out m (by omega)
            have hc4 := HG.out p (by omega)
            clear hall
            have CU := fun W => rReaches (uw (gi xs p) (gi xs m)) a b base W (uw_u64 _ _) HB.out HE.out
            by_cases hlast : p = n - 1
            · have HJ : Hid (winV m n xs a b base = .tuple #[.int .i64 0, .int .i64 (p : Int), .bool true]) := winV_ok HW.out HI.out (by rw [up_at hp1 (by omega) HU.out, show m + (n - 1 - m) - p = 0 by omega]; rfl)
              have hd : decide ((p : Int) < (n : Int) - 1) = false := by simp; omega
              have hp3 : n ≤ p + 1 := by omega
              clear CU hc3 hc4 hlast
              go_wp2_with fail
              ((first | refine wp_region_gen2 (by kernel_rfl) (by kernel_rfl) ?_ | refine wp_region_gen (by kernel_rfl) (by kernel_rfl) ?_); (repeat' ((first | refine gLex_val0 rfl (by kernel_rfl) (fun K hK => ?_) | refine gLex_undef rfl rfl rfl (by kernel_rfl) (fun K hK => ?_) | (refine gLex_ask rfl rfl rfl ?_; first | (apply gAsk_yes; kernel_rfl; intro K hK) | ((first | apply gAsk_no1 | apply gAsk_no2); kernel_rfl; intro K hK) | (apply gAsk_part; kernel_rfl; all_goals (intro h K hK; (try simp only [Bool.not_true] at h); (try simp only [Bool.not_false] at h); (try simp only [decide_eq_true_eq] at h); (try simp only [decide_eq_false_iff_not] at h); try (exfalso; first | contradiction | omega))))) <;> (go_simp; (try (simp only [↓IntWalk.iteOmega]; try go_simp)); (try simp (disch := omega) only [IntWalk.i64_in]); (try simp (disch := omega) only [IntWalk.u64_in]); refine hK _ ?_; clear hK K))); all_goals ((apply gLex_end); intro x))
              go_wp2
              go_ret3
              exact ⟨ret_val HJ.out.symm, GG⟩
            cases hR2 : wup xs a b base m p with
            | true =>
              have CU' := hide (fun W => show Calls _ _ _ W fun e w' => e = .returned (.bool true) ∧ Grows W w' from by have h := CU W; rw [show rcB (uw (gi xs p) (gi xs m)) a b base = true from hR2] at h; exact h)
              have HJ : Hid (winV m n xs a b base = .tuple #[.int .i64 0, .int .i64 (p : Int), .bool true]) := winV_ok HW.out HI.out (by rw [up_at hp1 (by omega) HU.out]; exact up_hit hR2)
              clear CU hR2
              have hd : (p : Int) < (n : Int) - 1 := by omega
              go_wp2_with fail
              ((first | refine wp_region_gen2 (by kernel_rfl) (by kernel_rfl) ?_ | refine wp_region_gen (by kernel_rfl) (by kernel_rfl) ?_); (repeat' ((first | refine gLex_val0 rfl (by kernel_rfl) (fun K hK => ?_) | refine gLex_undef rfl rfl rfl (by kernel_rfl) (fun K hK => ?_) | (refine gLex_ask rfl rfl rfl ?_; first | (apply gAsk_yes; kernel_rfl; intro K hK) | ((first | apply gAsk_no1 | apply gAsk_no2); kernel_rfl; intro K hK) | (apply gAsk_part; kernel_rfl; all_goals (intro h K hK; (try simp only [Bool.not_true] at h); (try simp only [Bool.not_false] at h); (try simp only [decide_eq_true_eq] at h); (try simp only [decide_eq_false_iff_not] at h); try (exfalso; first | contradiction | omega))))) <;> (go_simp; (try (simp only [↓IntWalk.iteOmega]; try go_simp)); (try simp (disch := omega) only [IntWalk.i64_in]); (try simp (disch := omega) only [IntWalk.u64_in]); first | (refine hK _ ?_; clear hK K) | (apply Exists.intro; refine ⟨fun x => ?_, hK _ ?_⟩; (first | (go_at_call 211; exact CU'.out _)); clear hK K)))); all_goals ((apply gLex_end); intro x))
              go_wp2
              go_ret3
              exact ⟨ret_val HJ.out.symm, GG⟩
            | false =>
              have CU' := hide (fun W => show Calls _ _ _ W fun e w' => e = .returned (.bool false) ∧ Grows W w' from by have h := CU W; rw [show rcB (uw (gi xs p) (gi xs m)) a b base = false from hR2] at h; exact h)
              have HF2 := hide hR2
              clear CU hR2
              have hd : (p : Int) < (n : Int) - 1 := by omega
              go_wp2_with fail
              ((first | refine wp_region_gen2 (by kernel_rfl) (by kernel_rfl) ?_ | refine wp_region_gen (by kernel_rfl) (by kernel_rfl) ?_); (repeat' ((first | refine gLex_val0 rfl (by kernel_rfl) (fun K hK => ?_) | refine gLex_undef rfl rfl rfl (by kernel_rfl) (fun K hK => ?_) | (refine gLex_ask rfl rfl rfl ?_; first | (apply gAsk_yes; kernel_rfl; intro K hK) | ((first | apply gAsk_no1 | apply gAsk_no2); kernel_rfl; intro K hK) | (apply gAsk_part; kernel_rfl; all_goals (intro h K hK; (try simp only [Bool.not_true] at h); (try simp only [Bool.not_false] at h); (try simp only [decide_eq_true_eq] at h); (try simp only [decide_eq_false_iff_not] at h); try (exfalso; first | contradiction | omega))))) <;> (go_simp; (try (simp only [↓IntWalk.iteOmega]; try go_simp)); (try simp (disch := omega) only [IntWalk.i64_in]); (try simp (disch := omega) only [IntWalk.u64_in]); first | (refine hK _ ?_; clear hK K) | (apply Exists.intro; refine ⟨fun x => ?_, hK _ ?_⟩; (first | (go_at_call 211; exact CU'.out _)); clear hK K)))); all_goals ((apply gLex_end); intro x))
              go_wp2
              refine ⟨⟨p + 1, by omega, by omega, by go_num, ⟨_, rfl⟩, fun j h1 h2 => ?_⟩, by simp [intOf]; omega⟩
              by_cases hj : j = p
              · rw [hj]; exact HF2.out
              · exact HU.out j h1 (by omega)
        · obtain ⟨q, rfl⟩ : ∃ q, k = q + 1 := ⟨k - 1, by omega⟩
          go_wp2_with fail
          ((first | refine wp_region_gen2 (by kernel_rfl) (by kernel_rfl) ?_ | refine wp_region_gen (by kernel_rfl) (by kernel_rfl) ?_); (repeat' ((first | refine gLex_val0 rfl (by kernel_rfl) (fun K hK => ?_) | refine gLex_undef rfl rfl rfl (by kernel_rfl) (fun K hK => ?_) | (refine gLex_ask rfl rfl rfl ?_; first | (apply gAsk_yes; kernel_rfl; intro K hK) | ((first | apply gAsk_no1 | apply gAsk_no2); kernel_rfl; intro K hK) | (apply gAsk_part; kernel_rfl; all_goals (intro h K hK; (try simp only [Bool.not_true] at h); (try simp only [Bool.not_false] at h); (try simp only [decide_eq_true_eq] at h); (try simp only [decide_eq_false_iff_not] at h); try (exfalso; first | contradiction | omega))))) <;> (go_simp; (try (simp only [↓IntWalk.iteOmega]; try go_simp)); (try simp (disch := omega) only [IntWalk.i64_in]); (try simp (disch := omega) only [IntWalk.u64_in]); first | (refine hK _ ?_; clear hK K) | (apply Exists.intro; refine ⟨fun x => ?_, hK _ ?_⟩; (first | (go_at_call 211; exact CR'.out _)); clear hK K)))); all_goals ((apply gLex_end); intro x))
          go_wp2_with fail
          clear HK
          go_loopw [12] (fun i wr => ∃ q : Nat, m ≤ q ∧ q < n ∧ i = .int .i64 (q : Int) ∧ (∃ x : Later (w.alloc (.cells #[.int .u64 a, .int .u64 b] 71)), wr = x.now) ∧ ∀ j, m ≤ j → j < q → wup xs a b base m j = false) (fun i _ => n - (intOf i).toNat)
          case atStart => exact ⟨m, by omega, by omega, by go_num, ⟨_, rfl⟩, fun j h1 h2 => by omega⟩
          case round =>
            obtain ⟨p, hp1, hp2, rfl, ⟨y, rfl⟩, hall⟩ := hrel
            have HU := hide hall
            have hc3 := HG.out m (by omega)
            have hc4 := HG.out p (by omega)
            clear hall
            have CU := fun W => rReaches (uw (gi xs p) (gi xs m)) a b base W (uw_u64 _ _) HB.out HE.out
            by_cases hlast : p = n - 1
            · have HJ : Hid (winV m n xs a b base = .tuple #[.int .i64 ((q + 1 : Nat) : Int), .int .i64 (p : Int), .bool true]) := winV_ok HW.out HI.out (by rw [up_at hp1 (by omega) HU.out, show m + (n - 1 - m) - p = 0 by omega]; rfl)
              have hd : decide ((p : Int) < (n : Int) - 1) = false := by simp; omega
              have hp3 : n ≤ p + 1 := by omega
              clear CU hc3 hc4 hlast
              go_wp2_with fail
              ((first | refine wp_region_gen2 (by kernel_rfl) (by kernel_rfl) ?_ | refine wp_region_gen (by kernel_rfl) (by kernel_rfl) ?_); (repeat' ((first | refine gLex_val0 rfl (by kernel_rfl) (fun K hK => ?_) | refine gLex_undef rfl rfl rfl (by kernel_rfl) (fun K hK => ?_) | (refine gLex_ask rfl rfl rfl ?_; first | (apply gAsk_yes; kernel_rfl; intro K hK) | ((first | apply gAsk_no1 | apply gAsk_no2); kernel_rfl; intro K hK) | (apply gAsk_part; kernel_rfl; all_goals (intro h K hK; (try simp only [Bool.not_true] at h); (try simp only [Bool.not_false] at h); (try simp only [decide_eq_true_eq] at h); (try simp only [decide_eq_false_iff_not] at h); try (exfalso; first | contradiction | omega))))) <;> (go_simp; (try (simp only [↓IntWalk.iteOmega]; try go_simp)); (try simp (disch := omega) only [IntWalk.i64_in]); (try simp (disch := omega) only [IntWalk.u64_in]); refine hK _ ?_; clear hK K))); all_goals ((apply gLex_end); intro x))
              go_wp2
              go_ret3
              exact ⟨ret_val HJ.out.symm, GG⟩
            cases hR2 : wup xs a b base m p with
            | true =>
              have CU' := hide (fun W => show Calls _ _ _ W fun e w' => e = .returned (.bool true) ∧ Grows W w' from by have h := CU W; rw [show rcB (uw (gi xs p) (gi xs m)) a b base = true from hR2] at h; exact h)
              have HJ : Hid (winV m n xs a b base = .tuple #[.int .i64 ((q + 1 : Nat) : Int), .int .i64 (p : Int), .bool true]) := winV_ok HW.out HI.out (by rw [up_at hp1 (by omega) HU.out]; exact up_hit hR2)
              clear CU hR2
              have hd : (p : Int) < (n : Int) - 1 := by omega
              go_wp2_with fail
              ((first | refine wp_region_gen2 (by kernel_rfl) (by kernel_rfl) ?_ | refine wp_region_gen (by kernel_rfl) (by kernel_rfl) ?_); (repeat' ((first | refine gLex_val0 rfl (by kernel_rfl) (fun K hK => ?_) | refine gLex_undef rfl rfl rfl (by kernel_rfl) (fun K hK => ?_) | (refine gLex_ask rfl rfl rfl ?_; first | (apply gAsk_yes; kernel_rfl; intro K hK) | ((first | apply gAsk_no1 | apply gAsk_no2); kernel_rfl; intro K hK) | (apply gAsk_part; kernel_rfl; all_goals (intro h K hK; (try simp only [Bool.not_true] at h); (try simp only [Bool.not_false] at h); (try simp only [decide_eq_true_eq] at h); (try simp only [decide_eq_false_iff_not] at h); try (exfalso; first | contradiction | omega))))) <;> (go_simp; (try (simp only [↓IntWalk.iteOmega]; try go_simp)); (try simp (disch := omega) only [IntWalk.i64_in]); (try simp (disch := omega) only [IntWalk.u64_in]); first | (refine hK _ ?_; clear hK K) | (apply Exists.intro; refine ⟨fun x => ?_, hK _ ?_⟩; (first | (go_at_call 211; exact CU'.out _)); clear hK K)))); all_goals ((apply gLex_end); intro x))
              go_wp2
              go_ret3
              exact ⟨ret_val HJ.out.symm, GG⟩
            | false =>
              have CU' := hide (fun W => show Calls _ _ _ W fun e w' => e = .returned (.bool false) ∧ Grows W w' from by have h := CU W; rw [show rcB (uw (gi xs p) (gi xs m)) a b base = false from hR2] at h; exact h)
              have HF2 := hide hR2
              clear CU hR2
              have hd : (p : Int) < (n : Int) - 1 := by omega
              go_wp2_with fail
              ((first | refine wp_region_gen2 (by kernel_rfl) (by kernel_rfl) ?_ | refine wp_region_gen (by kernel_rfl) (by kernel_rfl) ?_); (repeat' ((first | refine gLex_val0 rfl (by kernel_rfl) (fun K hK => ?_) | refine gLex_undef rfl rfl rfl (by kernel_rfl) (fun K hK => ?_) | (refine gLex_ask rfl rfl rfl ?_; first | (apply gAsk_yes; kernel_rfl; intro K hK) | ((first | apply gAsk_no1 | apply gAsk_no2); kernel_rfl; intro K hK) | (apply gAsk_part; kernel_rfl; all_goals (intro h K hK; (try simp only [Bool.not_true] at h); (try simp only [Bool.not_false] at h); (try simp only [decide_eq_true_eq] at h); (try simp only [decide_eq_false_iff_not] at h); try (exfalso; first | contradiction | omega))))) <;> (go_simp; (try (simp only [↓IntWalk.iteOmega]; try go_simp)); (try simp (disch := omega) only [IntWalk.i64_in]); (try simp (disch := omega) only [IntWalk.u64_in]); first | (refine hK _ ?_; clear hK K) | (apply Exists.intro; refine ⟨fun x => ?_, hK _ ?_⟩; (first | (go_at_call 211; exact CU'.out _)); clear hK K)))); all_goals ((apply gLex_end); intro x))
              go_wp2
              refine ⟨⟨p + 1, by omega, by omega, by go_num, ⟨_, rfl⟩, fun j h1 h2 => ?_⟩, by simp [intOf]; omega⟩
              by_cases hj : j = p
              · rw [hj]; exact HF2.out
              · exact HU.out j h1 (by omega)

end Go.Proofs.YtgplpgldhoelcaaGreat

namespace Go.Proofs.YtgplpgldhoelcaaGreat
open Go Go.RowKit
def wtK (E : List Edg) (l : List Int) : Nat → Int
  | 0 => 0
  | k + 1 => wtK E l k + (ge E (gi l k).toNat).w
theorem wtK_succ (E : List Edg) (l : List Int) (k : Nat) : wtK E l (k + 1) = wtK E l k + (ge E (gi l k).toNat).w := rfl
theorem right_weight {N : Int} {E : List Edg} (h : rightF N E = 0) {k : Nat} (hk : k < E.length) : 1 ≤ (ge E k).w ∧ (ge E k).w ≤ 4294967296 := by
  unfold rightF at h
  split at h
  · omega
  · split at h
    · omega
    · split at h
      · omega
      · split at h
        · omega
        · rename_i h4
          have h5 : E.any heavyB = false := by simpa using h4
          rw [List.any_eq_false] at h5
          have hm : ge E k ∈ E := by
            unfold ge
            rw [List.getD_eq_getElem?_getD, List.getElem?_eq_getElem hk]
            exact List.getElem_mem _
          have := h5 _ hm
          unfold heavyB wtB at this
          simpa using this
theorem edges_in2 {N : Int} {E : List Edg} {l : List Int} (h : edgesB N E l = true) {k : Nat} (hk : k < l.length) : rightF N E = 0 ∧ 0 ≤ gi l k ∧ (gi l k).toNat < E.length := by
  unfold edgesB at h
  simp only [Bool.and_eq_true, Bool.not_eq_true', List.any_eq_false, decide_eq_true_eq] at h
  have := h.2 _ (gi_mem hk)
  unfold edgeB at this
  simp at this
  exact ⟨h.1, by omega, by omega⟩
theorem wtK_bd {N : Int} {E : List Edg} {l : List Int} (h : edgesB N E l = true) : ∀ k, k ≤ l.length → 0 ≤ wtK E l k ∧ wtK E l k ≤ k * 4294967296
  | 0, _ => by simp [wtK]
  | k + 1, hk => by
    have ih := wtK_bd h k (by omega)
    obtain ⟨h1, h2, h3⟩ := edges_in2 h (k := k) (by omega)
    have := right_weight h1 h3
    rw [wtK_succ]
    omega
def ofL (E : List Edg) (l : List Int) (n k : Nat) : List Int := (List.range n).map fun j => if j ≤ k then wtK E l j else 0
theorem ofL_len (E : List Edg) (l : List Int) (n k : Nat) : (ofL E l n k).length = n := by simp [ofL]
theorem ofL_at (E : List Edg) (l : List Int) {n k j : Nat} (hj : j < n) (hk : j ≤ k) : (ofL E l n k)[j]? = some (wtK E l j) := by simp [ofL, hj, hk]
theorem ofL_start (E : List Edg) (l : List Int) (n : Nat) : (ofL E l n 0).map (Value.int .u64) = List.replicate n (.int .u64 0) := by
  apply List.ext_getElem (by simp [ofL])
  intro j h1 h2
  simp only [ofL, List.map_map, List.getElem_map, List.getElem_range, List.getElem_replicate, Function.comp]
  split
  · rename_i h
    have : j = 0 := by omega
    subst this
    rfl
  · rfl
theorem ofL_next (E : List Edg) (l : List Int) (n k : Nat) : ((ofL E l n k).map (Value.int .u64)).set (k + 1) (.int .u64 (wtK E l (k + 1))) = (ofL E l n (k + 1)).map (.int .u64) := by
  apply List.ext_getElem (by simp [ofL])
  intro j h1 h2
  rw [List.getElem_set]
  simp only [ofL, List.map_map, List.getElem_map, List.getElem_range, Function.comp]
  by_cases hj : k + 1 = j
  · subst hj; simp
  · rw [if_neg hj]
    by_cases h3 : j ≤ k
    · rw [if_pos h3, if_pos (by omega)]
    · rw [if_neg h3, if_neg (by omega)]
theorem ofL_end (E : List Edg) (l : List Int) (n : Nat) : ofL E l (n + 1) n = (List.range (n + 1)).map (wtK E l) := by
  unfold ofL
  apply List.map_congr_left
  intro j hj
  rw [if_pos (by have := List.mem_range.1 hj; omega)]
set_option maxRecDepth 20000 in
set_option maxHeartbeats 2000000 in
theorem r8Weight (N : Int) (A : Option Addr) (m c : Nat) (E : List Edg) (B : Option Addr) (n d : Nat) (l : List Int) (w : World) (h : Rd w A 3 m (esCells E)) (hm : m ≤ 1000000) (h' : Rd w B 1 n (l.map (.int .i64))) (hn : n ≤ 1000000) :
    Calls Tryz.prog 32 #[.agg #[.int .i64 N, .slice A m c], .slice B n d] w fun e w' => e = .returned (.tuple #[.int .u64 (if edgesB N E l then wtK E l l.length else 0), .bool (edgesB N E l)]) ∧ Grows w w' := by
  have HL := hide (show l.length = n by simpa using h'.len)
  have HE := hide h.elen
  have C1 := fun (W : World) (g : Grows w W) => r8edges N A m c E B n d l W (h.grows g) hm (h'.grows g) hn
  have HR := hide h
  have HS := hide h'
  clear h h'
  cases he : edgesB N E l with
  | false =>
    rw [he] at C1
    have H1 := hide C1
    clear C1 he
    go_enter Tryz.func32, Tryz.ntmps32
    go_wp2_with (first | (go_at_call 85; refine (H1.out _ GG).mono ?_; rintro e w' ⟨rfl, hg⟩; (first | obtain ⟨x, rfl⟩ := Grows.later2 hg | obtain ⟨x, rfl⟩ := Grows.later hg); clear hg))
    go_ret2
    exact ⟨rfl, GG⟩
  | true =>
    have HI := hide (fun k (hk : k < n) => edges_in2 he (k := k) (by rw [HL.out]; exact hk))
    have HB := hide (fun k (hk : k ≤ n) => wtK_bd he k (by rw [HL.out]; exact hk))
    rw [he] at C1
    have H1 := hide C1
    clear C1 he
    go_enter Tryz.func32, Tryz.ntmps32
    go_wp2_with (first | (go_at_call 85; refine (H1.out _ GG).mono ?_; rintro e w' ⟨rfl, hg⟩; (first | obtain ⟨x, rfl⟩ := Grows.later2 hg | obtain ⟨x, rfl⟩ := Grows.later hg); clear hg))
    go_loopw [7, 6] (fun i u wr => ∃ k : Nat, k ≤ n ∧ i = .int .i64 (k : Int) ∧ u = .int .u64 (wtK E l k) ∧ ∃ y : Later x.now, wr = y.now) (fun i _ _ => n - (intOf i).toNat)
    case atStart => exact ⟨0, by omega, by go_num, rfl, ⟨_, Grows.refl _⟩, rfl⟩
    case round =>
      obtain ⟨k, hk, rfl, rfl, y, rfl⟩ := hrel
      by_cases hend : n ≤ k
      · have hkm : k = n := by omega
        subst hkm
        go_wp2
        go_ret2
        exact ⟨by rw [HL.out]; rfl, GG⟩
      · obtain ⟨b, off, rfl, hc⟩ := HS.out.intsH (by omega)
        have c1 := hc k (by omega)
        obtain ⟨i0, i1, i2⟩ := HI.out k (by omega)
        have hw := right_weight i0 i2
        rw [HE.out] at i2
        obtain ⟨b2, off2, rfl, hc2⟩ := HR.out.edgesH (by omega)
        obtain ⟨c2, c3, c4⟩ := hc2 (gi l k).toNat i2
        obtain ⟨b0, b1⟩ := HB.out k (by omega)
        have HN := hide (wtK_succ E l k)
        clear hc hc2 i0
        generalize wtK E l k = a at *
        generalize (ge E (gi l k).toNat).w = v at *
        generalize hq : gi l k = q at *
        obtain ⟨q, rfl⟩ := Int.eq_ofNat_of_zero_le i1
        simp only [Int.toNat_natCast] at i2 c2 c3 c4
        go_wp2_with fail
        ((first | refine wp_region_gen (by kernel_rfl) (by kernel_rfl) ?_); (repeat' ((first | refine gLex_val0 rfl (by kernel_rfl) (fun K hK => ?_) | refine gLex_undef rfl rfl rfl (by kernel_rfl) (fun K hK => ?_) | (refine gLex_ask rfl rfl rfl ?_; first | (apply gAsk_yes; kernel_rfl; intro K hK) | ((first | apply gAsk_no1 | apply gAsk_no2); kernel_rfl; intro K hK) | (apply gAsk_part; kernel_rfl; all_goals (intro h K hK; (try simp only [Bool.not_true] at h); (try simp only [Bool.not_false] at h); (try simp only [decide_eq_true_eq] at h); (try simp only [decide_eq_false_iff_not] at h); try (exfalso; first | contradiction | omega))))) <;> (go_simp; (try (simp only [↓IntWalk.iteOmega]; try go_simp)); (try simp (disch := omega) only [IntWalk.i64_in]); (try simp (disch := omega) only [IntWalk.u64_in]); refine hK _ ?_; clear hK K))); all_goals ((apply gLex_end); intro x))
        go_wp2
        exact ⟨⟨k + 1, by omega, by go_num, by rw [HN.out], Grows.later GG⟩, by simp [intOf]; omega⟩
def OffPost (E : List Edg) (l : List Int) (b : Bool) (w : World) (e : Ending) (w' : World) : Prop :=
  if b then ∃ g c, e = .returned (.slice (some ⟨g, 0, none⟩) (l.length + 1) c) ∧ Rd w' (some ⟨g, 0, none⟩) 1 (l.length + 1) (((List.range (l.length + 1)).map (wtK E l)).map (.int .u64)) ∧ Grows w w'
  else e = .returned (.slice none 0 0) ∧ Grows w w'
set_option maxRecDepth 20000 in
set_option maxHeartbeats 2000000 in
theorem pOffsets (N : Int) (A : Option Addr) (m c : Nat) (E : List Edg) (B : Option Addr) (n d : Nat) (l : List Int) (w : World) (h : Rd w A 3 m (esCells E)) (hm : m ≤ 1000000) (h' : Rd w B 1 n (l.map (.int .i64))) (hn : n ≤ 1000000) :
    Calls Tryz.prog 148 #[.agg #[.int .i64 N, .slice A m c], .slice B n d] w (OffPost E l (edgesB N E l) w) := by
  have HL := hide (show l.length = n by simpa using h'.len)
  have HE := hide h.elen
  have C1 := fun (W : World) (g : Grows w W) => pEdges N A m c E B n d l W (h.grows g) hm (h'.grows g) hn
  have HR := hide h
  have HS := hide h'
  clear h h'
  cases he : edgesB N E l with
  | false =>
    rw [he] at C1
    have H1 := hide C1
    clear C1 he
    go_enter Tryz.func148, Tryz.ntmps148
    go_wp2_with (first | (go_at_call 194; refine (H1.out _ GG).mono ?_; rintro e w' ⟨rfl, hg⟩; (first | obtain ⟨x, rfl⟩ := Grows.later2 hg | obtain ⟨x, rfl⟩ := Grows.later hg); clear hg))
    go_ret
    exact ⟨rfl, GG⟩
  | true =>
    have HI := hide (fun k (hk : k < n) => edges_in2 he (k := k) (by rw [HL.out]; exact hk))
    have HB := hide (fun k (hk : k ≤ n) => wtK_bd he k (by rw [HL.out]; exact hk))
    rw [he] at C1
    have H1 := hide C1
    clear C1 he
    go_enter Tryz.func148, Tryz.ntmps148
    go_wp2_with (first | (go_at_call 194; refine (H1.out _ GG).mono ?_; rintro e w' ⟨rfl, hg⟩; obtain ⟨x, rfl⟩ := hg.later; clear hg) | (at_make; refine wp_make1 elemU64 rfl _ _ rfl x.now (Grows.refl _) (n + 1) rfl rfl (by omega) (by omega) (by omega) ?_; intro g0 y0 hg0 hown0; have HO0 := hide hown0; clear hown0))
    go_loopw [18] (fun i wr => ∃ k : Nat, k ≤ n ∧ i = .int .i64 (k : Int) ∧ ∃ y : Later x.now, wr = y.now ∧ Own y.now x.now.heap.size 41 1 (some ⟨g0, 0, none⟩) (n + 1) (n + 1) ((ofL E l (n + 1) k).map (.int .u64))) (fun i _ => n - (intOf i).toNat)
    case atStart => exact ⟨0, by omega, by go_num, y0, rfl, by rw [ofL_start]; exact HO0.out⟩
    case round =>
      obtain ⟨k, hk, rfl, y, rfl, hown⟩ := hrel
      have HO := hide hown
      clear hown
      by_cases hend : n ≤ k
      · have hkm : k = n := by omega
        subst hkm
        have hr := HO.out.rd
        rw [ofL_end] at hr
        have HRd := hide hr
        clear hr
        go_wp2
        go_ret
        exact ⟨g0, k + 1, by rw [HL.out]; rfl, by rw [HL.out]; exact HRd.out, GG⟩
      · obtain ⟨b, off, rfl, hc⟩ := HS.out.intsH (by omega)
        have c1 := hc k (by omega)
        obtain ⟨i0, i1, i2⟩ := HI.out k (by omega)
        have hw := right_weight i0 i2
        rw [HE.out] at i2
        obtain ⟨b2, off2, rfl, hc2⟩ := HR.out.edgesH (by omega)
        obtain ⟨c2, c3, c4⟩ := hc2 (gi l k).toNat i2
        obtain ⟨b0, b1⟩ := HB.out k (by omega)
        have HN := hide (wtK_succ E l k)
        have HX := hide (ofL_next E l (n + 1) k)
        obtain ⟨g, hg, hgB, hcs⟩ := HO.out.at (by omega)
        injection hg with hg
        injection hg with hg
        subst hg
        have m1 := hcs k _ (by rw [List.getElem?_map, ofL_at E l (by omega) (Nat.le_refl k)]; rfl)
        obtain ⟨u, hu⟩ : ∃ u, ((ofL E l (n + 1) k).map (Value.int .u64))[k + 1]? = some u := ⟨_, List.getElem?_eq_getElem (by rw [List.length_map, ofL_len]; omega)⟩
        have m2 := hcs (k + 1) _ hu
        clear hc hc2 i0 hcs hu
        generalize wtK E l k = a at *
        generalize (ge E (gi l k).toNat).w = v at *
        generalize hq : gi l k = q at *
        obtain ⟨q, rfl⟩ := Int.eq_ofNat_of_zero_le i1
        simp only [Int.toNat_natCast] at i2 c2 c3 c4
        go_wp2_with fail
        go_region
        go_wp2
        refine ⟨⟨k + 1, by omega, by go_num, ⟨_, (y.grows.set (p := ⟨g0, k + 1, none⟩) hgB (.int .u64 (a + v))).drew⟩, rfl, ?_⟩, by simp [intOf]; omega⟩
        rw [← HX.out, HN.out]
        exact (HO.out.set rfl (by omega) (k + 1) (.int .u64 (a + v))).grows ((Grows.refl _).drew)
set_option maxRecDepth 20000 in
set_option maxHeartbeats 2000000 in
theorem pWeight (N : Int) (A : Option Addr) (m c : Nat) (E : List Edg) (B : Option Addr) (n d : Nat) (l : List Int) (w : World) (h : Rd w A 3 m (esCells E)) (hm : m ≤ 1000000) (h' : Rd w B 1 n (l.map (.int .i64))) (hn : n ≤ 1000000) :
    Calls Tryz.prog 87 #[.agg #[.int .i64 N, .slice A m c], .slice B n d] w fun e w' => e = .returned (.tuple #[.int .u64 (if edgesB N E l then wtK E l l.length else 0), .bool (edgesB N E l)]) ∧ Grows w w' := by
  have hnil := fun (w : World) (a : Option Addr) (n c n' c' : Nat) => Lib.run_eql_slice_nil (P := Tryz.prog) w 82 41 a n c n' c' Tryz.underlying82
  have HL := hide (show l.length = n by simpa using h'.len)
  have H1 := hide (fun (W : World) (g : Grows w W) => pOffsets N A m c E B n d l W (h.grows g) hm (h'.grows g) hn)
  clear h h'
  cases he : edgesB N E l with
  | false =>
    rw [he] at H1
    clear he
    go_enter Tryz.func87, Tryz.ntmps87
    go_wp2_with (go_at_call 148; refine (H1.out _ GG).mono ?_; rintro e w' ⟨rfl, hg⟩; obtain ⟨x, rfl⟩ := hg.later; clear hg)
    go_ret2
    exact ⟨rfl, GG⟩
  | true =>
    rw [he] at H1
    clear he
    go_enter Tryz.func87, Tryz.ntmps87
    go_wp2_with (go_at_call 148; refine (H1.out _ GG).mono ?_; rintro e w' ⟨g0, c0, rfl, hr, hg⟩; obtain ⟨x, rfl⟩ := hg.later; rw [HL.out] at hr; rw [HL.out]; obtain ⟨b, off, hb, hc⟩ := hr.intsH (by omega); injection hb with hb; injection hb with hb1 hb2; subst hb1; subst hb2; have c1 := hc n (by omega); rw [show gi ((List.range (n + 1)).map (wtK E l)) n = wtK E l n by simp [gi]] at c1; simp only [Nat.zero_add] at c1; clear hg hc hr)
    go_ret2
    exact ⟨by rw [HL.out]; rfl, GG⟩
end Go.Proofs.YtgplpgldhoelcaaGreat

namespace Go.Proofs.YtgplpgldhoelcaaGreat
open Go Go.RowKit
theorem dn_le (R : Nat → Bool) : ∀ m, dn R m ≤ m
  | 0 => Nat.le_refl _
  | m + 1 => by
    rw [dn_succ]
    split
    · exact Nat.le_refl _
    · have := dn_le R m; omega
theorem up_le (R : Nat → Bool) : ∀ d k, k ≤ up R d k ∧ up R d k ≤ k + d
  | 0, k => ⟨Nat.le_refl _, Nat.le_refl _⟩
  | d + 1, k => by
    unfold up
    split
    · omega
    · have := up_le R d (k + 1); omega
def nk (E : List Edg) (s : Int) (l : List Int) (k : Nat) : Nat := (ndI E s l k).toNat
section
variable {NN : Nat} {E : List Edg} {F T : Nat → List Nat} {s : Int} {l : List Int}
theorem isB_right {N : Int} (h : isB N E s l = true) : rightF N E = 0 ∧ nodeB N s = true ∧ lkB E s l l.length = true ∧ edgesB N E l = true := by
  unfold isB at h
  simp only [Bool.and_eq_true] at h
  refine ⟨?_, h.2.1, h.2.2, h.1⟩
  have := h.1
  unfold edgesB at this
  simp only [Bool.and_eq_true, decide_eq_true_eq] at this
  exact this.1
theorem lkB_at (h : lkB E s l l.length = true) {k : Nat} (hk : k < l.length) : (ge E (gi l k).toNat).f = ndI E s l k := by
  have : lkB E s l (k + 1) = true := by
    cases hh : lkB E s l (k + 1) with
    | true => rfl
    | false =>
      have := lkB_mono hh (l.length - (k + 1))
      rw [show k + 1 + (l.length - (k + 1)) = l.length by omega, h] at this
      cases this
  simp only [lkB, Bool.and_eq_true, decide_eq_true_eq] at this
  exact this.2
theorem nk_in (his : isB (NN : Int) E s l = true) : ∀ k, k ≤ l.length → nk E s l k < NN ∧ ndI E s l k = (nk E s l k : Int)
  | 0, _ => by
    obtain ⟨_, h2, _⟩ := isB_right his
    unfold nodeB at h2
    simp at h2
    show s.toNat < NN ∧ s = (s.toNat : Int)
    omega
  | k + 1, hk => by
    obtain ⟨h1, _, _, h4⟩ := isB_right his
    have he := edges_in h4 (k := k) (by omega)
    have := ((right_in h1).2.2.2.1).t _ he.2
    rw [Int.toNat_natCast] at this
    exact this
theorem nk_hop (h : Mks NN E F T) (his : isB (NN : Int) E s l = true) {k : Nat} (hk : k < l.length) : gn (F (nk E s l k)) (nk E s l (k + 1)) < farV ∧ (gn (F (nk E s l k)) (nk E s l (k + 1)) : Int) ≤ wtK E l (k + 1) - wtK E l k := by
  obtain ⟨h1, _, h3, h4⟩ := isB_right his
  have he := edges_in h4 (k := k) hk
  obtain ⟨f1, f2, f3, f4⟩ := h.hop h1 he.2
  have e1 : fN E (gi l k).toNat = nk E s l k := by
    unfold fN nk
    rw [lkB_at h3 hk]
  have e2 : tN E (gi l k).toNat = nk E s l (k + 1) := rfl
  rw [e1, e2] at f3 f4
  refine ⟨f4, ?_⟩
  rw [wtK_succ]
  have hw := (right_in h1).2.2.2.2 _ he.2
  have e3 : gn (wtF (NN : Int) E []) (gi l k).toNat = (ge E (gi l k).toNat).w.toNat := by
    have : wtF (NN : Int) E [] = eW E := by
      unfold wtF
      rw [if_neg (by omega), if_neg (by simp), if_neg (by simp)]
    rw [this]
    simp [gn, eW, ge, he.2]
  rw [e3] at f3
  omega
theorem part_le (h : Mks NN E F T) (his : isB (NN : Int) E s l = true) {i : Nat} : ∀ d, i + d ≤ l.length → gn (F (nk E s l i)) (nk E s l (i + d)) < farV ∧ (gn (F (nk E s l i)) (nk E s l (i + d)) : Int) ≤ wtK E l (i + d) - wtK E l i
  | 0, hd => by
    have hi := (nk_in his i (by omega)).1
    rw [Nat.add_zero, h.self hi]
    unfold farV
    omega
  | d + 1, hd => by
    obtain ⟨h1, _⟩ := isB_right his
    obtain ⟨h2, h3⟩ := part_le h his (i := i) d (by omega)
    obtain ⟨h4, h5⟩ := nk_hop h his (k := i + d) (show i + d < l.length by omega)
    have := h.tri h1 (nk_in his i (by omega)).1 (nk_in his (i + d) (by omega)).1 (nk_in his (i + (d + 1)) (by omega)).1 h2 h4
    rw [show i + (d + 1) = i + d + 1 by omega] at this ⊢
    omega
theorem part_le2 (h : Mks NN E F T) (his : isB (NN : Int) E s l = true) {i j : Nat} (hij : i ≤ j) (hj : j ≤ l.length) : gn (F (nk E s l i)) (nk E s l j) < farV ∧ (gn (F (nk E s l i)) (nk E s l j) : Int) ≤ wtK E l j - wtK E l i := by
  have := part_le h his (i := i) (j - i) (by omega)
  rwa [show i + (j - i) = j by omega] at this
def exB (E : List Edg) (F : Nat → List Nat) (s : Int) (l : List Int) (i j : Nat) : Bool := decide ((gn (F (nk E s l i)) (nk E s l j) : Int) = wtK E l j - wtK E l i)
def tsB (N : Int) (E : List Edg) (F : Nat → List Nat) (s : Int) (l : List Int) (at_ a b base : Int) : Bool :=
  isB N E s l && (wgB at_ (l.length + 1) ((List.range (l.length + 1)).map (wtK E l)) a b && exB E F s l (winI at_ (l.length + 1) ((List.range (l.length + 1)).map (wtK E l)) a b base).toNat (winJ at_ (l.length + 1) ((List.range (l.length + 1)).map (wtK E l)) a b base).toNat)
theorem offs_at (E : List Edg) (l : List Int) {k : Nat} (hk : k ≤ l.length) : gi ((List.range (l.length + 1)).map (wtK E l)) k = wtK E l k := by
  simp [gi, show k < l.length + 1 by omega]
theorem win_in {at_ : Int} {n : Nat} {xs : List Int} {a b base : Int} (h : wgB at_ n xs a b = true) : (winI at_ n xs a b base).toNat ≤ at_.toNat ∧ at_.toNat ≤ (winJ at_ n xs a b base).toNat ∧ (winJ at_ n xs a b base).toNat < n ∧ 0 ≤ winI at_ n xs a b base ∧ 0 ≤ winJ at_ n xs a b base := by
  have hat : 0 ≤ at_ ∧ at_ < n := by
    unfold wgB at h
    simp only [Bool.and_eq_true, decide_eq_true_eq] at h
    exact h.1
  unfold winI winJ
  rw [if_pos h, if_pos h]
  have h1 := dn_le (wdn xs a b base at_.toNat) at_.toNat
  have h2 := up_le (wup xs a b base at_.toNat) (n - 1 - at_.toNat) at_.toNat
  omega
end
end Go.Proofs.YtgplpgldhoelcaaGreat

