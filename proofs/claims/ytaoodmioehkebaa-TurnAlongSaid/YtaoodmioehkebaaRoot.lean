/- Contracts: roots, and how far places lie apart. -/
import Derived.Test.YtaoodmioehkebaaPlace
import Derived.Laws.Externs
import GoSem.Extern.MathSqrt
namespace Go.Proofs.Ytaoodmioehkebaa
open Go Go.RowKit
theorem run_mathSqrt (b : Nat) (w : World) : ∃ r w', Grows w w' ∧ (Extern.MathSqrt.sqrt #[.float .f64 b]).run Try.prog w = .ok (.float .f64 r) w' := by
  have h1 : ∀ r, FloatKind.f64.format.sqrt b = some r → (Extern.MathSqrt.sqrt #[.float .f64 b]).run Try.prog w = .ok (.float .f64 r) w := fun r h => by
    change Sem.run _ (match FloatKind.f64.format.sqrt b with | some r => pure (Value.float .f64 r) | none => _) w = _
    rw [h]; rfl
  have h2 : FloatKind.f64.format.sqrt b = none → (Extern.MathSqrt.sqrt #[.float .f64 b]).run Try.prog w = ((choose (.nanBits .f64 b b)).run Try.prog w).andThen fun n w' => .ok (.float .f64 n) w' := fun h => by
    change Sem.run _ (match FloatKind.f64.format.sqrt b with | some r => _ | none => (choose (.nanBits .f64 b b) >>= fun n => pure (Value.float .f64 n))) w = _
    rw [h]
    simp only [Sem.run_bind]
    rfl
  cases h : FloatKind.f64.format.sqrt b with
  | some r => exact ⟨r, w, Grows.refl _, h1 r h⟩
  | none =>
    rw [h2 h, run_choose_drew]
    by_cases hf : (Question.nanBits FloatKind.f64 b b).forced = true
    · rw [if_pos hf]
      exact ⟨_, _, Grows.refl _, rfl⟩
    · rw [if_neg hf]
      exact ⟨_, _, (Grows.refl w).drew, rfl⟩
theorem run_msqrt (b : Nat) (w : World) : ∃ r w', Grows w w' ∧ (callFunc 88 #[.float .f64 b]).run Try.prog w = .ok (.value (.float .f64 r)) w' := by
  obtain ⟨r, w', hg, h⟩ := run_mathSqrt b w
  refine ⟨r, w', hg, ?_⟩
  rw [run_callFunc_extern (e := Extern.MathSqrt.sqrt) Try.func88 (by kernel_rfl) (by kernel_rfl) (by kernel_rfl) (by kernel_rfl), h]
  rfl
theorem mSqrt (b : Nat) (w : World) : Calls Try.prog 63 #[.float .f64 b] w fun e w' => ∃ r, e = .returned (.float .f64 r) ∧ Grows w w' := by
  obtain ⟨r, w', hg, hq⟩ := run_msqrt b w
  go_enter Try.func63, Try.ntmps63
  go_wp2
  go_ret
  exact ⟨_, rfl, hg⟩
theorem run_conv (b : Nat) (w : World) : ∃ v w', 0 ≤ v ∧ v < 18446744073709551616 ∧ Grows w w' ∧ (convert 70 30 (.float .f64 b)).run Try.prog w = .ok (.int .u64 v) w' := by
  have hu : ∀ w, Sem.run Try.prog (underlying 70) w = .ok (.float .f64) w := fun w => run_underlying Try.underlying70 w
  have hd : ∀ w, Sem.run Try.prog (underlying 30) w = .ok (.int .u64) w := fun w => run_underlying Try.underlying30 w
  simp only [convert, Sem.run_bind, hu, hd, Result.andThen, Conv.floatToInt]
  have any : ∀ q : Question, ∃ v w', 0 ≤ v ∧ v < 18446744073709551616 ∧ Grows w w' ∧ Sem.run Try.prog (do pure (.int .u64 (IntKind.u64.wrap (← choose q)))) w = .ok (Value.int .u64 v) w' := fun q => by
    simp only [Sem.run_bind, run_choose_drew, Result.andThen]
    have wr : ∀ z : Int, 0 ≤ IntKind.u64.wrap z ∧ IntKind.u64.wrap z < 18446744073709551616 := fun z => ⟨Int.emod_nonneg _ (by decide), Int.emod_lt_of_pos _ (by decide)⟩
    by_cases hf : q.forced = true
    · refine ⟨IntKind.u64.wrap ((0 : Nat) : Int), w, (wr _).1, (wr _).2, Grows.refl _, ?_⟩
      rw [if_pos hf]
      rfl
    · refine ⟨IntKind.u64.wrap ((q.cut (w.tape w.drawn q) : Nat) : Int), w.drew, (wr _).1, (wr _).2, (Grows.refl w).drew, ?_⟩
      rw [if_neg hf]
      rfl
  split
  · rename_i n hn
    split
    · rename_i hb
      exact ⟨n, w, hb.1, by have : n ≤ (18446744073709551615 : Int) := hb.2; omega, Grows.refl _, rfl⟩
    · exact any _
  · exact any _

/-- Is a number above the root? -/
def overB (n r : Int) : Bool := decide (4294967295 < r) || decide (n < r * r)
theorem sq_u64 {r : Int} (h0 : 0 ≤ r) (h : r ≤ 4294967295) : 0 ≤ r * r ∧ r * r ≤ 18446744065119617025 :=
  ⟨Int.mul_nonneg h0 h0, Int.mul_le_mul h h h0 (by omega)⟩
set_option maxHeartbeats 400000 in
theorem plRoot1 (r n : Int) (p : Addr) (w : World) (h0 : 0 ≤ r) (hc : w.cell? p = some (.int .u64 n)) : Calls Try.prog 64 #[.int .u64 r, .pointer (some p)] w fun e w' => e = .returned (.bool (overB n r)) ∧ w = w' := by
  by_cases h : 4294967295 < r
  · skip
    go_enter Try.func64, Try.ntmps64
    go_wp2
    all_goals first | (exfalso; omega) | skip
    all_goals go_ret
    all_goals exact ⟨ret_bool (by unfold overB; simp [h]), rfl⟩
  · obtain ⟨s1, s2⟩ := sq_u64 h0 (by omega)
    go_enter Try.func64, Try.ntmps64
    go_wp2
    all_goals first | (exfalso; omega) | skip
    all_goals go_ret
    all_goals exact ⟨ret_bool (by unfold overB; simp only [decide_eq_false (show ¬ 4294967295 < r by omega), Bool.false_or]), rfl⟩

/-- The whole root. -/
def isRoot (n r : Int) : Prop := 0 ≤ r ∧ r * r ≤ n ∧ n < (r + 1) * (r + 1)
open Classical in
noncomputable def rootV (n : Int) : Int := if h : ∃ r, isRoot n r then Classical.choose h else 0
theorem mul_self_lt {a b : Int} (h0 : 0 ≤ a) (h : a < b) : a * a < b * b := by
  have h1 : a * a ≤ a * b := Int.mul_le_mul_of_nonneg_left (Int.le_of_lt h) h0
  have h2 : a * b < b * b := Int.mul_lt_mul_of_pos_right h (by omega)
  omega
theorem mul_self_le {a b : Int} (h0 : 0 ≤ a) (h : a ≤ b) : a * a ≤ b * b := Int.mul_le_mul h h h0 (by omega)
theorem root_uniq {n r s : Int} (h : isRoot n r) (h' : isRoot n s) : r = s := by
  obtain ⟨a1, a2, a3⟩ := h
  obtain ⟨b1, b2, b3⟩ := h'
  rcases Int.lt_trichotomy r s with h | h | h
  · have := mul_self_le (a := r + 1) (b := s) (by omega) (by omega); omega
  · exact h
  · have := mul_self_le (a := s + 1) (b := r) (by omega) (by omega); omega
theorem rootV_eq {n r : Int} (h : isRoot n r) : rootV n = r := by
  have hx : ∃ r, isRoot n r := ⟨r, h⟩
  unfold rootV
  rw [dif_pos hx]
  exact root_uniq (Classical.choose_spec hx) h

set_option maxHeartbeats 2000000 in
theorem plRoot (n : Int) (w : World) (hn0 : 0 ≤ n) (hn : n < 18446744073709551616) : Calls Try.prog 23 #[.int .u64 n] w fun e w' => e = .returned (.int .u64 (rootV n)) ∧ Grows w w' := by
  have hc : (w.alloc (.cells #[.int .u64 n] 30)).cell? ⟨w.heap.size, 0, none⟩ = some (.int .u64 n) := by simp [go_sem]
  have C1 := hide (fun (x : Later (w.alloc (.cells #[.int .u64 n] 30))) (r : Int) (h0 : 0 ≤ r) => plRoot1 r n _ x.now h0 ((x.cell (by rw [hc]; rfl)).trans hc))
  have HK := hide (fun args W => run_callGo (P := Try.prog) Try.func64 (by kernel_rfl) (by kernel_rfl) args W)
  clear hc
  go_enter Try.func23, Try.ntmps23
  go_wp2_with (first | (go_at_call 63; refine (mSqrt _ _).mono ?_; rintro e w' ⟨r, rfl, hg⟩; obtain ⟨x, rfl⟩ := Grows.later hg; clear hg; obtain ⟨v, w', hv0, hv1, hg, hq⟩ := run_conv r x.now; obtain ⟨y, rfl⟩ := Grows.later2 hg; clear hg))
  go_loopw [3] (fun i wr => ∃ v : Int, i = .int .u64 v ∧ 0 ≤ v ∧ v < 18446744073709551616 ∧ ∃ y : Later (w.alloc (.cells #[.int .u64 n] 30)), wr = y.now) (fun i _ => (intOf i).toNat)
  case atStart => exact ⟨v, rfl, hv0, hv1, _, rfl⟩
  case round =>
    clear hq hv0 hv1
    obtain ⟨v, rfl, hv0, hv1, y, rfl⟩ := hrel
    have C2 := C1.out y v hv0
    cases ho : overB n v with
    | true =>
      rw [ho] at C2
      have hv : 0 < v := by
        rcases Int.lt_or_le 0 v with h | h
        · exact h
        · have : v = 0 := by omega
          subst this
          unfold overB at ho
          simp at ho
          omega
      have HC := hide C2
      clear C2
      go_wp2_with (first | (go_at_call 64; refine (HC.out).mono ?_; rintro e w' ⟨rfl, rfl⟩))
      go_roundw
      case measure => simp [intOf]; omega
      case rel => exact ⟨v - 1, by go_num, by omega, by omega, _, rfl⟩
    | false =>
      rw [ho] at C2
      have HC := hide C2
      clear C2
      go_wp2_with (first | (go_at_call 64; refine (HC.out).mono ?_; rintro e w' ⟨rfl, rfl⟩))
      clear HC
      go_loopw [3] (fun i wr => ∃ v : Int, i = .int .u64 v ∧ 0 ≤ v ∧ v ≤ 4294967295 ∧ v * v ≤ n ∧ ∃ y : Later (w.alloc (.cells #[.int .u64 n] 30)), wr = y.now) (fun i _ => 4294967296 - (intOf i).toNat)
      case atStart =>
        unfold overB at ho
        simp only [Bool.or_eq_false_iff, decide_eq_false_iff_not] at ho
        exact ⟨v, rfl, hv0, by omega, by omega, _, rfl⟩
      case round =>
        clear hv0 hv1 ho
        obtain ⟨v, rfl, hv0, hv1, hsq, y, rfl⟩ := hrel
        have C2 := C1.out y (v + 1) (by omega)
        cases ho : overB n (v + 1) with
        | false =>
          rw [ho] at C2
          have HC := hide C2
          clear C2
          unfold overB at ho
          simp only [Bool.or_eq_false_iff, decide_eq_false_iff_not] at ho
          obtain ⟨o1, o2⟩ := ho
          have hsq2 := hide (Int.not_lt.1 o2)
          clear o2 hsq
          go_wp2_with (first | (go_at_call 64; refine (HC.out).mono ?_; rintro e w' ⟨rfl, rfl⟩))
          go_roundw
          case measure => simp [intOf]; omega
          case rel => exact ⟨v + 1, by go_num, by omega, by omega, hsq2.out, _, rfl⟩
        | true =>
          rw [ho] at C2
          have HC := hide C2
          clear C2
          have HV : Hid (rootV n = v) := rootV_eq ⟨hv0, hsq, by
            unfold overB at ho
            simp only [Bool.or_eq_true, decide_eq_true_eq] at ho
            rcases ho with h | h
            · have : v = 4294967295 := by omega
              subst this
              omega
            · exact h⟩
          clear ho hsq
          go_wp2_with (first | (go_at_call 64; refine (HC.out).mono ?_; rintro e w' ⟨rfl, rfl⟩))
          go_ret
          exact ⟨ret_int HV.out.symm, (by repeat (first | exact Grows.refl _ | refine Grows.now ?_ _ | refine Grows.new ?_ _ | refine Grows.drewN ?_ _ | refine Grows.drew ?_ | assumption | (refine Grows.set ?_ (by first | omega | (simp; done) | (simp; omega)) _)))⟩

/-- What bits are still to be tried. -/
def bitOk (n B R : Int) : Prop := (∃ k : Nat, B = 2 ^ k ∧ R + 2 * B ≤ 4294967296 ∧ n < (R + 2 * B) * (R + 2 * B)) ∨ (B = 0 ∧ n < (R + 1) * (R + 1))
theorem bit_next {n B R : Int} (h : bitOk n B R) (hB : 0 < B) : (R + B ≤ 4294967295) ∧ (n < (R + B) * (R + B) → bitOk n (B / 2) R) ∧ (bitOk n (B / 2) (R + B)) := by
  rcases h with ⟨k, rfl, h1, h2⟩ | ⟨h, _⟩
  · have hp := two_pow_pos_int k
    cases k with
    | zero =>
      simp only [Int.pow_zero] at *
      refine ⟨by omega, fun h => .inr ⟨by omega, h⟩, .inr ⟨by omega, ?_⟩⟩
      rw [show R + 1 + 1 = R + 2 * 1 by omega]
      exact h2
    | succ j =>
      rw [Int.pow_succ] at *
      have hj := two_pow_pos_int j
      have e : (2 : Int) ^ j * 2 / 2 = 2 ^ j := by omega
      rw [e]
      refine ⟨by omega, fun h => .inl ⟨j, rfl, by omega, ?_⟩, .inl ⟨j, rfl, by omega, ?_⟩⟩
      · rw [show R + 2 * 2 ^ j = R + 2 ^ j * 2 by omega]; exact h
      · rw [show R + 2 ^ j * 2 + 2 * 2 ^ j = R + 2 * (2 ^ j * 2) by omega]; exact h2
  · omega
set_option maxHeartbeats 1000000 in
theorem r9Root (n : Int) (w : World) (hn0 : 0 ≤ n) (hn : n < 18446744073709551616) : Calls Try.prog 24 #[.int .u64 n] w fun e w' => e = .returned (.int .u64 (rootV n)) ∧ Grows w w' := by
  go_enter Try.func24, Try.ntmps24
  go_wp2
  go_loopw [4, 3] (fun b r wr => ∃ B R : Int, b = .int .u64 B ∧ r = .int .u64 R ∧ 0 ≤ R ∧ 0 ≤ B ∧ R * R ≤ n ∧ bitOk n B R ∧ ∃ y : Later w, wr = y.now) (fun b _ _ => (intOf b).toNat)
  case atStart => exact ⟨2147483648, 0, rfl, rfl, by omega, by omega, hn0, .inl ⟨31, rfl, by omega, by omega⟩, ⟨w, Grows.refl w⟩, rfl⟩
  case round =>
    obtain ⟨B, R, rfl, rfl, hR, hB, hsq, hok, y, rfl⟩ := hrel
    by_cases h0 : B = 0
    · subst h0
      have HV : Hid (rootV n = R) := by
        rcases hok with ⟨k, h, _⟩ | ⟨_, h⟩
        · have := two_pow_pos_int k
          omega
        · exact rootV_eq ⟨hR, hsq, h⟩
      clear hok hsq
      go_wp2
      go_ret
      exact ⟨ret_int HV.out.symm, (by repeat (first | exact Grows.refl _ | refine Grows.now ?_ _ | refine Grows.new ?_ _ | refine Grows.drewN ?_ _ | refine Grows.drew ?_ | assumption | (refine Grows.set ?_ (by first | omega | (simp; done) | (simp; omega)) _)))⟩
    · have hB0 : 0 < B := by omega
      obtain ⟨h1, h2, h3⟩ := bit_next hok hB0
      have H2 := hide h2
      have H3 := hide h3
      have H4 := hide hsq
      obtain ⟨s1, s2⟩ := sq_u64 (r := R + B) (by omega) h1
      clear hok h2 h3 hsq h0
      by_cases hc : (R + B) * (R + B) ≤ n
      · go_wp2
        exact ⟨⟨_, _, rfl, rfl, by omega, by omega, hc, H3.out, y, rfl⟩, by simp [intOf]; omega⟩
      · go_wp2
        exact ⟨⟨_, _, rfl, rfl, by omega, by omega, H4.out, H2.out (by omega), y, rfl⟩, by simp [intOf]; omega⟩
theorem sqV_bd (a b c d : Int) : 0 ≤ sqV a b c d ∧ sqV a b c d ≤ 8796093022208 := by
  unfold sqV
  cases h1 : oneB a b
  · exact ⟨by simp, by simp⟩
  · cases h2 : oneB c d
    · exact ⟨by simp, by simp⟩
    · unfold oneB at h1 h2
      simp only [decide_eq_true_eq] at h1 h2
      have b1 := sq_nn (a - c)
      have b2 := sq_nn (b - d)
      have b3 := sq_le (x := a - c) (by omega)
      have b4 := sq_le (x := b - d) (by omega)
      simp only [Bool.and_self, if_true]
      unfold sqI
      omega
theorem sqV_u64 (a b c d : Int) : 0 ≤ sqV a b c d ∧ sqV a b c d < 18446744073709551616 := by
  have := sqV_bd a b c d
  omega
set_option maxHeartbeats 400000 in
theorem plCrow (a b c d : Int) (w : World) : Calls Try.prog 21 #[.agg #[.int .i64 a, .int .i64 b], .agg #[.int .i64 c, .int .i64 d]] w fun e w' => e = .returned (.int .u64 (rootV (sqV a b c d))) ∧ Grows w w' := by
  have hv := sqV_u64 a b c d
  have H1 := hide (fun W => plRoot _ W hv.1 hv.2)
  have H2 := hide (fun W => plSquareV a b c d W)
  clear hv
  go_enter Try.func21, Try.ntmps21
  go_wp2_with (first | (go_at_call 19; refine (H2.out _).mono ?_; rintro e w' ⟨rfl, hg⟩; (first | obtain ⟨x, rfl⟩ := Grows.later2 hg | obtain ⟨x, rfl⟩ := Grows.later hg); clear hg) | (go_at_call 23; refine (H1.out _).mono ?_; rintro e w' ⟨rfl, hg⟩; (first | obtain ⟨x, rfl⟩ := Grows.later2 hg | obtain ⟨x, rfl⟩ := Grows.later hg); clear hg))
  go_ret
  exact ⟨rfl, (by repeat (first | exact Grows.refl _ | refine Grows.now ?_ _ | refine Grows.new ?_ _ | refine Grows.drewN ?_ _ | refine Grows.drew ?_ | assumption | (refine Grows.set ?_ (by first | omega | (simp; done) | (simp; omega)) _)))⟩
set_option maxHeartbeats 400000 in
theorem r9Crow (a b c d : Int) (w : World) : Calls Try.prog 22 #[.agg #[.int .i64 a, .int .i64 b], .agg #[.int .i64 c, .int .i64 d]] w fun e w' => e = .returned (.int .u64 (rootV (sqV a b c d))) ∧ Grows w w' := by
  have hv := sqV_u64 a b c d
  have H1 := hide (fun W => r9Root _ W hv.1 hv.2)
  have H2 := hide (fun W => r9SquareV a b c d W)
  clear hv
  go_enter Try.func22, Try.ntmps22
  go_wp2_with (first | (go_at_call 20; refine (H2.out _).mono ?_; rintro e w' ⟨rfl, hg⟩; (first | obtain ⟨x, rfl⟩ := Grows.later2 hg | obtain ⟨x, rfl⟩ := Grows.later hg); clear hg) | (go_at_call 24; refine (H1.out _).mono ?_; rintro e w' ⟨rfl, hg⟩; (first | obtain ⟨x, rfl⟩ := Grows.later2 hg | obtain ⟨x, rfl⟩ := Grows.later hg); clear hg))
  go_ret
  exact ⟨rfl, (by repeat (first | exact Grows.refl _ | refine Grows.now ?_ _ | refine Grows.new ?_ _ | refine Grows.drewN ?_ _ | refine Grows.drew ?_ | assumption | (refine Grows.set ?_ (by first | omega | (simp; done) | (simp; omega)) _)))⟩
end Go.Proofs.Ytaoodmioehkebaa
