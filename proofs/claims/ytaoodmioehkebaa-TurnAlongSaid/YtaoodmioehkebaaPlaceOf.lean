/- Contracts: which place a complex number is. -/
import Derived.Test.YtaoodmioehkebaaPlaces
import Derived.Test.YtaoodmioehkebaaRoot
import GoSem.Extern.MathFloor
import GoSem.Extern.MathFloatBits
namespace Go.Proofs.Ytaoodmioehkebaa
open Go Go.RowKit
theorem integral_int {b : Nat} {n : Int} (h : IsI b n) (hn : n.natAbs < 9007199254740992) : ∃ s m e, FloatKind.f64.decode b = .number s m e ∧ IsI (FloatKind.f64.encode ((FloatKind.f64.decode b).integral .zero)) n := by
  obtain ⟨s, m, e, r1, hi, h1, hs⟩ := h
  have hr : FloatKind.f64.decode b = .number s m e := r1
  refine ⟨s, m, e, hr, ?_⟩
  rw [hr]
  unfold Ieee.Datum.integral
  dsimp only
  have hc : Ieee.Toward.zero.cut s (m <<< e.toNat) (-e).toNat = n.natAbs := by
    rw [Nat.shiftLeft_eq]
    rcases Int.le_total 0 e with h | h
    · have e1 : (-e).toNat = 0 := by omega
      have e2 : m * 2 ^ e.toNat = n.natAbs := by
        refine Nat.eq_of_mul_eq_mul_right (pow_pos2 LP) ?_
        rw [Nat.mul_assoc, ← Nat.pow_add, show e.toNat + LP = (e + LP).toNat by omega]
        exact h1
      rw [e1, e2]
      have := cut_zero s n.natAbs 0
      simpa using this
    · have e1 : e.toNat = 0 := by omega
      have e2 : m = n.natAbs * 2 ^ (-e).toNat := by
        refine Nat.eq_of_mul_eq_mul_right (pow_pos2 (e + LP).toNat) ?_
        rw [h1, Nat.mul_assoc, ← Nat.pow_add, show (-e).toNat + (e + LP).toNat = LP by omega]
      rw [e1, Nat.pow_zero, Nat.mul_one, e2]
      exact cut_zero s _ _
  rw [hc]
  exact write_int (K := LP) (Nat.le_refl _) (by omega) (by rw [show ((0 : Int) + (LP : Nat)).toNat = LP by omega]) hn hs
theorem run_archTrunc {b : Nat} {n : Int} (h : IsI b n) (hn : n.natAbs < 9007199254740992) : ∃ r, IsI r n ∧ ∀ w, (callFunc 93 #[.float .f64 b]).run Try.prog w = .ok (.value (.float .f64 r)) w := by
  obtain ⟨s, m, e, r1, hi⟩ := integral_int h hn
  refine ⟨_, hi, fun w => ?_⟩
  rw [run_callFunc_extern (e := Extern.MathFloor.toIntegral "math.archTrunc" .zero) Try.func93 (by kernel_rfl) (by kernel_rfl) (by kernel_rfl) (by kernel_rfl)]
  have h2 : (Extern.MathFloor.toIntegral "math.archTrunc" .zero #[.float .f64 b]).run Try.prog w = .ok (.float .f64 (FloatKind.f64.encode ((FloatKind.f64.decode b).integral .zero))) w := by
    change Sem.run _ (match FloatKind.f64.decode b with | .nan s t => _ | d => pure (Value.float .f64 (FloatKind.f64.encode (d.integral .zero)))) w = _
    rw [r1]
    rfl
  rw [h2]
  rfl
theorem run_f64bits (b : Nat) (w : World) : (callFunc 96 #[.float .f64 b]).run Try.prog w = .ok (.value (.int .u64 b)) w := by
  rw [run_callFunc_extern (e := Extern.MathFloatBits.float64bits) Try.func96 (by kernel_rfl) (by kernel_rfl) (by kernel_rfl) (by kernel_rfl)]
  rfl
theorem run_f64from (n : Int) (w : World) : (callFunc 95 #[.int .u64 n]).run Try.prog w = .ok (.value (.float .f64 n.toNat)) w := by
  rw [run_callFunc_extern (e := Extern.MathFloatBits.float64frombits) Try.func95 (by kernel_rfl) (by kernel_rfl) (by kernel_rfl) (by kernel_rfl)]
  rfl
theorem clear_sign (b : Nat) : bits .andNot .u64 (b : Int) 9223372036854775808 = ((b % 9223372036854775808 : Nat) : Int) := by
  show IntKind.u64.wrap ((BitVec.ofInt 64 (b : Int) &&& ~~~BitVec.ofInt 64 9223372036854775808).toNat : Int) = _
  have e1 : (BitVec.ofInt 64 (b : Int)).toNat = b % 2 ^ 64 := by simp
  have e2 : (~~~BitVec.ofInt 64 9223372036854775808).toNat = 2 ^ 63 - 1 := by decide +kernel
  rw [BitVec.toNat_and, e1, e2, Nat.and_two_pow_sub_one_eq_mod, IntKind.wrap_u64]
  omega
theorem abs_int {b : Nat} {n : Int} (h : IsI b n) : IsI (b % 9223372036854775808) n.natAbs := by
  obtain ⟨s, m, e, r1, hi, h1, hs⟩ := h
  refine ⟨false, m, e, ?_, hi, by simpa using h1, fun _ => by simp⟩
  have e1 : Ieee.double.signWeight = 9223372036854775808 := by decide +kernel
  unfold Ieee.Format.read at r1 ⊢
  rw [e1] at r1 ⊢
  have m1 : b % 9223372036854775808 % 9223372036854775808 = b % 9223372036854775808 := Nat.mod_mod _ _
  have m2 : (b % 9223372036854775808 / 9223372036854775808 % 2 == 1) = false := by
    have : b % 9223372036854775808 / 9223372036854775808 = 0 := by omega
    rw [this]; rfl
  dsimp only at r1 ⊢
  rw [m1, m2]
  generalize b % 9223372036854775808 = M at *
  by_cases c1 : M < Ieee.double.binade
  · rw [if_pos c1] at r1 ⊢
    injection r1 with r2 r3 r4
    rw [r3, r4]
  · rw [if_neg c1] at r1 ⊢
    by_cases c2 : M < Ieee.double.infRung
    · rw [if_pos c2] at r1 ⊢
      injection r1 with r2 r3 r4
      rw [r3, r4]
    · rw [if_neg c2] at r1
      split at r1 <;> exact nomatch r1
set_option maxHeartbeats 400000 in
theorem mTrunc {b : Nat} {n : Int} (h : IsI b n) (hn : n.natAbs < 9007199254740992) : ∃ r, IsI r n ∧ ∀ w, Calls Try.prog 74 #[.float .f64 b] w fun e w' => e = .returned (.float .f64 r) ∧ w = w' := by
  obtain ⟨r, hr, hq⟩ := run_archTrunc h hn
  refine ⟨r, hr, fun w => ?_⟩
  clear h hr
  go_enter Try.func74, Try.ntmps74
  go_wp2
  go_ret
  exact ⟨rfl, rfl⟩
set_option maxHeartbeats 400000 in
theorem mAbs (b : Nat) (w : World) : Calls Try.prog 75 #[.float .f64 b] w fun e w' => e = .returned (.float .f64 (b % 9223372036854775808)) ∧ w = w' := by
  have h1 := run_f64bits b
  have h2 := run_f64from
  have h3 := clear_sign b
  go_enter Try.func75, Try.ntmps75
  go_wp2
  go_ret
  exact ⟨rfl, rfl⟩
theorem max_int : IsI 4697254411347427328 1048576 := ⟨false, 4503599627370496, -32, by decide +kernel, by rw [LP_eq]; omega, by rw [LP_eq]; decide +kernel, fun _ => by decide⟩
theorem cmp_le (a b : Int) : (compare a b == Ordering.lt || compare a b == Ordering.eq) = decide (a ≤ b) := by
  simp only [compare, compareOfLessAndEq]
  by_cases h : a < b
  · rw [if_pos h, decide_eq_true (by omega)]; rfl
  · rw [if_neg h]
    by_cases h' : a = b
    · rw [if_pos h', decide_eq_true (by omega)]; rfl
    · rw [if_neg h', decide_eq_false (by omega)]; rfl
theorem abs_le {b : Nat} {n : Int} (h : IsI b n) : FloatKind.f64.format.order (b % 9223372036854775808) 4697254411347427328 = some (compare (n.natAbs : Int) 1048576) := by
  have := order_int (abs_int h) max_int
  rw [show FloatKind.f64.format = Ieee.double from rfl]
  exact this
theorem self_eq {b r : Nat} {n : Int} (h : IsI b n) (hr : IsI r n) : FloatKind.f64.format.order b r = some Ordering.eq := by
  have h1 := order_int h hr
  have h3 : compare n n = Ordering.eq := by simp [compare, compareOfLessAndEq]
  rw [h3] at h1
  exact h1
def mxB (n : Int) : Bool := decide ((n.natAbs : Int) ≤ 1048576)
theorem abs_le2 {b : Nat} {n : Int} (h : IsI b n) : ∃ p q : Bool, (FloatKind.f64.format.order (b % 9223372036854775808) 4697254411347427328 == some .lt) = p ∧ (FloatKind.f64.format.order (b % 9223372036854775808) 4697254411347427328 == some .eq) = q ∧ (p || q) = mxB n := by
  rw [abs_le h]
  refine ⟨_, _, rfl, rfl, ?_⟩
  have e := cmp_le (n.natAbs : Int) 1048576
  unfold mxB
  rw [← e]
  cases compare (n.natAbs : Int) 1048576 <;> rfl
theorem plOf1 {b : Nat} {n : Int} (h : IsI b n) (hn : n.natAbs < 9007199254740992) (w : World) : Calls Try.prog 73 #[.float .f64 b] w fun e w' => e = .returned (.bool (mxB n)) ∧ w = w' := by
  obtain ⟨r, hr, hq⟩ := mTrunc h hn
  have H1 := hide hq
  have h1 := self_eq h hr
  obtain ⟨p, q, h2, h3, h4⟩ := abs_le2 h
  have C := fun W => mAbs b W
  generalize b % 9223372036854775808 = a at h2 h3 C
  generalize mxB n = z at h4 ⊢
  have H2 := hide C
  have H4 := hide h4
  clear h hr hq C h4
  go_enter Try.func73, Try.ntmps73
  go_wp2_with (first | (go_at_call 74; refine (H1.out _).mono ?_; rintro e w' ⟨rfl, rfl⟩) | (go_at_call 75; refine (H2.out _).mono ?_; rintro e w' ⟨rfl, rfl⟩))
  go_ret
  exact ⟨ret_bool H4.out, rfl⟩
theorem half_trunc (w : World) : Calls Try.prog 74 #[.float .f64 4602678819172646912] w fun e w' => e = .returned (.float .f64 0) ∧ w = w' := by
  have hq : ∀ w, (callFunc 93 #[.float .f64 4602678819172646912]).run Try.prog w = .ok (.value (.float .f64 0)) w := fun w => by
    rw [run_callFunc_extern (e := Extern.MathFloor.toIntegral "math.archTrunc" .zero) Try.func93 (by kernel_rfl) (by kernel_rfl) (by kernel_rfl) (by kernel_rfl)]
    have e1 : FloatKind.f64.decode 4602678819172646912 = .number false 4503599627370496 (-53) := by decide +kernel
    have e2 : FloatKind.f64.encode ((Ieee.Datum.number false 4503599627370496 (-53)).integral .zero) = 0 := by decide +kernel
    have h2 : (Extern.MathFloor.toIntegral "math.archTrunc" .zero #[.float .f64 4602678819172646912]).run Try.prog w = .ok (.float .f64 (FloatKind.f64.encode ((Ieee.Datum.number false 4503599627370496 (-53)).integral .zero))) w := by
      change Sem.run _ (match FloatKind.f64.decode 4602678819172646912 with | .nan s t => if FloatKind.f64.format.quiet t = t then pure (.float .f64 4602678819172646912) else (choose (.extern "math.Floor,Ceil,Trunc,RoundToEven.signallingNaN kept" 2) >>= fun kept => pure (.float .f64 (if kept == 1 then 4602678819172646912 else FloatKind.f64.encode (.nan s (FloatKind.f64.format.quiet t))))) | d => pure (Value.float .f64 (FloatKind.f64.encode (d.integral .zero)))) w = _
      rw [e1]
      rfl
    rw [h2, e2]
    rfl
  go_enter Try.func74, Try.ntmps74
  go_wp2
  go_ret
  exact ⟨rfl, rfl⟩
theorem plOf1_half (w : World) : Calls Try.prog 73 #[.float .f64 4602678819172646912] w fun e w' => e = .returned (.bool false) ∧ w = w' := by
  have h1 : (FloatKind.f64.format.order 4602678819172646912 0 == some .eq) = false := by decide +kernel
  go_enter Try.func73, Try.ntmps73
  go_wp2_with (first | (go_at_call 74; refine (half_trunc _).mono ?_; rintro e w' ⟨rfl, rfl⟩))
  go_ret
  exact ⟨rfl, rfl⟩
def ofV (X Y : Int) : Value := if mxB X && mxB Y then .tuple #[.agg #[.int .i64 X, .int .i64 Y], .bool true] else .tuple #[.agg #[.int .i64 0, .int .i64 0], .bool false]
set_option maxHeartbeats 1000000 in
theorem plOf {b c : Nat} {X Y : Int} (h : IsI b X) (h' : IsI c Y) (hx : X.natAbs < 9007199254740992) (hy : Y.natAbs < 9007199254740992) (w : World) :
    Calls Try.prog 39 #[.complex .f64 b c] w fun e w' => e = .returned (ofV X Y) ∧ Grows w w' := by
  have C1 := fun W => plOf1 h hx W
  have C2 := fun W => plOf1 h' hy W
  have HK1 := hide (fun args W => run_callGo (P := Try.prog) Try.func73 (by kernel_rfl) (by kernel_rfl) args W)
  cases hX : mxB X with
  | false =>
    have HV : Hid (ofV X Y = .tuple #[.agg #[.int .i64 0, .int .i64 0], .bool false]) := by unfold ofV; rw [hX]; rfl
    rw [hX] at C1
    have H1 := hide C1
    clear C1 C2 h h' hx hy hX
    go_enter Try.func39, Try.ntmps39
    go_wp2_with (first | (go_at_call 73; refine (H1.out _).mono ?_; rintro e w' ⟨rfl, rfl⟩))
    refine bodyPost_ret (v := .tuple #[.agg #[.int .i64 0, .int .i64 0], .bool false]) (by simp [results, Try.results39, go_sem]) rfl ⟨by rw [HV.out], (by repeat (first | exact Grows.refl _ | refine Grows.now ?_ _ | refine Grows.new ?_ _ | refine Grows.drewN ?_ _ | refine Grows.drew ?_ | assumption | (refine Grows.set ?_ (by first | omega | (simp; done) | (simp; omega)) _)))⟩
  | true =>
    rw [hX] at C1
    have H1 := hide C1
    cases hY : mxB Y with
    | false =>
      have HV : Hid (ofV X Y = .tuple #[.agg #[.int .i64 0, .int .i64 0], .bool false]) := by unfold ofV; rw [hX, hY]; rfl
      rw [hY] at C2
      have H2 := hide C2
      clear C1 C2 h h' hx hy hX hY
      go_enter Try.func39, Try.ntmps39
      go_wp2_with (first | (go_at_call 73; refine ((by first | with_reducible exact H1.out _ | with_reducible exact H2.out _) : Calls _ _ _ _ _).mono ?_; rintro e w' ⟨rfl, rfl⟩))
      refine bodyPost_ret (v := .tuple #[.agg #[.int .i64 0, .int .i64 0], .bool false]) (by simp [results, Try.results39, go_sem]) rfl ⟨by rw [HV.out], (by repeat (first | exact Grows.refl _ | refine Grows.now ?_ _ | refine Grows.new ?_ _ | refine Grows.drewN ?_ _ | refine Grows.drew ?_ | assumption | (refine Grows.set ?_ (by first | omega | (simp; done) | (simp; omega)) _)))⟩
    | true =>
      have HV : Hid (ofV X Y = .tuple #[.agg #[.int .i64 X, .int .i64 Y], .bool true]) := by unfold ofV; rw [hX, hY]; rfl
      rw [hY] at C2
      have H2 := hide C2
      unfold mxB at hX hY
      simp only [decide_eq_true_eq] at hX hY
      have o1 := hide (fun w => run_convert_float_int (P := Try.prog) w 70 3 .f64 .i64 _ X (by rw [Try.underlying70]; rfl) Try.underlying3 (by unfold floatToIntVal; rw [toInt_int h]; dsimp only; rw [if_pos ⟨by show (-9223372036854775808 : Int) ≤ _; omega, by show _ ≤ (9223372036854775807 : Int); omega⟩]))
      have o2 := hide (fun w => run_convert_float_int (P := Try.prog) w 70 3 .f64 .i64 _ Y (by rw [Try.underlying70]; rfl) Try.underlying3 (by unfold floatToIntVal; rw [toInt_int h']; dsimp only; rw [if_pos ⟨by show (-9223372036854775808 : Int) ≤ _; omega, by show _ ≤ (9223372036854775807 : Int); omega⟩]))
      clear C1 C2 h h' hx hy hX hY
      go_enter Try.func39, Try.ntmps39
      go_wp2_with (first | (go_at_call 73; refine ((by first | with_reducible exact H1.out _ | with_reducible exact H2.out _) : Calls _ _ _ _ _).mono ?_; rintro e w' ⟨rfl, rfl⟩) | (simp only [o1.out]) | (simp only [o2.out]))
      refine bodyPost_ret (v := .tuple #[.agg #[.int .i64 X, .int .i64 Y], .bool true]) (by simp [results, Try.results39, go_sem]) rfl ⟨by rw [HV.out], (by repeat (first | exact Grows.refl _ | refine Grows.now ?_ _ | refine Grows.new ?_ _ | refine Grows.drewN ?_ _ | refine Grows.drew ?_ | assumption | (refine Grows.set ?_ (by first | omega | (simp; done) | (simp; omega)) _)))⟩
end Go.Proofs.Ytaoodmioehkebaa
