/- Contracts: what loads cost, by the program and by its answer. -/
import Derived.Test.YthjcbboignmknaaQCanonAll10
import Derived.Test.YthjcbboignmknaaQCanonAll02
import Derived.Laws.Externs
import Derived.Test.YthjcbboignmknaaQCanonAll15
import Derived.Test.YthjcbboignmknaaQCanonAll17
import Derived.WalkMore
/- Contracts: sums and products of 64 bits that are checked, by the program and by its answer. -/
namespace Go.Proofs.Ythjcbboignmknaa
open Go Go.RowKit
/-- A number that is checked: itself, or Overflow. -/
def ckV (x : Nat) : Value := if x < 18446744073709551616 then .tuple #[.int .u64 (x : Int), .int .i64 0] else .tuple #[.int .u64 0, .int .i64 6]
theorem ckV_in {x : Nat} (h : x < 18446744073709551616) : ckV x = .tuple #[.int .u64 (x : Int), .int .i64 0] := if_pos h
theorem ckV_out {x : Nat} (h : ¬ x < 18446744073709551616) : ckV x = .tuple #[.int .u64 0, .int .i64 6] := if_neg h
theorem numTold0 (x : Int) (w : World) : Calls Try.prog 155 #[.int .u64 x, .int .u64 0] w fun e w' => e = .returned (.tuple #[.int .u64 x, .int .i64 0]) ∧ w = w' := by
  go_enter Try.func155, Try.ntmps155
  go_wp2
  refine bodyPost_ret (v := .tuple #[.int .u64 x, .int .i64 0]) (by simp (maxDischargeDepth := 6) [results, Try.results155, go_sem, *]) rfl ?_
  exact ⟨rfl, rfl⟩
theorem numTold1 (x y : Int) (hy : (y == 0) = false) (w : World) : Calls Try.prog 155 #[.int .u64 x, .int .u64 y] w fun e w' => e = .returned (.tuple #[.int .u64 0, .int .i64 6]) ∧ w = w' := by
  go_enter Try.func155, Try.ntmps155
  go_wp2
  refine bodyPost_ret (v := .tuple #[.int .u64 0, .int .i64 6]) (by simp (maxDischargeDepth := 6) [results, Try.results155, go_sem, *]) rfl ?_
  exact ⟨rfl, rfl⟩
theorem add64_run (x y : Int) (hx : 0 ≤ x) (hy : 0 ≤ y) (w : World) : (callFunc 179 #[.int .u64 x, .int .u64 y, .int .u64 0]).run Try.prog w =
    .ok (.value (.tuple #[.int .u64 ((x + y) % 18446744073709551616), .int .u64 ((x + y) / 18446744073709551616)])) w := by
  rw [run_callFunc_extern Try.func179 (by kernel_rfl) (by kernel_rfl) (by kernel_rfl) (e := add64Entry) (by kernel_rfl), run_add64 x y 0 hx hy (Int.le_refl 0) (by decide)]
  simp [Result.andThen]
set_option maxHeartbeats 1000000 in
theorem numAdd (x y : Nat) (hx : x < 18446744073709551616) (hy : y < 18446744073709551616) (w : World) : Calls Try.prog 156 #[.int .u64 (x : Int), .int .u64 (y : Int)] w fun e w' => e = .returned (ckV (x + y)) ∧ w = w' := by
  have hr := add64_run (x : Int) (y : Int) (by omega) (by omega)
  by_cases h : x + y < 18446744073709551616
  · rw [ckV_in h]
    have e1 : ((x : Int) + (y : Int)) % 18446744073709551616 = ((x + y : Nat) : Int) := by omega
    have e2 : ((x : Int) + (y : Int)) / 18446744073709551616 = 0 := by omega
    rw [e1, e2] at hr
    generalize x + y = z at *
    clear e1 e2
    go_enter Try.func156, Try.ntmps156
    go_wp2_with (first | (go_at_call 155; refine (numTold0 _ _).mono ?_; rintro e w' ⟨rfl, rfl⟩))
    refine bodyPost_ret (v := .tuple #[.int .u64 (z : Int), .int .i64 0]) (by simp (maxDischargeDepth := 6) [results, Try.results156, go_sem, *]) rfl ?_
    exact ⟨rfl, rfl⟩
  · rw [ckV_out h]
    have e2 : ((x : Int) + (y : Int)) / 18446744073709551616 = 1 := by omega
    rw [e2] at hr
    generalize ((x : Int) + (y : Int)) % 18446744073709551616 = z at *
    clear e2 h
    go_enter Try.func156, Try.ntmps156
    go_wp2_with (first | (go_at_call 155; refine (numTold1 _ 1 rfl _).mono ?_; rintro e w' ⟨rfl, rfl⟩))
    refine bodyPost_ret (v := .tuple #[.int .u64 0, .int .i64 6]) (by simp (maxDischargeDepth := 6) [results, Try.results156, go_sem, *]) rfl ?_
    exact ⟨rfl, rfl⟩
set_option maxHeartbeats 1000000 in
theorem numMul (x y : Nat) (hx : x < 18446744073709551616) (hy : y < 18446744073709551616) (w : World) : Calls Try.prog 97 #[.int .u64 (x : Int), .int .u64 (y : Int)] w fun e w' => e = .returned (ckV (x * y)) ∧ w = w' := by
  have hr := hide (Try.bits_Mul64 x y hx hy)
  by_cases h : x * y < 18446744073709551616
  · rw [ckV_in h]
    have e1 : x * y % 18446744073709551616 = x * y := Nat.mod_eq_of_lt h
    have e2 : x * y / 18446744073709551616 = 0 := Nat.div_eq_of_lt h
    rw [e1, e2] at hr
    generalize x * y = z at *
    clear e1 e2
    go_enter Try.func97, Try.ntmps97
    go_wp2_with fail
    refine (hr.out _).mono ?_; rintro e w' ⟨rfl, rfl⟩
    go_wp2_with fail
    refine (numTold0 _ _).mono ?_; rintro e w' ⟨rfl, rfl⟩
    go_wp2_with fail
    refine bodyPost_ret (v := .tuple #[.int .u64 (z : Int), .int .i64 0]) (by simp (maxDischargeDepth := 6) [results, Try.results97, go_sem, *]) rfl ?_
    exact ⟨rfl, rfl⟩
  · rw [ckV_out h]
    have e2 : ¬ x * y / 18446744073709551616 = 0 := by omega
    have hz : (((x * y / 18446744073709551616 : Nat) : Int) == 0) = false := beq_eq_false_iff_ne.2 (by omega)
    have KT := hide (fun (z : Int) (W : World) => numTold1 z _ hz W)
    clear h e2 hz
    generalize x * y / 18446744073709551616 = q at *
    generalize x * y % 18446744073709551616 = z at *
    go_enter Try.func97, Try.ntmps97
    go_wp2_with fail
    refine (hr.out _).mono ?_; rintro e w' ⟨rfl, rfl⟩
    go_wp2_with fail
    refine (KT.out _ _).mono ?_; rintro e w' ⟨rfl, rfl⟩
    go_wp2_with fail
    refine bodyPost_ret (v := .tuple #[.int .u64 0, .int .i64 6]) (by simp (maxDischargeDepth := 6) [results, Try.results97, go_sem, *]) rfl ?_
    exact ⟨rfl, rfl⟩
set_option maxHeartbeats 1000000 in
theorem r1Add (x y : Nat) (hx : x < 18446744073709551616) (hy : y < 18446744073709551616) (w : World) : Calls Try.prog 100 #[.int .u64 (x : Int), .int .u64 (y : Int)] w fun e w' => e = .returned (ckV (x + y)) ∧ w = w' := by
  by_cases h : x + y < 18446744073709551616
  · rw [ckV_in h]
    have b1 : ¬ (18446744073709551615 - (y : Int) < (x : Int)) := by omega
    have e1 : ((x + y : Nat) : Int) = (x : Int) + (y : Int) := by omega
    rw [e1]
    clear e1
    go_enter Try.func100, Try.ntmps100
    go_wp2_with fail
    refine bodyPost_ret (v := .tuple #[.int .u64 ((x : Int) + (y : Int)), .int .i64 0]) (by simp (maxDischargeDepth := 6) [results, Try.results100, go_sem, *]) rfl ?_
    exact ⟨rfl, rfl⟩
  · rw [ckV_out h]
    have b1 : (18446744073709551615 - (y : Int) < (x : Int)) := by omega
    go_enter Try.func100, Try.ntmps100
    go_wp2_with fail
    refine bodyPost_ret (v := .tuple #[.int .u64 0, .int .i64 6]) (by simp (maxDischargeDepth := 6) [results, Try.results100, go_sem, *]) rfl ?_
    exact ⟨rfl, rfl⟩
theorem mul_over {x y : Nat} (hy : 0 < y) : 18446744073709551615 / y < x ↔ ¬ x * y < 18446744073709551616 := by
  rw [Nat.div_lt_iff_lt_mul hy]
  omega
set_option maxRecDepth 20000 in
set_option maxHeartbeats 1000000 in
theorem r1Mul (x y : Nat) (hx : x < 18446744073709551616) (hy : y < 18446744073709551616) (w : World) : Calls Try.prog 99 #[.int .u64 (x : Int), .int .u64 (y : Int)] w fun e w' => e = .returned (ckV (x * y)) ∧ w = w' := by
  rcases Nat.eq_zero_or_pos y with h0 | h0
  · subst h0
    rw [Nat.mul_zero, ckV_in (by omega)]
    go_enter Try.func99, Try.ntmps99
    go_wp2_with fail
    refine bodyPost_ret (v := .tuple #[.int .u64 0, .int .i64 0]) (by simp (maxDischargeDepth := 6) [results, Try.results99, go_sem, *]) rfl ?_
    exact ⟨rfl, rfl⟩
  · have b0 : ((y : Int) != 0) = true := bne_iff_ne.2 (by omega)
    have e1 : ((x * y : Nat) : Int) = (x : Int) * (y : Int) := Int.natCast_mul x y
    have e2 : ((18446744073709551615 / y : Nat) : Int) = 18446744073709551615 / (y : Int) := by simp
    have h := mul_over (x := x) h0
    obtain ⟨q, hq⟩ : ∃ q : Int, 18446744073709551615 / (y : Int) = q := ⟨_, rfl⟩
    by_cases h1 : x * y < 18446744073709551616
    · rw [ckV_in h1]
      have b1 : decide (q < (x : Int)) = false := decide_eq_false (fun h2 => h.1 (by omega) h1)
      have hm : IntKind.u64.wrap ((x : Int) * (y : Int)) = ((x * y : Nat) : Int) := by
        rw [← e1]
        unfold IntKind.wrap
        simp [IntKind.bits, IntKind.signed]
        omega
      generalize x * y = z at *
      clear e1 e2 h h1
      go_enter Try.func99, Try.ntmps99
      go_wp2_with fail
      refine bodyPost_ret (v := .tuple #[.int .u64 (z : Int), .int .i64 0]) (by simp (maxDischargeDepth := 6) [results, Try.results99, go_sem, *]) rfl ?_
      exact ⟨rfl, rfl⟩
    · rw [ckV_out h1]
      have b1 : decide (q < (x : Int)) = true := decide_eq_true (by have := h.2 h1; omega)
      clear e1 e2 h h1
      go_enter Try.func99, Try.ntmps99
      go_wp2_with fail
      refine bodyPost_ret (v := .tuple #[.int .u64 0, .int .i64 6]) (by simp (maxDischargeDepth := 6) [results, Try.results99, go_sem, *]) rfl ?_
      exact ⟨rfl, rfl⟩
end Go.Proofs.Ythjcbboignmknaa

/- What loads cost, and where the greatest is: plain; the sum, the greatest, and where a number first is. -/
namespace Go.Proofs.Ythjcbboignmknaa
open Go Go.RowKit
def sumT (l : List Nat) : Nat → Nat
  | 0 => 0
  | k + 1 => sumT l k + gn l k
theorem sumT_mono (l : List Nat) {j k : Nat} (h : j ≤ k) : sumT l j ≤ sumT l k := by
  induction k with
  | zero => have : j = 0 := by omega
            subst this; exact Nat.le_refl _
  | succ k ih =>
    by_cases e : j = k + 1
    · rw [e]; exact Nat.le_refl _
    · have := ih (by omega)
      show sumT l j ≤ sumT l k + gn l k
      omega
/-- The greatest of the first k. -/
def mxT (l : List Nat) : Nat → Nat
  | 0 => 0
  | k + 1 => if mxT l k < gn l k then gn l k else mxT l k
/-- Where the greatest of the first k first is. -/
def bst (l : List Nat) : Nat → Nat
  | 0 => 0
  | k + 1 => if k = 0 then 0 else if gn l (bst l k) < gn l k then k else bst l k
theorem bst_is (l : List Nat) : ∀ k, 0 < k → bst l k < k ∧ gn l (bst l k) = mxT l k ∧ ∀ j, j < bst l k → gn l j < mxT l k
  | 0, h => absurd h (by omega)
  | 1, _ => by
    have e1 : bst l 1 = 0 := rfl
    have e2 : mxT l 1 = gn l 0 := by
      show (if (0 : Nat) < gn l 0 then gn l 0 else 0) = gn l 0
      split <;> omega
    rw [e1, e2]
    exact ⟨by omega, rfl, fun j hj => by omega⟩
  | k + 2, _ => by
    obtain ⟨h1, h2, h3⟩ := bst_is l (k + 1) (by omega)
    have e1 : bst l (k + 2) = if gn l (bst l (k + 1)) < gn l (k + 1) then k + 1 else bst l (k + 1) := by
      show (if k + 1 = 0 then 0 else _) = _
      rw [if_neg (by omega)]
    have e2 : mxT l (k + 2) = if mxT l (k + 1) < gn l (k + 1) then gn l (k + 1) else mxT l (k + 1) := rfl
    have hle : ∀ j, j < k + 1 → gn l j ≤ mxT l (k + 1) := fun j hj => by
      have : ∀ m, j < m → gn l j ≤ mxT l m := fun m => by
        induction m with
        | zero => intro h; omega
        | succ m ih =>
          intro h
          show gn l j ≤ if mxT l m < gn l m then gn l m else mxT l m
          by_cases e : j = m
          · subst e; split <;> omega
          · have := ih (by omega); split <;> omega
      exact this _ hj
    rw [e1, e2, h2]
    by_cases hc : mxT l (k + 1) < gn l (k + 1)
    · rw [if_pos hc, if_pos hc]
      exact ⟨by omega, rfl, fun j hj => by have := hle j (by omega); omega⟩
    · rw [if_neg hc, if_neg hc]
      exact ⟨by omega, h2, h3⟩
def bsV (l : List Nat) : Value := if l.length = 0 then .tuple #[.int .i64 (-1), .bool false] else .tuple #[.int .i64 (bst l l.length : Int), .bool true]
set_option maxRecDepth 20000 in
set_option maxHeartbeats 2000000 in
theorem maxU (A : Option Addr) (c : Nat) (l : List Nat) (w : World) (h : Rd w A 1 l.length (wv l)) (hl : l.length ≤ 1000000) (hn : 0 < l.length) : Calls Try.prog 102 #[.slice A l.length c] w fun e w' => e = .returned (.int .u64 (mxT l l.length : Int)) ∧ w = w' := by
  obtain ⟨_, b, off, rfl, hc⟩ := h.wordsH hn
  have c0 := hc 0 hn
  have HC := hide hc
  have HZ := hide (show gn l 0 = mxT l 1 from by show gn l 0 = if (0 : Nat) < gn l 0 then gn l 0 else 0; split <;> omega)
  rw [HZ.out] at c0
  have hl1 : ¬ ((l.length : Int) < 1) := by omega
  clear h hc
  go_enter Try.func102, Try.ntmps102
  go_wp2_with fail
  go_loopw [4, 3] (fun s4 s3 wr => ∃ k : Nat, 1 ≤ k ∧ k ≤ l.length ∧ s4 = .int .i64 (k : Int) ∧ s3 = .int .u64 (mxT l k : Int) ∧ wr = w) (fun s4 _ _ => l.length - (Go.RowKit.intOf s4).toNat)
  case atStart => exact ⟨1, by omega, by omega, by go_num, rfl, rfl⟩
  case round =>
    obtain ⟨k, hk1, hk, rfl, rfl, rfl⟩ := hrel
    by_cases hlt : k < l.length
    · have ck := HC.out k hlt
      have HS := hide (show mxT l (k + 1) = if mxT l k < gn l k then gn l k else mxT l k from rfl)
      generalize mxT l k = mk at *
      generalize gn l k = gk at *
      by_cases hb : mk < gk
      · rw [show Hid (mxT l (k + 1) = if mk < gk then gk else mk) = (mxT l (k + 1) = if mk < gk then gk else mk) from rfl, if_pos hb] at HS
        have HS := hide HS
        go_wp2_with fail
        go_roundw
        case measure => simp [Go.RowKit.intOf]; omega
        case rel => exact ⟨k + 1, by omega, by omega, by go_num, (by rw [HS.out]; congr 1; omega), by first | rfl | trivial⟩
      · rw [show Hid (mxT l (k + 1) = if mk < gk then gk else mk) = (mxT l (k + 1) = if mk < gk then gk else mk) from rfl, if_neg hb] at HS
        have HS := hide HS
        go_wp2_with fail
        go_roundw
        case measure => simp [Go.RowKit.intOf]; omega
        case rel => exact ⟨k + 1, by omega, by omega, by go_num, (by rw [HS.out]; congr 1; omega), by first | rfl | trivial⟩
    · obtain rfl : k = l.length := by omega
      go_wp2_with fail
      go_ret
      exact ⟨rfl, by first | rfl | trivial⟩
set_option maxRecDepth 20000 in
set_option maxHeartbeats 2000000 in
theorem idxU (A : Option Addr) (c : Nat) (l : List Nat) (x i : Nat) (w : World) (h : Rd w A 1 l.length (wv l)) (hl : l.length ≤ 1000000) (hi : i < l.length) (hx : gn l i = x) (hf : ∀ j, j < i → gn l j < x) : Calls Try.prog 101 #[.slice A l.length c, .int .u64 (x : Int)] w fun e w' => e = .returned (.int .i64 (i : Int)) ∧ w = w' := by
  obtain ⟨_, b, off, rfl, hc⟩ := h.wordsH (by omega)
  have HC := hide hc
  have HF := hide hf
  clear h hc hf
  go_enter Try.func101, Try.ntmps101
  go_wp2_with fail
  go_loopw [8] (fun s wr => ∃ k : Nat, k ≤ i ∧ s = .int .i64 (k : Int) ∧ wr = w) (fun s _ => l.length - (Go.RowKit.intOf s).toNat)
  case atStart => exact ⟨0, by omega, by go_num, rfl⟩
  case round =>
    obtain ⟨k, hk, rfl, rfl⟩ := hrel
    have hkl : k < l.length := by omega
    have ck := HC.out k hkl
    by_cases hlt : k < i
    · have hne := HF.out k hlt
      have b1 : ((x : Int) == (gn l k : Int)) = false := beq_eq_false_iff_ne.2 (by omega)
      generalize gn l k = gk at *
      go_wp2_with fail
      go_roundw
      case measure => simp [Go.RowKit.intOf]; omega
      case rel => exact ⟨k + 1, by omega, by go_num, by first | rfl | trivial⟩
    · obtain rfl : k = i := by omega
      rw [hx] at ck
      go_wp2_with fail
      go_ret
      exact ⟨rfl, by first | rfl | trivial⟩
set_option maxRecDepth 20000 in
set_option maxHeartbeats 2000000 in
theorem fBusiest (A : Option Addr) (c : Nat) (l : List Nat) (w : World) (h : Rd w A 1 l.length (wv l)) (hl : l.length ≤ 1000000) : Calls Try.prog 46 #[.slice A l.length c] w fun e w' => e = .returned (bsV l) ∧ w = w' := by
  by_cases h0 : l.length = 0
  · have e1 : bsV l = .tuple #[.int .i64 (-1), .bool false] := if_pos h0
    rw [e1, h0]
    clear h e1 h0
    go_enter Try.func46, Try.ntmps46
    go_wp2_with fail
    refine bodyPost_ret (v := .tuple #[.int .i64 (-1), .bool false]) (by simp (maxDischargeDepth := 6) [results, Try.results46, go_sem, *]) rfl ?_
    exact ⟨rfl, rfl⟩
  · have e1 : bsV l = .tuple #[.int .i64 (bst l l.length : Int), .bool true] := if_neg h0
    obtain ⟨q1, q2, q3⟩ := bst_is l l.length (by omega)
    have C1 := hide (maxU A c l w h hl (by omega))
    have C2 := hide (idxU A c l (mxT l l.length) (bst l l.length) w h hl q1 q2 q3)
    rw [e1]
    have hb : ((l.length : Int) == 0) = false := beq_eq_false_iff_ne.2 (by omega)
    clear h e1 h0 q1 q2 q3
    generalize bst l l.length = bb at *
    generalize mxT l l.length = mm at *
    go_enter Try.func46, Try.ntmps46
    go_wp2_with fail
    refine C1.out.mono ?_; rintro e w' ⟨rfl, rfl⟩
    go_wp2_with fail
    refine C2.out.mono ?_; rintro e w' ⟨rfl, rfl⟩
    go_wp2_with fail
    refine bodyPost_ret (v := .tuple #[.int .i64 (bb : Int), .bool true]) (by simp (maxDischargeDepth := 6) [results, Try.results46, go_sem, *]) rfl ?_
    exact ⟨rfl, rfl⟩
end Go.Proofs.Ythjcbboignmknaa

/- Contracts: which demands may be, by the program and by its answer; demands as the program has them. -/
namespace Go.Proofs.Ythjcbboignmknaa
open Go Go.RowKit
/-- A demand is made of two nodes and a number, as an edge is. Is one of its ends no node? -/
def nowhereB (N : Int) (e : Edg) : Bool := !nodeB N e.f || !nodeB N e.t
def manyB (e : Edg) : Bool := decide (1099511627776 < e.w)
/-- Why demands may not be; 0: they may. -/
def fRightF (N : Int) (E D : List Edg) : Int := if rightF N E ≠ 0 then 1 else if 1000 < D.length then 5 else if D.any (nowhereB N) then 7 else if D.any manyB then 2 else 0
set_option maxRecDepth 20000 in
set_option maxHeartbeats 1000000 in
theorem indexD (A : Option Addr) (n c : Nat) (E : List Edg) (k : FuncId) (cap : Array Value) (p : Edg → Bool) (w : World) (h : Rd w A 3 n (esCells E)) (hn : n ≤ 1000000) (hk : ∀ args W, (callFunc k args).run Try.prog W = .ok (.enter k args) W)
    (hf : ∀ W, Grows w W → ∀ e, Calls Try.prog k (#[eVal e] ++ cap) W fun x w' => x = .returned (.bool (p e)) ∧ Grows W w') :
    Calls Try.prog 153 #[.slice A n c, .func (.func k) #[] cap] w fun e w' => e = .returned (.int .i64 (firstI p E)) ∧ Grows w w' := by
  have HL := hide h.elen
  have HR := hide h
  have HF := hide hf
  clear h hf
  unfold eVal at HF
  go_enter Try.func153, Try.ntmps153
  go_wp2
  go_loopw [8] (fun i wr => ∃ k : Nat, k ≤ n ∧ i = .int .i64 (k : Int) ∧ (∃ x : Later w, wr = x.now) ∧ ∀ j, j < k → p (ge E j) = false) (fun i _ => n - (intOf i).toNat)
  case atStart => exact ⟨0, by omega, by go_num, ⟨⟨w, Grows.refl w⟩, rfl⟩, fun j h1 => by omega⟩
  case round =>
    obtain ⟨q, hq, rfl, ⟨x, rfl⟩, hall⟩ := hrel
    have HA := hide hall
    clear hall
    by_cases hend : n ≤ q
    · go_wp2
      go_ret
      refine ⟨ret_int ?_, (by repeat (first | exact Grows.refl _ | refine Grows.now ?_ _ | refine Grows.new ?_ _ | refine Grows.drewN ?_ _ | refine Grows.drew ?_ | assumption | (refine Grows.set ?_ (by first | omega | (simp; done) | (simp; omega)) _)))⟩
      have hl := HL.out
      have hh := HA.out
      rw [firstI_none]
      intro e he
      obtain ⟨j, hj, rfl⟩ := List.mem_iff_getElem.1 he
      have := hh j (by omega)
      simpa [ge, hj] using this
    · obtain ⟨b, off, rfl, hc⟩ := HR.out.edges (by omega)
      obtain ⟨hc1, hc2, hc3⟩ := hc q (by omega)
      clear hc
      go_wp2_with fail
      refine (HF.out _ (by repeat (first | exact Grows.refl _ | refine Grows.now ?_ _ | refine Grows.new ?_ _ | refine Grows.drewN ?_ _ | refine Grows.drew ?_ | assumption | (refine Grows.set ?_ (by first | omega | (simp; done) | (simp; omega)) _))) (ge E q)).mono ?_; rintro e w' ⟨rfl, hg⟩; obtain ⟨x1, rfl⟩ := Grows.later2 hg; clear hg
      cases hp : p (ge E q) with
      | true =>
        have HW : Hid (firstI p E = q) := firstI_at p ⟨0, 0, 0⟩ E q (by have := HL.out; omega) HA.out hp
        clear hp
        go_wp2
        go_ret
        exact ⟨ret_int HW.out.symm, (by repeat (first | exact Grows.refl _ | refine Grows.now ?_ _ | refine Grows.new ?_ _ | refine Grows.drewN ?_ _ | refine Grows.drew ?_ | assumption | (refine Grows.set ?_ (by first | omega | (simp; done) | (simp; omega)) _)))⟩
      | false =>
        have HP := hide hp
        clear hp
        go_wp2
        go_roundw
        case measure => simp [intOf]; omega
        case rel =>
          refine ⟨q + 1, by omega, by go_num, ⟨_, rfl⟩, fun j h1 => ?_⟩
          by_cases hj : j = q
          · rw [hj]; exact HP.out
          · exact HA.out j (by omega)

set_option maxHeartbeats 1000000 in
theorem containsD (A : Option Addr) (n c : Nat) (E : List Edg) (k : FuncId) (cap : Array Value) (p : Edg → Bool) (w : World) (h : Rd w A 3 n (esCells E)) (hn : n ≤ 1000000) (hk : ∀ args W, (callFunc k args).run Try.prog W = .ok (.enter k args) W)
    (hf : ∀ W, Grows w W → ∀ e, Calls Try.prog k (#[eVal e] ++ cap) W fun x w' => x = .returned (.bool (p e)) ∧ Grows W w') :
    Calls Try.prog 96 #[.slice A n c, .func (.func k) #[] cap] w fun e w' => e = .returned (.bool (E.any p)) ∧ Grows w w' := by
  have HC := hide (indexD A n c E k cap p w h hn hk hf)
  have HV := hide (firstI_any p E)
  clear h hf hk
  go_enter Try.func96, Try.ntmps96
  go_wp2_with (first | (go_at_call 153; refine (HC.out).mono ?_; rintro e w' ⟨rfl, hg⟩; (first | obtain ⟨x, rfl⟩ := Grows.later2 hg | obtain ⟨x, rfl⟩ := Grows.later hg); clear hg))
  all_goals go_ret
  all_goals exact ⟨ret_bool (by rw [← HV.out]), (by repeat (first | exact Grows.refl _ | refine Grows.now ?_ _ | refine Grows.new ?_ _ | refine Grows.drewN ?_ _ | refine Grows.drew ?_ | assumption | (refine Grows.set ?_ (by first | omega | (simp; done) | (simp; omega)) _)))⟩


set_option maxHeartbeats 400000 in
theorem fRight2 (x : Edg) (w : World) : Calls Try.prog 95 #[eVal x] w fun e w' => e = .returned (.bool (manyB x)) ∧ Grows w w' := by
  unfold eVal
  go_enter Try.func95, Try.ntmps95
  go_wp2
  all_goals go_ret
  all_goals exact ⟨ret_bool (by unfold manyB; first | rfl | (apply bool_ext; simp)), (by repeat (first | exact Grows.refl _ | refine Grows.now ?_ _ | refine Grows.new ?_ _ | refine Grows.drewN ?_ _ | refine Grows.drew ?_ | assumption | (refine Grows.set ?_ (by first | omega | (simp; done) | (simp; omega)) _)))⟩
set_option maxHeartbeats 1000000 in
theorem fRight1 (x : Edg) (N : Int) (s : Value) (g : Nat) (w : World) (c0 : w.cell? ⟨g, 0, none⟩ = some (.int .i64 N)) (c1 : w.cell? ⟨g, 1, none⟩ = some s) :
    Calls Try.prog 94 #[eVal x, .pointer (some ⟨g, 0, none⟩)] w fun e w' => e = .returned (.bool (nowhereB N x)) ∧ Grows w w' := by
  unfold eVal
  have C1 := fun W => gNode N x.f s W
  have C2 := fun W => gNode N x.t s W
  cases h1 : nodeB N x.f with
  | false =>
    have HW : Hid (nowhereB N x = true) := by unfold nowhereB; rw [h1]; rfl
    rw [h1] at C1
    have H1 := hide C1
    clear C1 C2 h1
    go_enter Try.func94, Try.ntmps94
    go_wp2_with (first | (go_at_call 75; refine (H1.out _).mono ?_; rintro e w' ⟨rfl, hg⟩; (first | obtain ⟨x, rfl⟩ := Grows.later2 hg | obtain ⟨x, rfl⟩ := Grows.later hg); clear hg))
    go_ret
    exact ⟨ret_bool HW.out.symm, (by repeat (first | exact Grows.refl _ | refine Grows.now ?_ _ | refine Grows.new ?_ _ | refine Grows.drewN ?_ _ | refine Grows.drew ?_ | assumption | (refine Grows.set ?_ (by first | omega | (simp; done) | (simp; omega)) _)))⟩
  | true =>
    have HW : Hid (nowhereB N x = !nodeB N x.t) := by unfold nowhereB; rw [h1]; rfl
    rw [h1] at C1
    have H1 := hide C1
    have H2 := hide C2
    clear C1 C2 h1
    go_enter Try.func94, Try.ntmps94
    go_wp2_with fail
    refine (H1.out _).mono ?_; rintro e w' ⟨rfl, hg⟩; obtain ⟨x1, rfl⟩ := Grows.later hg; clear hg
    go_wp2_with fail
    refine (H2.out _).mono ?_; rintro e w' ⟨rfl, hg⟩; obtain ⟨x2, rfl⟩ := Grows.later2 hg; clear hg
    go_wp2
    go_ret
    exact ⟨ret_bool HW.out.symm, (by repeat (first | exact Grows.refl _ | refine Grows.now ?_ _ | refine Grows.new ?_ _ | refine Grows.drewN ?_ _ | refine Grows.drew ?_ | assumption | (refine Grows.set ?_ (by first | omega | (simp; done) | (simp; omega)) _)))⟩
set_option maxHeartbeats 4000000 in
theorem fRight (N : Int) (A : Option Addr) (c : Nat) (E : List Edg) (B : Option Addr) (d : Nat) (D : List Edg) (w : World) (h : Rd w A 3 E.length (esCells E)) (hD : Rd w B 3 D.length (esCells D)) (hn : E.length ≤ 1000000) (hd : D.length ≤ 1000000) :
    Calls Try.prog 42 #[.agg #[.int .i64 N, .slice A E.length c], .slice B D.length d] w fun e w' => e = .returned (.int .i64 (fRightF N E D)) ∧ Grows w w' := by
  have C0 := hide (fun (W : World) (g : Grows w W) => gRight N A E.length c E W (h.grows g) hn)
  have HD := hide hD
  have K1 := fun args W => run_callGo (P := Try.prog) Try.func94 (by kernel_rfl) (by kernel_rfl) args W
  have K2 := fun args W => run_callGo (P := Try.prog) Try.func95 (by kernel_rfl) (by kernel_rfl) args W
  have HK1 := hide K1
  have HK2 := hide K2
  clear K1 K2 h hD
  by_cases h0 : rightF N E = 0
  · rw [h0] at C0
    by_cases h1 : 1000 < D.length
    · have HW : Hid (fRightF N E D = 5) := by unfold fRightF; rw [if_neg (by omega), if_pos h1]; rfl
      clear h0
      go_enter Try.func42, Try.ntmps42
      go_wp2_with (first | (go_at_call 90; refine (C0.out _ (by repeat (first | exact Grows.refl _ | refine Grows.now ?_ _ | refine Grows.new ?_ _ | refine Grows.drewN ?_ _ | refine Grows.drew ?_ | assumption | (refine Grows.set ?_ (by first | omega | (simp; done) | (simp; omega)) _)))).mono ?_; rintro e w' ⟨rfl, hg⟩; (first | obtain ⟨x, rfl⟩ := Grows.later2 hg | obtain ⟨x, rfl⟩ := Grows.later hg); clear hg))
      go_ret
      exact ⟨ret_int HW.out.symm, (by repeat (first | exact Grows.refl _ | refine Grows.now ?_ _ | refine Grows.new ?_ _ | refine Grows.drewN ?_ _ | refine Grows.drew ?_ | assumption | (refine Grows.set ?_ (by first | omega | (simp; done) | (simp; omega)) _)))⟩
    · have C1 := fun (W : World) (g : Grows w W) c0 c1 => containsD B D.length d D 94 #[.pointer (some ⟨w.heap.size, 0, none⟩)] (nowhereB N) W (HD.out.grows g) hd HK1.out (fun W' g' e => fRight1 e N (.slice A E.length c) w.heap.size W' (g'.keeps c0) (g'.keeps c1))
      have C2 := fun (W : World) (g : Grows w W) => containsD B D.length d D 95 #[] manyB W (HD.out.grows g) hd HK2.out (fun W' _ e => fRight2 e W')
      cases hl : D.any (nowhereB N) with
      | true =>
        have HW : Hid (fRightF N E D = 7) := by unfold fRightF; rw [if_neg (by omega), if_neg h1, hl]; rfl
        rw [hl] at C1
        have H1 := hide C1
        clear C1 C2 hl h0
        go_enter Try.func42, Try.ntmps42
        go_wp2_with fail
        refine (C0.out _ (by repeat (first | exact Grows.refl _ | refine Grows.now ?_ _ | refine Grows.new ?_ _ | refine Grows.drewN ?_ _ | refine Grows.drew ?_ | assumption | (refine Grows.set ?_ (by first | omega | (simp; done) | (simp; omega)) _)))).mono ?_; rintro e w' ⟨rfl, hg⟩; obtain ⟨x1, rfl⟩ := Grows.later hg; clear hg
        go_wp2_with fail
        refine (H1.out _ (by repeat (first | exact Grows.refl _ | refine Grows.now ?_ _ | refine Grows.new ?_ _ | refine Grows.drewN ?_ _ | refine Grows.drew ?_ | assumption | (refine Grows.set ?_ (by first | omega | (simp; done) | (simp; omega)) _))) (by simp [go_sem]) (by simp [go_sem])).mono ?_; rintro e w' ⟨rfl, hg⟩; obtain ⟨x2, rfl⟩ := Grows.later2 hg; clear hg
        go_wp2
        go_ret
        exact ⟨ret_int HW.out.symm, (by repeat (first | exact Grows.refl _ | refine Grows.now ?_ _ | refine Grows.new ?_ _ | refine Grows.drewN ?_ _ | refine Grows.drew ?_ | assumption | (refine Grows.set ?_ (by first | omega | (simp; done) | (simp; omega)) _)))⟩
      | false =>
        rw [hl] at C1
        have H1 := hide C1
        clear C1
        cases hh : D.any manyB with
        | true =>
          have HW : Hid (fRightF N E D = 2) := by unfold fRightF; rw [if_neg (by omega), if_neg h1, hl, hh]; rfl
          rw [hh] at C2
          have H2 := hide C2
          clear C2 hl h0 hh
          go_enter Try.func42, Try.ntmps42
          go_wp2_with fail
          refine (C0.out _ (by repeat (first | exact Grows.refl _ | refine Grows.now ?_ _ | refine Grows.new ?_ _ | refine Grows.drewN ?_ _ | refine Grows.drew ?_ | assumption | (refine Grows.set ?_ (by first | omega | (simp; done) | (simp; omega)) _)))).mono ?_; rintro e w' ⟨rfl, hg⟩; obtain ⟨x1, rfl⟩ := Grows.later hg; clear hg
          go_wp2_with fail
          refine (H1.out _ (by repeat (first | exact Grows.refl _ | refine Grows.now ?_ _ | refine Grows.new ?_ _ | refine Grows.drewN ?_ _ | refine Grows.drew ?_ | assumption | (refine Grows.set ?_ (by first | omega | (simp; done) | (simp; omega)) _))) (by simp [go_sem]) (by simp [go_sem])).mono ?_; rintro e w' ⟨rfl, hg⟩; obtain ⟨x2, rfl⟩ := Grows.later2 hg; clear hg
          go_wp2_with fail
          refine (H2.out _ (by repeat (first | exact Grows.refl _ | refine Grows.now ?_ _ | refine Grows.new ?_ _ | refine Grows.drewN ?_ _ | refine Grows.drew ?_ | assumption | (refine Grows.set ?_ (by first | omega | (simp; done) | (simp; omega)) _)))).mono ?_; rintro e w' ⟨rfl, hg⟩; obtain ⟨x3, rfl⟩ := Grows.later2 hg; clear hg
          go_wp2
          go_ret
          exact ⟨ret_int HW.out.symm, (by repeat (first | exact Grows.refl _ | refine Grows.now ?_ _ | refine Grows.new ?_ _ | refine Grows.drewN ?_ _ | refine Grows.drew ?_ | assumption | (refine Grows.set ?_ (by first | omega | (simp; done) | (simp; omega)) _)))⟩
        | false =>
          have HW : Hid (fRightF N E D = 0) := by unfold fRightF; rw [if_neg (by omega), if_neg h1, hl, hh]; rfl
          rw [hh] at C2
          have H2 := hide C2
          clear C2 hl h0 hh
          go_enter Try.func42, Try.ntmps42
          go_wp2_with fail
          refine (C0.out _ (by repeat (first | exact Grows.refl _ | refine Grows.now ?_ _ | refine Grows.new ?_ _ | refine Grows.drewN ?_ _ | refine Grows.drew ?_ | assumption | (refine Grows.set ?_ (by first | omega | (simp; done) | (simp; omega)) _)))).mono ?_; rintro e w' ⟨rfl, hg⟩; obtain ⟨x1, rfl⟩ := Grows.later hg; clear hg
          go_wp2_with fail
          refine (H1.out _ (by repeat (first | exact Grows.refl _ | refine Grows.now ?_ _ | refine Grows.new ?_ _ | refine Grows.drewN ?_ _ | refine Grows.drew ?_ | assumption | (refine Grows.set ?_ (by first | omega | (simp; done) | (simp; omega)) _))) (by simp [go_sem]) (by simp [go_sem])).mono ?_; rintro e w' ⟨rfl, hg⟩; obtain ⟨x2, rfl⟩ := Grows.later2 hg; clear hg
          go_wp2_with fail
          refine (H2.out _ (by repeat (first | exact Grows.refl _ | refine Grows.now ?_ _ | refine Grows.new ?_ _ | refine Grows.drewN ?_ _ | refine Grows.drew ?_ | assumption | (refine Grows.set ?_ (by first | omega | (simp; done) | (simp; omega)) _)))).mono ?_; rintro e w' ⟨rfl, hg⟩; obtain ⟨x3, rfl⟩ := Grows.later2 hg; clear hg
          go_wp2
          go_ret
          exact ⟨ret_int HW.out.symm, (by repeat (first | exact Grows.refl _ | refine Grows.now ?_ _ | refine Grows.new ?_ _ | refine Grows.drewN ?_ _ | refine Grows.drew ?_ | assumption | (refine Grows.set ?_ (by first | omega | (simp; done) | (simp; omega)) _)))⟩
  · have HW : Hid (fRightF N E D = 1) := by unfold fRightF; rw [if_pos h0]; rfl
    have hb : (rightF N E == 0) = false := beq_eq_false_iff_ne.2 h0
    clear h0
    generalize rightF N E = r at *
    go_enter Try.func42, Try.ntmps42
    go_wp2_with (first | (go_at_call 90; refine (C0.out _ (by repeat (first | exact Grows.refl _ | refine Grows.now ?_ _ | refine Grows.new ?_ _ | refine Grows.drewN ?_ _ | refine Grows.drew ?_ | assumption | (refine Grows.set ?_ (by first | omega | (simp; done) | (simp; omega)) _)))).mono ?_; rintro e w' ⟨rfl, hg⟩; (first | obtain ⟨x, rfl⟩ := Grows.later2 hg | obtain ⟨x, rfl⟩ := Grows.later hg); clear hg))
    go_ret
    exact ⟨ret_int HW.out.symm, (by repeat (first | exact Grows.refl _ | refine Grows.now ?_ _ | refine Grows.new ?_ _ | refine Grows.drewN ?_ _ | refine Grows.drew ?_ | assumption | (refine Grows.set ?_ (by first | omega | (simp; done) | (simp; omega)) _)))⟩
end Go.Proofs.Ythjcbboignmknaa

/- What demands do: which loads come of the shortest ways. -/
namespace Go.Proofs.Ythjcbboignmknaa
open Go Go.RowKit
theorem IsPath.edges {E : List Edg} {o : DOpt} {N s t : Int} {l : List Nat} {f : Nat} {r : Int} (h : IsPath E o N s t l f r) : ∀ i ∈ l, i < E.length := by
  cases h with
  | bad => intro i hi; cases hi
  | noNode => intro i hi; cases hi
  | noPath => intro i hi; cases hi
  | way NN sN tN xs l hN hs ht hok hf hn hl => exact hl.edges
theorem IsPath.ways2 {E : List Edg} {o : DOpt} {N s t : Int} {l : List Nat} {f : Nat} (hp : IsPath E o N s t l f 0) : ∃ (NN sN tN : Nat) (ys : List (Nat × Nat)), N = NN ∧ s = sN ∧ t = tN ∧ PathOk NN sN tN E o ys ∧ f = gn (outL NN ys) sN ∧ gn (outL NN ys) sN < farV ∧ Near (srchOf NN E (backO o)) (outL NN ys) tN ∧ Fol (srchOf NN E (backO o)) (outL NN ys) tN sN l := by
  generalize h0 : (0 : Int) = r at hp
  cases hp with
  | bad hd => exact absurd h0.symm hd
  | noNode => cases h0
  | noPath => cases h0
  | way NN sN tN xs l hN hs ht hok hf hn hl => exact ⟨NN, sN, tN, xs, hN, hs, ht, hok, rfl, hf, hn, hl⟩
/-- Each edge of a way gets so many more. -/
def addOne (n : Int) (L : List Int) (e : Nat) : List Int := L.set e (IntKind.u64.wrap (gi L e + n))
def addAt (L : List Int) (n : Int) (es : List Nat) : List Int := es.foldl (addOne n) L
theorem addOne_len (n : Int) (L : List Int) (e : Nat) : (addOne n L e).length = L.length := by simp [addOne]
theorem addAt_len (n : Int) (es : List Nat) : ∀ L : List Int, (addAt L n es).length = L.length := by
  induction es with
  | nil => intro L; rfl
  | cons e es ih => intro L; exact (ih _).trans (addOne_len n L e)
theorem addAt_succ (L : List Int) (n : Int) (es : List Nat) (k : Nat) (hk : k < es.length) : addAt L n (es.take (k + 1)) = addOne n (addAt L n (es.take k)) (gn es k) := by
  have e1 : es.take (k + 1) = es.take k ++ [gn es k] := by
    rw [List.take_succ_eq_append_getElem hk]
    have : gn es k = es[k] := by simp [gn, hk]
    rw [this]
  unfold addAt
  rw [e1, List.foldl_append]
  rfl
/-- The ways that the demands go, each with its fault; what comes of the first k of them: loads, and how many are lost. -/
abbrev Ways := Nat → List Nat × Nat × Int
def asgS (D : List Edg) (P : Ways) (m : Nat) : Nat → List Int × Int
  | 0 => (List.replicate m 0, 0)
  | k + 1 => if (P k).2.2 = 0 then (addAt (asgS D P m k).1 (ge D k).w (P k).1, (asgS D P m k).2) else ((asgS D P m k).1, IntKind.u64.wrap ((asgS D P m k).2 + (ge D k).w))
theorem asgS_len (D : List Edg) (P : Ways) (m k : Nat) : (asgS D P m k).1.length = m := by
  induction k with
  | zero => simp [asgS]
  | succ k ih =>
    unfold asgS
    split
    · rw [addAt_len]; exact ih
    · exact ih
def WaysOf (E : List Edg) (o : DOpt) (N : Int) (D : List Edg) (P : Ways) : Prop := ∀ k, k < D.length → IsPath E o N (ge D k).f (ge D k).t (P k).1 (P k).2.1 (P k).2.2
theorem ways_any (E : List Edg) (o : DOpt) (N : Int) (D : List Edg) (hnn : o.nn.length ≤ 1000000) (hne : o.ne.length ≤ 1000000) : ∃ P, WaysOf E o N D P := by
  have h : ∀ k : Nat, ∃ p : List Nat × Nat × Int, IsPath E o N (ge D k).f (ge D k).t p.1 p.2.1 p.2.2 := fun k => by
    obtain ⟨l, f, r, hp⟩ := isPath_any E o N (ge D k).f (ge D k).t hnn hne
    exact ⟨(l, f, r), hp⟩
  exact ⟨fun k => Classical.choose (h k), fun k _ => Classical.choose_spec (h k)⟩
theorem fRight_ok {N : Int} {E D : List Edg} (h : fRightF N E D = 0) : rightF N E = 0 ∧ D.length ≤ 1000 ∧ ∀ k, k < D.length → (nodeB N (ge D k).f = true ∧ nodeB N (ge D k).t = true) ∧ (ge D k).w ≤ 1099511627776 := by
  unfold fRightF at h
  split at h
  · cases h
  split at h
  · cases h
  split at h
  · cases h
  split at h
  · cases h
  rename_i h1 h2 h3 h4
  refine ⟨by omega, by omega, fun k hk => ?_⟩
  have hm : ge D k ∈ D := by unfold ge; rw [List.getD_eq_getElem?_getD, List.getElem?_eq_getElem hk]; exact List.getElem_mem hk
  have q1 : nowhereB N (ge D k) = false := by
    cases hh : nowhereB N (ge D k) with
    | false => rfl
    | true => exact absurd (List.any_eq_true.2 ⟨_, hm, hh⟩) h3
  have q2 : manyB (ge D k) = false := by
    cases hh : manyB (ge D k) with
    | false => rfl
    | true => exact absurd (List.any_eq_true.2 ⟨_, hm, hh⟩) h4
  unfold nowhereB at q1
  simp only [Bool.or_eq_false_iff, Bool.not_eq_false'] at q1
  have := of_decide_eq_false q2
  exact ⟨q1, by omega⟩
end Go.Proofs.Ythjcbboignmknaa

/- Contracts: what demands do, by the program. -/
namespace Go.Proofs.Ythjcbboignmknaa
open Go Go.RowKit
def uv (L : List Int) : List Value := L.map (.int .u64)
theorem uv_len (L : List Int) : (uv L).length = L.length := by simp [uv]
theorem uv_at {L : List Int} {j : Nat} (h : j < L.length) : (uv L)[j]? = some (.int .u64 (gi L j)) := by simp [uv, gi, h]
theorem uv_one (n : Int) (L : List Int) (e : Nat) : uv (addOne n L e) = (uv L).set e (.int .u64 (IntKind.u64.wrap (gi L e + n))) := by simp [uv, addOne, List.map_set]
/-- A number is no number of edges: two rows of unlike elements lie apart. -/
theorem Arr.own_ne {w : World} {g lo n c size : Nat} {t e : TypeId} {cs xs : List Value} {A : Option Addr} (h : Arr w g t cs) (ho : Own w lo e size A n c xs) (hte : t ≠ e) : ∀ p, A = some p → p.block ≠ g := fun p hp e1 => by
  have h1 := (ho.ty p hp).2.one (by rw [e1]; exact h.ty)
  exact absurd h1.symm hte
set_option maxRecDepth 20000 in
set_option maxHeartbeats 4000000 in
/-- Each edge of a way gets so many more. -/
theorem fAssign1 (A : Option Addr) (c : Nat) (es : List Nat) (n : Int) (b g : Nat) (L : List Int) (lost : Value) (w : World) (hr : Rd w A 1 es.length (nv es)) (hes : es.length ≤ 1000000) (a : Arr w b 68 [.slice (some ⟨g, 0, none⟩) L.length L.length, lost]) (ag : Arr w g 37 (uv L))
    (he : ∀ e ∈ es, e < L.length) (hne : ∀ p, A = some p → p.block ≠ g) :
    Calls Try.prog 93 #[.slice A es.length c, .int .u64 n, .pointer (some ⟨b, 0, none⟩)] w fun e w' => (∃ v, e = .returned v) ∧ Arr w' g 37 (uv (addAt L n es)) ∧ Touch (fun k => k = g) w w' := by
  have HR := hide hr
  have HE := hide he
  have HN := hide hne
  have hbg : b ≠ g := a.ne ag (by decide)
  have HA := hide a
  have HG := hide ag
  clear hr he hne a ag
  go_enter Try.func93, Try.ntmps93
  go_wp2_with fail
  go_loopw [9] (fun i wr => ∃ k : Nat, k ≤ es.length ∧ i = .int .i64 (k : Int) ∧ Touch (fun k => k = g) w wr ∧ Arr wr g 37 (uv (addAt L n (es.take k)))) (fun i _ => es.length - (Go.RowKit.intOf i).toNat)
  case atStart => exact ⟨0, by omega, by go_num, Touch.refl _ _, by rw [List.take_zero]; exact HG.out⟩
  case round =>
    obtain ⟨k, hk, rfl, ht, ag⟩ := hrel
    have HT := hide ht
    by_cases hlt : k < es.length
    · have a1 := HA.out.touch ht hbg
      have hR2 := HR.out.touch ht HN.out
      obtain ⟨bE, oE, rfl, hc⟩ := hR2.at_ (by omega)
      have c1 : Holds wr ⟨bE, oE + k, none⟩ (.int .i64 (gn es k : Int)) := ⟨hc k _ (nv_at hlt)⟩
      have hin : gn es k < L.length := HE.out _ (by unfold gn; rw [List.getD_eq_getElem?_getD, List.getElem?_eq_getElem hlt]; exact List.getElem_mem hlt)
      have hll : (addAt L n (es.take k)).length = L.length := addAt_len _ _ _
      have m1 : Mine wr ⟨g, gn es k, none⟩ (.int .u64 (gi (addAt L n (es.take k)) (gn es k))) := ag.mine _ (uv_at (by rw [hll]; exact hin))
      have HS := hide (addAt_succ L n es k hlt)
      have HAG := hide ag
      clear hc ht ag hR2 hll
      generalize addAt L n (es.take k) = L' at *
      go_wp2_with fail
      go_roundw
      case measure => simp [Go.RowKit.intOf]; omega
      case rel =>
        refine ⟨k + 1, by omega, by go_num, HT.out.set (.inl rfl) _, ?_⟩
        rw [HS.out, uv_one]
        exact HAG.out.set _ _
    · have hke : es.take k = es := List.take_of_length_le (by omega)
      rw [hke] at ag
      have HAG := hide ag
      clear ag ht hke
      go_wp2_with fail
      go_end0
      exact ⟨⟨_, rfl⟩, HAG.out, HT.out⟩
end Go.Proofs.Ythjcbboignmknaa

/- Contracts: what loads cost, by the program and by its answer. -/
namespace Go.Proofs.Ythjcbboignmknaa
open Go Go.RowKit
set_option maxRecDepth 20000 in
set_option maxHeartbeats 2000000 in
theorem r47Busiest (A : Option Addr) (c : Nat) (l : List Nat) (w : World) (h : Rd w A 1 l.length (wv l)) (hl : l.length ≤ 1000000) : Calls Try.prog 47 #[.slice A l.length c] w fun e w' => e = .returned (bsV l) ∧ Grows w w' := by
  rcases Nat.eq_zero_or_pos l.length with h0 | h0
  · have e1 : bsV l = .tuple #[.int .i64 (-1), .bool false] := if_pos h0
    rw [e1, h0]
    clear h e1 h0
    go_enter Try.func47, Try.ntmps47
    go_wp2_with fail
    go_loopw [4, 5] (fun s4 s5 wr => s4 = .int .i64 (-1) ∧ s5 = .int .i64 0 ∧ ∃ y : Later w, wr = y.now) (fun _ _ _ => 0)
    case atStart => exact ⟨rfl, rfl, ⟨_, Grows.refl _⟩, rfl⟩
    case round =>
      obtain ⟨rfl, rfl, y, rfl⟩ := hrel
      go_wp2_with fail
      refine bodyPost_ret (v := .tuple #[.int .i64 (-1), .bool false]) (by simp (maxDischargeDepth := 6) [results, Try.results47, go_sem, *]) rfl ?_
      exact ⟨rfl, (by repeat (first | exact Grows.refl _ | refine Grows.now ?_ _ | refine Grows.new ?_ _ | refine Grows.drewN ?_ _ | refine Grows.drew ?_ | assumption | (refine Grows.set ?_ (by first | omega | (simp; done) | (simp; omega)) _)))⟩
  · have e1 : bsV l = .tuple #[.int .i64 (bst l l.length : Int), .bool true] := if_neg (by omega)
    rw [e1]
    have HB := hide (bst_is l)
    obtain ⟨_, b, off, rfl, hc⟩ := h.wordsH h0
    have HC := hide hc
    clear h hc e1
    go_enter Try.func47, Try.ntmps47
    go_wp2_with fail
    go_loopw [4, 5] (fun s4 s5 wr => ∃ k : Nat, k ≤ l.length ∧ s5 = .int .i64 (k : Int) ∧ s4 = .int .i64 (if k = 0 then -1 else (bst l k : Int)) ∧ ∃ y : Later w, wr = y.now) (fun _ s5 _ => l.length - (Go.RowKit.intOf s5).toNat)
    case atStart => exact ⟨0, by omega, by go_num, by rw [if_pos rfl], ⟨_, Grows.refl _⟩, rfl⟩
    case round =>
      obtain ⟨k, hk, rfl, rfl, y, rfl⟩ := hrel
      by_cases hlt : k < l.length
      · have ck := HC.out k hlt
        have hdk : decide ((k : Int) < (l.length : Int)) = true := decide_eq_true (by omega)
        rcases Nat.eq_zero_or_pos k with hk0 | hk0
        · subst hk0
          rw [if_pos rfl]
          go_wp2_with fail
          ((first | refine wp_region_gen (by kernel_rfl) (by kernel_rfl) ?_); (repeat' (first | (refine gLex_val0 rfl (by kernel_rfl) (fun K hK => ?_); (go_simp; (try (simp only [↓IntWalk.iteOmega]; try go_simp)); (try simp (disch := omega) only [IntWalk.i64_in]); (try simp (disch := omega) only [IntWalk.u64_in]); first | (refine hK _ ?_; clear hK K) | (apply Exists.intro; refine ⟨fun x => ?_, hK _ ?_⟩; (first | fail); clear hK K))) | (refine gLex_undef rfl rfl rfl (by kernel_rfl) (fun K hK => ?_); go_simp; refine hK _ ?_; clear hK K) | (refine gLex_ask rfl rfl rfl ?_; first | (apply gAsk_yes; kernel_rfl; intro K hK; (go_simp; (try (simp only [↓IntWalk.iteOmega]; try go_simp)); (try simp (disch := omega) only [IntWalk.i64_in]); (try simp (disch := omega) only [IntWalk.u64_in]); first | (refine hK _ ?_; clear hK K) | (apply Exists.intro; refine ⟨fun x => ?_, hK _ ?_⟩; (first | fail); clear hK K))) | ((first | apply gAsk_no1 | apply gAsk_no2); kernel_rfl; intro K hK; simp [go_sem]; refine hK _ ?_; clear hK K) | (apply gAsk_part; kernel_rfl; all_goals (intro h K hK; (try simp only [Bool.not_true] at h); (try simp only [Bool.not_false] at h); (try simp only [decide_eq_true_eq] at h); (try simp only [decide_eq_false_iff_not] at h); first | (exfalso; first | contradiction | omega) | (go_simp; (try (simp only [↓IntWalk.iteOmega]; try go_simp)); (try simp (disch := omega) only [IntWalk.i64_in]); (try simp (disch := omega) only [IntWalk.u64_in]); first | (refine hK _ ?_; clear hK K) | (apply Exists.intro; refine ⟨fun x => ?_, hK _ ?_⟩; (first | fail); clear hK K))))))); all_goals ((apply gLex_end); intro x))
          go_wp2_with fail
          go_roundw
          case measure => simp [Go.RowKit.intOf]; omega
          case rel => exact ⟨1, by omega, by go_num, by rw [if_neg (by omega)]; rfl, ⟨_, (by repeat (first | exact Grows.refl _ | refine Grows.now ?_ _ | refine Grows.new ?_ _ | refine Grows.drewN ?_ _ | refine Grows.drew ?_ | assumption | (refine Grows.set ?_ (by first | omega | (simp; done) | (simp; omega)) _)))⟩, rfl⟩
        · rw [if_neg (by omega)]
          obtain ⟨q1, q2, _⟩ := HB.out k hk0
          have cb := HC.out (bst l k) (by omega)
          have HS := hide (show bst l (k + 1) = if gn l (bst l k) < gn l k then k else bst l k from by
            show (if k = 0 then 0 else _) = _
            rw [if_neg (by omega)])
          have hbk : bst l k < l.length := by omega
          have hb0 : decide ((bst l k : Int) < 0) = false := decide_eq_false (by omega)
          by_cases hb : gn l (bst l k) < gn l k
          · have HS2 := hide (HS.out.trans (if_pos hb))
            clear HS q1 q2
            generalize bst l k = bk at *
            generalize gn l bk = gb at *
            generalize gn l k = gk at *
            go_wp2_with fail
            ((first | refine wp_region_gen (by kernel_rfl) (by kernel_rfl) ?_); (repeat' (first | (refine gLex_val0 rfl (by kernel_rfl) (fun K hK => ?_); (go_simp; (try (simp only [↓IntWalk.iteOmega]; try go_simp)); (try simp (disch := omega) only [IntWalk.i64_in]); (try simp (disch := omega) only [IntWalk.u64_in]); first | (refine hK _ ?_; clear hK K) | (apply Exists.intro; refine ⟨fun x => ?_, hK _ ?_⟩; (first | fail); clear hK K))) | (refine gLex_undef rfl rfl rfl (by kernel_rfl) (fun K hK => ?_); go_simp; refine hK _ ?_; clear hK K) | (refine gLex_ask rfl rfl rfl ?_; first | (apply gAsk_yes; kernel_rfl; intro K hK; (go_simp; (try (simp only [↓IntWalk.iteOmega]; try go_simp)); (try simp (disch := omega) only [IntWalk.i64_in]); (try simp (disch := omega) only [IntWalk.u64_in]); first | (refine hK _ ?_; clear hK K) | (apply Exists.intro; refine ⟨fun x => ?_, hK _ ?_⟩; (first | fail); clear hK K))) | ((first | apply gAsk_no1 | apply gAsk_no2); kernel_rfl; intro K hK; simp [go_sem]; refine hK _ ?_; clear hK K) | (apply gAsk_part; kernel_rfl; all_goals (intro h K hK; (try simp only [Bool.not_true] at h); (try simp only [Bool.not_false] at h); (try simp only [decide_eq_true_eq] at h); (try simp only [decide_eq_false_iff_not] at h); first | (exfalso; first | contradiction | omega) | (go_simp; (try (simp only [↓IntWalk.iteOmega]; try go_simp)); (try simp (disch := omega) only [IntWalk.i64_in]); (try simp (disch := omega) only [IntWalk.u64_in]); first | (refine hK _ ?_; clear hK K) | (apply Exists.intro; refine ⟨fun x => ?_, hK _ ?_⟩; (first | fail); clear hK K))))))); all_goals ((apply gLex_end); intro x))
            go_wp2_with fail
            go_roundw
            case measure => simp [Go.RowKit.intOf]; omega
            case rel => exact ⟨k + 1, by omega, by go_num, by rw [if_neg (by omega), HS2.out], ⟨_, (by repeat (first | exact Grows.refl _ | refine Grows.now ?_ _ | refine Grows.new ?_ _ | refine Grows.drewN ?_ _ | refine Grows.drew ?_ | assumption | (refine Grows.set ?_ (by first | omega | (simp; done) | (simp; omega)) _)))⟩, rfl⟩
          · have HS2 := hide (HS.out.trans (if_neg hb))
            clear HS q1 q2
            generalize bst l k = bk at *
            generalize gn l bk = gb at *
            generalize gn l k = gk at *
            go_wp2_with fail
            ((first | refine wp_region_gen (by kernel_rfl) (by kernel_rfl) ?_); (repeat' (first | (refine gLex_val0 rfl (by kernel_rfl) (fun K hK => ?_); (go_simp; (try (simp only [↓IntWalk.iteOmega]; try go_simp)); (try simp (disch := omega) only [IntWalk.i64_in]); (try simp (disch := omega) only [IntWalk.u64_in]); first | (refine hK _ ?_; clear hK K) | (apply Exists.intro; refine ⟨fun x => ?_, hK _ ?_⟩; (first | fail); clear hK K))) | (refine gLex_undef rfl rfl rfl (by kernel_rfl) (fun K hK => ?_); go_simp; refine hK _ ?_; clear hK K) | (refine gLex_ask rfl rfl rfl ?_; first | (apply gAsk_yes; kernel_rfl; intro K hK; (go_simp; (try (simp only [↓IntWalk.iteOmega]; try go_simp)); (try simp (disch := omega) only [IntWalk.i64_in]); (try simp (disch := omega) only [IntWalk.u64_in]); first | (refine hK _ ?_; clear hK K) | (apply Exists.intro; refine ⟨fun x => ?_, hK _ ?_⟩; (first | fail); clear hK K))) | ((first | apply gAsk_no1 | apply gAsk_no2); kernel_rfl; intro K hK; simp [go_sem]; refine hK _ ?_; clear hK K) | (apply gAsk_part; kernel_rfl; all_goals (intro h K hK; (try simp only [Bool.not_true] at h); (try simp only [Bool.not_false] at h); (try simp only [decide_eq_true_eq] at h); (try simp only [decide_eq_false_iff_not] at h); first | (exfalso; first | contradiction | omega) | (go_simp; (try (simp only [↓IntWalk.iteOmega]; try go_simp)); (try simp (disch := omega) only [IntWalk.i64_in]); (try simp (disch := omega) only [IntWalk.u64_in]); first | (refine hK _ ?_; clear hK K) | (apply Exists.intro; refine ⟨fun x => ?_, hK _ ?_⟩; (first | fail); clear hK K))))))); all_goals ((apply gLex_end); intro x))
            go_wp2_with fail
            go_roundw
            case measure => simp [Go.RowKit.intOf]; omega
            case rel => exact ⟨k + 1, by omega, by go_num, by rw [if_neg (by omega), HS2.out], ⟨_, (by repeat (first | exact Grows.refl _ | refine Grows.now ?_ _ | refine Grows.new ?_ _ | refine Grows.drewN ?_ _ | refine Grows.drew ?_ | assumption | (refine Grows.set ?_ (by first | omega | (simp; done) | (simp; omega)) _)))⟩, rfl⟩
      · obtain rfl : k = l.length := by omega
        have hdk : decide ((l.length : Int) < (l.length : Int)) = false := decide_eq_false (by omega)
        rw [if_neg (by omega)]
        have hb0 : decide ((0 : Int) ≤ (bst l l.length : Int)) = true := decide_eq_true (by omega)
        go_wp2_with fail
        refine bodyPost_ret (v := .tuple #[.int .i64 (bst l l.length : Int), .bool true]) (by simp (maxDischargeDepth := 6) [results, Try.results47, go_sem, *]) rfl ?_
        exact ⟨rfl, (by repeat (first | exact Grows.refl _ | refine Grows.now ?_ _ | refine Grows.new ?_ _ | refine Grows.drewN ?_ _ | refine Grows.drew ?_ | assumption | (refine Grows.set ?_ (by first | omega | (simp; done) | (simp; omega)) _)))⟩
set_option maxRecDepth 20000 in
set_option maxHeartbeats 2000000 in
theorem numSum (A : Option Addr) (c : Nat) (l : List Nat) (w : World) (h : Rd w A 1 l.length (wv l)) (hl : l.length ≤ 1000000) (hb : ∀ k, k < l.length → gn l k < 18446744073709551616) : Calls Try.prog 98 #[.slice A l.length c] w fun e w' => e = .returned (ckV (sumT l l.length)) ∧ w = w' := by
  have HR := hide h
  have HB := hide hb
  clear h hb
  go_enter Try.func98, Try.ntmps98
  go_wp2_with fail
  go_step3
  go_wp2_with fail
  go_step3
  go_wp2_with fail
  go_loopw [8, 2, 3] (fun s8 s2 s3 wr => ∃ k : Nat, k ≤ l.length ∧ sumT l k < 18446744073709551616 ∧ s8 = .int .i64 (k : Int) ∧ s2 = .int .u64 (sumT l k : Int) ∧ s3 = .int .i64 0 ∧ wr = w) (fun s8 _ _ _ => l.length - (Go.RowKit.intOf s8).toNat)
  case atStart => exact ⟨0, by omega, by show 0 < _; omega, by go_num, rfl, rfl, rfl⟩
  case round =>
    obtain ⟨k, hk, hs, rfl, rfl, rfl, rfl⟩ := hrel
    by_cases hlt : k < l.length
    · obtain ⟨_, b, off, rfl, hc⟩ := HR.out.wordsH (by omega)
      have ck := hc k hlt
      have hbk := HB.out k hlt
      have HS := hide (show sumT l (k + 1) = sumT l k + gn l k from rfl)
      have HM := hide (sumT_mono l (j := k + 1) (k := l.length) (by omega))
      have C1 := hide (numAdd (sumT l k) (gn l k) hs hbk wr)
      clear hc
      by_cases ho : sumT l k + gn l k < 18446744073709551616
      · rw [ckV_in ho] at C1
        have HO := hide ho
        clear ho
        generalize gn l k = g at *
        generalize hsk : sumT l k = q at *
        have HSK := hide hsk
        clear hsk
        go_wp2_with fail
        refine C1.out.mono ?_; rintro e w' ⟨rfl, rfl⟩
        go_wp2_with fail
        go_roundw
        case measure => simp [Go.RowKit.intOf]; omega
        case rel => exact ⟨k + 1, by omega, (by rw [HS.out]; exact HO.out), by go_num, (by rw [HS.out, Int.natCast_add]), rfl, by first | rfl | trivial⟩
      · rw [ckV_out ho] at C1
        have HV := hide (ckV_out (x := sumT l l.length) (by have h1 := HM.out; have h2 := HS.out; omega))
        clear ho HS HM
        generalize gn l k = g at *
        generalize sumT l k = q at *
        go_wp2_with fail
        refine C1.out.mono ?_; rintro e w' ⟨rfl, rfl⟩
        go_wp2_with fail
        rw [Exit.noGoto_ret]
        refine bodyPost_ret (v := .tuple #[.int .u64 0, .int .i64 6]) (by simp (maxDischargeDepth := 6) [results, Try.results98, go_sem, *]) rfl ?_
        exact ⟨by rw [HV.out], by first | rfl | trivial⟩
    · obtain rfl : k = l.length := by omega
      have HV := hide (ckV_in hs)
      go_wp2_with fail
      rw [Exit.noGoto_ret]
      refine bodyPost_ret (v := .tuple #[.int .u64 (sumT l l.length : Int), .int .i64 0]) (by simp (maxDischargeDepth := 6) [results, Try.results98, go_sem, *]) rfl ?_
      exact ⟨by rw [HV.out], by first | rfl | trivial⟩
end Go.Proofs.Ythjcbboignmknaa
