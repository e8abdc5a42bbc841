/- Plain law: bounds by places: the greatest factor that fits all edges; such bounds are consistent. -/
import Ieee.Arith
import GoSem.Core.Float
import Derived.Test.YtiljgkaffgclgaaQMarksBounds00
import Derived.Test.YtiljgkaffgclgaaRows
import Derived.Laws.ComplexArith
import Derived.Laws.Cover3
import Derived.Laws.Externs
import GoSem.Extern.MathSqrt
/- Plain: floating point numbers that stand for whole numbers below 2^53: their sums, products, order. -/
namespace Go.Proofs.Ytiljgkaffgclgaa
open Go

/-- How deep the least place lies. -/
@[irreducible] def LP : Nat := 1074
theorem LP_eq : LP = 1074 := by unfold LP; rfl

/-- The word b stands for the whole number n (a zero may bear either sign). -/
def IsI (b : Nat) (n : Int) : Prop := ∃ s m e, Ieee.double.read b = .number s m e ∧ -(LP : Int) ≤ e ∧ m * 2 ^ (e + LP).toNat = n.natAbs * 2 ^ LP ∧ (n ≠ 0 → s = decide (n < 0))

theorem pow_pos2 (n : Nat) : 0 < 2 ^ n := Nat.two_pow_pos n

theorem log2_scale {m a V K : Nat} (hV : 0 < V) (h : m * 2 ^ a = V * 2 ^ K) : m.log2 + a = V.log2 + K := by
  have hm : m ≠ 0 := by
    rintro rfl
    have := Nat.mul_pos hV (pow_pos2 K)
    omega
  have h1 : (m * 2 ^ a).log2 = m.log2 + a := by
    rw [Nat.log2_eq_iff (by rw [h]; exact Nat.ne_of_gt (Nat.mul_pos hV (pow_pos2 K)))]
    have := Nat.log2_self_le hm
    have h2 := Nat.lt_log2_self (n := m)
    refine ⟨by rw [Nat.pow_add]; exact Nat.mul_le_mul_right _ this, ?_⟩
    rw [show m.log2 + a + 1 = (m.log2 + 1) + a by omega, Nat.pow_add]
    exact Nat.mul_lt_mul_of_pos_right h2 (pow_pos2 a)
  have h3 : (V * 2 ^ K).log2 = V.log2 + K := by
    rw [Nat.log2_eq_iff (Nat.ne_of_gt (Nat.mul_pos hV (pow_pos2 K)))]
    have := Nat.log2_self_le (Nat.ne_of_gt hV)
    have h2 := Nat.lt_log2_self (n := V)
    refine ⟨by rw [Nat.pow_add]; exact Nat.mul_le_mul_right _ this, ?_⟩
    rw [show V.log2 + K + 1 = (V.log2 + 1) + K by omega, Nat.pow_add]
    exact Nat.mul_lt_mul_of_pos_right h2 (pow_pos2 K)
  rw [← h1, ← h3, h]

theorem read_word (s : Bool) (q k : Nat) (hq : q < 2000) (h1 : 4503599627370496 ≤ k) (h2 : k < 9007199254740992) :
    Ieee.double.read (Ieee.double.word s (q * 4503599627370496 + k)) = .number s k (-1074 + q) := by
  have e1 : Ieee.double.signWeight = 9223372036854775808 := by decide +kernel
  have e2 : Ieee.double.binade = 4503599627370496 := by decide +kernel
  have e3 : Ieee.double.infRung = 9218868437227405312 := by decide +kernel
  have e4 : Ieee.double.leastPlace = -1074 := by decide +kernel
  have hw : Ieee.double.word s (q * 4503599627370496 + k) = (if s then 9223372036854775808 else 0) + (q * 4503599627370496 + k) := by
    unfold Ieee.Format.word
    rw [e1]
    cases s <;> simp
  unfold Ieee.Format.read
  rw [hw, e1, e2, e3, e4]
  have r1 : ((if s then 9223372036854775808 else 0) + (q * 4503599627370496 + k)) % 9223372036854775808 = q * 4503599627370496 + k := by cases s <;> simp <;> omega
  have r2 : (((if s then 9223372036854775808 else 0) + (q * 4503599627370496 + k)) / 9223372036854775808 % 2 == 1) = s := by
    cases s
    · have : (q * 4503599627370496 + k) / 9223372036854775808 = 0 := by omega
      simp [this]
    · have : (9223372036854775808 + (q * 4503599627370496 + k)) / 9223372036854775808 = 1 := by omega
      simp [this]
  rw [r1, r2]
  dsimp only
  rw [if_neg (by omega), if_pos (by omega)]
  have r3 : (q * 4503599627370496 + k) % 4503599627370496 = k - 4503599627370496 := by omega
  have r4 : (q * 4503599627370496 + k) / 4503599627370496 = q + 1 := by omega
  rw [r3, r4, show 4503599627370496 + (k - 4503599627370496) = k by omega, show q + 1 - 1 = q by omega]

theorem cut_exact (s : Bool) (k d : Nat) (hd : d ≤ (k * 2 ^ d).log2 + 2) : Ieee.Toward.even.cut s (k * 2 ^ d) d = k := by
  unfold Ieee.Toward.cut
  rw [Nat.min_eq_left hd, Nat.one_shiftLeft]
  have h1 : k * 2 ^ d / 2 ^ d = k := Nat.mul_div_cancel _ (pow_pos2 d)
  have h2 : k * 2 ^ d % 2 ^ d = 0 := Nat.mul_mod_left _ _
  have h3 := pow_pos2 d
  simp only [h1, h2]
  have : (decide (2 ^ d < 2 * 0) || (2 ^ d == 2 * 0 && k % 2 == 1)) = false := by
    have h4 : ¬ 2 ^ d < 2 * 0 := by omega
    have h5 : (2 ^ d == 2 * 0) = false := by simp
    simp
  rw [this]
  rfl

/-- A whole number below 2^53 is written as it is. -/
theorem write_int {s : Bool} {m : Nat} {e : Int} {n : Int} {K : Nat} (hK : LP ≤ K) (heK : -(K : Int) ≤ e) (hv : m * 2 ^ (e + K).toNat = n.natAbs * 2 ^ K) (hn : n.natAbs < 9007199254740992) (hs : n ≠ 0 → s = decide (n < 0)) :
    IsI (Ieee.double.write (.number s m e)) n := by
  have e2 : Ieee.double.binade = 4503599627370496 := by decide +kernel
  have e3 : Ieee.double.infRung = 9218868437227405312 := by decide +kernel
  have e4 : Ieee.double.leastPlace = -1074 := by decide +kernel
  have e5 : Ieee.double.fractionBits = 52 := rfl
  have hLP := LP_eq
  unfold Ieee.Format.write Ieee.Format.nearest
  dsimp only
  by_cases h0 : n = 0
  · subst h0
    have hm : m = 0 := by
      rcases Nat.eq_zero_or_pos m with h | h
      · exact h
      · have := Nat.mul_pos h (pow_pos2 (e + K).toNat)
        rw [hv] at this
        simp at this
    rw [if_pos hm]
    refine ⟨s, 0, -1074, ?_, by rw [hLP]; omega, by rw [Int.natAbs_zero, Nat.zero_mul, Nat.zero_mul], fun h => absurd rfl h⟩
    cases s <;> decide +kernel
  · have hV : 0 < n.natAbs := by omega
    have hm : m ≠ 0 := by
      rintro rfl
      have := Nat.mul_pos hV (pow_pos2 K)
      omega
    rw [if_neg hm]
    generalize hVd : n.natAbs = V at *
    have hlog := log2_scale hV hv
    have hL : V.log2 ≤ 52 := by
      have := Nat.log2_self_le (Nat.ne_of_gt hV)
      rcases Nat.lt_or_ge V.log2 53 with h | h
      · omega
      · have := Nat.pow_le_pow_right (show 0 < 2 by omega) h
        omega
    have hLV := Nat.log2_self_le (Nat.ne_of_gt hV)
    have hLV2 := Nat.lt_log2_self (n := V)
    have hlast : max (e + (m.log2 : Int) - (Ieee.double.fractionBits : Int)) Ieee.double.leastPlace = (V.log2 : Int) - 52 := by
      rw [e4, e5]; omega
    rw [hlast, e2, e3, e4]
    -- the kept digits
    have hk1 : 2 ^ V.log2 * 2 ^ (52 - V.log2) = 4503599627370496 := by
      rw [← Nat.pow_add, show V.log2 + (52 - V.log2) = 52 by omega]
    have hk2 : 2 ^ (V.log2 + 1) * 2 ^ (52 - V.log2) = 9007199254740992 := by
      rw [← Nat.pow_add, show V.log2 + 1 + (52 - V.log2) = 53 by omega]
    have hkl : 4503599627370496 ≤ V * 2 ^ (52 - V.log2) := by rw [← hk1]; exact Nat.mul_le_mul_right _ hLV
    have hkh : V * 2 ^ (52 - V.log2) < 9007199254740992 := by rw [← hk2]; exact Nat.mul_lt_mul_of_pos_right hLV2 (pow_pos2 _)
    have hkept : Ieee.Toward.even.cut s (m <<< (e - ((V.log2 : Int) - 52)).toNat) (((V.log2 : Int) - 52) - e).toNat = V * 2 ^ (52 - V.log2) := by
      rw [Nat.shiftLeft_eq]
      rcases Int.le_total ((V.log2 : Int) - 52) e with h | h
      · have h1 : ((V.log2 : Int) - 52 - e).toNat = 0 := by omega
        have h2 : m * 2 ^ (e - ((V.log2 : Int) - 52)).toNat = V * 2 ^ (52 - V.log2) := by
          refine Nat.eq_of_mul_eq_mul_right (pow_pos2 (K + V.log2 - 52)) ?_
          rw [Nat.mul_assoc, ← Nat.pow_add, Nat.mul_assoc, ← Nat.pow_add, show (e - ((V.log2 : Int) - 52)).toNat + (K + V.log2 - 52) = (e + K).toNat by omega, show 52 - V.log2 + (K + V.log2 - 52) = K by omega]
          exact hv
        rw [h1, h2]
        have := cut_exact s (V * 2 ^ (52 - V.log2)) 0 (by omega)
        simpa using this
      · have h1 : (e - ((V.log2 : Int) - 52)).toNat = 0 := by omega
        have h2 : m = V * 2 ^ (52 - V.log2) * 2 ^ ((V.log2 : Int) - 52 - e).toNat := by
          refine Nat.eq_of_mul_eq_mul_right (pow_pos2 (e + K).toNat) ?_
          rw [hv, Nat.mul_assoc, Nat.mul_assoc, ← Nat.pow_add, ← Nat.pow_add, show 52 - V.log2 + (((V.log2 : Int) - 52 - e).toNat + (e + K).toNat) = K by omega]
        rw [h1, Nat.pow_zero, Nat.mul_one]
        have hlm : ((V.log2 : Int) - 52 - e).toNat ≤ m.log2 + 2 := by omega
        rw [h2] at hlm ⊢
        exact cut_exact s _ _ hlm
    rw [hkept]
    have hq : ((V.log2 : Int) - 52 - -1074).toNat = V.log2 + 1022 := by omega
    rw [hq, Nat.min_eq_left (by omega)]
    refine ⟨s, V * 2 ^ (52 - V.log2), -1074 + ((V.log2 + 1022 : Nat) : Int), read_word s (V.log2 + 1022) _ (by omega) hkl hkh, by omega, ?_, hs⟩
    rw [Nat.mul_assoc, ← Nat.pow_add, hVd, show 52 - V.log2 + (-1074 + ((V.log2 + 1022 : Nat) : Int) + LP).toNat = LP by omega]

theorem nearest_int {n : Int} (hn : n.natAbs < 9007199254740992) : IsI (FloatKind.f64.nearest n) n :=
  write_int (K := LP) (Nat.le_refl _) (by omega) (by rw [show ((0 : Int) + (LP : Nat)).toNat = LP by omega]) hn (fun _ => rfl)

/-- What a sign and a magnitude are worth. -/
theorem signed_val {s : Bool} {m : Nat} {e : Int} {a : Int} {u v : Nat} (h : m * 2 ^ (e + LP).toNat = a.natAbs * 2 ^ LP) (hs : a ≠ 0 → s = decide (a < 0)) (huv : (u : Int) + v = e + LP) :
    Ieee.signed s m u * 2 ^ v = a * 2 ^ LP := by
  have hm : (m : Int) * 2 ^ u * 2 ^ v = (a.natAbs : Int) * 2 ^ LP := by
    have : m * 2 ^ u * 2 ^ v = a.natAbs * 2 ^ LP := by rw [Nat.mul_assoc, ← Nat.pow_add, ← h, show u + v = (e + LP).toNat by omega]
    exact_mod_cast this
  unfold Ieee.signed
  rw [Nat.shiftLeft_eq]
  by_cases h0 : a = 0
  · subst h0
    have hm0 : m = 0 := by
      rcases Nat.eq_zero_or_pos m with hh | hh
      · exact hh
      · have := Nat.mul_pos hh (pow_pos2 (e + LP).toNat)
        rw [h] at this
        simp only [Int.natAbs_zero, Nat.zero_mul, Nat.lt_irrefl] at this
    subst hm0
    cases s <;> simp
  · have hs' := hs h0
    by_cases hneg : a < 0
    · rw [hs', decide_eq_true hneg, if_pos rfl, Int.neg_mul]
      push_cast
      rw [hm, show ((a.natAbs : Nat) : Int) = -a by omega, Int.neg_mul, Int.neg_neg]
    · rw [hs', decide_eq_false hneg]
      simp only [Bool.false_eq_true, if_false]
      push_cast
      rw [hm, show ((a.natAbs : Nat) : Int) = a by omega]

theorem two_pow_pos_int (k : Nat) : (0 : Int) < 2 ^ k := Int.pow_pos (by omega)

theorem sum_int {s t : Bool} {m n : Nat} {i j : Int} {a b : Int} (hi : -(LP : Int) ≤ i) (hj : -(LP : Int) ≤ j) (h1 : m * 2 ^ (i + LP).toNat = a.natAbs * 2 ^ LP) (h2 : n * 2 ^ (j + LP).toNat = b.natAbs * 2 ^ LP)
    (hs : a ≠ 0 → s = decide (a < 0)) (ht : b ≠ 0 → t = decide (b < 0)) (hab : (a + b).natAbs < 9007199254740992) :
    ∃ r, ((Ieee.Datum.number s m i).sum (.number t n j)).map Ieee.double.write = some r ∧ IsI r (a + b) := by
  unfold Ieee.Datum.sum
  simp only [Option.map_some]
  refine ⟨_, rfl, ?_⟩
  have e1 := signed_val (u := (i - min i j).toNat) (v := (min i j + LP).toNat) h1 hs (by omega)
  have e2 := signed_val (u := (j - min i j).toNat) (v := (min i j + LP).toNat) h2 ht (by omega)
  generalize htot : Ieee.signed s m (i - min i j).toNat + Ieee.signed t n (j - min i j).toNat = total at *
  have e3 : total * 2 ^ (min i j + LP).toNat = (a + b) * 2 ^ LP := by rw [← htot, Int.add_mul, e1, e2, Int.add_mul]
  have p1 := two_pow_pos_int (min i j + LP).toNat
  have p2 := two_pow_pos_int LP
  have hz : total = 0 ↔ a + b = 0 := by
    constructor
    · intro h
      rw [h, Int.zero_mul] at e3
      rcases Int.mul_eq_zero.1 e3.symm with h | h
      · exact h
      · omega
    · intro h
      rw [h, Int.zero_mul] at e3
      rcases Int.mul_eq_zero.1 e3 with h | h
      · exact h
      · omega
  have hneg : total < 0 ↔ a + b < 0 := by
    constructor
    · intro h
      have := Int.mul_neg_of_neg_of_pos h p1
      rw [e3] at this
      rcases Int.lt_or_le (a + b) 0 with h' | h'
      · exact h'
      · exact absurd (Int.mul_nonneg h' (Int.le_of_lt p2)) (Int.not_le.2 this)
    · intro h
      have := Int.mul_neg_of_neg_of_pos h p2
      rw [← e3] at this
      rcases Int.lt_or_le total 0 with h' | h'
      · exact h'
      · exact absurd (Int.mul_nonneg h' (Int.le_of_lt p1)) (Int.not_le.2 this)
  refine write_int (K := LP) (Nat.le_refl _) (by omega) ?_ hab (fun h => ?_)
  · have := congrArg Int.natAbs e3
    rw [Int.natAbs_mul, Int.natAbs_mul] at this
    rw [Int.natAbs_pow, Int.natAbs_pow] at this
    exact this
  · rw [if_neg (fun h' => h (hz.1 h'))]
    exact decide_eq_decide.2 hneg

theorem add_int {x y : Nat} {a b : Int} (hx : IsI x a) (hy : IsI y b) (hab : (a + b).natAbs < 9007199254740992) : ∃ r, Ieee.double.add x y = some r ∧ IsI r (a + b) := by
  obtain ⟨s, m, i, r1, hi, h1, hs⟩ := hx
  obtain ⟨t, n, j, r2, hj, h2, ht⟩ := hy
  unfold Ieee.Format.add
  rw [r1, r2]
  exact sum_int hi hj h1 h2 hs ht hab
theorem sub_int {x y : Nat} {a b : Int} (hx : IsI x a) (hy : IsI y b) (hab : (a - b).natAbs < 9007199254740992) : ∃ r, Ieee.double.sub x y = some r ∧ IsI r (a - b) := by
  obtain ⟨s, m, i, r1, hi, h1, hs⟩ := hx
  obtain ⟨t, n, j, r2, hj, h2, ht⟩ := hy
  unfold Ieee.Format.sub
  rw [r1, r2]
  unfold Ieee.Datum.opposite
  rw [Int.sub_eq_add_neg] at hab ⊢
  refine sum_int hi hj h1 (by rw [Int.natAbs_neg]; exact h2) hs (fun h => ?_) hab
  have h' : b ≠ 0 := by omega
  rw [ht h']
  by_cases hb : b < 0
  · rw [decide_eq_true hb, decide_eq_false (by omega)]; rfl
  · rw [decide_eq_false hb, decide_eq_true (by omega)]; rfl
theorem mul_int {x y : Nat} {a b : Int} (hx : IsI x a) (hy : IsI y b) (hab : (a * b).natAbs < 9007199254740992) : ∃ r, Ieee.double.mul x y = some r ∧ IsI r (a * b) := by
  obtain ⟨s, m, i, r1, hi, h1, hs⟩ := hx
  obtain ⟨t, n, j, r2, hj, h2, ht⟩ := hy
  unfold Ieee.Format.mul
  rw [r1, r2]
  unfold Ieee.Datum.product
  simp only [Option.map_some]
  refine ⟨_, rfl, write_int (K := LP + LP) (by omega) (by omega) ?_ hab (fun h => ?_)⟩
  · rw [Int.natAbs_mul, show (i + j + ((LP + LP : Nat) : Int)).toNat = (i + LP).toNat + (j + LP).toNat by omega, Nat.pow_add, show m * n * (2 ^ (i + LP).toNat * 2 ^ (j + LP).toNat) = (m * 2 ^ (i + LP).toNat) * (n * 2 ^ (j + LP).toNat) by
      simp only [Nat.mul_assoc, Nat.mul_left_comm]]
    rw [h1, h2, Nat.pow_add]
    simp only [Nat.mul_assoc, Nat.mul_left_comm]
  · have ha : a ≠ 0 := fun h' => h (by rw [h', Int.zero_mul])
    have hb : b ≠ 0 := fun h' => h (by rw [h', Int.mul_zero])
    rw [hs ha, ht hb]
    by_cases h1 : a < 0 <;> by_cases h2 : b < 0
    · have := Int.mul_pos_of_neg_of_neg h1 h2
      rw [decide_eq_true h1, decide_eq_true h2, decide_eq_false (by omega)]; rfl
    · have := Int.mul_neg_of_neg_of_pos h1 (show 0 < b by omega)
      rw [decide_eq_true h1, decide_eq_false h2, decide_eq_true this]; rfl
    · have := Int.mul_neg_of_pos_of_neg (show 0 < a by omega) h2
      rw [decide_eq_false h1, decide_eq_true h2, decide_eq_true this]; rfl
    · have := Int.mul_pos (show 0 < a by omega) (show 0 < b by omega)
      rw [decide_eq_false h1, decide_eq_false h2, decide_eq_false (by omega)]; rfl
theorem order_int {x y : Nat} {a b : Int} (hx : IsI x a) (hy : IsI y b) : Ieee.double.order x y = some (compare a b) := by
  obtain ⟨s, m, i, r1, hi, h1, hs⟩ := hx
  obtain ⟨t, n, j, r2, hj, h2, ht⟩ := hy
  unfold Ieee.Format.order
  rw [r1, r2]
  unfold Ieee.Datum.order
  simp only
  have e1 := signed_val (u := (i - min i j).toNat) (v := (min i j + LP).toNat) h1 hs (by omega)
  have e2 := signed_val (u := (j - min i j).toNat) (v := (min i j + LP).toNat) h2 ht (by omega)
  have p1 := two_pow_pos_int (min i j + LP).toNat
  have p2 := two_pow_pos_int LP
  generalize Ieee.signed s m (i - min i j).toNat = X at *
  generalize Ieee.signed t n (j - min i j).toNat = Y at *
  have hlt : X < Y ↔ a < b := by
    rw [← Int.mul_lt_mul_right p1, e1, e2, Int.mul_lt_mul_right p2]
  have hgt : Y < X ↔ b < a := by
    rw [← Int.mul_lt_mul_right p1, e1, e2, Int.mul_lt_mul_right p2]
  congr 1
  simp only [compare, compareOfLessAndEq]
  by_cases c1 : a < b
  · rw [if_pos c1, if_pos (hlt.2 c1)]
  · rw [if_neg c1, if_neg (fun h => c1 (hlt.1 h))]
    by_cases c2 : b < a
    · rw [if_neg (by omega), if_neg (by have := hgt.2 c2; omega)]
    · rw [if_pos (by omega), if_pos (by have := fun h => c2 (hgt.1 h); have := fun h => c1 (hlt.1 h); omega)]

theorem cut_zero (s : Bool) (k d : Nat) : Ieee.Toward.zero.cut s (k * 2 ^ d) d = k := by
  unfold Ieee.Toward.cut
  simp only [Bool.toNat_false, Nat.add_zero, Nat.one_shiftLeft]
  rcases Nat.eq_zero_or_pos k with h | h
  · rw [h]; simp
  · have hl : d ≤ (k * 2 ^ d).log2 + 2 := by
      have := log2_scale (m := k * 2 ^ d) (a := 0) (V := k) (K := d) h (by rw [Nat.pow_zero, Nat.mul_one])
      omega
    rw [Nat.min_eq_left hl]
    exact Nat.mul_div_cancel _ (pow_pos2 d)

theorem toInt_int {x : Nat} {a : Int} (hx : IsI x a) : (FloatKind.f64.decode x).toInt .zero = some a := by
  obtain ⟨s, m, i, r1, hi, h1, hs⟩ := hx
  unfold FloatKind.decode
  rw [show FloatKind.f64.format = Ieee.double from rfl, r1]
  unfold Ieee.Datum.toInt Ieee.Datum.integral
  dsimp only
  have hc : Ieee.Toward.zero.cut s (m <<< i.toNat) (-i).toNat = a.natAbs := by
    rw [Nat.shiftLeft_eq]
    rcases Int.le_total 0 i with h | h
    · have e1 : (-i).toNat = 0 := by omega
      have e2 : m * 2 ^ i.toNat = a.natAbs := by
        refine Nat.eq_of_mul_eq_mul_right (pow_pos2 LP) ?_
        rw [Nat.mul_assoc, ← Nat.pow_add, show i.toNat + LP = (i + LP).toNat by omega]
        exact h1
      rw [e1, e2]
      have := cut_zero s a.natAbs 0
      simpa using this
    · have e1 : i.toNat = 0 := by omega
      have e2 : m = a.natAbs * 2 ^ (-i).toNat := by
        refine Nat.eq_of_mul_eq_mul_right (pow_pos2 (i + LP).toNat) ?_
        rw [h1, Nat.mul_assoc, ← Nat.pow_add, show (-i).toNat + (i + LP).toNat = LP by omega]
      rw [e1, Nat.pow_zero, Nat.mul_one, e2]
      exact cut_zero s _ _
  rw [hc]
  unfold Ieee.signed
  rw [Nat.shiftLeft_zero]
  congr 1
  by_cases h0 : a = 0
  · subst h0; cases s <;> rfl
  · rw [hs h0]
    by_cases hn : a < 0
    · rw [decide_eq_true hn, if_pos rfl]; omega
    · rw [decide_eq_false hn]; simp only [Bool.false_eq_true, if_false]; omega

end Go.Proofs.Ytiljgkaffgclgaa

/- Contracts: places as complex numbers, and how far they lie apart. -/
namespace Go.Proofs.Ytiljgkaffgclgaa
open Go Go.RowKit

def onePB (x y : Int) : Bool := decide (-1048576 ≤ x ∧ x ≤ 1048576 ∧ -1048576 ≤ y ∧ y ≤ 1048576)
set_option maxHeartbeats 400000 in
theorem plOne1 (x : Int) (w : World) : Calls Try.prog 182 #[.int .i64 x] w fun e w' => e = .returned (.bool (decide (-1048576 ≤ x ∧ x ≤ 1048576))) ∧ w = w' := by
  go_enter Try.func182, Try.ntmps182
  go_wp2
  all_goals go_ret
  all_goals exact ⟨ret_bool (bool_ext (by simp; try omega)), rfl⟩
set_option maxHeartbeats 400000 in
theorem plOne (x y : Int) (w : World) : Calls Try.prog 152 #[.agg #[.int .i64 x, .int .i64 y]] w fun e w' => e = .returned (.bool (onePB x y)) ∧ Grows w w' := by
  go_enter Try.func152, Try.ntmps152
  go_wp2_with (first | (go_at_call 182; refine (plOne1 _ _).mono ?_; rintro e w' ⟨rfl, rfl⟩))
  all_goals go_ret
  all_goals exact ⟨ret_bool (bool_ext (by unfold onePB; simp; try omega)), (by repeat (first | exact Grows.refl _ | refine Grows.now ?_ _ | refine Grows.new ?_ _ | refine Grows.drewN ?_ _ | refine Grows.drew ?_ | assumption | (refine Grows.set ?_ (by first | omega | (simp; done) | (simp; omega)) _)))⟩
set_option maxHeartbeats 400000 in
theorem r9One (x y : Int) (w : World) : Calls Try.prog 102 #[.agg #[.int .i64 x, .int .i64 y]] w fun e w' => e = .returned (.bool (onePB x y)) ∧ Grows w w' := by
  go_enter Try.func102, Try.ntmps102
  go_wp2
  all_goals go_ret
  all_goals exact ⟨ret_bool (bool_ext (by unfold onePB; simp; try omega)), (by repeat (first | exact Grows.refl _ | refine Grows.now ?_ _ | refine Grows.new ?_ _ | refine Grows.drewN ?_ _ | refine Grows.drew ?_ | assumption | (refine Grows.set ?_ (by first | omega | (simp; done) | (simp; omega)) _)))⟩

/-- A place as a complex number. -/
def atV (x y : Int) : Value := .complex .f64 (FloatKind.f64.nearest x) (FloatKind.f64.nearest y)
@[go_sem] theorem unary_negf (k : FloatKind) (b : Nat) : Op.unary .neg (.float k b) = pure (.float k (Op.negFloat k b)) := rfl
theorem neg_int {b : Nat} {n : Int} (h : IsI b n) : IsI (Op.negFloat .f64 b) (-n) := by
  obtain ⟨s, m, e, r1, hi, h1, hs⟩ := h
  refine ⟨!s, m, e, ?_, hi, by rw [Int.natAbs_neg]; exact h1, fun h => ?_⟩
  · have e1 : Ieee.double.signWeight = 2 ^ 63 := by decide +kernel
    have hx : Op.negFloat .f64 b = b ^^^ 2 ^ 63 := rfl
    have m1 : (b ^^^ 2 ^ 63) % 2 ^ 63 = b % 2 ^ 63 := by
      rw [Nat.xor_mod_two_pow, Nat.mod_self, Nat.xor_zero]
    have m2 : ((b ^^^ 2 ^ 63) / 2 ^ 63 % 2 == 1) = !(b / 2 ^ 63 % 2 == 1) := by
      rw [Nat.xor_div_two_pow]
      have : (b / 2 ^ 63 ^^^ 2 ^ 63 / 2 ^ 63) % 2 = (b / 2 ^ 63 % 2) ^^^ 1 := by
        have := @Nat.xor_mod_two_pow (b / 2 ^ 63) (2 ^ 63 / 2 ^ 63) 1
        simpa using this
      rw [this]
      have := Nat.mod_lt (b / 2 ^ 63) (show 0 < 2 by omega)
      generalize b / 2 ^ 63 % 2 = q at *
      have : q = 0 ∨ q = 1 := by omega
      rcases this with rfl | rfl <;> rfl
    unfold Ieee.Format.read at r1 ⊢
    rw [e1] at r1 ⊢
    rw [hx]
    dsimp only at r1 ⊢
    rw [m1, m2]
    generalize b % 2 ^ 63 = M at *
    generalize (b / 2 ^ 63 % 2 == 1) = S at *
    by_cases c1 : M < Ieee.double.binade
    · rw [if_pos c1] at r1 ⊢
      injection r1 with r2 r3 r4
      rw [r2, r3, r4]
    · rw [if_neg c1] at r1 ⊢
      by_cases c2 : M < Ieee.double.infRung
      · rw [if_pos c2] at r1 ⊢
        injection r1 with r2 r3 r4
        rw [r2, r3, r4]
      · rw [if_neg c2] at r1
        split at r1 <;> exact nomatch r1
  · have h0 : n ≠ 0 := by omega
    rw [hs h0]
    by_cases hb : n < 0
    · rw [decide_eq_true hb, decide_eq_false (by omega)]; rfl
    · rw [decide_eq_false hb, decide_eq_true (by omega)]; rfl

set_option maxHeartbeats 400000 in
theorem plAt (x y : Int) (w : World) (h : onePB x y = true) : Calls Try.prog 153 #[.agg #[.int .i64 x, .int .i64 y]] w fun e w' => e = .returned (atV x y) ∧ Grows w w' := by
  have C := fun W => plOne x y W
  rw [h] at C
  have HC := hide C
  clear C h
  go_enter Try.func153, Try.ntmps153
  go_wp2_with (first | (go_at_call 152; refine (HC.out _).mono ?_; rintro e w' ⟨rfl, hg⟩; (first | obtain ⟨x, rfl⟩ := Grows.later2 hg | obtain ⟨x, rfl⟩ := Grows.later hg); clear hg))
  go_ret
  exact ⟨rfl, (by repeat (first | exact Grows.refl _ | refine Grows.now ?_ _ | refine Grows.new ?_ _ | refine Grows.drewN ?_ _ | refine Grows.drew ?_ | assumption | (refine Grows.set ?_ (by first | omega | (simp; done) | (simp; omega)) _)))⟩
set_option maxHeartbeats 400000 in
theorem plAt0 (x y : Int) (w : World) (h : onePB x y = false) : Calls Try.prog 153 #[.agg #[.int .i64 x, .int .i64 y]] w fun e w' => e = .returned (.complex .f64 0 0) ∧ Grows w w' := by
  have C := fun W => plOne x y W
  rw [h] at C
  have HC := hide C
  clear C h
  go_enter Try.func153, Try.ntmps153
  go_wp2_with (first | (go_at_call 152; refine (HC.out _).mono ?_; rintro e w' ⟨rfl, hg⟩; (first | obtain ⟨x, rfl⟩ := Grows.later2 hg | obtain ⟨x, rfl⟩ := Grows.later hg); clear hg))
  go_ret
  exact ⟨rfl, (by repeat (first | exact Grows.refl _ | refine Grows.now ?_ _ | refine Grows.new ?_ _ | refine Grows.drewN ?_ _ | refine Grows.drew ?_ | assumption | (refine Grows.set ?_ (by first | omega | (simp; done) | (simp; omega)) _)))⟩
set_option maxHeartbeats 400000 in
theorem plConj (x y : Nat) (w : World) : Calls Try.prog 154 #[.complex .f64 x y] w fun e w' => e = .returned (.complex .f64 x (Op.negFloat .f64 y)) ∧ w = w' := by
  go_enter Try.func154, Try.ntmps154
  go_wp2
  go_ret
  exact ⟨rfl, rfl⟩

def sqI (a b c d : Int) : Int := (a - c) * (a - c) + (b - d) * (b - d)
theorem sq_facts {a b c d : Int} (h1 : onePB a b = true) (h2 : onePB c d = true) : ∃ dx dy re im : Nat,
    cSumBits .sub .f64 (FloatKind.f64.nearest a) (FloatKind.f64.nearest b) (FloatKind.f64.nearest c) (FloatKind.f64.nearest d) = some (dx, dy) ∧
    cMulBits dx dy dx (Op.negFloat .f64 dy) = some (re, im) ∧ floatToIntVal .f64 re .u64 = some (sqI a b c d) := by
  unfold onePB at h1 h2
  simp only [decide_eq_true_eq] at h1 h2
  obtain ⟨dx, q1, i1⟩ := sub_int (nearest_int (n := a) (by omega)) (nearest_int (n := c) (by omega)) (by omega)
  obtain ⟨dy, q2, i2⟩ := sub_int (nearest_int (n := b) (by omega)) (nearest_int (n := d) (by omega)) (by omega)
  have i3 := neg_int i2
  have bd : ∀ u v : Int, u.natAbs ≤ 2097152 → v.natAbs ≤ 2097152 → (u * v).natAbs ≤ 4398046511104 := fun u v hu hv => by
    rw [Int.natAbs_mul]; exact Nat.mul_le_mul hu hv
  have hX := bd (a - c) (a - c) (by omega) (by omega)
  have hY := bd (b - d) (-(b - d)) (by omega) (by omega)
  have hA := bd (a - c) (-(b - d)) (by omega) (by omega)
  have hB := bd (b - d) (a - c) (by omega) (by omega)
  obtain ⟨ac, q4, i4⟩ := mul_int i1 i1 (by omega)
  obtain ⟨bd', q5, i5⟩ := mul_int i2 i3 (by omega)
  obtain ⟨re, q6, i6⟩ := sub_int i4 i5 (by omega)
  obtain ⟨ad, q7, i7⟩ := mul_int i1 i3 (by omega)
  obtain ⟨bc, q8, i8⟩ := mul_int i2 i1 (by omega)
  obtain ⟨im, q9, i9⟩ := add_int i7 i8 (by omega)
  refine ⟨dx, dy, re, im, ?_, ?_, ?_⟩
  · simp only [cSumBits, floatBits, show FloatKind.f64.format = Ieee.double from rfl, q1, q2, Option.bind_some]
  · simp only [cMulBits, floatBits, show FloatKind.f64.format = Ieee.double from rfl, q4, q5, q6, q7, q8, q9, Option.bind_some]
  · unfold floatToIntVal
    rw [toInt_int i6]
    have hv : (a - c) * (a - c) - (b - d) * -(b - d) = sqI a b c d := by unfold sqI; rw [Int.mul_neg, Int.sub_neg]
    have h0 : 0 ≤ (a - c) * (a - c) := by
      rcases Int.le_total 0 (a - c) with h | h
      · exact Int.mul_nonneg h h
      · exact Int.mul_nonneg_of_nonpos_of_nonpos h h
    have h0' : 0 ≤ (b - d) * (b - d) := by
      rcases Int.le_total 0 (b - d) with h | h
      · exact Int.mul_nonneg h h
      · exact Int.mul_nonneg_of_nonpos_of_nonpos h h
    dsimp only
    rw [hv]
    have : sqI a b c d = (a - c) * (a - c) + (b - d) * (b - d) := rfl
    rw [Int.mul_neg, Int.natAbs_neg] at hY
    rw [if_pos ⟨by show (0 : Int) ≤ _; omega, by show _ ≤ (18446744073709551615 : Int); omega⟩]

set_option maxHeartbeats 2000000 in
theorem plSquare (a b c d : Int) (w : World) (h1 : onePB a b = true) (h2 : onePB c d = true) : Calls Try.prog 99 #[.agg #[.int .i64 a, .int .i64 b], .agg #[.int .i64 c, .int .i64 d]] w fun e w' => e = .returned (.int .u64 (sqI a b c d)) ∧ Grows w w' := by
  have H1 := hide (fun W => plAt a b W h1)
  have H2 := hide (fun W => plAt c d W h2)
  obtain ⟨dx, dy, re, im, q1, q2, q3⟩ := sq_facts h1 h2
  have C := fun W => plOne a b W
  rw [h1] at C
  have H3 := hide C
  clear C
  have C := fun W => plOne c d W
  rw [h2] at C
  have H4 := hide C
  clear C h1 h2
  have o1 := hide (fun t w => run_complex_sum (P := Try.prog) w .sub (Or.inr rfl) t .f64 _ _ _ _ _ _ q1)
  have o2 := hide (fun t w => run_complex_mul (P := Try.prog) w t _ _ _ _ _ _ q2)
  have o3 := hide (fun w => run_convert_float_int (P := Try.prog) w 184 33 .f64 .u64 _ _ (by rw [Try.underlying184]; rfl) Try.underlying33 q3)
  clear q1 q2 q3
  unfold atV at H1 H2
  go_enter Try.func99, Try.ntmps99
  go_wp2_with (first | (go_at_call 152; refine ((by first | with_reducible exact H3.out _ | with_reducible exact H4.out _) : Calls _ _ _ _ _).mono ?_; rintro e w' ⟨rfl, hg⟩; (first | obtain ⟨x, rfl⟩ := Grows.later2 hg | obtain ⟨x, rfl⟩ := Grows.later hg); clear hg))
  ((first | refine wp_region_gen2 (by kernel_rfl) (by kernel_rfl) ?_ | refine wp_region_gen (by kernel_rfl) (by kernel_rfl) ?_); (repeat' (first | (refine gLex_val0 rfl (by kernel_rfl) (fun K hK => ?_); (go_simp; (try (simp only [↓IntWalk.iteOmega]; try go_simp)); (try simp (disch := omega) only [IntWalk.i64_in]); (try simp (disch := omega) only [IntWalk.u64_in]); first | (refine hK _ ?_; clear hK K) | (apply Exists.intro; refine ⟨fun x => ?_, hK _ ?_⟩; (first | (go_at_call 153; first | with_reducible exact H1.out _ | with_reducible exact H2.out _) | (simp only [o1.out]; refine ⟨Grows.refl _, rfl⟩)); clear hK K))) | (refine gLex_undef rfl rfl rfl (by kernel_rfl) (fun K hK => ?_); go_simp; refine hK _ ?_; clear hK K) | (refine gLex_ask rfl rfl rfl ?_; first | (apply gAsk_yes; kernel_rfl; intro K hK; (go_simp; (try (simp only [↓IntWalk.iteOmega]; try go_simp)); (try simp (disch := omega) only [IntWalk.i64_in]); (try simp (disch := omega) only [IntWalk.u64_in]); first | (refine hK _ ?_; clear hK K) | (apply Exists.intro; refine ⟨fun x => ?_, hK _ ?_⟩; (first | (go_at_call 153; first | with_reducible exact H1.out _ | with_reducible exact H2.out _) | (simp only [o1.out]; refine ⟨Grows.refl _, rfl⟩)); clear hK K))) | ((first | apply gAsk_no1 | apply gAsk_no2); kernel_rfl; intro K hK; simp [go_sem]; refine hK _ ?_; clear hK K) | (apply gAsk_part; kernel_rfl; all_goals (intro h K hK; (try simp only [Bool.not_true] at h); (try simp only [Bool.not_false] at h); (try simp only [decide_eq_true_eq] at h); (try simp only [decide_eq_false_iff_not] at h); first | (exfalso; first | contradiction | omega) | (go_simp; (try (simp only [↓IntWalk.iteOmega]; try go_simp)); (try simp (disch := omega) only [IntWalk.i64_in]); (try simp (disch := omega) only [IntWalk.u64_in]); first | (refine hK _ ?_; clear hK K) | (apply Exists.intro; refine ⟨fun x => ?_, hK _ ?_⟩; (first | (go_at_call 153; first | with_reducible exact H1.out _ | with_reducible exact H2.out _) | (simp only [o1.out]; refine ⟨Grows.refl _, rfl⟩)); clear hK K))))))); all_goals ((apply gLex_end); intro x))
  go_wp2_with (first | (go_at_call 154; refine (plConj _ _ _).mono ?_; rintro e w' ⟨rfl, rfl⟩) | (simp only [o2.out]) | (simp only [o3.out]))
  go_ret
  exact ⟨rfl, (by repeat (first | exact Grows.refl _ | refine Grows.now ?_ _ | refine Grows.new ?_ _ | refine Grows.drewN ?_ _ | refine Grows.drew ?_ | assumption | (refine Grows.set ?_ (by first | omega | (simp; done) | (simp; omega)) _)))⟩

theorem sq_nn (x : Int) : 0 ≤ x * x := by
  rcases Int.le_total 0 x with h | h
  · exact Int.mul_nonneg h h
  · exact Int.mul_nonneg_of_nonpos_of_nonpos h h
theorem sq_le {x : Int} (h : x.natAbs ≤ 2097152) : x * x ≤ 4398046511104 := by
  have : (x * x).natAbs ≤ 4398046511104 := by rw [Int.natAbs_mul]; exact Nat.mul_le_mul h h
  omega
set_option maxHeartbeats 2000000 in
theorem r9Square (a b c d : Int) (w : World) (h1 : onePB a b = true) (h2 : onePB c d = true) : Calls Try.prog 104 #[.agg #[.int .i64 a, .int .i64 b], .agg #[.int .i64 c, .int .i64 d]] w fun e w' => e = .returned (.int .u64 (sqI a b c d)) ∧ Grows w w' := by
  have C := fun W => r9One a b W
  rw [h1] at C
  have H3 := hide C
  clear C
  have C := fun W => r9One c d W
  rw [h2] at C
  have H4 := hide C
  clear C
  unfold onePB at h1 h2
  simp only [decide_eq_true_eq] at h1 h2
  obtain ⟨p1, p2, p3, p4⟩ := h1
  obtain ⟨p5, p6, p7, p8⟩ := h2
  have b1 := sq_nn (a - c)
  have b2 := sq_nn (b - d)
  have b3 := sq_le (x := a - c) (by omega)
  have b4 := sq_le (x := b - d) (by omega)
  go_enter Try.func104, Try.ntmps104
  go_wp2_with (first | (go_at_call 102; refine ((by first | with_reducible exact H3.out _ | with_reducible exact H4.out _) : Calls _ _ _ _ _).mono ?_; rintro e w' ⟨rfl, hg⟩; (first | obtain ⟨x, rfl⟩ := Grows.later2 hg | obtain ⟨x, rfl⟩ := Grows.later hg); clear hg))
  ((first | refine wp_region_gen2 (by kernel_rfl) (by kernel_rfl) ?_ | refine wp_region_gen (by kernel_rfl) (by kernel_rfl) ?_); (repeat' (first | (refine gLex_val0 rfl (by kernel_rfl) (fun K hK => ?_); (go_simp; (try (simp only [↓IntWalk.iteOmega]; try go_simp)); (try simp (disch := omega) only [IntWalk.i64_in]); (try simp (disch := omega) only [IntWalk.u64_in]); first | (refine hK _ ?_; clear hK K) | (apply Exists.intro; refine ⟨fun x => ?_, hK _ ?_⟩; (first | fail); clear hK K))) | (refine gLex_undef rfl rfl rfl (by kernel_rfl) (fun K hK => ?_); go_simp; refine hK _ ?_; clear hK K) | (refine gLex_ask rfl rfl rfl ?_; first | (apply gAsk_yes; kernel_rfl; intro K hK; (go_simp; (try (simp only [↓IntWalk.iteOmega]; try go_simp)); (try simp (disch := omega) only [IntWalk.i64_in]); (try simp (disch := omega) only [IntWalk.u64_in]); first | (refine hK _ ?_; clear hK K) | (apply Exists.intro; refine ⟨fun x => ?_, hK _ ?_⟩; (first | fail); clear hK K))) | ((first | apply gAsk_no1 | apply gAsk_no2); kernel_rfl; intro K hK; simp [go_sem]; refine hK _ ?_; clear hK K) | (apply gAsk_part; kernel_rfl; all_goals (intro h K hK; (try simp only [Bool.not_true] at h); (try simp only [Bool.not_false] at h); (try simp only [decide_eq_true_eq] at h); (try simp only [decide_eq_false_iff_not] at h); first | (exfalso; first | contradiction | omega) | (go_simp; (try (simp only [↓IntWalk.iteOmega]; try go_simp)); (try simp (disch := omega) only [IntWalk.i64_in]); (try simp (disch := omega) only [IntWalk.u64_in]); first | (refine hK _ ?_; clear hK K) | (apply Exists.intro; refine ⟨fun x => ?_, hK _ ?_⟩; (first | fail); clear hK K))))))); all_goals ((apply gLex_end); intro x))
  go_wp2
  go_ret
  exact ⟨rfl, (by repeat (first | exact Grows.refl _ | refine Grows.now ?_ _ | refine Grows.new ?_ _ | refine Grows.drewN ?_ _ | refine Grows.drew ?_ | assumption | (refine Grows.set ?_ (by first | omega | (simp; done) | (simp; omega)) _)))⟩
set_option maxHeartbeats 2000000 in
theorem plSquare0 (a b c d : Int) (w : World) (h : onePB a b = false ∨ onePB c d = false) : Calls Try.prog 99 #[.agg #[.int .i64 a, .int .i64 b], .agg #[.int .i64 c, .int .i64 d]] w fun e w' => e = .returned (.int .u64 0) ∧ Grows w w' := by
  have C := fun W => plOne a b W
  have D := fun W => plOne c d W
  cases h1 : onePB a b <;> cases h2 : onePB c d
  case true.true => rw [h1, h2] at h; simp at h
  all_goals
    rw [h1] at C
    rw [h2] at D
    have H3 := hide C
    have H4 := hide D
    clear C D h1 h2 h
    go_enter Try.func99, Try.ntmps99
    go_wp2_with (first | (go_at_call 152; refine ((by first | with_reducible exact H3.out _ | with_reducible exact H4.out _) : Calls _ _ _ _ _).mono ?_; rintro e w' ⟨rfl, hg⟩; (first | obtain ⟨x, rfl⟩ := Grows.later2 hg | obtain ⟨x, rfl⟩ := Grows.later hg); clear hg))
    go_ret
    exact ⟨rfl, (by repeat (first | exact Grows.refl _ | refine Grows.now ?_ _ | refine Grows.new ?_ _ | refine Grows.drewN ?_ _ | refine Grows.drew ?_ | assumption | (refine Grows.set ?_ (by first | omega | (simp; done) | (simp; omega)) _)))⟩
set_option maxHeartbeats 2000000 in
theorem r9Square0 (a b c d : Int) (w : World) (h : onePB a b = false ∨ onePB c d = false) : Calls Try.prog 104 #[.agg #[.int .i64 a, .int .i64 b], .agg #[.int .i64 c, .int .i64 d]] w fun e w' => e = .returned (.int .u64 0) ∧ Grows w w' := by
  have C := fun W => r9One a b W
  have D := fun W => r9One c d W
  cases h1 : onePB a b <;> cases h2 : onePB c d
  case true.true => rw [h1, h2] at h; simp at h
  all_goals
    rw [h1] at C
    rw [h2] at D
    have H3 := hide C
    have H4 := hide D
    clear C D h1 h2 h
    go_enter Try.func104, Try.ntmps104
    go_wp2_with (first | (go_at_call 102; refine ((by first | with_reducible exact H3.out _ | with_reducible exact H4.out _) : Calls _ _ _ _ _).mono ?_; rintro e w' ⟨rfl, hg⟩; (first | obtain ⟨x, rfl⟩ := Grows.later2 hg | obtain ⟨x, rfl⟩ := Grows.later hg); clear hg))
    go_ret
    exact ⟨rfl, (by repeat (first | exact Grows.refl _ | refine Grows.now ?_ _ | refine Grows.new ?_ _ | refine Grows.drewN ?_ _ | refine Grows.drew ?_ | assumption | (refine Grows.set ?_ (by first | omega | (simp; done) | (simp; omega)) _)))⟩

/-- How far two places lie apart, squared: nought, if one may not be. -/
def sqV (a b c d : Int) : Int := if onePB a b && onePB c d then sqI a b c d else 0
theorem plSquareV (a b c d : Int) (w : World) : Calls Try.prog 99 #[.agg #[.int .i64 a, .int .i64 b], .agg #[.int .i64 c, .int .i64 d]] w fun e w' => e = .returned (.int .u64 (sqV a b c d)) ∧ Grows w w' := by
  unfold sqV
  cases h1 : onePB a b
  · exact plSquare0 a b c d w (.inl h1)
  · cases h2 : onePB c d
    · exact plSquare0 a b c d w (.inr h2)
    · exact plSquare a b c d w h1 h2
theorem r9SquareV (a b c d : Int) (w : World) : Calls Try.prog 104 #[.agg #[.int .i64 a, .int .i64 b], .agg #[.int .i64 c, .int .i64 d]] w fun e w' => e = .returned (.int .u64 (sqV a b c d)) ∧ Grows w w' := by
  unfold sqV
  cases h1 : onePB a b
  · exact r9Square0 a b c d w (.inl h1)
  · cases h2 : onePB c d
    · exact r9Square0 a b c d w (.inr h2)
    · exact r9Square a b c d w h1 h2
end Go.Proofs.Ytiljgkaffgclgaa

/- Contracts: roots, and how far places lie apart. -/
namespace Go.Proofs.Ytiljgkaffgclgaa
open Go Go.RowKit
theorem run_mathSqrt (b : Nat) (w : World) : ∃ r w', Grows w w' ∧ (Extern.MathSqrt.sqrt #[.float .f64 b]).run Try.prog w = .ok (.float .f64 r) w' := by
  have h1 : ∀ r, FloatKind.f64.format.sqrt b = some r → (Extern.MathSqrt.sqrt #[.float .f64 b]).run Try.prog w = .ok (.float .f64 r) w := fun r h => by
    change Sem.run _ (match FloatKind.f64.format.sqrt b with | some r => pure (Value.float .f64 r) | none => _) w = _
    rw [h]; rfl
  have h2 : FloatKind.f64.format.sqrt b = none → (Extern.MathSqrt.sqrt #[.float .f64 b]).run Try.prog w = ((choose (.nanBits .f64 b b)).run Try.prog w).andThen fun n w' => .ok (.float .f64 n) w' := fun h => by
    change Sem.run _ (match FloatKind.f64.format.sqrt b with | some r => _ | none => (choose (.nanBits .f64 b b) >>= fun n => pure (Value.float .f64 n))) w = _
    rw [h]
    simp only [Sem.run_bind]
    rfl
  cases h : FloatKind.f64.format.sqrt b with
  | some r => exact ⟨r, w, Grows.refl _, h1 r h⟩
  | none =>
    rw [h2 h, run_choose_drew]
    by_cases hf : (Question.nanBits FloatKind.f64 b b).forced = true
    · rw [if_pos hf]
      exact ⟨_, _, Grows.refl _, rfl⟩
    · rw [if_neg hf]
      exact ⟨_, _, (Grows.refl w).drew, rfl⟩
theorem run_msqrt (b : Nat) (w : World) : ∃ r w', Grows w w' ∧ (callFunc 183 #[.float .f64 b]).run Try.prog w = .ok (.value (.float .f64 r)) w' := by
  obtain ⟨r, w', hg, h⟩ := run_mathSqrt b w
  refine ⟨r, w', hg, ?_⟩
  rw [run_callFunc_extern (e := Extern.MathSqrt.sqrt) Try.func183 (by kernel_rfl) (by kernel_rfl) (by kernel_rfl) (by kernel_rfl), h]
  rfl
theorem mSqrt (b : Nat) (w : World) : Calls Try.prog 155 #[.float .f64 b] w fun e w' => ∃ r, e = .returned (.float .f64 r) ∧ Grows w w' := by
  obtain ⟨r, w', hg, hq⟩ := run_msqrt b w
  go_enter Try.func155, Try.ntmps155
  go_wp2
  go_ret
  exact ⟨_, rfl, hg⟩
theorem run_conv (b : Nat) (w : World) : ∃ v w', 0 ≤ v ∧ v < 18446744073709551616 ∧ Grows w w' ∧ (convert 184 33 (.float .f64 b)).run Try.prog w = .ok (.int .u64 v) w' := by
  have hu : ∀ w, Sem.run Try.prog (underlying 184) w = .ok (.float .f64) w := fun w => run_underlying Try.underlying184 w
  have hd : ∀ w, Sem.run Try.prog (underlying 33) w = .ok (.int .u64) w := fun w => run_underlying Try.underlying33 w
  simp only [convert, Sem.run_bind, hu, hd, Result.andThen, Conv.floatToInt]
  have any : ∀ q : Question, ∃ v w', 0 ≤ v ∧ v < 18446744073709551616 ∧ Grows w w' ∧ Sem.run Try.prog (do pure (.int .u64 (IntKind.u64.wrap (← choose q)))) w = .ok (Value.int .u64 v) w' := fun q => by
    simp only [Sem.run_bind, run_choose_drew, Result.andThen]
    have wr : ∀ z : Int, 0 ≤ IntKind.u64.wrap z ∧ IntKind.u64.wrap z < 18446744073709551616 := fun z => ⟨Int.emod_nonneg _ (by decide), Int.emod_lt_of_pos _ (by decide)⟩
    by_cases hf : q.forced = true
    · refine ⟨IntKind.u64.wrap ((0 : Nat) : Int), w, (wr _).1, (wr _).2, Grows.refl _, ?_⟩
      rw [if_pos hf]
      rfl
    · refine ⟨IntKind.u64.wrap ((q.cut (w.tape w.drawn q) : Nat) : Int), w.drew, (wr _).1, (wr _).2, (Grows.refl w).drew, ?_⟩
      rw [if_neg hf]
      rfl
  split
  · rename_i n hn
    split
    · rename_i hb
      exact ⟨n, w, hb.1, by have : n ≤ (18446744073709551615 : Int) := hb.2; omega, Grows.refl _, rfl⟩
    · exact any _
  · exact any _

/-- Is a number above the root? -/
def overB (n r : Int) : Bool := decide (4294967295 < r) || decide (n < r * r)
theorem sq_u64 {r : Int} (h0 : 0 ≤ r) (h : r ≤ 4294967295) : 0 ≤ r * r ∧ r * r ≤ 18446744065119617025 :=
  ⟨Int.mul_nonneg h0 h0, Int.mul_le_mul h h h0 (by omega)⟩
set_option maxHeartbeats 400000 in
theorem plRoot1 (r n : Int) (p : Addr) (w : World) (h0 : 0 ≤ r) (hc : w.cell? p = some (.int .u64 n)) : Calls Try.prog 156 #[.int .u64 r, .pointer (some p)] w fun e w' => e = .returned (.bool (overB n r)) ∧ w = w' := by
  by_cases h : 4294967295 < r
  · skip
    go_enter Try.func156, Try.ntmps156
    go_wp2
    all_goals first | (exfalso; omega) | skip
    all_goals go_ret
    all_goals exact ⟨ret_bool (by unfold overB; simp [h]), rfl⟩
  · obtain ⟨s1, s2⟩ := sq_u64 h0 (by omega)
    go_enter Try.func156, Try.ntmps156
    go_wp2
    all_goals first | (exfalso; omega) | skip
    all_goals go_ret
    all_goals exact ⟨ret_bool (by unfold overB; simp only [decide_eq_false (show ¬ 4294967295 < r by omega), Bool.false_or]), rfl⟩

/-- The whole root. -/
def isRoot (n r : Int) : Prop := 0 ≤ r ∧ r * r ≤ n ∧ n < (r + 1) * (r + 1)
open Classical in
noncomputable def rootV (n : Int) : Int := if h : ∃ r, isRoot n r then Classical.choose h else 0
theorem mul_self_lt {a b : Int} (h0 : 0 ≤ a) (h : a < b) : a * a < b * b := by
  have h1 : a * a ≤ a * b := Int.mul_le_mul_of_nonneg_left (Int.le_of_lt h) h0
  have h2 : a * b < b * b := Int.mul_lt_mul_of_pos_right h (by omega)
  omega
theorem mul_self_le {a b : Int} (h0 : 0 ≤ a) (h : a ≤ b) : a * a ≤ b * b := Int.mul_le_mul h h h0 (by omega)
theorem root_uniq {n r s : Int} (h : isRoot n r) (h' : isRoot n s) : r = s := by
  obtain ⟨a1, a2, a3⟩ := h
  obtain ⟨b1, b2, b3⟩ := h'
  rcases Int.lt_trichotomy r s with h | h | h
  · have := mul_self_le (a := r + 1) (b := s) (by omega) (by omega); omega
  · exact h
  · have := mul_self_le (a := s + 1) (b := r) (by omega) (by omega); omega
theorem rootV_eq {n r : Int} (h : isRoot n r) : rootV n = r := by
  have hx : ∃ r, isRoot n r := ⟨r, h⟩
  unfold rootV
  rw [dif_pos hx]
  exact root_uniq (Classical.choose_spec hx) h

set_option maxHeartbeats 2000000 in
theorem plRoot (n : Int) (w : World) (hn0 : 0 ≤ n) (hn : n < 18446744073709551616) : Calls Try.prog 100 #[.int .u64 n] w fun e w' => e = .returned (.int .u64 (rootV n)) ∧ Grows w w' := by
  have hc : (w.alloc (.cells #[.int .u64 n] 33)).cell? ⟨w.heap.size, 0, none⟩ = some (.int .u64 n) := by simp [go_sem]
  have C1 := hide (fun (x : Later (w.alloc (.cells #[.int .u64 n] 33))) (r : Int) (h0 : 0 ≤ r) => plRoot1 r n _ x.now h0 ((x.cell (by rw [hc]; rfl)).trans hc))
  have HK := hide (fun args W => run_callGo (P := Try.prog) Try.func156 (by kernel_rfl) (by kernel_rfl) args W)
  clear hc
  go_enter Try.func100, Try.ntmps100
  go_wp2_with (first | (go_at_call 155; refine (mSqrt _ _).mono ?_; rintro e w' ⟨r, rfl, hg⟩; obtain ⟨x, rfl⟩ := Grows.later hg; clear hg; obtain ⟨v, w', hv0, hv1, hg, hq⟩ := run_conv r x.now; obtain ⟨y, rfl⟩ := Grows.later2 hg; clear hg))
  go_loopw [3] (fun i wr => ∃ v : Int, i = .int .u64 v ∧ 0 ≤ v ∧ v < 18446744073709551616 ∧ ∃ y : Later (w.alloc (.cells #[.int .u64 n] 33)), wr = y.now) (fun i _ => (intOf i).toNat)
  case atStart => exact ⟨v, rfl, hv0, hv1, _, rfl⟩
  case round =>
    clear hq hv0 hv1
    obtain ⟨v, rfl, hv0, hv1, y, rfl⟩ := hrel
    have C2 := C1.out y v hv0
    cases ho : overB n v with
    | true =>
      rw [ho] at C2
      have hv : 0 < v := by
        rcases Int.lt_or_le 0 v with h | h
        · exact h
        · have : v = 0 := by omega
          subst this
          unfold overB at ho
          simp at ho
          omega
      have HC := hide C2
      clear C2
      go_wp2_with (first | (go_at_call 156; refine (HC.out).mono ?_; rintro e w' ⟨rfl, rfl⟩))
      go_roundw
      case measure => simp [intOf]; omega
      case rel => exact ⟨v - 1, by go_num, by omega, by omega, _, rfl⟩
    | false =>
      rw [ho] at C2
      have HC := hide C2
      clear C2
      go_wp2_with (first | (go_at_call 156; refine (HC.out).mono ?_; rintro e w' ⟨rfl, rfl⟩))
      clear HC
      go_loopw [3] (fun i wr => ∃ v : Int, i = .int .u64 v ∧ 0 ≤ v ∧ v ≤ 4294967295 ∧ v * v ≤ n ∧ ∃ y : Later (w.alloc (.cells #[.int .u64 n] 33)), wr = y.now) (fun i _ => 4294967296 - (intOf i).toNat)
      case atStart =>
        unfold overB at ho
        simp only [Bool.or_eq_false_iff, decide_eq_false_iff_not] at ho
        exact ⟨v, rfl, hv0, by omega, by omega, _, rfl⟩
      case round =>
        clear hv0 hv1 ho
        obtain ⟨v, rfl, hv0, hv1, hsq, y, rfl⟩ := hrel
        have C2 := C1.out y (v + 1) (by omega)
        cases ho : overB n (v + 1) with
        | false =>
          rw [ho] at C2
          have HC := hide C2
          clear C2
          unfold overB at ho
          simp only [Bool.or_eq_false_iff, decide_eq_false_iff_not] at ho
          obtain ⟨o1, o2⟩ := ho
          have hsq2 := hide (Int.not_lt.1 o2)
          clear o2 hsq
          go_wp2_with (first | (go_at_call 156; refine (HC.out).mono ?_; rintro e w' ⟨rfl, rfl⟩))
          go_roundw
          case measure => simp [intOf]; omega
          case rel => exact ⟨v + 1, by go_num, by omega, by omega, hsq2.out, _, rfl⟩
        | true =>
          rw [ho] at C2
          have HC := hide C2
          clear C2
          have HV : Hid (rootV n = v) := rootV_eq ⟨hv0, hsq, by
            unfold overB at ho
            simp only [Bool.or_eq_true, decide_eq_true_eq] at ho
            rcases ho with h | h
            · have : v = 4294967295 := by omega
              subst this
              omega
            · exact h⟩
          clear ho hsq
          go_wp2_with (first | (go_at_call 156; refine (HC.out).mono ?_; rintro e w' ⟨rfl, rfl⟩))
          go_ret
          exact ⟨ret_int HV.out.symm, (by repeat (first | exact Grows.refl _ | refine Grows.now ?_ _ | refine Grows.new ?_ _ | refine Grows.drewN ?_ _ | refine Grows.drew ?_ | assumption | (refine Grows.set ?_ (by first | omega | (simp; done) | (simp; omega)) _)))⟩

/-- What bits are still to be tried. -/
def bitOk (n B R : Int) : Prop := (∃ k : Nat, B = 2 ^ k ∧ R + 2 * B ≤ 4294967296 ∧ n < (R + 2 * B) * (R + 2 * B)) ∨ (B = 0 ∧ n < (R + 1) * (R + 1))
theorem bit_next {n B R : Int} (h : bitOk n B R) (hB : 0 < B) : (R + B ≤ 4294967295) ∧ (n < (R + B) * (R + B) → bitOk n (B / 2) R) ∧ (bitOk n (B / 2) (R + B)) := by
  rcases h with ⟨k, rfl, h1, h2⟩ | ⟨h, _⟩
  · have hp := two_pow_pos_int k
    cases k with
    | zero =>
      simp only [Int.pow_zero] at *
      refine ⟨by omega, fun h => .inr ⟨by omega, h⟩, .inr ⟨by omega, ?_⟩⟩
      rw [show R + 1 + 1 = R + 2 * 1 by omega]
      exact h2
    | succ j =>
      rw [Int.pow_succ] at *
      have hj := two_pow_pos_int j
      have e : (2 : Int) ^ j * 2 / 2 = 2 ^ j := by omega
      rw [e]
      refine ⟨by omega, fun h => .inl ⟨j, rfl, by omega, ?_⟩, .inl ⟨j, rfl, by omega, ?_⟩⟩
      · rw [show R + 2 * 2 ^ j = R + 2 ^ j * 2 by omega]; exact h
      · rw [show R + 2 ^ j * 2 + 2 * 2 ^ j = R + 2 * (2 ^ j * 2) by omega]; exact h2
  · omega
set_option maxHeartbeats 1000000 in
theorem r9Root (n : Int) (w : World) (hn0 : 0 ≤ n) (hn : n < 18446744073709551616) : Calls Try.prog 105 #[.int .u64 n] w fun e w' => e = .returned (.int .u64 (rootV n)) ∧ Grows w w' := by
  go_enter Try.func105, Try.ntmps105
  go_wp2
  go_loopw [4, 3] (fun b r wr => ∃ B R : Int, b = .int .u64 B ∧ r = .int .u64 R ∧ 0 ≤ R ∧ 0 ≤ B ∧ R * R ≤ n ∧ bitOk n B R ∧ ∃ y : Later w, wr = y.now) (fun b _ _ => (intOf b).toNat)
  case atStart => exact ⟨2147483648, 0, rfl, rfl, by omega, by omega, hn0, .inl ⟨31, rfl, by omega, by omega⟩, ⟨w, Grows.refl w⟩, rfl⟩
  case round =>
    obtain ⟨B, R, rfl, rfl, hR, hB, hsq, hok, y, rfl⟩ := hrel
    by_cases h0 : B = 0
    · subst h0
      have HV : Hid (rootV n = R) := by
        rcases hok with ⟨k, h, _⟩ | ⟨_, h⟩
        · have := two_pow_pos_int k
          omega
        · exact rootV_eq ⟨hR, hsq, h⟩
      clear hok hsq
      go_wp2
      go_ret
      exact ⟨ret_int HV.out.symm, (by repeat (first | exact Grows.refl _ | refine Grows.now ?_ _ | refine Grows.new ?_ _ | refine Grows.drewN ?_ _ | refine Grows.drew ?_ | assumption | (refine Grows.set ?_ (by first | omega | (simp; done) | (simp; omega)) _)))⟩
    · have hB0 : 0 < B := by omega
      obtain ⟨h1, h2, h3⟩ := bit_next hok hB0
      have H2 := hide h2
      have H3 := hide h3
      have H4 := hide hsq
      obtain ⟨s1, s2⟩ := sq_u64 (r := R + B) (by omega) h1
      clear hok h2 h3 hsq h0
      by_cases hc : (R + B) * (R + B) ≤ n
      · go_wp2
        exact ⟨⟨_, _, rfl, rfl, by omega, by omega, hc, H3.out, y, rfl⟩, by simp [intOf]; omega⟩
      · go_wp2
        exact ⟨⟨_, _, rfl, rfl, by omega, by omega, H4.out, H2.out (by omega), y, rfl⟩, by simp [intOf]; omega⟩
theorem sqV_bd (a b c d : Int) : 0 ≤ sqV a b c d ∧ sqV a b c d ≤ 8796093022208 := by
  unfold sqV
  cases h1 : onePB a b
  · exact ⟨by simp, by simp⟩
  · cases h2 : onePB c d
    · exact ⟨by simp, by simp⟩
    · unfold onePB at h1 h2
      simp only [decide_eq_true_eq] at h1 h2
      have b1 := sq_nn (a - c)
      have b2 := sq_nn (b - d)
      have b3 := sq_le (x := a - c) (by omega)
      have b4 := sq_le (x := b - d) (by omega)
      simp only [Bool.and_self, if_true]
      unfold sqI
      omega
theorem sqV_u64 (a b c d : Int) : 0 ≤ sqV a b c d ∧ sqV a b c d < 18446744073709551616 := by
  have := sqV_bd a b c d
  omega
end Go.Proofs.Ytiljgkaffgclgaa

/- Plain law: bounds by places: the greatest factor that fits all edges; such bounds are consistent. -/
namespace Go.Proofs.Ytiljgkaffgclgaa
open Go Go.RowKit
theorem root_ex2 (n : Nat) : ∃ r : Int, isRoot n r := by
  induction n with
  | zero => exact ⟨0, by omega, by omega, by omega⟩
  | succ n ih =>
    obtain ⟨r, h1, h2, h3⟩ := ih
    by_cases h : (r + 1) * (r + 1) ≤ ((n + 1 : Nat) : Int)
    · refine ⟨r + 1, by omega, h, ?_⟩
      have := mul_self_lt (a := r + 1) (b := r + 1 + 1) (by omega) (by omega)
      omega
    · exact ⟨r, h1, by omega, by omega⟩
theorem root_spec {n : Int} (h : 0 ≤ n) : isRoot n (rootV n) := by
  obtain ⟨k, rfl⟩ := Int.eq_ofNat_of_zero_le h
  obtain ⟨r, hr⟩ := root_ex2 k
  rw [rootV_eq hr]
  exact hr
theorem of_sq_lt {a b : Int} (h0 : 0 ≤ b) (h : a * a < b * b) : a < b := by
  rcases Int.lt_or_le a b with h' | h'
  · exact h'
  · have := mul_self_le h0 h'
    omega
theorem sq_two (x y u v : Int) : (x + u) * (x + u) + (y + v) * (y + v) = (x * x + y * y) + (u * u + v * v) + 2 * (x * u + y * v) := by
  simp only [Int.add_mul, Int.mul_add]
  rw [Int.mul_comm u x, Int.mul_comm v y]
  omega
theorem cauchy2 (x y u v : Int) : (x * u + y * v) * (x * u + y * v) ≤ (x * x + y * y) * (u * u + v * v) := by
  have h := sq_nn (x * v - y * u)
  have e : (x * x + y * y) * (u * u + v * v) - (x * u + y * v) * (x * u + y * v) = (x * v - y * u) * (x * v - y * u) := by
    simp only [Int.add_mul, Int.mul_add, Int.sub_mul, Int.mul_sub]
    have a1 : x * v * (x * v) = x * x * (v * v) := by simp only [Int.mul_assoc, Int.mul_left_comm]
    have a2 : y * u * (y * u) = y * y * (u * u) := by simp only [Int.mul_assoc, Int.mul_left_comm]
    have a3 : x * u * (x * u) = x * x * (u * u) := by simp only [Int.mul_assoc, Int.mul_left_comm]
    have a4 : y * v * (y * v) = y * y * (v * v) := by simp only [Int.mul_assoc, Int.mul_left_comm]
    have a5 : x * u * (y * v) = x * v * (y * u) := by simp only [Int.mul_assoc, Int.mul_left_comm, Int.mul_comm u v]
    have a6 : y * v * (x * u) = y * u * (x * v) := by simp only [Int.mul_assoc, Int.mul_left_comm, Int.mul_comm u v]
    rw [a1, a2, a3, a4, a5, a6]
    omega
  omega
/-- One step: what the end is off, scaled, rounded down, falls by no more than a weight that the step's own length, scaled, is within. -/
theorem hop_le {K px py qx qy tx ty a b W : Int} (hW : 1 ≤ W) (hb0 : 0 ≤ b) (ha0 : 0 ≤ a)
    (hpq : K * K * ((px - qx) * (px - qx) + (py - qy) * (py - qy)) ≤ W * W)
    (ha : a * a ≤ K * K * ((px - tx) * (px - tx) + (py - ty) * (py - ty)))
    (hb : K * K * ((qx - tx) * (qx - tx) + (qy - ty) * (qy - ty)) < (b + 1) * (b + 1)) : a ≤ b + W := by
  have sc : ∀ x y : Int, K * K * (x * x + y * y) = (K * x) * (K * x) + (K * y) * (K * y) := fun x y => by
    rw [Int.mul_add]
    have e1 : K * K * (x * x) = K * x * (K * x) := by simp only [Int.mul_assoc, Int.mul_left_comm]
    have e2 : K * K * (y * y) = K * y * (K * y) := by simp only [Int.mul_assoc, Int.mul_left_comm]
    rw [e1, e2]
  rw [sc] at hpq ha hb
  have hs := sq_two (K * (px - qx)) (K * (py - qy)) (K * (qx - tx)) (K * (qy - ty))
  rw [← Int.mul_add, ← Int.mul_add, show px - qx + (qx - tx) = px - tx by omega, show py - qy + (qy - ty) = py - ty by omega] at hs
  have hc := cauchy2 (K * (px - qx)) (K * (py - qy)) (K * (qx - tx)) (K * (qy - ty))
  have n2 : 0 ≤ K * (qx - tx) * (K * (qx - tx)) + K * (qy - ty) * (K * (qy - ty)) := by have := sq_nn (K * (qx - tx)); have := sq_nn (K * (qy - ty)); omega
  rw [hs] at ha
  generalize K * (px - qx) * (K * (px - qx)) + K * (py - qy) * (K * (py - qy)) = S at *
  generalize K * (qx - tx) * (K * (qx - tx)) + K * (qy - ty) * (K * (qy - ty)) = T at *
  generalize K * (px - qx) * (K * (qx - tx)) + K * (py - qy) * (K * (qy - ty)) = D at *
  have hST : S * T < (W * (b + 1)) * (W * (b + 1)) := by
    have e1 : W * (b + 1) * (W * (b + 1)) = (W * W) * ((b + 1) * (b + 1)) := by simp only [Int.mul_assoc, Int.mul_left_comm]
    rw [e1]
    have p1 : S * T ≤ (W * W) * T := Int.mul_le_mul_of_nonneg_right hpq n2
    have p2 : (W * W) * T < (W * W) * ((b + 1) * (b + 1)) := Int.mul_lt_mul_of_pos_left hb (Int.mul_pos (by omega) (by omega))
    omega
  have hD : D < W * (b + 1) := of_sq_lt (Int.mul_nonneg (by omega) (by omega)) (by omega)
  have he : (W + (b + 1)) * (W + (b + 1)) = W * W + (b + 1) * (b + 1) + 2 * (W * (b + 1)) := by
    simp only [Int.add_mul, Int.mul_add]
    rw [Int.mul_comm b W]
    omega
  have := of_sq_lt (a := a) (b := W + (b + 1)) (by omega) (by rw [he]; omega)
  omega
/-- The factor behind one edge: of a length (squared), and a weight. -/
noncomputable def kNext (k n W : Int) : Int := if 0 < n then min k (rootV (min W 4294967295 * min W 4294967295 / n)) else k
def fitsB (k n W : Int) : Bool := decide (4294967295 < W) || decide (k * k * n ≤ W * W)
theorem mul_le3 {k n a b : Int} (hk : 0 ≤ k) (hka : k ≤ a) (hn : 0 ≤ n) (hnb : n ≤ b) : k * k * n ≤ a * a * b := by
  have h1 : k * k ≤ a * a := mul_self_le hk hka
  have h0 : 0 ≤ k * k := sq_nn k
  exact Int.mul_le_mul h1 hnb hn (by omega)
theorem kNext_ok {k n W : Int} (hk : 0 ≤ k) (hk2 : k ≤ 1024) (hn : 0 ≤ n) (hn2 : n ≤ 8796093022208) (hW : 1 ≤ W) (hW2 : W ≤ 4294967296) :
    0 ≤ kNext k n W ∧ kNext k n W ≤ k ∧ fitsB (kNext k n W) n W = true ∧ (∀ j, kNext k n W < j → j ≤ k → fitsB j n W = false) ∧ kNext k n W * kNext k n W * n ≤ W * W := by
  unfold kNext fitsB
  by_cases h0 : 0 < n
  · rw [if_pos h0]
    have hq : 0 ≤ min W 4294967295 * min W 4294967295 / n := Int.ediv_nonneg (sq_nn _) hn
    obtain ⟨r0, r1, r2⟩ := root_spec hq
    generalize rootV (min W 4294967295 * min W 4294967295 / n) = r at *
    by_cases hw : W = 4294967296
    · subst hw
      have hm : min (4294967296 : Int) 4294967295 = 4294967295 := by omega
      rw [hm] at r1 r2
      have h1024 : 1048576 ≤ (4294967295 : Int) * 4294967295 / n := by
        rw [Int.le_ediv_iff_mul_le h0]
        omega
      have hr : 1024 ≤ r := by
        have := of_sq_lt (a := 1024) (b := r + 1) (by omega) (by omega)
        omega
      have hmk : min k r = k := by omega
      rw [hmk]
      refine ⟨hk, Int.le_refl _, by simp, fun j h1 h2 => by omega, ?_⟩
      have := mul_le3 hk hk2 hn hn2
      omega
    · have hm : min W 4294967295 = W := by omega
      rw [hm] at r1 r2
      have hfit : ∀ j : Int, 0 ≤ j → j ≤ r → j * j * n ≤ W * W := fun j j0 j1 => by
        have h1 : j * j ≤ r * r := mul_self_le j0 j1
        rw [← Int.le_ediv_iff_mul_le h0]
        omega
      refine ⟨by omega, by omega, ?_, fun j h1 h2 => ?_, hfit _ (by omega) (by omega)⟩
      · rw [decide_eq_true (hfit _ (by omega) (by omega)), Bool.or_true]
      · have hj : r + 1 ≤ j := by omega
        have h3 : (r + 1) * (r + 1) ≤ j * j := mul_self_le (by omega) hj
        have h4 : ¬ j * j * n ≤ W * W := by
          rw [← Int.le_ediv_iff_mul_le h0]
          omega
        rw [decide_eq_false h4, decide_eq_false (show ¬ 4294967295 < W by omega)]
        rfl
  · rw [if_neg h0]
    have hn0 : n = 0 := by omega
    subst hn0
    rw [Int.mul_zero]
    have := sq_nn W
    refine ⟨hk, Int.le_refl _, by rw [decide_eq_true this, Bool.or_true], fun j h1 h2 => by omega, this⟩
end Go.Proofs.Ytiljgkaffgclgaa
