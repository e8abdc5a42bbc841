/- Plain: floating point numbers that stand for whole numbers below 2^53: their sums, products, order. -/
import Ieee.Arith
import GoSem.Core.Float
namespace Go.Proofs.Ytaoodmioehkebaa
open Go

/-- How deep the least place lies. -/
@[irreducible] def LP : Nat := 1074
theorem LP_eq : LP = 1074 := by unfold LP; rfl

/-- The word b stands for the whole number n (a zero may bear either sign). -/
def IsI (b : Nat) (n : Int) : Prop := ∃ s m e, Ieee.double.read b = .number s m e ∧ -(LP : Int) ≤ e ∧ m * 2 ^ (e + LP).toNat = n.natAbs * 2 ^ LP ∧ (n ≠ 0 → s = decide (n < 0))

theorem pow_pos2 (n : Nat) : 0 < 2 ^ n := Nat.two_pow_pos n

theorem log2_scale {m a V K : Nat} (hV : 0 < V) (h : m * 2 ^ a = V * 2 ^ K) : m.log2 + a = V.log2 + K := by
  have hm : m ≠ 0 := by
    rintro rfl
    have := Nat.mul_pos hV (pow_pos2 K)
    omega
  have h1 : (m * 2 ^ a).log2 = m.log2 + a := by
    rw [Nat.log2_eq_iff (by rw [h]; exact Nat.ne_of_gt (Nat.mul_pos hV (pow_pos2 K)))]
    have := Nat.log2_self_le hm
    have h2 := Nat.lt_log2_self (n := m)
    refine ⟨by rw [Nat.pow_add]; exact Nat.mul_le_mul_right _ this, ?_⟩
    rw [show m.log2 + a + 1 = (m.log2 + 1) + a by omega, Nat.pow_add]
    exact Nat.mul_lt_mul_of_pos_right h2 (pow_pos2 a)
  have h3 : (V * 2 ^ K).log2 = V.log2 + K := by
    rw [Nat.log2_eq_iff (Nat.ne_of_gt (Nat.mul_pos hV (pow_pos2 K)))]
    have := Nat.log2_self_le (Nat.ne_of_gt hV)
    have h2 := Nat.lt_log2_self (n := V)
    refine ⟨by rw [Nat.pow_add]; exact Nat.mul_le_mul_right _ this, ?_⟩
    rw [show V.log2 + K + 1 = (V.log2 + 1) + K by omega, Nat.pow_add]
    exact Nat.mul_lt_mul_of_pos_right h2 (pow_pos2 K)
  rw [← h1, ← h3, h]

theorem read_word (s : Bool) (q k : Nat) (hq : q < 2000) (h1 : 4503599627370496 ≤ k) (h2 : k < 9007199254740992) :
    Ieee.double.read (Ieee.double.word s (q * 4503599627370496 + k)) = .number s k (-1074 + q) := by
  have e1 : Ieee.double.signWeight = 9223372036854775808 := by decide +kernel
  have e2 : Ieee.double.binade = 4503599627370496 := by decide +kernel
  have e3 : Ieee.double.infRung = 9218868437227405312 := by decide +kernel
  have e4 : Ieee.double.leastPlace = -1074 := by decide +kernel
  have hw : Ieee.double.word s (q * 4503599627370496 + k) = (if s then 9223372036854775808 else 0) + (q * 4503599627370496 + k) := by
    unfold Ieee.Format.word
    rw [e1]
    cases s <;> simp
  unfold Ieee.Format.read
  rw [hw, e1, e2, e3, e4]
  have r1 : ((if s then 9223372036854775808 else 0) + (q * 4503599627370496 + k)) % 9223372036854775808 = q * 4503599627370496 + k := by cases s <;> simp <;> omega
  have r2 : (((if s then 9223372036854775808 else 0) + (q * 4503599627370496 + k)) / 9223372036854775808 % 2 == 1) = s := by
    cases s
    · have : (q * 4503599627370496 + k) / 9223372036854775808 = 0 := by omega
      simp [this]
    · have : (9223372036854775808 + (q * 4503599627370496 + k)) / 9223372036854775808 = 1 := by omega
      simp [this]
  rw [r1, r2]
  dsimp only
  rw [if_neg (by omega), if_pos (by omega)]
  have r3 : (q * 4503599627370496 + k) % 4503599627370496 = k - 4503599627370496 := by omega
  have r4 : (q * 4503599627370496 + k) / 4503599627370496 = q + 1 := by omega
  rw [r3, r4, show 4503599627370496 + (k - 4503599627370496) = k by omega, show q + 1 - 1 = q by omega]

theorem cut_exact (s : Bool) (k d : Nat) (hd : d ≤ (k * 2 ^ d).log2 + 2) : Ieee.Toward.even.cut s (k * 2 ^ d) d = k := by
  unfold Ieee.Toward.cut
  rw [Nat.min_eq_left hd, Nat.one_shiftLeft]
  have h1 : k * 2 ^ d / 2 ^ d = k := Nat.mul_div_cancel _ (pow_pos2 d)
  have h2 : k * 2 ^ d % 2 ^ d = 0 := Nat.mul_mod_left _ _
  have h3 := pow_pos2 d
  simp only [h1, h2]
  have : (decide (2 ^ d < 2 * 0) || (2 ^ d == 2 * 0 && k % 2 == 1)) = false := by
    have h4 : ¬ 2 ^ d < 2 * 0 := by omega
    have h5 : (2 ^ d == 2 * 0) = false := by simp
    simp
  rw [this]
  rfl

/-- A whole number below 2^53 is written as it is. -/
theorem write_int {s : Bool} {m : Nat} {e : Int} {n : Int} {K : Nat} (hK : LP ≤ K) (heK : -(K : Int) ≤ e) (hv : m * 2 ^ (e + K).toNat = n.natAbs * 2 ^ K) (hn : n.natAbs < 9007199254740992) (hs : n ≠ 0 → s = decide (n < 0)) :
    IsI (Ieee.double.write (.number s m e)) n := by
  have e2 : Ieee.double.binade = 4503599627370496 := by decide +kernel
  have e3 : Ieee.double.infRung = 9218868437227405312 := by decide +kernel
  have e4 : Ieee.double.leastPlace = -1074 := by decide +kernel
  have e5 : Ieee.double.fractionBits = 52 := rfl
  have hLP := LP_eq
  unfold Ieee.Format.write Ieee.Format.nearest
  dsimp only
  by_cases h0 : n = 0
  · subst h0
    have hm : m = 0 := by
      rcases Nat.eq_zero_or_pos m with h | h
      · exact h
      · have := Nat.mul_pos h (pow_pos2 (e + K).toNat)
        rw [hv] at this
        simp at this
    rw [if_pos hm]
    refine ⟨s, 0, -1074, ?_, by rw [hLP]; omega, by rw [Int.natAbs_zero, Nat.zero_mul, Nat.zero_mul], fun h => absurd rfl h⟩
    cases s <;> decide +kernel
  · have hV : 0 < n.natAbs := by omega
    have hm : m ≠ 0 := by
      rintro rfl
      have := Nat.mul_pos hV (pow_pos2 K)
      omega
    rw [if_neg hm]
    generalize hVd : n.natAbs = V at *
    have hlog := log2_scale hV hv
    have hL : V.log2 ≤ 52 := by
      have := Nat.log2_self_le (Nat.ne_of_gt hV)
      rcases Nat.lt_or_ge V.log2 53 with h | h
      · omega
      · have := Nat.pow_le_pow_right (show 0 < 2 by omega) h
        omega
    have hLV := Nat.log2_self_le (Nat.ne_of_gt hV)
    have hLV2 := Nat.lt_log2_self (n := V)
    have hlast : max (e + (m.log2 : Int) - (Ieee.double.fractionBits : Int)) Ieee.double.leastPlace = (V.log2 : Int) - 52 := by
      rw [e4, e5]; omega
    rw [hlast, e2, e3, e4]
    -- the kept digits
    have hk1 : 2 ^ V.log2 * 2 ^ (52 - V.log2) = 4503599627370496 := by
      rw [← Nat.pow_add, show V.log2 + (52 - V.log2) = 52 by omega]
    have hk2 : 2 ^ (V.log2 + 1) * 2 ^ (52 - V.log2) = 9007199254740992 := by
      rw [← Nat.pow_add, show V.log2 + 1 + (52 - V.log2) = 53 by omega]
    have hkl : 4503599627370496 ≤ V * 2 ^ (52 - V.log2) := by rw [← hk1]; exact Nat.mul_le_mul_right _ hLV
    have hkh : V * 2 ^ (52 - V.log2) < 9007199254740992 := by rw [← hk2]; exact Nat.mul_lt_mul_of_pos_right hLV2 (pow_pos2 _)
    have hkept : Ieee.Toward.even.cut s (m <<< (e - ((V.log2 : Int) - 52)).toNat) (((V.log2 : Int) - 52) - e).toNat = V * 2 ^ (52 - V.log2) := by
      rw [Nat.shiftLeft_eq]
      rcases Int.le_total ((V.log2 : Int) - 52) e with h | h
      · have h1 : ((V.log2 : Int) - 52 - e).toNat = 0 := by omega
        have h2 : m * 2 ^ (e - ((V.log2 : Int) - 52)).toNat = V * 2 ^ (52 - V.log2) := by
          refine Nat.eq_of_mul_eq_mul_right (pow_pos2 (K + V.log2 - 52)) ?_
          rw [Nat.mul_assoc, ← Nat.pow_add, Nat.mul_assoc, ← Nat.pow_add, show (e - ((V.log2 : Int) - 52)).toNat + (K + V.log2 - 52) = (e + K).toNat by omega, show 52 - V.log2 + (K + V.log2 - 52) = K by omega]
          exact hv
        rw [h1, h2]
        have := cut_exact s (V * 2 ^ (52 - V.log2)) 0 (by omega)
        simpa using this
      · have h1 : (e - ((V.log2 : Int) - 52)).toNat = 0 := by omega
        have h2 : m = V * 2 ^ (52 - V.log2) * 2 ^ ((V.log2 : Int) - 52 - e).toNat := by
          refine Nat.eq_of_mul_eq_mul_right (pow_pos2 (e + K).toNat) ?_
          rw [hv, Nat.mul_assoc, Nat.mul_assoc, ← Nat.pow_add, ← Nat.pow_add, show 52 - V.log2 + (((V.log2 : Int) - 52 - e).toNat + (e + K).toNat) = K by omega]
        rw [h1, Nat.pow_zero, Nat.mul_one]
        have hlm : ((V.log2 : Int) - 52 - e).toNat ≤ m.log2 + 2 := by omega
        rw [h2] at hlm ⊢
        exact cut_exact s _ _ hlm
    rw [hkept]
    have hq : ((V.log2 : Int) - 52 - -1074).toNat = V.log2 + 1022 := by omega
    rw [hq, Nat.min_eq_left (by omega)]
    refine ⟨s, V * 2 ^ (52 - V.log2), -1074 + ((V.log2 + 1022 : Nat) : Int), read_word s (V.log2 + 1022) _ (by omega) hkl hkh, by omega, ?_, hs⟩
    rw [Nat.mul_assoc, ← Nat.pow_add, hVd, show 52 - V.log2 + (-1074 + ((V.log2 + 1022 : Nat) : Int) + LP).toNat = LP by omega]

theorem nearest_int {n : Int} (hn : n.natAbs < 9007199254740992) : IsI (FloatKind.f64.nearest n) n :=
  write_int (K := LP) (Nat.le_refl _) (by omega) (by rw [show ((0 : Int) + (LP : Nat)).toNat = LP by omega]) hn (fun _ => rfl)

/-- What a sign and a magnitude are worth. -/
theorem signed_val {s : Bool} {m : Nat} {e : Int} {a : Int} {u v : Nat} (h : m * 2 ^ (e + LP).toNat = a.natAbs * 2 ^ LP) (hs : a ≠ 0 → s = decide (a < 0)) (huv : (u : Int) + v = e + LP) :
    Ieee.signed s m u * 2 ^ v = a * 2 ^ LP := by
  have hm : (m : Int) * 2 ^ u * 2 ^ v = (a.natAbs : Int) * 2 ^ LP := by
    have : m * 2 ^ u * 2 ^ v = a.natAbs * 2 ^ LP := by rw [Nat.mul_assoc, ← Nat.pow_add, ← h, show u + v = (e + LP).toNat by omega]
    exact_mod_cast this
  unfold Ieee.signed
  rw [Nat.shiftLeft_eq]
  by_cases h0 : a = 0
  · subst h0
    have hm0 : m = 0 := by
      rcases Nat.eq_zero_or_pos m with hh | hh
      · exact hh
      · have := Nat.mul_pos hh (pow_pos2 (e + LP).toNat)
        rw [h] at this
        simp only [Int.natAbs_zero, Nat.zero_mul, Nat.lt_irrefl] at this
    subst hm0
    cases s <;> simp
  · have hs' := hs h0
    by_cases hneg : a < 0
    · rw [hs', decide_eq_true hneg, if_pos rfl, Int.neg_mul]
      push_cast
      rw [hm, show ((a.natAbs : Nat) : Int) = -a by omega, Int.neg_mul, Int.neg_neg]
    · rw [hs', decide_eq_false hneg]
      simp only [Bool.false_eq_true, if_false]
      push_cast
      rw [hm, show ((a.natAbs : Nat) : Int) = a by omega]

theorem two_pow_pos_int (k : Nat) : (0 : Int) < 2 ^ k := Int.pow_pos (by omega)

theorem sum_int {s t : Bool} {m n : Nat} {i j : Int} {a b : Int} (hi : -(LP : Int) ≤ i) (hj : -(LP : Int) ≤ j) (h1 : m * 2 ^ (i + LP).toNat = a.natAbs * 2 ^ LP) (h2 : n * 2 ^ (j + LP).toNat = b.natAbs * 2 ^ LP)
    (hs : a ≠ 0 → s = decide (a < 0)) (ht : b ≠ 0 → t = decide (b < 0)) (hab : (a + b).natAbs < 9007199254740992) :
    ∃ r, ((Ieee.Datum.number s m i).sum (.number t n j)).map Ieee.double.write = some r ∧ IsI r (a + b) := by
  unfold Ieee.Datum.sum
  simp only [Option.map_some]
  refine ⟨_, rfl, ?_⟩
  have e1 := signed_val (u := (i - min i j).toNat) (v := (min i j + LP).toNat) h1 hs (by omega)
  have e2 := signed_val (u := (j - min i j).toNat) (v := (min i j + LP).toNat) h2 ht (by omega)
  generalize htot : Ieee.signed s m (i - min i j).toNat + Ieee.signed t n (j - min i j).toNat = total at *
  have e3 : total * 2 ^ (min i j + LP).toNat = (a + b) * 2 ^ LP := by rw [← htot, Int.add_mul, e1, e2, Int.add_mul]
  have p1 := two_pow_pos_int (min i j + LP).toNat
  have p2 := two_pow_pos_int LP
  have hz : total = 0 ↔ a + b = 0 := by
    constructor
    · intro h
      rw [h, Int.zero_mul] at e3
      rcases Int.mul_eq_zero.1 e3.symm with h | h
      · exact h
      · omega
    · intro h
      rw [h, Int.zero_mul] at e3
      rcases Int.mul_eq_zero.1 e3 with h | h
      · exact h
      · omega
  have hneg : total < 0 ↔ a + b < 0 := by
    constructor
    · intro h
      have := Int.mul_neg_of_neg_of_pos h p1
      rw [e3] at this
      rcases Int.lt_or_le (a + b) 0 with h' | h'
      · exact h'
      · exact absurd (Int.mul_nonneg h' (Int.le_of_lt p2)) (Int.not_le.2 this)
    · intro h
      have := Int.mul_neg_of_neg_of_pos h p2
      rw [← e3] at this
      rcases Int.lt_or_le total 0 with h' | h'
      · exact h'
      · exact absurd (Int.mul_nonneg h' (Int.le_of_lt p1)) (Int.not_le.2 this)
  refine write_int (K := LP) (Nat.le_refl _) (by omega) ?_ hab (fun h => ?_)
  · have := congrArg Int.natAbs e3
    rw [Int.natAbs_mul, Int.natAbs_mul] at this
    rw [Int.natAbs_pow, Int.natAbs_pow] at this
    exact this
  · rw [if_neg (fun h' => h (hz.1 h'))]
    exact decide_eq_decide.2 hneg

theorem add_int {x y : Nat} {a b : Int} (hx : IsI x a) (hy : IsI y b) (hab : (a + b).natAbs < 9007199254740992) : ∃ r, Ieee.double.add x y = some r ∧ IsI r (a + b) := by
  obtain ⟨s, m, i, r1, hi, h1, hs⟩ := hx
  obtain ⟨t, n, j, r2, hj, h2, ht⟩ := hy
  unfold Ieee.Format.add
  rw [r1, r2]
  exact sum_int hi hj h1 h2 hs ht hab
theorem sub_int {x y : Nat} {a b : Int} (hx : IsI x a) (hy : IsI y b) (hab : (a - b).natAbs < 9007199254740992) : ∃ r, Ieee.double.sub x y = some r ∧ IsI r (a - b) := by
  obtain ⟨s, m, i, r1, hi, h1, hs⟩ := hx
  obtain ⟨t, n, j, r2, hj, h2, ht⟩ := hy
  unfold Ieee.Format.sub
  rw [r1, r2]
  unfold Ieee.Datum.opposite
  rw [Int.sub_eq_add_neg] at hab ⊢
  refine sum_int hi hj h1 (by rw [Int.natAbs_neg]; exact h2) hs (fun h => ?_) hab
  have h' : b ≠ 0 := by omega
  rw [ht h']
  by_cases hb : b < 0
  · rw [decide_eq_true hb, decide_eq_false (by omega)]; rfl
  · rw [decide_eq_false hb, decide_eq_true (by omega)]; rfl
theorem mul_int {x y : Nat} {a b : Int} (hx : IsI x a) (hy : IsI y b) (hab : (a * b).natAbs < 9007199254740992) : ∃ r, Ieee.double.mul x y = some r ∧ IsI r (a * b) := by
  obtain ⟨s, m, i, r1, hi, h1, hs⟩ := hx
  obtain ⟨t, n, j, r2, hj, h2, ht⟩ := hy
  unfold Ieee.Format.mul
  rw [r1, r2]
  unfold Ieee.Datum.product
  simp only [Option.map_some]
  refine ⟨_, rfl, write_int (K := LP + LP) (by omega) (by omega) ?_ hab (fun h => ?_)⟩
  · rw [Int.natAbs_mul, show (i + j + ((LP + LP : Nat) : Int)).toNat = (i + LP).toNat + (j + LP).toNat by omega, Nat.pow_add, show m * n * (2 ^ (i + LP).toNat * 2 ^ (j + LP).toNat) = (m * 2 ^ (i + LP).toNat) * (n * 2 ^ (j + LP).toNat) by
      simp only [Nat.mul_assoc, Nat.mul_left_comm]]
    rw [h1, h2, Nat.pow_add]
    simp only [Nat.mul_assoc, Nat.mul_left_comm]
  · have ha : a ≠ 0 := fun h' => h (by rw [h', Int.zero_mul])
    have hb : b ≠ 0 := fun h' => h (by rw [h', Int.mul_zero])
    rw [hs ha, ht hb]
    by_cases h1 : a < 0 <;> by_cases h2 : b < 0
    · have := Int.mul_pos_of_neg_of_neg h1 h2
      rw [decide_eq_true h1, decide_eq_true h2, decide_eq_false (by omega)]; rfl
    · have := Int.mul_neg_of_neg_of_pos h1 (show 0 < b by omega)
      rw [decide_eq_true h1, decide_eq_false h2, decide_eq_true this]; rfl
    · have := Int.mul_neg_of_pos_of_neg (show 0 < a by omega) h2
      rw [decide_eq_false h1, decide_eq_true h2, decide_eq_true this]; rfl
    · have := Int.mul_pos (show 0 < a by omega) (show 0 < b by omega)
      rw [decide_eq_false h1, decide_eq_false h2, decide_eq_false (by omega)]; rfl
theorem order_int {x y : Nat} {a b : Int} (hx : IsI x a) (hy : IsI y b) : Ieee.double.order x y = some (compare a b) := by
  obtain ⟨s, m, i, r1, hi, h1, hs⟩ := hx
  obtain ⟨t, n, j, r2, hj, h2, ht⟩ := hy
  unfold Ieee.Format.order
  rw [r1, r2]
  unfold Ieee.Datum.order
  simp only
  have e1 := signed_val (u := (i - min i j).toNat) (v := (min i j + LP).toNat) h1 hs (by omega)
  have e2 := signed_val (u := (j - min i j).toNat) (v := (min i j + LP).toNat) h2 ht (by omega)
  have p1 := two_pow_pos_int (min i j + LP).toNat
  have p2 := two_pow_pos_int LP
  generalize Ieee.signed s m (i - min i j).toNat = X at *
  generalize Ieee.signed t n (j - min i j).toNat = Y at *
  have hlt : X < Y ↔ a < b := by
    rw [← Int.mul_lt_mul_right p1, e1, e2, Int.mul_lt_mul_right p2]
  have hgt : Y < X ↔ b < a := by
    rw [← Int.mul_lt_mul_right p1, e1, e2, Int.mul_lt_mul_right p2]
  congr 1
  simp only [compare, compareOfLessAndEq]
  by_cases c1 : a < b
  · rw [if_pos c1, if_pos (hlt.2 c1)]
  · rw [if_neg c1, if_neg (fun h => c1 (hlt.1 h))]
    by_cases c2 : b < a
    · rw [if_neg (by omega), if_neg (by have := hgt.2 c2; omega)]
    · rw [if_pos (by omega), if_pos (by have := fun h => c2 (hgt.1 h); have := fun h => c1 (hlt.1 h); omega)]

theorem cut_zero (s : Bool) (k d : Nat) : Ieee.Toward.zero.cut s (k * 2 ^ d) d = k := by
  unfold Ieee.Toward.cut
  simp only [Bool.toNat_false, Nat.add_zero, Nat.one_shiftLeft]
  rcases Nat.eq_zero_or_pos k with h | h
  · rw [h]; simp
  · have hl : d ≤ (k * 2 ^ d).log2 + 2 := by
      have := log2_scale (m := k * 2 ^ d) (a := 0) (V := k) (K := d) h (by rw [Nat.pow_zero, Nat.mul_one])
      omega
    rw [Nat.min_eq_left hl]
    exact Nat.mul_div_cancel _ (pow_pos2 d)

theorem toInt_int {x : Nat} {a : Int} (hx : IsI x a) : (FloatKind.f64.decode x).toInt .zero = some a := by
  obtain ⟨s, m, i, r1, hi, h1, hs⟩ := hx
  unfold FloatKind.decode
  rw [show FloatKind.f64.format = Ieee.double from rfl, r1]
  unfold Ieee.Datum.toInt Ieee.Datum.integral
  dsimp only
  have hc : Ieee.Toward.zero.cut s (m <<< i.toNat) (-i).toNat = a.natAbs := by
    rw [Nat.shiftLeft_eq]
    rcases Int.le_total 0 i with h | h
    · have e1 : (-i).toNat = 0 := by omega
      have e2 : m * 2 ^ i.toNat = a.natAbs := by
        refine Nat.eq_of_mul_eq_mul_right (pow_pos2 LP) ?_
        rw [Nat.mul_assoc, ← Nat.pow_add, show i.toNat + LP = (i + LP).toNat by omega]
        exact h1
      rw [e1, e2]
      have := cut_zero s a.natAbs 0
      simpa using this
    · have e1 : i.toNat = 0 := by omega
      have e2 : m = a.natAbs * 2 ^ (-i).toNat := by
        refine Nat.eq_of_mul_eq_mul_right (pow_pos2 (i + LP).toNat) ?_
        rw [h1, Nat.mul_assoc, ← Nat.pow_add, show (-i).toNat + (i + LP).toNat = LP by omega]
      rw [e1, Nat.pow_zero, Nat.mul_one, e2]
      exact cut_zero s _ _
  rw [hc]
  unfold Ieee.signed
  rw [Nat.shiftLeft_zero]
  congr 1
  by_cases h0 : a = 0
  · subst h0; cases s <;> rfl
  · rw [hs h0]
    by_cases hn : a < 0
    · rw [decide_eq_true hn, if_pos rfl]; omega
    · rw [decide_eq_false hn]; simp only [Bool.false_eq_true, if_false]; omega

end Go.Proofs.Ytaoodmioehkebaa
