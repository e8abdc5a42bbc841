/- Contracts: places that are turned about. -/
import Derived.Test.YtaoodmioehkebaaPlaceOf
import Derived.Test.YtaoodmioehkebaaTurn
import Derived.Test.YtaoodmioehkebaaMap
import Derived.Test.YtaoodmioehkebaaStep2
namespace Go.Proofs.Ytaoodmioehkebaa
open Go Go.RowKit
theorem tmod4 (a : Int) : (0 ≤ a ∧ a.tmod 4 = a % 4) ∨ (a < 0 ∧ a.tmod 4 = -((-a) % 4)) := by
  rcases Int.lt_or_le a 0 with h | h
  · right
    refine ⟨h, ?_⟩
    rw [← Int.tmod_eq_emod_of_nonneg (show 0 ≤ -a by omega), Int.neg_tmod, Int.neg_neg]
  · exact .inl ⟨h, Int.tmod_eq_emod_of_nonneg h⟩
theorem tmod4_b (a : Int) : -3 ≤ a.tmod 4 ∧ a.tmod 4 ≤ 3 ∧ (a.tmod 4 < 0 → a.tmod 4 + 4 = a % 4) ∧ (0 ≤ a.tmod 4 → a.tmod 4 = a % 4) := by
  rcases tmod4 a with ⟨h1, h2⟩ | ⟨h1, h2⟩ <;> rw [h2] <;> omega
theorem tmod4_c (a : Int) : (a.tmod 4 + 4).tmod 4 = a % 4 := by
  obtain ⟨h1, h2, h3, h4⟩ := tmod4_b a
  rw [Int.tmod_eq_emod_of_nonneg (by omega)]
  by_cases h : a.tmod 4 < 0
  · have := h3 h; omega
  · have := h4 (by omega); omega
set_option maxHeartbeats 400000 in
theorem numMod4 (i : Int) (w : World) (hi : I64 i) : Calls Try.prog 65 #[.int .i64 i, .int .i64 4] w fun e w' => e = .returned (.int .i64 (i % 4)) ∧ w = w' := by
  obtain ⟨h1, h2⟩ := hi
  obtain ⟨e1, e3, _, _⟩ := tmod4_b i
  have e2 := tmod4_c i
  rw [Int.tmod_eq_emod_of_nonneg (by omega)] at e2
  have E2 := hide e2
  clear e2
  go_enter Try.func65, Try.ntmps65
  go_wp2
  go_ret
  exact ⟨ret_int E2.out, rfl⟩
set_option maxHeartbeats 400000 in
theorem r1Mod4 (i : Int) (w : World) (hi : I64 i) : Calls Try.prog 80 #[.int .i64 i, .int .i64 4] w fun e w' => e = .returned (.int .i64 (i % 4)) ∧ w = w' := by
  obtain ⟨h1, h2⟩ := hi
  obtain ⟨e1, e3, e4, e5⟩ := tmod4_b i
  by_cases h0 : i.tmod 4 < 0
  · have E2 := hide (e4 h0)
    clear e4 e5
    go_enter Try.func80, Try.ntmps80
    go_wp2
    all_goals first | (exfalso; omega) | skip
    all_goals go_ret
    exact ⟨ret_int E2.out, rfl⟩
  · have E2 := hide (e5 (by omega))
    clear e4 e5
    go_enter Try.func80, Try.ntmps80
    go_wp2
    all_goals first | (exfalso; omega) | skip
    all_goals go_ret
    exact ⟨ret_int E2.out, rfl⟩
/-- A place that is turned about k times. -/
def rotP (p : Pl) : Nat → Pl
  | 0 => p
  | k + 1 => ⟨-(rotP p k).y, (rotP p k).x⟩
def pz (p : Pl) : Pl := if okP p then p else ⟨0, 0⟩
theorem okP_iff (p : Pl) : okP p = true ↔ -1048576 ≤ p.x ∧ p.x ≤ 1048576 ∧ -1048576 ≤ p.y ∧ p.y ≤ 1048576 := by unfold okP oneB; simp
theorem pz_ok (p : Pl) : okP (pz p) = true := by
  unfold pz
  split
  · assumption
  · decide
theorem rot_ok {p : Pl} (h : okP p = true) (k : Nat) : okP (rotP p k) = true := by
  induction k with
  | zero => exact h
  | succ k ih =>
    rw [okP_iff] at ih ⊢
    simp only [rotP]
    omega
def turnedP (p : Pl) (q : Int) : Pl := rotP (pz p) (q % 4).toNat
/-- The number of a place. -/
theorem plAtZ (p : Pl) : ∃ re im, IsI re (pz p).x ∧ IsI im (pz p).y ∧ ∀ w, Calls Try.prog 40 #[pVal p] w fun e w' => e = .returned (.complex .f64 re im) ∧ Grows w w' := by
  cases h : okP p with
  | true =>
    have hz : pz p = p := by unfold pz; rw [if_pos h]
    have := (okP_iff p).1 h
    rw [hz]
    exact ⟨_, _, nearest_int (by omega), nearest_int (by omega), fun w => plAt p.x p.y w h⟩
  | false =>
    have hz : pz p = ⟨0, 0⟩ := by unfold pz; rw [h]; rfl
    rw [hz]
    exact ⟨_, _, zero_int, zero_int, fun w => plAt0 p.x p.y w h⟩
theorem one_int : IsI 4607182418800017408 1 := ⟨false, 4503599627370496, -52, by decide +kernel, by rw [LP_eq]; omega, by rw [LP_eq]; decide +kernel, fun _ => by decide⟩
theorem times_i {re im : Nat} {p : Pl} (h : okP p = true) (h1 : IsI re p.x) (h2 : IsI im p.y) : ∃ re' im', cMulBits re im 0 4607182418800017408 = some (re', im') ∧ IsI re' (-p.y) ∧ IsI im' p.x := by
  rw [okP_iff] at h
  obtain ⟨ac, q4, i4⟩ := mul_int h1 zero_int (by rw [Int.mul_zero]; decide)
  obtain ⟨bd, q5, i5⟩ := mul_int h2 one_int (by rw [Int.mul_one]; omega)
  obtain ⟨r, q6, i6⟩ := sub_int i4 i5 (by rw [Int.mul_zero, Int.mul_one]; omega)
  obtain ⟨ad, q7, i7⟩ := mul_int h1 one_int (by rw [Int.mul_one]; omega)
  obtain ⟨bc, q8, i8⟩ := mul_int h2 zero_int (by rw [Int.mul_zero]; decide)
  obtain ⟨m, q9, i9⟩ := add_int i7 i8 (by rw [Int.mul_zero, Int.mul_one]; omega)
  refine ⟨r, m, ?_, ?_, ?_⟩
  · simp only [cMulBits, floatBits, show FloatKind.f64.format = Ieee.double from rfl, q4, q5, q6, q7, q8, q9, Option.bind_some]
  · rw [Int.mul_zero, Int.mul_one, Int.zero_sub] at i6; exact i6
  · rw [Int.mul_zero, Int.mul_one, Int.add_zero] at i9; exact i9
set_option maxRecDepth 20000 in
set_option maxHeartbeats 2000000 in
theorem tuTurned (p : Pl) (q : Int) (w : World) (hq : I64 q) : Calls Try.prog 28 #[pVal p, .int .i64 q] w fun e w' => e = .returned (pVal (turnedP p q)) ∧ Grows w w' := by
  obtain ⟨re, im, i1, i2, C1⟩ := plAtZ p
  have hok := pz_ok p
  have HM := hide (fun W => numMod4 q W hq)
  have H1 := hide C1
  have HV : Hid (turnedP p q = rotP (pz p) (q % 4).toNat) := rfl
  have hm0 : 0 ≤ q % 4 := by omega
  have hm4 : q % 4 < 4 := by omega
  obtain ⟨m, hm⟩ : ∃ m : Nat, q % 4 = (m : Int) := ⟨(q % 4).toNat, by omega⟩
  rw [hm] at HM HV
  have hm5 : m < 4 := by omega
  clear hq C1 hm0 hm4
  generalize turnedP p q = r at *
  generalize pz p = z at *
  have HI := hide (show ∃ re' im', re = re' ∧ im = im' ∧ IsI re' (rotP z 0).x ∧ IsI im' (rotP z 0).y from ⟨re, im, rfl, rfl, i1, i2⟩)
  clear i1 i2
  unfold pVal at H1 ⊢
  have k1 : ((w.alloc (.cells #[.int .i64 p.x, .int .i64 p.y] 23)).alloc (.cells #[.int .i64 0, .int .i64 0] 23)).cell? ⟨w.heap.size, 0, none⟩ = some (.int .i64 p.x) := by simp [go_sem]
  have k2 : ((w.alloc (.cells #[.int .i64 p.x, .int .i64 p.y] 23)).alloc (.cells #[.int .i64 0, .int .i64 0] 23)).cell? ⟨w.heap.size, 1, none⟩ = some (.int .i64 p.y) := by simp [go_sem]
  go_enter Try.func28, Try.ntmps28
  go_wp2_with (first | (go_at_call 40; refine (H1.out _).mono ?_; rintro e w' ⟨rfl, hg⟩; (first | obtain ⟨x, rfl⟩ := Grows.later2 hg | obtain ⟨x, rfl⟩ := Grows.later hg); clear hg) | (go_at_call 65; refine (HM.out _).mono ?_; rintro e w' ⟨rfl, rfl⟩))
  go_loopw [12, 5] (fun i u wr => ∃ k : Nat, k ≤ m ∧ i = .int .i64 (k : Int) ∧ (∃ a b, u = .complex .f64 a b ∧ Hid (IsI a (rotP z k).x ∧ IsI b (rotP z k).y)) ∧ ∃ y : Later ((w.alloc (.cells #[.int .i64 p.x, .int .i64 p.y] 23)).alloc (.cells #[.int .i64 0, .int .i64 0] 23)), wr = y.now) (fun i _ _ => m - (intOf i).toNat)
  case atStart =>
    obtain ⟨_, _, rfl, rfl, i1, i2⟩ := HI.out
    exact ⟨0, by omega, by go_num, ⟨_, _, rfl, i1, i2⟩, _, rfl⟩
  case round =>
    obtain ⟨k, hk, rfl, ⟨a, b, rfl, hi⟩, y, rfl⟩ := hrel
    by_cases hend : m ≤ k
    · have hkm : k = m := by omega
      subst hkm
      have hzk := rot_ok hok k
      have hb := (okP_iff _).1 hzk
      have H3 := hide (fun W => plOf hi.out.1 hi.out.2 (by omega) (by omega) W)
      have HO : Hid (ofV (rotP z k).x (rotP z k).y = .tuple #[.agg #[.int .i64 (rotP z k).x, .int .i64 (rotP z k).y], .bool true]) := by
        unfold ofV mxB
        rw [decide_eq_true (by omega), decide_eq_true (by omega)]
        rfl
      rw [HO.out] at H3
      have k3 : ((w.alloc (.cells #[.int .i64 p.x, .int .i64 p.y] 23)).alloc (.cells #[.int .i64 0, .int .i64 0] 23)).cell? ⟨w.heap.size + 1, 0, none⟩ = some (.int .i64 0) := by simp [go_sem]
      have k4 : ((w.alloc (.cells #[.int .i64 p.x, .int .i64 p.y] 23)).alloc (.cells #[.int .i64 0, .int .i64 0] 23)).cell? ⟨w.heap.size + 1, 1, none⟩ = some (.int .i64 0) := by simp [go_sem]
      have k5 : ((w.alloc (.cells #[.int .i64 p.x, .int .i64 p.y] 23)).alloc (.cells #[.int .i64 0, .int .i64 0] 23)).frozen? ⟨w.heap.size + 1, 0, none⟩ = false := by simp [go_sem]
      have k6 : ((w.alloc (.cells #[.int .i64 p.x, .int .i64 p.y] 23)).alloc (.cells #[.int .i64 0, .int .i64 0] 23)).frozen? ⟨w.heap.size + 1, 1, none⟩ = false := by simp [go_sem]
      clear hb hzk hok
      go_wp2_with (first | (go_at_call 39; refine (H3.out _).mono ?_; rintro e w' ⟨rfl, hg⟩; (first | obtain ⟨x, rfl⟩ := Grows.later2 hg | obtain ⟨x, rfl⟩ := Grows.later hg); clear hg))
      refine bodyPost_ret (v := .agg #[.int .i64 (rotP z k).x, .int .i64 (rotP z k).y]) (by simp (maxDischargeDepth := 6) [results, Try.results28, go_sem, *]) rfl ⟨by rw [HV.out]; simp, (by repeat (first | exact Grows.refl _ | refine Grows.now ?_ _ | refine Grows.new ?_ _ | refine Grows.drewN ?_ _ | refine Grows.drew ?_ | assumption | (refine Grows.set ?_ (by first | omega | (simp; done) | (simp; omega)) _)))⟩
    · obtain ⟨a', b', q1, i3, i4⟩ := times_i (rot_ok hok k) hi.out.1 hi.out.2
      have o1 := hide (fun t w => run_complex_mul (P := Try.prog) w t _ _ _ _ _ _ q1)
      have HJ := hide (And.intro i3 i4)
      clear q1 i3 i4 hok
      go_wp2_with (first | (simp only [o1.out]))
      go_roundw
      case measure => simp [intOf]; omega
      case rel => exact ⟨k + 1, by omega, by go_num, ⟨_, _, rfl, HJ⟩, _, rfl⟩
theorem turned_ok {p : Pl} (h : okP p = true) (q : Int) : turnedP p q = rotP p (q % 4).toNat := by unfold turnedP pz; rw [if_pos h]
theorem turned_no {p : Pl} (h : okP p = false) (q : Int) : turnedP p q = ⟨0, 0⟩ := by
  unfold turnedP pz
  rw [h]
  generalize (q % 4).toNat = k
  show rotP ⟨0, 0⟩ k = _
  induction k with
  | zero => rfl
  | succ k ih => simp only [rotP, ih]; rfl
/-- A world in which a place lies in a box, and a nought in the next one. -/
def BoxP (w wr : World) (g : Nat) (p : Pl) : Prop := Grows w wr ∧ w.heap.size = g ∧ wr.cell? ⟨g, 0, none⟩ = some (.int .i64 p.x) ∧ wr.cell? ⟨g, 1, none⟩ = some (.int .i64 p.y) ∧
  wr.cell? ⟨g + 1, 0, none⟩ = some (.int .i64 0) ∧ wr.cell? ⟨g + 1, 1, none⟩ = some (.int .i64 0) ∧
  wr.frozen? ⟨g, 0, none⟩ = false ∧ wr.frozen? ⟨g, 1, none⟩ = false ∧ wr.frozen? ⟨g + 1, 0, none⟩ = false ∧ wr.frozen? ⟨g + 1, 1, none⟩ = false
set_option maxRecDepth 20000 in
set_option maxHeartbeats 2000000 in
theorem r10Turned (p : Pl) (q : Int) (w : World) (hq : I64 q) : Calls Try.prog 44 #[pVal p, .int .i64 q] w fun e w' => e = .returned (pVal (turnedP p q)) ∧ Grows w w' := by
  have C1 := fun W => r9One p.x p.y W
  have HM := hide (fun W => r1Mod4 q W hq)
  cases hok : okP p with
  | false =>
    have HV := hide (turned_no hok q)
    unfold okP at hok
    rw [hok] at C1
    have H1 := hide C1
    clear C1 hok hq
    generalize turnedP p q = r at *
    unfold pVal
    have k1 : ((w.alloc (.cells #[.int .i64 p.x, .int .i64 p.y] 23)).alloc (.cells #[.int .i64 0, .int .i64 0] 23)).cell? ⟨w.heap.size + 1, 0, none⟩ = some (.int .i64 0) := by simp [go_sem]
    have k2 : ((w.alloc (.cells #[.int .i64 p.x, .int .i64 p.y] 23)).alloc (.cells #[.int .i64 0, .int .i64 0] 23)).cell? ⟨w.heap.size + 1, 1, none⟩ = some (.int .i64 0) := by simp [go_sem]
    have k3 : ((w.alloc (.cells #[.int .i64 p.x, .int .i64 p.y] 23)).alloc (.cells #[.int .i64 0, .int .i64 0] 23)).frozen? ⟨w.heap.size + 1, 0, none⟩ = false := by simp [go_sem]
    have k4 : ((w.alloc (.cells #[.int .i64 p.x, .int .i64 p.y] 23)).alloc (.cells #[.int .i64 0, .int .i64 0] 23)).frozen? ⟨w.heap.size + 1, 1, none⟩ = false := by simp [go_sem]
    go_enter Try.func44, Try.ntmps44
    go_wp2_with (first | (go_at_call 26; refine (H1.out _).mono ?_; rintro e w' ⟨rfl, hg⟩; (first | obtain ⟨x, rfl⟩ := Grows.later2 hg | obtain ⟨x, rfl⟩ := Grows.later hg); clear hg))
    refine bodyPost_ret (v := .agg #[.int .i64 0, .int .i64 0]) (by simp (maxDischargeDepth := 6) [results, Try.results44, go_sem, *]) rfl ⟨by rw [HV.out], (by repeat (first | exact Grows.refl _ | refine Grows.now ?_ _ | refine Grows.new ?_ _ | refine Grows.drewN ?_ _ | refine Grows.drew ?_ | assumption | (refine Grows.set ?_ (by first | omega | (simp; done) | (simp; omega)) _)))⟩
  | true =>
    have HV : Hid (turnedP p q = rotP p (q % 4).toNat) := turned_ok hok q
    have hm0 : 0 ≤ q % 4 := by omega
    have hm4 : q % 4 < 4 := by omega
    obtain ⟨m, hm⟩ : ∃ m : Nat, q % 4 = (m : Int) := ⟨(q % 4).toNat, by omega⟩
    rw [hm] at HM HV
    have hm5 : m < 4 := by omega
    have HK := hide (rot_ok hok)
    have HZ : Hid (rotP p 0 = p) := rfl
    unfold okP at hok
    rw [hok] at C1
    have H1 := hide C1
    clear hq C1 hm0 hm4 hok
    generalize turnedP p q = r at *
    unfold pVal
    have k1 : ((w.alloc (.cells #[.int .i64 p.x, .int .i64 p.y] 23)).alloc (.cells #[.int .i64 0, .int .i64 0] 23)).cell? ⟨w.heap.size, 0, none⟩ = some (.int .i64 p.x) := by simp [go_sem]
    have k2 : ((w.alloc (.cells #[.int .i64 p.x, .int .i64 p.y] 23)).alloc (.cells #[.int .i64 0, .int .i64 0] 23)).cell? ⟨w.heap.size, 1, none⟩ = some (.int .i64 p.y) := by simp [go_sem]
    have k3 : ((w.alloc (.cells #[.int .i64 p.x, .int .i64 p.y] 23)).alloc (.cells #[.int .i64 0, .int .i64 0] 23)).cell? ⟨w.heap.size + 1, 0, none⟩ = some (.int .i64 0) := by simp [go_sem]
    have k4 : ((w.alloc (.cells #[.int .i64 p.x, .int .i64 p.y] 23)).alloc (.cells #[.int .i64 0, .int .i64 0] 23)).cell? ⟨w.heap.size + 1, 1, none⟩ = some (.int .i64 0) := by simp [go_sem]
    have k5 : ((w.alloc (.cells #[.int .i64 p.x, .int .i64 p.y] 23)).alloc (.cells #[.int .i64 0, .int .i64 0] 23)).frozen? ⟨w.heap.size, 0, none⟩ = false := by simp [go_sem]
    have k6 : ((w.alloc (.cells #[.int .i64 p.x, .int .i64 p.y] 23)).alloc (.cells #[.int .i64 0, .int .i64 0] 23)).frozen? ⟨w.heap.size, 1, none⟩ = false := by simp [go_sem]
    have k7 : ((w.alloc (.cells #[.int .i64 p.x, .int .i64 p.y] 23)).alloc (.cells #[.int .i64 0, .int .i64 0] 23)).frozen? ⟨w.heap.size + 1, 0, none⟩ = false := by simp [go_sem]
    have k8 : ((w.alloc (.cells #[.int .i64 p.x, .int .i64 p.y] 23)).alloc (.cells #[.int .i64 0, .int .i64 0] 23)).frozen? ⟨w.heap.size + 1, 1, none⟩ = false := by simp [go_sem]
    go_enter Try.func44, Try.ntmps44
    go_wp2_with (first | (go_at_call 26; refine (H1.out _).mono ?_; rintro e w' ⟨rfl, hg⟩; (first | obtain ⟨x, rfl⟩ := Grows.later2 hg | obtain ⟨x, rfl⟩ := Grows.later hg); clear hg))
    go_loopw [5] (fun i wr => ∃ k : Nat, k ≤ m ∧ i = .int .i64 (k : Int) ∧ BoxP w wr w.heap.size (rotP p k)) (fun i _ => m - (intOf i).toNat)
    case atStart =>
      refine ⟨0, by omega, by go_num, ?_⟩
      rw [show rotP p 0 = p from HZ.out]
      refine ⟨(by repeat (first | exact Grows.refl _ | refine Grows.now ?_ _ | refine Grows.new ?_ _ | refine Grows.drewN ?_ _ | refine Grows.drew ?_ | assumption | (refine Grows.set ?_ (by first | omega | (simp; done) | (simp; omega)) _))), rfl, ?_, ?_, ?_, ?_, ?_, ?_, ?_, ?_⟩ <;> simp [go_sem, *]
    case round =>
      obtain ⟨k, hk, rfl, hg, _, a1, a2, a3, a4, a5, a6, a7, a8⟩ := hrel
      clear k1 k2 k3 k4 k5 k6 k7 k8
      by_cases hend : m ≤ k
      · have hkm : k = m := by omega
        subst hkm
        go_wp2_with (first | (go_at_call 80; refine (HM.out _).mono ?_; rintro e w' ⟨rfl, rfl⟩))
        refine bodyPost_ret (v := .agg #[.int .i64 (rotP p k).x, .int .i64 (rotP p k).y]) (by simp (maxDischargeDepth := 6) [results, Try.results44, go_sem, *]) rfl ⟨by rw [HV.out]; simp, (by repeat (first | exact Grows.refl _ | refine Grows.now ?_ _ | refine Grows.new ?_ _ | refine Grows.drewN ?_ _ | refine Grows.drew ?_ | assumption | (refine Grows.set ?_ (by first | omega | (simp; done) | (simp; omega)) _)))⟩
      · have hb := (okP_iff _).1 (HK.out k)
        go_wp2_with (first | (go_at_call 80; refine (HM.out _).mono ?_; rintro e w' ⟨rfl, rfl⟩))
        go_roundw
        case measure => simp [intOf]; omega
        case rel =>
          refine ⟨k + 1, by omega, by go_num, (by repeat (first | exact Grows.refl _ | refine Grows.now ?_ _ | refine Grows.new ?_ _ | refine Grows.drewN ?_ _ | refine Grows.drew ?_ | assumption | (refine Grows.set ?_ (by first | omega | (simp; done) | (simp; omega)) _))), rfl, ?_, ?_, ?_, ?_, ?_, ?_, ?_, ?_⟩ <;> simp (maxDischargeDepth := 6) [go_sem, rotP, *]
end Go.Proofs.Ytaoodmioehkebaa
