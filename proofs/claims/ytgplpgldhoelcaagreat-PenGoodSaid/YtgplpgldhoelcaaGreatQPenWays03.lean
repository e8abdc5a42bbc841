/- Contract: highroadref02.Up. -/
import Derived.StillTail
import Derived.Deep.DeepCutAuto
import Derived.Test.YtgplpgldhoelcaaGreatQPenWays01
import Derived.Test.YtgplpgldhoelcaaGreatQPenWays02
namespace Go.Proofs.YtgplpgldhoelcaaGreat
open Go Go.RowKit
attribute [local go_sem] Oper.semAt_some
theorem castMin (a b : Nat) : ((min a b : Nat) : Int) = min (a : Int) (b : Int) := by omega
theorem min_big {q K A m : Nat} (h : 0 < q) (hm : m < K * K) : min (q * (K * K) + A) m = m := by
  have := Nat.le_mul_of_pos_left (K * K) h
  omega
theorem digits {V d p0 p1 p2 b : Nat} (hV : V = p0 * (b * b) + p1 * b + p2) (hd : 0 < d) (h1 : p1 < b) (h2 : p2 < b) : (p0 % d * b + p1) / d < b ∧ ((p0 % d * b + p1) % d * b + p2) / d < b ∧ V / d = p0 / d * (b * b) + (p0 % d * b + p1) / d * b + ((p0 % d * b + p1) % d * b + p2) / d ∧ V % d = ((p0 % d * b + p1) % d * b + p2) % d := by
  have lt : ∀ r p : Nat, r < d → p < b → (r * b + p) / d < b := fun r p hr hp => lt_hi (V := r * b + p) (hi := r) (lo := p) (B := b) rfl hp hr
  have e0 := Nat.div_add_mod p0 d
  have m0 := Nat.mod_lt p0 hd
  obtain ⟨x1, hx1⟩ : ∃ x, x = p0 % d * b + p1 := ⟨_, rfl⟩
  have e1 := Nat.div_add_mod x1 d
  have m1 := Nat.mod_lt x1 hd
  obtain ⟨x2, hx2⟩ : ∃ x, x = x1 % d * b + p2 := ⟨_, rfl⟩
  have e2 := Nat.div_add_mod x2 d
  have m2 := Nat.mod_lt x2 hd
  rw [← hx1, ← hx2]
  refine ⟨by rw [hx1]; exact lt _ _ m0 h1, by rw [hx2]; exact lt _ _ m1 h2, ?_⟩
  have key : V = d * (p0 / d * (b * b) + x1 / d * b + x2 / d) + x2 % d := by
    have a1 : p0 * (b * b) = d * (p0 / d) * (b * b) + p0 % d * (b * b) := by rw [← Nat.add_mul, e0]
    have a2 : x1 * b = d * (x1 / d) * b + x1 % d * b := by rw [← Nat.add_mul, e1]
    have a3 : x1 * b = p0 % d * b * b + p1 * b := by rw [hx1, Nat.add_mul]
    have a4 : p0 % d * b * b = p0 % d * (b * b) := Nat.mul_assoc _ _ _
    rw [hV, Nat.mul_add, Nat.mul_add, ← Nat.mul_assoc d, ← Nat.mul_assoc d]
    omega
  rw [key]
  exact ⟨by rw [Nat.mul_add_div hd, Nat.div_eq_of_lt m2, Nat.add_zero], by rw [Nat.mul_add_mod, Nat.mod_eq_of_lt m2]⟩
set_option maxRecDepth 20000 in
set_option maxHeartbeats 4000000 in
theorem rUp (x : Nat) (a b : Int) (m : Nat) (hx : x < 18446744073709551616) (hm : m < 18446744073709551616) (ha : U64 a) (w : World) :
    Calls Tryz.prog 117 #[.int .u64 (x : Int), .agg #[.int .u64 a, .int .u64 b], .int .u64 (m : Int)] w fun e w' => e = .returned (.int .u64 (upV x a b m : Int)) ∧ Grows w w' := by
  have C1 := hide (fun (W : World) => rRight a b W ha)
  unfold upV
  cases hr : rrB a b with
  | false =>
    rw [hr] at C1
    clear hr
    rw [if_neg (by simp)]
    go_enter Tryz.func117, Tryz.ntmps117
    go_wp2_with (first | (go_at_call 94; refine (C1.out _).mono ?_; rintro e w' ⟨rfl, hg⟩; (first | obtain ⟨x, rfl⟩ := Grows.later2 hg | obtain ⟨x, rfl⟩ := Grows.later hg); clear hg))
    go_ret
    exact ⟨rfl, GG⟩
  | true =>
    rw [hr] at C1
    rw [if_pos rfl]
    obtain ⟨r1, r2, r3, r4⟩ := rrB_spec hr
    obtain ⟨aN, rfl⟩ : ∃ aN : Nat, a = (aN : Int) := ⟨a.toNat, by omega⟩
    obtain ⟨d, rfl⟩ : ∃ d : Nat, b = (d : Int) := ⟨b.toNat, by omega⟩
    rw [Int.toNat_natCast, Int.toNat_natCast]
    have C2 := hide (fun (W : World) => show Calls Tryz.prog 119 #[.int .u64 (x : Int), .int .u64 (aN : Int)] W fun e w' => e = .returned (.agg #[.int .u64 ((x * aN / 18446744073709551616 : Nat) : Int), .int .u64 ((x * aN / 4294967296 % 4294967296 : Nat) : Int), .int .u64 ((x * aN % 4294967296 : Nat) : Int)]) ∧ Grows W w' from by
      have hq := rTimes (x : Int) (aN : Int) W ⟨by omega, by omega⟩ ⟨by omega, by omega⟩
      rw [← Int.natCast_mul] at hq
      exact hq)
    have hVm : x * aN < 18446744073709551616 * 1048577 := by
      refine Nat.lt_of_le_of_lt (Nat.mul_le_mul_left x (show aN ≤ 1048576 by omega)) ?_
      omega
    generalize hV : x * aN = V at *
    obtain ⟨p0, hp0⟩ : ∃ p, p = V / 18446744073709551616 := ⟨_, rfl⟩
    obtain ⟨p1, hp1⟩ : ∃ p, p = V / 4294967296 % 4294967296 := ⟨_, rfl⟩
    obtain ⟨p2, hp2⟩ : ∃ p, p = V % 4294967296 := ⟨_, rfl⟩
    have hV3 : V = p0 * (4294967296 * 4294967296) + p1 * 4294967296 + p2 := by omega
    have lp0 : p0 < 1048577 := by omega
    have lp1 : p1 < 4294967296 := by omega
    have lp2 : p2 < 4294967296 := by omega
    rw [← hp0, ← hp1, ← hp2] at C2
    obtain ⟨l1, l2, hq, hmod⟩ := digits hV3 (show 0 < d by omega) lp1 lp2
    obtain ⟨q0, hq0⟩ : ∃ q, q = p0 / d := ⟨_, rfl⟩
    obtain ⟨s0, hs0⟩ : ∃ q, q = p0 % d := ⟨_, rfl⟩
    rw [← hs0] at l1 l2 hq hmod
    rw [← hq0] at hq
    obtain ⟨x1, hx1⟩ : ∃ q, q = s0 * 4294967296 + p1 := ⟨_, rfl⟩
    rw [← hx1] at l1 l2 hq hmod
    obtain ⟨q1, hq1⟩ : ∃ q, q = x1 / d := ⟨_, rfl⟩
    obtain ⟨s1, hs1⟩ : ∃ q, q = x1 % d := ⟨_, rfl⟩
    rw [← hs1] at l2 hq hmod
    rw [← hq1] at l1 hq
    obtain ⟨x2, hx2⟩ : ∃ q, q = s1 * 4294967296 + p2 := ⟨_, rfl⟩
    rw [← hx2] at l2 hq hmod
    obtain ⟨q2, hq2⟩ : ∃ q, q = x2 / d := ⟨_, rfl⟩
    obtain ⟨s2, hs2⟩ : ∃ q, q = x2 % d := ⟨_, rfl⟩
    rw [← hs2] at hmod
    rw [← hq2] at l2 hq
    have b0 : s0 < d := by rw [hs0]; exact Nat.mod_lt _ (by omega)
    have b1 : s1 < d := by rw [hs1]; exact Nat.mod_lt _ (by omega)
    have b2 : s2 < d := by rw [hs2]; exact Nat.mod_lt _ (by omega)
    have bq0 : q0 ≤ p0 := by rw [hq0]; exact Nat.div_le_self _ _
    have td : ∀ u v : Nat, (u : Int).tdiv (v : Int) = ((u / v : Nat) : Int) := fun u v => by rw [Int.tdiv_eq_ediv_of_nonneg (by omega), ← Int.natCast_ediv]
    have tm : ∀ u v : Nat, (u : Int).tmod (v : Int) = ((u % v : Nat) : Int) := fun u v => by rw [Int.tmod_eq_emod_of_nonneg (by omega), ← Int.natCast_emod]
    have E1 : IntKind.u64.wrap ((p0 : Int).tdiv (d : Int)) = (q0 : Int) := by rw [td, ← hq0]; exact wrapI (by omega)
    have E2 : (p0 : Int).tmod (d : Int) = (s0 : Int) := by rw [tm, ← hs0]
    have E3 : IntKind.u64.wrap (IntKind.u64.wrap ((s0 : Int) * 4294967296) + (p1 : Int)) = (x1 : Int) := by
      rw [wrap2, show (s0 : Int) * 4294967296 + (p1 : Int) = (x1 : Int) by omega]
      exact wrapI (by omega)
    have E4 : IntKind.u64.wrap ((x1 : Int).tdiv (d : Int)) = (q1 : Int) := by rw [td, ← hq1]; exact wrapI (by omega)
    have E5 : (x1 : Int).tmod (d : Int) = (s1 : Int) := by rw [tm, ← hs1]
    have E6 : IntKind.u64.wrap (IntKind.u64.wrap ((s1 : Int) * 4294967296) + (p2 : Int)) = (x2 : Int) := by
      rw [wrap2, show (s1 : Int) * 4294967296 + (p2 : Int) = (x2 : Int) by omega]
      exact wrapI (by omega)
    have E7 : IntKind.u64.wrap ((x2 : Int).tdiv (d : Int)) = (q2 : Int) := by rw [td, ← hq2]; exact wrapI (by omega)
    have E8 : (x2 : Int).tmod (d : Int) = (s2 : Int) := by rw [tm, ← hs2]
    have E9 : IntKind.u64.wrap (p0 : Int) = (p0 : Int) := wrapI (by omega)
    have W0 : IntKind.u64.wrap 0 = 0 := rfl
    have hd0 : ((d : Int) == 0) = false := beq_eq_false_iff_ne.2 (by omega)
    have hd1 : ¬ (d : Int) = 0 := by omega
    unfold cl
    rw [hmod, hq]
    obtain ⟨n, hn⟩ : ∃ n, n = q1 * 4294967296 + q2 := ⟨_, rfl⟩
    have E10 : IntKind.u64.wrap (IntKind.u64.wrap ((q1 : Int) * 4294967296) + (q2 : Int)) = (n : Int) := by
      rw [wrap2, show (q1 : Int) * 4294967296 + (q2 : Int) = (n : Int) by omega]
      exact wrapI (by omega)
    by_cases hz0 : 0 < q0
    · rw [show q0 * (4294967296 * 4294967296) + q1 * 4294967296 + q2 + (if s2 = 0 then 0 else 1) = q0 * (4294967296 * 4294967296) + (q1 * 4294967296 + q2 + (if s2 = 0 then 0 else 1)) by rw [Nat.add_assoc, Nat.add_assoc, ← Nat.add_assoc (q1 * 4294967296)], min_big hz0 hm]
      have hb9 : decide ((0 : Int) < (q0 : Int)) = true := decide_eq_true (by omega)
      clear hr r1 r2 r3 r4 hVm hV hV3 hp0 hp1 hp2 lp0 lp1 lp2 l1 l2 hq hmod hq0 hs0 hx1 hq1 hs1 hx2 hq2 hs2 b0 b1 b2 bq0 td tm hn hx hm ha hz0
      generalize (x : Int) = xI at *
      generalize (aN : Int) = aNI at *
      generalize (d : Int) = dI at *
      generalize (p0 : Int) = p0I at *
      generalize (p1 : Int) = p1I at *
      generalize (p2 : Int) = p2I at *
      generalize (q0 : Int) = q0I at *
      generalize (s0 : Int) = s0I at *
      generalize (x1 : Int) = x1I at *
      generalize (q1 : Int) = q1I at *
      generalize (s1 : Int) = s1I at *
      generalize (x2 : Int) = x2I at *
      generalize (q2 : Int) = q2I at *
      generalize (s2 : Int) = s2I at *
      generalize (n : Int) = nI at *
      generalize (m : Int) = mI at *
      go_enter Tryz.func117, Tryz.ntmps117
      go_wp2_with (first
        | (go_at_call 94; refine (C1.out _).mono ?_; rintro e w' ⟨rfl, hg⟩; obtain ⟨y1, rfl⟩ := hg.later; clear hg)
        | (go_at_call 119; refine (C2.out _).mono ?_; rintro e w' ⟨rfl, hg⟩; obtain ⟨y2, rfl⟩ := hg.later; clear hg))
      refine wp_loop_rounds 4 ?_
      repeat (any_goals (rw [rounds_succ]; go_wp2))
      go_ret
      exact ⟨rfl, GG⟩
    · have hz1 : q0 = 0 := Nat.eq_zero_of_not_pos hz0
      have hb9 : decide ((0 : Int) < (q0 : Int)) = false := by rw [hz1]; rfl
      have hn2 : n < 18446744073709551616 := by clear E1 E2 E3 E4 E5 E6 E7 E8 E9 E10 hV3 hVm; omega
      rw [show q0 * (4294967296 * 4294967296) + q1 * 4294967296 + q2 = n by rw [hz1, Nat.zero_mul, Nat.zero_add, hn]]
      clear hz0 hz1
      by_cases hs : s2 = 0
      · rw [if_pos hs, Nat.add_zero, show ((min n m : Nat) : Int) = min (n : Int) (m : Int) from castMin n m]
        have hb8 : decide ((0 : Int) < (s2 : Int)) = false := by rw [hs]; rfl
        clear hr r1 r2 r3 r4 hVm hV hV3 hp0 hp1 hp2 lp0 lp1 lp2 l1 l2 hq hmod hq0 hs0 hx1 hq1 hs1 hx2 hq2 hs2 b0 b1 b2 bq0 td tm hn hx hm ha hs hn2
        generalize (x : Int) = xI at *
        generalize (aN : Int) = aNI at *
        generalize (d : Int) = dI at *
        generalize (p0 : Int) = p0I at *
        generalize (p1 : Int) = p1I at *
        generalize (p2 : Int) = p2I at *
        generalize (q0 : Int) = q0I at *
        generalize (s0 : Int) = s0I at *
        generalize (x1 : Int) = x1I at *
        generalize (q1 : Int) = q1I at *
        generalize (s1 : Int) = s1I at *
        generalize (x2 : Int) = x2I at *
        generalize (q2 : Int) = q2I at *
        generalize (s2 : Int) = s2I at *
        generalize (n : Int) = nI at *
        generalize (m : Int) = mI at *
        go_enter Tryz.func117, Tryz.ntmps117
        go_wp2_with (first
          | (go_at_call 94; refine (C1.out _).mono ?_; rintro e w' ⟨rfl, hg⟩; obtain ⟨y1, rfl⟩ := hg.later; clear hg)
          | (go_at_call 119; refine (C2.out _).mono ?_; rintro e w' ⟨rfl, hg⟩; obtain ⟨y2, rfl⟩ := hg.later; clear hg))
        refine wp_loop_rounds 4 ?_
        repeat (any_goals (rw [rounds_succ]; go_wp2))
        go_ret
        exact ⟨rfl, GG⟩
      · rw [if_neg hs]
        have hb8 : decide ((0 : Int) < (s2 : Int)) = true := decide_eq_true (by omega)
        by_cases hmax : n = 18446744073709551615
        · rw [show min (n + 1) m = m by clear E1 E2 E3 E4 E5 E6 E7 E8 E9 E10 hV3 hVm; omega]
          have hb7 : ((n : Int) == 18446744073709551615) = true := by rw [hmax]; rfl
          clear hr r1 r2 r3 r4 hVm hV hV3 hp0 hp1 hp2 lp0 lp1 lp2 l1 l2 hq hmod hq0 hs0 hx1 hq1 hs1 hx2 hq2 hs2 b0 b1 b2 bq0 td tm hn hx hm ha hs hn2 hmax
          generalize (x : Int) = xI at *
          generalize (aN : Int) = aNI at *
          generalize (d : Int) = dI at *
          generalize (p0 : Int) = p0I at *
          generalize (p1 : Int) = p1I at *
          generalize (p2 : Int) = p2I at *
          generalize (q0 : Int) = q0I at *
          generalize (s0 : Int) = s0I at *
          generalize (x1 : Int) = x1I at *
          generalize (q1 : Int) = q1I at *
          generalize (s1 : Int) = s1I at *
          generalize (x2 : Int) = x2I at *
          generalize (q2 : Int) = q2I at *
          generalize (s2 : Int) = s2I at *
          generalize (n : Int) = nI at *
          generalize (m : Int) = mI at *
          go_enter Tryz.func117, Tryz.ntmps117
          go_wp2_with (first
            | (go_at_call 94; refine (C1.out _).mono ?_; rintro e w' ⟨rfl, hg⟩; obtain ⟨y1, rfl⟩ := hg.later; clear hg)
            | (go_at_call 119; refine (C2.out _).mono ?_; rintro e w' ⟨rfl, hg⟩; obtain ⟨y2, rfl⟩ := hg.later; clear hg))
          refine wp_loop_rounds 4 ?_
          repeat (any_goals (rw [rounds_succ]; go_wp2))
          go_ret
          exact ⟨rfl, GG⟩
        · have hb7 : ((n : Int) == 18446744073709551615) = false := beq_eq_false_iff_ne.2 (by clear E1 E2 E3 E4 E5 E6 E7 E8 E9 E10 hV3 hVm; omega)
          have E11 : IntKind.u64.wrap ((n : Int) + 1) = ((n + 1 : Nat) : Int) := by
            rw [show (n : Int) + 1 = ((n + 1 : Nat) : Int) from rfl]
            exact wrapI (by clear E1 E2 E3 E4 E5 E6 E7 E8 E9 E10 hV3 hVm; omega)
          rw [show ((min (n + 1) m : Nat) : Int) = min ((n + 1 : Nat) : Int) (m : Int) from castMin (n + 1) m]
          generalize hn1 : n + 1 = n1 at *
          clear hr r1 r2 r3 r4 hVm hV hV3 hp0 hp1 hp2 lp0 lp1 lp2 l1 l2 hq hmod hq0 hs0 hx1 hq1 hs1 hx2 hq2 hs2 b0 b1 b2 bq0 td tm hn hx hm ha hs hn2 hmax hn1
          generalize (n1 : Int) = n1I at *
          generalize (x : Int) = xI at *
          generalize (aN : Int) = aNI at *
          generalize (d : Int) = dI at *
          generalize (p0 : Int) = p0I at *
          generalize (p1 : Int) = p1I at *
          generalize (p2 : Int) = p2I at *
          generalize (q0 : Int) = q0I at *
          generalize (s0 : Int) = s0I at *
          generalize (x1 : Int) = x1I at *
          generalize (q1 : Int) = q1I at *
          generalize (s1 : Int) = s1I at *
          generalize (x2 : Int) = x2I at *
          generalize (q2 : Int) = q2I at *
          generalize (s2 : Int) = s2I at *
          generalize (n : Int) = nI at *
          generalize (m : Int) = mI at *
          go_enter Tryz.func117, Tryz.ntmps117
          go_wp2_with (first
            | (go_at_call 94; refine (C1.out _).mono ?_; rintro e w' ⟨rfl, hg⟩; obtain ⟨y1, rfl⟩ := hg.later; clear hg)
            | (go_at_call 119; refine (C2.out _).mono ?_; rintro e w' ⟨rfl, hg⟩; obtain ⟨y2, rfl⟩ := hg.later; clear hg))
          refine wp_loop_rounds 4 ?_
          repeat (any_goals (rw [rounds_succ]; go_wp2))
          go_ret
          exact ⟨rfl, GG⟩
end Go.Proofs.YtgplpgldhoelcaaGreat

namespace Go.Proofs.YtgplpgldhoelcaaGreat
def cntN (nd : Nat → Nat) (v j : Nat) : Nat := ((List.range j).filter fun i => nd i == v).length
def begN (nd : Nat → Nat) (m v : Nat) : Nat := ((List.range m).filter fun i => decide (nd i < v)).length
def rowN (nd : Nat → Nat) (m v : Nat) : List Nat := (List.range m).filter fun i => nd i == v
def posN (nd : Nat → Nat) (m i : Nat) : Nat := begN nd m (nd i) + cntN nd (nd i) i
theorem cntN_zero (nd : Nat → Nat) (v : Nat) : cntN nd v 0 = 0 := rfl
theorem cntN_succ (nd : Nat → Nat) (v j : Nat) : cntN nd v (j + 1) = cntN nd v j + if nd j = v then 1 else 0 := by
  unfold cntN
  rw [List.range_succ, List.filter_append, List.length_append]
  by_cases h : nd j = v <;> simp [h]
theorem cntN_mono (nd : Nat → Nat) (v : Nat) {i j : Nat} (h : i ≤ j) : cntN nd v i ≤ cntN nd v j := by
  induction j with
  | zero => rw [Nat.le_zero.1 h]; exact Nat.le_refl _
  | succ j ih =>
    rcases Nat.lt_or_ge i (j + 1) with h1 | h1
    · have := ih (by omega)
      rw [cntN_succ]; omega
    · rw [show i = j + 1 by omega]; exact Nat.le_refl _
theorem cntN_lt (nd : Nat → Nat) {i j : Nat} (h : i < j) : cntN nd (nd i) i < cntN nd (nd i) j := by
  have h1 := cntN_succ nd (nd i) i
  rw [if_pos rfl] at h1
  have h2 := cntN_mono nd (nd i) (show i + 1 ≤ j from h)
  omega
theorem begN_succ (nd : Nat → Nat) (m v : Nat) : begN nd m (v + 1) = begN nd m v + cntN nd v m := by
  unfold begN cntN
  induction m with
  | zero => rfl
  | succ m ih =>
    rw [List.range_succ, List.filter_append, List.filter_append, List.filter_append, List.length_append, List.length_append, List.length_append, ih]
    by_cases h : nd m = v
    · simp [h]; omega
    · by_cases h2 : nd m < v
      · have h3 : nd m < v + 1 := by omega
        simp [h, h2, h3]; omega
      · have h3 : ¬ nd m < v + 1 := by omega
        simp [h, h2, h3]
theorem begN_zero (nd : Nat → Nat) (m : Nat) : begN nd m 0 = 0 := by unfold begN; simp
theorem begN_le (nd : Nat → Nat) (m v : Nat) : begN nd m v ≤ m := by
  unfold begN
  exact Nat.le_trans (List.length_filter_le _ _) (by simp)
theorem begN_mono (nd : Nat → Nat) (m : Nat) {u v : Nat} (h : u ≤ v) : begN nd m u ≤ begN nd m v := by
  induction v with
  | zero => rw [Nat.le_zero.1 h]; exact Nat.le_refl _
  | succ v ih =>
    rcases Nat.lt_or_ge u (v + 1) with h1 | h1
    · have := ih (by omega)
      rw [begN_succ]; omega
    · rw [show u = v + 1 by omega]; exact Nat.le_refl _
theorem posN_lt (nd : Nat → Nat) (m i : Nat) (hi : i < m) : posN nd m i < begN nd m (nd i + 1) := by
  rw [begN_succ]
  have := cntN_lt nd hi
  unfold posN; omega
theorem posN_m (nd : Nat → Nat) (m i : Nat) (hi : i < m) : posN nd m i < m := Nat.lt_of_lt_of_le (posN_lt nd m i hi) (begN_le _ _ _)
theorem posN_ne (nd : Nat → Nat) (m : Nat) {i j : Nat} (h : i < j) (hj : j < m) : posN nd m i ≠ posN nd m j := by
  rcases Nat.lt_trichotomy (nd i) (nd j) with h1 | h1 | h1
  · have h2 := posN_lt nd m i (by omega)
    have h3 := begN_mono nd m (show nd i + 1 ≤ nd j from h1)
    have : begN nd m (nd j) ≤ posN nd m j := by unfold posN; omega
    omega
  · have := cntN_lt nd h
    unfold posN
    rw [h1] at this ⊢
    omega
  · have h2 := posN_lt nd m j hj
    have h3 := begN_mono nd m (show nd j + 1 ≤ nd i from h1)
    have : begN nd m (nd i) ≤ posN nd m i := by unfold posN; omega
    omega
theorem rowN_len (nd : Nat → Nat) (m v : Nat) : (rowN nd m v).length = cntN nd v m := rfl
theorem rowN_at (nd : Nat → Nat) (v : Nat) : ∀ m k i, (rowN nd m v)[k]? = some i → i < m ∧ nd i = v ∧ cntN nd v i = k
  | 0, k, i, h => by simp [rowN] at h
  | m + 1, k, i, h => by
    have e : rowN nd (m + 1) v = rowN nd m v ++ (if nd m = v then [m] else []) := by
      unfold rowN
      rw [List.range_succ, List.filter_append]
      by_cases hv : nd m = v <;> simp [hv]
    rw [e] at h
    rcases Nat.lt_or_ge k (rowN nd m v).length with hk | hk
    · rw [List.getElem?_append_left hk] at h
      obtain ⟨h1, h2, h3⟩ := rowN_at nd v m k i h
      exact ⟨by omega, h2, h3⟩
    · rw [List.getElem?_append_right hk] at h
      by_cases hv : nd m = v
      · rw [if_pos hv] at h
        rcases Nat.eq_zero_or_pos (k - (rowN nd m v).length) with h0 | h0
        · rw [h0] at h
          simp at h
          subst h
          have := rowN_len nd m v
          exact ⟨by omega, hv, by omega⟩
        · rw [List.getElem?_eq_none (by simp; omega)] at h
          cases h
      · rw [if_neg hv] at h
        simp at h
theorem rowN_lt (nd : Nat → Nat) {m v k i : Nat} (h : (rowN nd m v)[k]? = some i) : i < m := (rowN_at nd v m k i h).1
theorem laid_row (nd : Nat → Nat) (m v : Nat) (xs : List Nat) (_ : xs.length = m) (h : ∀ i, i < m → xs[posN nd m i]? = some i) : (xs.drop (begN nd m v)).take (cntN nd v m) = rowN nd m v := by
  apply List.ext_getElem?
  intro k
  rcases Nat.lt_or_ge k (cntN nd v m) with hk | hk
  · rw [List.getElem?_take, if_pos hk, List.getElem?_drop]
    have hk' : k < (rowN nd m v).length := hk
    obtain ⟨i, hi⟩ : ∃ i, (rowN nd m v)[k]? = some i := ⟨_, List.getElem?_eq_getElem hk'⟩
    rw [hi]
    obtain ⟨h1, h2, h3⟩ := rowN_at nd v m k i hi
    have := h i h1
    unfold posN at this
    rw [h2, h3] at this
    exact this
  · rw [List.getElem?_eq_none (by rw [List.length_take]; omega), List.getElem?_eq_none (by rw [rowN_len]; exact hk)]
end Go.Proofs.YtgplpgldhoelcaaGreat

namespace Go.Proofs.YtgplpgldhoelcaaGreat
open Go Go.RowKit
section
variable {P : Program} {md : Region.Mode} {ops : Array Oper} {w0 : World}
def gAnyT (P : Program) (md : Region.Mode) (ops : Array Oper) (w0 : World) (n : Nat) (L : Array Bool → Act → Env → Prop) : Nat → Array Bool → Act → Env → Prop
  | 0, l, a, G => L l a G
  | f + 1, l, a, G => Region.ready md ops l ≠ [] ∧ ∀ i ∈ Region.ready md ops l, i < n ∧ gOp P ops w0 i (gAnyT P md ops w0 n L f (l.setIfInBounds i true)) a G

theorem gAnyT_first {n i : Nat} {oi : Oper} {r : Out} {L : Array Bool → Act → Env → Prop} (hi : ops[i]? = some oi)
    (hs : Region.sinkB md ops n = true) (hc : Region.chainB md ops n = true) (hn : n < ops.size) (hin : i < n)
    (hdone : ∀ l a G, L l a G → ∀ j ∈ Region.ready md ops l, n ≤ j) :
    ∀ (f : Nat) (l : Array Bool) (a : Act) (G : Env), HeadInv md ops n l →
      (∀ j oj, ops[j]? = some oj → j ≠ i → l.getD j true = false → (∀ e ∈ oj.after, Region.binds md e = true → e.on ≠ i) → oi.apart ops oj = true) →
      i ∈ Region.ready md ops l → Leaves P ops w0 oi a G r →
      gAnyT P md ops w0 n L f (l.setIfInBounds i true) (putA a oi.dst r) (putG G oi.dst r) → gAnyT P md ops w0 n L (f + 1) l a G := by
  intro f
  induction f with
  | zero =>
    intro l a G inv _ hr hy H
    have hun := (mem_ready.1 hr).1
    refine ⟨fun h => (by rw [h] at hr; cases hr), fun j hj => ?_⟩
    have hjn : j < n := by
      rcases Nat.lt_or_ge j n with h | h
      · exact h
      · exact absurd hj (tail_waits hs hc hn inv _ i rfl hin hun j h)
    refine ⟨hjn, ?_⟩
    by_cases hji : j = i
    · subst hji; unfold gOp; simp only [hi]; exact ⟨r, hy, H⟩
    · have := hdone _ _ _ H j (ready_mono hj hji)
      omega
  | succ f ih =>
    intro l a G inv hfree hr hy H
    have hun := (mem_ready.1 hr).1
    refine ⟨fun h => (by rw [h] at hr; cases hr), fun j hj => ?_⟩
    have hjn : j < n := by
      rcases Nat.lt_or_ge j n with h | h
      · exact h
      · exact absurd hj (tail_waits hs hc hn inv _ i rfl hin hun j h)
    refine ⟨hjn, ?_⟩
    by_cases hji : j = i
    · subst hji; unfold gOp; simp only [hi]; exact ⟨r, hy, H⟩
    · have h1 := (H.2 j (ready_mono hj hji)).2
      obtain ⟨hjun, oj, hoj, hall⟩ := mem_ready.1 hj
      have hnot : ∀ e ∈ oj.after, Region.binds md e = true → e.on ≠ i := fun e he hb heq => by
        have h1 := hall e he hb
        rw [heq, getD_both hun] at h1
        cases h1
      have hfree' : ∀ k ok, ops[k]? = some ok → k ≠ i → (l.setIfInBounds j true).getD k true = false →
          (∀ e ∈ ok.after, Region.binds md e = true → e.on ≠ i) → oi.apart ops ok = true := fun k ok hk hki hun hno => by
        refine hfree k ok hk hki ?_ hno
        by_cases hjk : j = k
        · subst hjk; exact hjun
        · rw [getD_set_ne true hjk] at hun; exact hun
      have h2 := gOp_put hoj (hfree j oj hoj hji hjun hnot) hy h1
      refine gOp_mono (fun a' G' h3 => ih (l.setIfInBounds j true) a' G' (inv.set hj hjn) hfree' (ready_mono hr (Ne.symm hji)) h3.1 ?_) h2
      rw [Array.setIfInBounds_comm _ _ hji]
      exact h3.2

theorem gAnyT_lex {n g : Nat} {Lq : Act → Env → Prop} (hs : Region.sinkB md ops n = true) (hc : Region.chainB md ops n = true) (hn : n < ops.size) :
    ∀ (l : List Oper) (k : Nat) (listed : Array Bool) (a : Act) (G : Env), (∀ j, j < l.length → l[j]? = ops[k + j]?) → k + l.length = n → HeadInv md ops n listed →
    Region.lexHead md ops g l.length k listed = true → gLex P ops w0 Lq l a G →
    gAnyT P md ops w0 n (fun listed' a' G' => Region.seqB md ops g n listed' = true ∧ Lq a' G') l.length listed a G
  | [], k, listed, a, G, _, hk, _, hB, h => by
    have : k = n := by simpa using hk
    subst this
    exact ⟨by simpa [Region.lexHead] using hB, h⟩
  | o :: l, k, listed, a, G, hl, hk, inv, hB, h => by
    have h0 : ops[k]? = some o := by simpa using (hl 0 (by simp)).symm
    simp only [List.length_cons, Region.lexHead, Bool.and_eq_true] at hB
    obtain ⟨⟨hr, hf⟩, hB'⟩ := hB
    have hkn : k < n := by simp only [List.length_cons] at hk; omega
    have hr' : k ∈ Region.ready md ops listed := by simpa using hr
    obtain ⟨r, hy, hK⟩ := h
    exact gAnyT_first h0 hs hc hn hkn (fun l' _ _ h j hj => seqB_ready h.1 j hj) l.length listed a G inv (Region.free_spec h0 hf) hr' hy
      (gAnyT_lex hs hc hn l (k + 1) _ _ _ (fun j hj => by have := hl (j + 1) (by simp; omega); simpa [Nat.add_assoc, Nat.add_comm 1 j] using this) (by simp only [List.length_cons] at hk; omega) (inv.set hr' hkn) hB' hK)

theorem wpAny_of_gAnyT {n g : Nat} {L : Array Bool → Act → Env → Prop} {Q : Exit → Act → World → Prop}
    (hL : ∀ listed a G, L listed a G → ∀ w, Grows w0 w → ∀ a', Conc G a a' w → wpAny P md ops Q g listed a' w) :
    ∀ (f : Nat) (l : Array Bool) (a : Act) (G : Env) (a' : Act) (w : World), Grows w0 w → AllLast G → Conc G a a' w →
    gAnyT P md ops w0 n L f l a G → wpAny P md ops Q (f + g) l a' w
  | 0, l, a, G, a', w, hw, _, hc, h => by rw [Nat.zero_add]; exact hL _ _ _ h w hw a' hc
  | f + 1, l, a, G, a', w, hw, hG, hc, h => by
    rw [show f + 1 + g = (f + g) + 1 by omega]
    refine ⟨fun h0 => absurd h0 h.1, fun i hi => ?_⟩
    have h1 := (h.2 i hi).2
    unfold gOp at h1
    unfold wpOp
    split
    · rename_i ho
      simp only [ho] at h1
      exact wpAny_of_gAnyT hL f _ a G a' w hw hG hc h1
    · rename_i o ho
      simp only [ho] at h1
      obtain ⟨r, ⟨hg, hd, hy⟩, hK⟩ := h1
      rw [wanted_conc hg hc]
      rcases hy with ⟨hwant, hl, hf, howe⟩ | ⟨hwant, rfl⟩
      · rw [if_pos hwant]
        refine .inl ?_
        have hrun := howe w hw a' (fun t _ => hc.2 t)
        unfold Oper.wp
        generalize (execOp a'.eval o).run P w = res at hrun
        cases res with
        | halt x w' => simp only [runsTo] at hrun
        | ok x w' =>
          cases x <;> simp only [runsTo] at hrun <;> simp only [Oper.upon]
          case value u => exact wpAny_of_gAnyT hL f _ _ _ _ _ (hw.trans hrun.1) (hG.putG hl) (hc.step hG hrun.1 hd hf hrun.2) hK
          case skip => exact wpAny_of_gAnyT hL f _ _ _ _ _ (hw.trans hrun.1) (hG.putG hl) (hc.step hG hrun.1 hd hf hrun.2) hK
          case enter f args =>
            refine hrun.mono fun e w'' ⟨u, he, h1, h2⟩ => ?_
            subst he
            exact wpAny_of_gAnyT hL _ _ _ _ _ _ (hw.trans h1) (hG.putG hl) (hc.step hG h1 hd hf h2) hK
      · rw [hwant]
        simp only [Bool.false_eq_true, if_false]
        have hG0 : putG G o.dst (.inl undef) = G := by cases o.dst <;> rfl
        rw [hG0] at hK
        have hc0 := hc.step hG (Grows.refl w) hd (r := .inl undef) (u := undef) trivial rfl
        rw [hG0] at hc0
        exact wpAny_of_gAnyT hL f _ _ _ _ _ hw hG hc0 hK

def tailB (md : Region.Mode) (ops : Array Oper) (n : Nat) : Bool :=
  decide (n < ops.size) && Region.sinkB md ops n && Region.chainB md ops n && Region.lexHead md ops (ops.size - n) n 0 (Array.replicate ops.size false)

theorem wp_region_tail {w0 : World} {id : Nat} {Q : Exit → Act → World → Prop} {a : Act} {w : World} {l : List Oper} (n : Nat) (hm : P.follows .mixedOrders = true) (hB : tailB .any l.toArray n = true)
    (hw0 : Grows w0 w) (h : gLex P l.toArray w0 (fun a G => ∀ w', Grows w0 w' → ∀ a', Conc G a a' w' → wpList P l.toArray Q (l.drop n) a' w') (l.take n) a Env.no) : (Code.region id l.toArray true).wp P Q a w := by
  simp only [tailB, Bool.and_eq_true, decide_eq_true_eq] at hB
  obtain ⟨⟨⟨hn, hs⟩, hc⟩, hx⟩ := hB
  have hlen : l.length = n + (l.drop n).length := by simp at hn ⊢; omega
  have hn' : n < l.length := by simpa using hn
  refine wp_region_any hm ?_
  have inv : HeadInv .any l.toArray n (Array.replicate l.length false) := by
    refine ⟨by simp, ?_, ?_⟩
    · intro j oj hj hl
      rw [getD_replicate_false] at hl
      cases hl
    · intro t h1 h2
      have : t < l.length := by simpa using h2
      simp [this]
  have e1 : (l.take n).length = n := by simp; omega
  have e2 : (l.drop n).length = l.length - n := by simp
  have hx' : Region.lexHead .any l.toArray (l.length - n) (l.take n).length 0 (Array.replicate l.length false) = true := by rw [e1]; simpa using hx
  have hg := gAnyT_lex (P := P) (w0 := w0) (g := l.length - n) hs hc hn (l.take n) 0 (Array.replicate l.length false) a Env.no (fun j hj => by
      have : j < n := by rw [e1] at hj; exact hj
      simp [this]) (by rw [e1]; omega) inv hx' h
  have hall := wpAny_of_gAnyT (Q := Q) (g := l.length - n) (fun listed a' G' hL w' hw' a'' hc' => by
    have hh := hL.2 w' hw' a'' hc'
    have := wpAny_of_seq (P := P) (md := .any) (ops := l.toArray) (l.drop n) n listed a'' w' (fun j => by simp) (by rw [e2]; exact hL.1) hh
    rwa [e2] at this) (l.take n).length _ a Env.no a { w with drawn := w.drawn + 1 } (hw0.trans (Grows.drawn w _)) (fun t p h => by cases h) ⟨rfl, fun t => rfl⟩ hg
  have e3 : (l.take n).length + (l.length - n) = l.length := by rw [e1]; omega
  rw [e3] at hall
  simpa using hall
theorem wp_region_tail1 {id : Nat} {Q : Exit → Act → World → Prop} {a : Act} {w : World} {l : List Oper} (n : Nat) (hm : P.follows .mixedOrders = true) (hB : tailB .any l.toArray n = true)
    (h : gLex P l.toArray w (fun a G => ∀ w', Grows w w' → ∀ a', Conc G a a' w' → wpList P l.toArray Q (l.drop n) a' w') (l.take n) a Env.no) : (Code.region id l.toArray true).wp P Q a w :=
  wp_region_tail n hm hB (Grows.refl w) h
theorem gLex_endT {ops : Array Oper} {Q : Exit → Act → World → Prop} {tail : List Oper} {a : Act} (h : ∀ x : Later w0, wpList P ops Q tail a x.now) :
    gLex P ops w0 (fun a G => ∀ w', Grows w0 w' → ∀ a', Conc G a a' w' → wpList P ops Q tail a' w') [] a Env.no :=
  fun w' hw a' hc => by rw [conc_no hc]; exact h ⟨w', hw⟩
theorem gLex_endT1 {ops : Array Oper} {Q : Exit → Act → World → Prop} {tail : List Oper} {a : Act} {t : Tmp} {p : Pr} (hlt : t < a.tmps.size) (h : ∀ (x : Later w0) v, p v x.now → wpList P ops Q tail (a.put (some t) v) x.now) :
    gLex P ops w0 (fun a G => ∀ w', Grows w0 w' → ∀ a', Conc G a a' w' → wpList P ops Q tail a' w') [] a (Env.no.upd t p) :=
  fun w' hw a' hc => by
    obtain ⟨v, hv⟩ := conc_upd hc hlt
    rcases hv with ⟨hp, hc2⟩ | hne
    · rw [conc_no hc2]
      exact h ⟨w', hw⟩ v hp
    · exact absurd rfl hne
theorem gLex_prop {ops : Array Oper} {Q : Act → Env → Prop} {a : Act} {G : Env} {o : Oper} {rest : List Oper} {t : Tmp} (hg : o.guard = none) (hp : plainB ops o G = true) (hd : o.dst = some t) (hlt : t < a.tmps.size)
    (p : Pr) (hl : Lasts p) (hr : ∀ x : Later w0, runsTo P (fun u w' => Grows x.now w' ∧ p u w') ((execOp a.eval o).run P x.now))
    (h : gLex P ops w0 Q rest a (G.upd t p)) : gLex P ops w0 Q (o :: rest) a G := by
  obtain ⟨h1, h2, h3, h4⟩ := plain_spec hp
  refine ⟨.inr p, ⟨h1, h2, .inl ⟨by unfold Region.wanted; rw [hg], hl, ⟨t, hd, hlt⟩, fun w hw a' ha' => ?_⟩⟩, ?_⟩
  · rw [exec_same h4 h3 ha']
    exact hr ⟨w, hw⟩
  · rw [hd]
    exact h
def One (v : Value) : Pr := fun u w => ∃ g, u = .slice (some ⟨g, 0, none⟩) 1 1 ∧ Holds w ⟨g, 0, none⟩ v
theorem One.lasts (v : Value) : Lasts (One v) := fun _ _ _ hg ⟨g, e, h⟩ => ⟨g, e, ⟨hg.keeps h.cell⟩⟩
end
end Go.Proofs.YtgplpgldhoelcaaGreat

namespace Go.Proofs.YtgplpgldhoelcaaGreat
open Go Go.RowKit
def nv (l : List Nat) : List Value := l.map fun (i : Nat) => Value.int .i64 (i : Int)
theorem nv_len (l : List Nat) : (nv l).length = l.length := by simp [nv]
theorem nv_set (l : List Nat) (j v : Nat) : (nv l).set j (.int .i64 (v : Int)) = nv (l.set j v) := by simp [nv, List.map_set]
theorem nv_rep (n : Nat) : nv (List.replicate n 0) = List.replicate n (.int .i64 0) := by simp [nv]
def gn (l : List Nat) (k : Nat) : Nat := l.getD k 0
theorem nv_at {l : List Nat} {j : Nat} (h : j < l.length) : (nv l)[j]? = some (.int .i64 (gn l j : Int)) := by simp [nv, gn, h]
theorem gn_rep (n k : Nat) : gn (List.replicate n 0) k = 0 := by
  unfold gn
  rw [List.getD_eq_getElem?_getD, List.getElem?_replicate]
  split <;> rfl
theorem gn_set (l : List Nat) (j k v : Nat) (hj : j < l.length) : gn (l.set j v) k = if k = j then v else gn l k := by
  unfold gn
  by_cases h : k = j
  · subst h; simp [hj]
  · simp [h, Ne.symm h]
theorem Row1.nat {w : World} {g n c : Nat} {e : TypeId} {l : List Nat} (h : Row1 w g e 1 n c (nv l)) {j : Nat} (hj : j < n) : Mine w ⟨g, j, none⟩ (.int .i64 (gn l j : Int)) := by
  have hl := h.len
  rw [nv_len] at hl
  exact h.mine (nv_at (by omega))
theorem Row1.nlen {w : World} {g n c : Nat} {e : TypeId} {l : List Nat} (h : Row1 w g e 1 n c (nv l)) : l.length = n := by
  have hl := h.len
  rw [nv_len] at hl
  omega
def GiveLaid (w : World) (N n : Nat) (f : Nat → Nat) (e : Ending) (w' : World) : Prop :=
  ∃ g1 g2 X B, e = .returned (.agg #[.slice (some ⟨g1, 0, none⟩) n n, .slice (some ⟨g2, 0, none⟩) (N + 1) (N + 1)]) ∧ Row1 w' g1 3 1 n n (nv X) ∧ Row1 w' g2 3 1 (N + 1) (N + 1) (nv B) ∧
    (∀ i, i < n → X[posN f n i]? = some i) ∧ (∀ v, v ≤ N → gn B v = begN f n v) ∧ w.heap.size ≤ g1 ∧ w.heap.size ≤ g2 ∧ Grows w w'
theorem eq_add2 (a : Nat) : (a = a + 1 + 1) = False := by simp; omega
theorem heap_drew (w : World) : w.drew.heap = w.heap := rfl
theorem heap_push (w : World) (o : Obj) : (w.alloc o).heap = w.heap.push o := rfl
def LaidL1 (w : World) (N n : Nat) (f : Nat → Nat) (b7 g1 g2 j : Nat) (wr : World) : Prop :=
  ∃ y : Later w, wr = y.now ∧ Arr y.now b7 234 [.slice (some ⟨g1, 0, none⟩) n n, .slice (some ⟨g2, 0, none⟩) (N + 1) (N + 1)] ∧ Row1 y.now g1 3 1 n n (nv (List.replicate n 0)) ∧
    ∃ B, Row1 y.now g2 3 1 (N + 1) (N + 1) (nv B) ∧ ∀ v, v ≤ N → gn B v = if v = 0 then 0 else cntN f (v - 1) j
theorem cntN_le (f : Nat → Nat) (v j : Nat) : cntN f v j ≤ j := by unfold cntN; exact Nat.le_trans (List.length_filter_le _ _) (by simp)
theorem LaidL1.step {w : World} {N n j : Nat} {f : Nat → Nat} {b7 g1 g2 : Nat} {B : List Nat} (y : Later w) {W : World} (hg : Grows y.now W) (ha : Arr y.now b7 234 [.slice (some ⟨g1, 0, none⟩) n n, .slice (some ⟨g2, 0, none⟩) (N + 1) (N + 1)])
    (hr1 : Row1 y.now g1 3 1 n n (nv (List.replicate n 0))) (hr2 : Row1 y.now g2 3 1 (N + 1) (N + 1) (nv B)) (hl2 : w.heap.size ≤ g2) (hne : g1 ≠ g2) (hj : f j < N) (hB : ∀ v, v ≤ N → gn B v = if v = 0 then 0 else cntN f (v - 1) j) :
    LaidL1 w N n f b7 g1 g2 (j + 1) (W.setCell ⟨g2, f j + 1, none⟩ (.int .i64 ((gn B (f j + 1) : Int) + 1))) := by
  have hlen := hr2.nlen
  refine ⟨⟨_, (y.grows.trans hg).set hl2 _⟩, rfl, (ha.grow hg).other (hr2.ne ha (by decide)) _, (hr1.grow hg).other (Ne.symm hne) _, B.set (f j + 1) (gn B (f j + 1) + 1), ?_, fun v hv => ?_⟩
  · rw [← nv_set, Int.natCast_add, Int.natCast_one]
    exact (hr2.grow hg).set _ _
  · rw [gn_set _ _ _ _ (by omega), hB v hv, hB (f j + 1) (by omega), if_neg (by omega : ¬ f j + 1 = 0), cntN_succ]
    by_cases h0 : v = 0
    · subst h0; simp
    · rw [if_neg h0, if_neg h0]
      by_cases h1 : v = f j + 1
      · subst h1; simp
      · rw [if_neg h1, if_neg (by omega)]; omega
def LaidL2 (w : World) (N n : Nat) (f : Nat → Nat) (b7 g1 g2 v : Nat) (wr : World) : Prop :=
  ∃ y : Later w, wr = y.now ∧ Arr y.now b7 234 [.slice (some ⟨g1, 0, none⟩) n n, .slice (some ⟨g2, 0, none⟩) (N + 1) (N + 1)] ∧ Row1 y.now g1 3 1 n n (nv (List.replicate n 0)) ∧
    ∃ B, Row1 y.now g2 3 1 (N + 1) (N + 1) (nv B) ∧ ∀ u, u ≤ N → gn B u = if u ≤ v then begN f n u else cntN f (u - 1) n
theorem LaidL2.step {w : World} {N n v : Nat} {f : Nat → Nat} {b7 g1 g2 : Nat} {B : List Nat} (y : Later w) {W : World} (hg : Grows y.now W) (ha : Arr y.now b7 234 [.slice (some ⟨g1, 0, none⟩) n n, .slice (some ⟨g2, 0, none⟩) (N + 1) (N + 1)])
    (hr1 : Row1 y.now g1 3 1 n n (nv (List.replicate n 0))) (hr2 : Row1 y.now g2 3 1 (N + 1) (N + 1) (nv B)) (hl2 : w.heap.size ≤ g2) (hne : g1 ≠ g2) (hv : v < N) (hB : ∀ u, u ≤ N → gn B u = if u ≤ v then begN f n u else cntN f (u - 1) n) :
    LaidL2 w N n f b7 g1 g2 (v + 1) (W.setCell ⟨g2, v + 1, none⟩ (.int .i64 ((gn B (v + 1) : Int) + (gn B v : Int)))) := by
  have hlen := hr2.nlen
  refine ⟨⟨_, (y.grows.trans hg).set hl2 _⟩, rfl, (ha.grow hg).other (hr2.ne ha (by decide)) _, (hr1.grow hg).other (Ne.symm hne) _, B.set (v + 1) (gn B (v + 1) + gn B v), ?_, fun u hu => ?_⟩
  · rw [← nv_set, Int.natCast_add]
    exact (hr2.grow hg).set _ _
  · rw [gn_set _ _ _ _ (by omega), hB u hu, hB (v + 1) (by omega), hB v (by omega), if_neg (by omega : ¬ v + 1 ≤ v), if_pos (Nat.le_refl v)]
    by_cases h1 : u = v + 1
    · subst h1
      rw [if_pos rfl, if_pos (Nat.le_refl _), begN_succ, Nat.add_sub_cancel]; omega
    · rw [if_neg h1]
      by_cases h2 : u ≤ v
      · rw [if_pos h2, if_pos (by omega)]
      · rw [if_neg h2, if_neg (by omega)]
theorem cloneN (A : Option Addr) (n c : Nat) (B : List Nat) (w : World) (h : Rd w A 1 n (nv B)) (h0 : 0 < n) (hn : n ≤ 1000000) :
    Calls Tryz.prog 56 #[.slice A n c] w fun e w' => ∃ g c', e = .returned (.slice (some ⟨g, 0, none⟩) n c') ∧ Row1 w' g 3 1 n c' (nv B) ∧ w.heap.size ≤ g ∧ Grows w w' := by
  have hl : B.length = n := by have := h.len; rwa [nv_len] at this
  obtain ⟨b, off, rfl, hc⟩ := h.at_ h0
  have hm : nv B = (B.map Int.ofNat).map (Value.int .i64) := by simp [nv]
  refine (Tryz.slices_Clone_int b off n c (B.map Int.ofNat) w (by simp; omega) (by omega) (fun j hj => hc j _ (by
    rw [hm, List.getElem?_map, List.getElem?_eq_getElem hj]
    simp [List.getD_eq_getElem?_getD, List.getElem?_eq_getElem hj]))).mono ?_
  rintro e w' ⟨v', rfl, ho, hv, hg⟩
  obtain ⟨A', c', rfl⟩ := own_form ho
  rw [List.take_of_length_le (by simp; omega), ← hm] at ho
  obtain ⟨g, hA, hB⟩ : ∃ g, A' = some ⟨g, 0, none⟩ ∧ w.heap.size ≤ g := by
    obtain ⟨g, cur, h1, h2, _⟩ := Own.at_ (A := A') (c := c') ho h0
    exact ⟨g, h1, h2⟩
  subst hA
  exact ⟨g, c', rfl, (Own.row ho).1, hB, hg⟩
def LaidL3 (w : World) (N n : Nat) (f : Nat → Nat) (b7 g1 g2 g3 c3 : Nat) (B : List Nat) (j : Nat) (wr : World) : Prop :=
  ∃ y : Later w, wr = y.now ∧ Arr y.now b7 234 [.slice (some ⟨g1, 0, none⟩) n n, .slice (some ⟨g2, 0, none⟩) (N + 1) (N + 1)] ∧ Row1 y.now g2 3 1 (N + 1) (N + 1) (nv B) ∧
    ∃ X T, Row1 y.now g1 3 1 n n (nv X) ∧ Row1 y.now g3 3 1 (N + 1) c3 (nv T) ∧ (∀ i, i < j → X[posN f n i]? = some i) ∧ ∀ v, v < N → gn T v = begN f n v + cntN f v j
theorem LaidL3.step {w : World} {N n j : Nat} {f : Nat → Nat} {b7 g1 g2 g3 c3 : Nat} {B X T : List Nat} (y : Later w) {W : World} (hg : Grows y.now W) (ha : Arr y.now b7 234 [.slice (some ⟨g1, 0, none⟩) n n, .slice (some ⟨g2, 0, none⟩) (N + 1) (N + 1)])
    (hr2 : Row1 y.now g2 3 1 (N + 1) (N + 1) (nv B)) (hr1 : Row1 y.now g1 3 1 n n (nv X)) (hr3 : Row1 y.now g3 3 1 (N + 1) c3 (nv T)) (hl1 : w.heap.size ≤ g1) (hl3 : w.heap.size ≤ g3) (h12 : g1 ≠ g2) (h13 : g1 ≠ g3) (h23 : g2 ≠ g3) (hj : f j < N) (hjn : j < n)
    (hX : ∀ i, i < j → X[posN f n i]? = some i) (hT : ∀ v, v < N → gn T v = begN f n v + cntN f v j) :
    LaidL3 w N n f b7 g1 g2 g3 c3 B (j + 1) ((W.setCell ⟨g1, gn T (f j), none⟩ (.int .i64 (j : Int))).setCell ⟨g3, f j, none⟩ (.int .i64 ((gn T (f j) : Int) + 1))) := by
  have hlen := hr3.nlen
  have hlen1 := hr1.nlen
  have hp : gn T (f j) = posN f n j := hT _ hj
  refine ⟨⟨_, ((y.grows.trans hg).set hl1 _).set hl3 _⟩, rfl, ((ha.grow hg).other (hr1.ne ha (by decide)) _).other (hr3.ne ha (by decide)) _, ((hr2.grow hg).other h12 _).other (Ne.symm h23) _,
    X.set (gn T (f j)) j, T.set (f j) (gn T (f j) + 1), ?_, ?_, fun i hi => ?_, fun v hv => ?_⟩
  · rw [← nv_set]
    exact ((hr1.grow hg).set _ _).other (Ne.symm h13) _
  · rw [← nv_set, Int.natCast_add, Int.natCast_one]
    exact ((hr3.grow hg).other h13 _).set _ _
  · rw [hp]
    by_cases h1 : i = j
    · subst h1
      rw [List.getElem?_set_self (by rw [hlen1]; exact posN_m f n i hjn)]
    · rw [List.getElem?_set_ne (Ne.symm (posN_ne f n (by omega) hjn)), hX i (by omega)]
  · rw [gn_set _ _ _ _ (by omega), cntN_succ, hT v hv]
    by_cases h1 : v = f j
    · subst h1; simp [hp, posN]; omega
    · rw [if_neg h1, if_neg (fun e => h1 e.symm)]; omega
def LaidAt (w : World) (N n : Nat) (s7 : Value) (wx : World) : Prop :=
  ∃ x : Later w, wx = x.now ∧ ∃ b7 g1 g2, s7 = .pointer (some ⟨b7, 0, none⟩) ∧ Arr x.now b7 234 [.slice (some ⟨g1, 0, none⟩) n n, .slice (some ⟨g2, 0, none⟩) (N + 1) (N + 1)] ∧
    Row1 x.now g1 3 1 n n (nv (List.replicate n 0)) ∧ Row1 x.now g2 3 1 (N + 1) (N + 1) (nv (List.replicate (N + 1) 0)) ∧ g1 ≠ g2 ∧ w.heap.size ≤ g1 ∧ w.heap.size ≤ g2
theorem laid_rel {w wx : World} {s7 : Value} {b7 : Nat} (n N g1 g2 : Nat) (hs : s7 = .pointer (some ⟨b7, 0, none⟩)) (hg : Grows w wx)
    (h1 : wx.heap[b7]? = some (.cells [Value.slice (some ⟨g1, 0, none⟩) n n, .slice (some ⟨g2, 0, none⟩) (N + 1) (N + 1)].toArray 234 (0, 0))) (h2 : wx.heap[g1]? = some (.cells (List.replicate n (Value.int .i64 0)).toArray 3 (0, 0)))
    (h3 : wx.heap[g2]? = some (.cells (List.replicate (N + 1) (Value.int .i64 0)).toArray 3 (0, 0))) (hne : g1 ≠ g2) (hl : w.heap.size ≤ g1 ∧ w.heap.size ≤ g2) (hn : n ≤ 1000000) (hN : N ≤ 100000) : LaidAt w N n s7 wx :=
  ⟨⟨wx, hg⟩, rfl, b7, g1, g2, hs, ⟨h1⟩, Arr.row ⟨by rw [nv_rep]; exact h2⟩ (by simp [nv_len]) (by omega), Arr.row ⟨by rw [nv_rep]; exact h3⟩ (by simp [nv_len]) (by omega), hne, hl.1, hl.2⟩
set_option maxRecDepth 20000 in
set_option maxHeartbeats 4000000 in
theorem adjLaid (N : Nat) (A : Option Addr) (n c : Nat) (E : List Edg) (k : FuncId) (nd : Edg → Nat) (w : World) (h : Rd w A 3 n (esCells E)) (hn : n ≤ 1000000) (hN : N ≤ 100000)
    (hk : ∀ args W, (callFunc k args).run Tryz.prog W = .ok (.enter k args) W) (hf : ∀ i, i < n → ∀ W, Calls Tryz.prog k #[eVal (ge E i)] W fun x w' => x = .returned (.int .i64 (nd (ge E i) : Int)) ∧ Grows W w') (hnd : ∀ i, i < n → nd (ge E i) < N) :
    Calls Tryz.prog 183 #[.int .i64 (N : Int), .slice A n c, .func (.func k) #[] #[]] w (GiveLaid w N n fun i => nd (ge E i)) := by
  have HE := hide h
  have HF := hide hf
  have HD := hide hnd
  have mk1 := run_makeInts n (by omega)
  have mk2 := run_makeInts (N + 1) (by omega)
  clear h hf hnd
  rw [Int.natCast_add, Int.natCast_one] at mk2
  have hw1 : IntKind.i64.wrap ((N : Int) + 1) = (N : Int) + 1 := IntWalk.i64_in _ (by omega)
  go_enter Tryz.func183, Tryz.ntmps183
  go_upto_region 1 with fail
  have i0 : Mine (w.alloc (.cells #[.slice none 0 0, .slice none 0 0] 234)) ⟨w.heap.size, 0, none⟩ (.slice none 0 0) := Mine.new0 _ _ _ _
  have i1 : Mine (w.alloc (.cells #[.slice none 0 0, .slice none 0 0] 234)) ⟨w.heap.size, 1, none⟩ (.slice none 0 0) := Mine.new1 _ _ _ _ _
  have hgW : Grows w (w.alloc (.cells #[.slice none 0 0, .slice none 0 0] 234)) := (Grows.refl w).new _
  have hsz : w.heap.size < (w.alloc (.cells #[.slice none 0 0, .slice none 0 0] 234)).heap.size := by simp
  replace HE := hide (HE.out.grows hgW)
  generalize w.alloc (.cells #[.slice none 0 0, .slice none 0 0] 234) = W0 at *
  go_cut [7] (fun s7 wx => LaidAt W0 N n s7 wx)
  case first =>
    go_region_with fail
    all_goals go_wp2_with fail
    all_goals go_meet
    all_goals (case rel =>
      first
        | (refine laid_rel n N (W0.heap.size) (W0.heap.size + 1) (by with_reducible rfl) GG ?_ ?_ ?_ (by omega) (by omega) hn hN <;> (simp [heap_drew, heap_push, Array.getElem_push, Array.getElem?_push, eq_add2]; done))
        | (refine laid_rel n N (W0.heap.size) (W0.heap.size + 1 + 1) (by with_reducible rfl) GG ?_ ?_ ?_ (by omega) (by omega) hn hN <;> (simp [heap_drew, heap_push, Array.getElem_push, Array.getElem?_push, eq_add2]; done))
        | (refine laid_rel n N (W0.heap.size + 1) (W0.heap.size) (by with_reducible rfl) GG ?_ ?_ ?_ (by omega) (by omega) hn hN <;> (simp [heap_drew, heap_push, Array.getElem_push, Array.getElem?_push, eq_add2]; done))
        | (refine laid_rel n N (W0.heap.size + 1) (W0.heap.size + 1 + 1) (by with_reducible rfl) GG ?_ ?_ ?_ (by omega) (by omega) hn hN <;> (simp [heap_drew, heap_push, Array.getElem_push, Array.getElem?_push, eq_add2]; done))
        | (refine laid_rel n N (W0.heap.size + 1 + 1) (W0.heap.size) (by with_reducible rfl) GG ?_ ?_ ?_ (by omega) (by omega) hn hN <;> (simp [heap_drew, heap_push, Array.getElem_push, Array.getElem?_push, eq_add2]; done))
        | (refine laid_rel n N (W0.heap.size + 1 + 1) (W0.heap.size + 1) (by with_reducible rfl) GG ?_ ?_ ?_ (by omega) (by omega) hn hN <;> (simp [heap_drew, heap_push, Array.getElem_push, Array.getElem?_push, eq_add2]; done)))
  case rest =>
    obtain ⟨x0, rfl, b7, g1, g2, rfl, hb7, hr1, hr2, hne, hl1, hl2⟩ := hcut
    have HL1 : Hid (LaidL1 W0 N n (fun i => nd (ge E i)) b7 g1 g2 0 x0.now) := ⟨x0, rfl, hb7, hr1, _, hr2, fun v hv => by
      rw [cntN_zero, gn_rep]; split <;> rfl⟩
    have HN := hide hne
    clear hb7 hr1 hr2 hne
    go_wp2_with fail
    go_loopw [24] (fun s wr => ∃ j : Nat, j ≤ n ∧ s = .int .i64 (j : Int) ∧ LaidL1 W0 N n (fun i => nd (ge E i)) b7 g1 g2 j wr) (fun s _ => n - (Go.RowKit.intOf s).toNat)
    case atStart => exact ⟨0, by omega, by go_num, HL1.out⟩
    case round =>
      obtain ⟨j, hj, rfl, y, rfl, ha, hr1, B, hr2, hB⟩ := hrel
      have HB := hide hB
      have HR1 := hide hr1
      have HR2 := hide hr2
      clear hB hr1 hr2 HL1
      by_cases hlt : j < n
      · obtain ⟨b, off, rfl, hc⟩ := HE.out.edgesH (by omega)
        obtain ⟨e1, e2, e3⟩ := hc j hlt
        have hd := HD.out j hlt
        have hb1 : gn B (nd (ge E j) + 1) ≤ 1000000 := by rw [HB.out _ (by omega), if_neg (by omega)]; exact Nat.le_trans (cntN_le _ _ _) (by omega)
        have m1 := HR2.out.nat (j := nd (ge E j) + 1) (by omega)
        have HX := hide (HF.out j hlt)
        clear hc
        go_wp2_with fail
        (refine wp_region_tail1 10 (by kernel_rfl) (by kernel_rfl) ?_; simp only [List.take_succ_cons, List.take_zero, List.drop_succ_cons, List.drop_zero]; (repeat' ((first | refine gLex_val0 rfl (by kernel_rfl) (fun K hK => ?_) | refine gLex_undef rfl rfl rfl (by kernel_rfl) (fun K hK => ?_) | (refine gLex_ask rfl rfl rfl ?_; first | (apply gAsk_yes; kernel_rfl; intro K hK) | ((first | apply gAsk_no1 | apply gAsk_no2); kernel_rfl; intro K hK))) <;> (go_simp; (try (simp only [↓IntWalk.iteOmega]; try go_simp)); (try simp (disch := omega) only [IntWalk.i64_in]); (try simp (disch := omega) only [IntWalk.u64_in]); first | (refine hK _ ?_; clear hK K) | (apply Exists.intro; refine ⟨fun x => ?_, hK _ ?_⟩; (first | (exact HX.out _)); clear hK K)))); refine gLex_endT (fun x => ?_))
        go_wp2_with fail
        have hgx : Grows y.now x.now := GG
        exact ⟨⟨j + 1, by omega, by go_num, LaidL1.step (f := fun i => nd (ge E i)) y hgx ha HR1.out HR2.out hl2 HN.out hd HB.out⟩, by simp [Go.RowKit.intOf]; omega⟩
      · obtain rfl : j = n := by omega
        have HL2 : Hid (LaidL2 W0 N j (fun i => nd (ge E i)) b7 g1 g2 0 y.now) := ⟨y, rfl, ha, HR1.out, _, HR2.out, fun v hv => by
          rw [HB.out v hv]
          by_cases h0 : v = 0
          · subst h0; rw [begN_zero]; rfl
          · rw [if_neg h0, if_neg (by omega)]⟩
        clear HB HR1 HR2 ha
        go_wp2_with fail
        go_loopw [40] (fun s wr => ∃ v : Nat, v ≤ N ∧ s = .int .i64 (v : Int) ∧ LaidL2 W0 N j (fun i => nd (ge E i)) b7 g1 g2 v wr) (fun s _ => N - (Go.RowKit.intOf s).toNat)
        case atStart => exact ⟨0, by omega, by go_num, HL2.out⟩
        case round =>
          obtain ⟨v, hv, rfl, y2, rfl, ha, hr1, B, hr2, hB⟩ := hrel
          have HB := hide hB
          have HR1 := hide hr1
          have HR2 := hide hr2
          clear hB hr1 hr2 HL2
          by_cases hlt : v < N
          · have m1 := HR2.out.nat (j := v) (by omega)
            have m2 := HR2.out.nat (j := v + 1) (by omega)
            have b1 : gn B v ≤ 1000000 := by rw [HB.out v (by omega), if_pos (by omega)]; exact Nat.le_trans (begN_le _ _ _) hn
            have b2 : gn B (v + 1) ≤ 1000000 := by rw [HB.out (v + 1) (by omega), if_neg (by omega)]; exact Nat.le_trans (cntN_le _ _ _) hn
            go_wp2_with fail
            (refine wp_region_tail1 13 (by kernel_rfl) (by kernel_rfl) ?_; simp only [List.take_succ_cons, List.take_zero, List.drop_succ_cons, List.drop_zero]; (repeat' ((first | refine gLex_val0 rfl (by kernel_rfl) (fun K hK => ?_) | refine gLex_undef rfl rfl rfl (by kernel_rfl) (fun K hK => ?_) | (refine gLex_ask rfl rfl rfl ?_; first | (apply gAsk_yes; kernel_rfl; intro K hK) | ((first | apply gAsk_no1 | apply gAsk_no2); kernel_rfl; intro K hK))) <;> (go_simp; (try (simp only [↓IntWalk.iteOmega]; try go_simp)); (try simp (disch := omega) only [IntWalk.i64_in]); (try simp (disch := omega) only [IntWalk.u64_in]); refine hK _ ?_; clear hK K))); refine gLex_endT (fun x => ?_))
            go_wp2_with fail
            have hgx : Grows y2.now x.now := GG
            exact ⟨⟨v + 1, by omega, by go_num, LaidL2.step y2 hgx ha HR1.out HR2.out hl2 HN.out hlt HB.out⟩, by simp [Go.RowKit.intOf]; omega⟩
          · obtain rfl : v = N := by omega
            have HL3 : Hid (∀ u, u ≤ v → gn B u = begN (fun i => nd (ge E i)) j u) := fun u hu => by rw [HB.out u hu, if_pos hu]
            have HC := hide (fun (W : World) (g : Grows y2.now W) => cloneN _ (v + 1) (v + 1) B W ((HR2.out.grow g).rd) (by omega) (by omega))
            clear HB
            have hlt1 := HR1.out.lt
            have hlt2 := HR2.out.lt
            go_wp2_with (first
              | (go_at_call 56; refine (HC.out _ GG).mono ?_; rintro e w' ⟨g3, c3, rfl, hr3, hl3, hg⟩; obtain ⟨x3, rfl⟩ := hg.later; have HR3 := hide hr3; clear hg hr3))
            have h13 : g1 ≠ g3 := by omega
            have h23 : g2 ≠ g3 := by omega
            have hl3' : W0.heap.size ≤ g3 := Nat.le_trans y2.grows.size hl3
            have HS : Hid (LaidL3 W0 v j (fun i => nd (ge E i)) b7 g1 g2 g3 c3 B 0 x3.now) :=
              ⟨⟨_, y2.grows.trans x3.grows⟩, rfl, ha.grow x3.grows, HR2.out.grow x3.grows, _, B, HR1.out.grow x3.grows, HR3.out, fun i hi => absurd hi (by omega), fun u hu => by rw [HL3.out u (by omega), cntN_zero]; rfl⟩
            have HBL : Hid (∀ u, u ≤ v → gn B u = begN (fun i => nd (ge E i)) j u) := HL3.out
            have H13 := hide h13
            have H23 := hide h23
            clear HR1 HR2 HR3 HL3 HC ha hlt1 hlt2 hl3 h13 h23
            go_loopw [62] (fun s wr => ∃ i : Nat, i ≤ j ∧ s = .int .i64 (i : Int) ∧ LaidL3 W0 v j (fun i => nd (ge E i)) b7 g1 g2 g3 c3 B i wr) (fun s _ => j - (Go.RowKit.intOf s).toNat)
            case atStart => exact ⟨0, by omega, by go_num, HS.out⟩
            case round =>
              obtain ⟨i, hi, rfl, y3, rfl, ha, hr2, X, T, hr1, hr3, hX, hT⟩ := hrel
              have HX := hide hX
              have HT := hide hT
              have HR1 := hide hr1
              have HR2 := hide hr2
              have HR3 := hide hr3
              clear hX hT hr1 hr2 hr3 HS
              by_cases hlt : i < j
              · obtain ⟨b, off, rfl, hc⟩ := HE.out.edgesH (by omega)
                obtain ⟨e1, e2, e3⟩ := hc i hlt
                have hd := HD.out i hlt
                have hp : gn T (nd (ge E i)) < j := by rw [HT.out _ hd]; exact posN_m (fun i => nd (ge E i)) j i hlt
                have m1 := HR3.out.nat (j := nd (ge E i)) (by omega)
                have m2 := HR1.out.nat (j := gn T (nd (ge E i))) hp
                have HXX := hide (HF.out i hlt)
                clear hc
                go_wp2_with ((refine (HXX.out _).mono ?_; rintro e w' ⟨rfl, hg⟩; obtain ⟨x4, rfl⟩ := hg.later; clear hg))
                (refine wp_region_tail1 8 (by kernel_rfl) (by kernel_rfl) ?_; simp only [List.take_succ_cons, List.take_zero, List.drop_succ_cons, List.drop_zero]; (repeat' ((first | refine gLex_val0 rfl (by kernel_rfl) (fun K hK => ?_) | refine gLex_undef rfl rfl rfl (by kernel_rfl) (fun K hK => ?_) | (refine gLex_ask rfl rfl rfl ?_; first | (apply gAsk_yes; kernel_rfl; intro K hK) | ((first | apply gAsk_no1 | apply gAsk_no2); kernel_rfl; intro K hK))) <;> (go_simp; (try (simp only [↓IntWalk.iteOmega]; try go_simp)); (try simp (disch := omega) only [IntWalk.i64_in]); (try simp (disch := omega) only [IntWalk.u64_in]); refine hK _ ?_; clear hK K))); refine gLex_endT (fun x => ?_))
                go_upto_region 18 with fail
                have hgx : Grows y3.now x.now := GG
                have m3 : Mine (x.now.setCell ⟨g1, gn T (nd (ge E i)), none⟩ (.int .i64 (i : Int))) ⟨g3, nd (ge E i), none⟩ _ := ((HR3.out.grow hgx).other H13.out _).nat (j := nd (ge E i)) (by omega)
                have b1 : gn T (nd (ge E i)) ≤ 1000000 := by omega
                go_wp2_with fail
                exact ⟨⟨i + 1, by omega, by go_num, LaidL3.step (f := fun i => nd (ge E i)) y3 hgx ha HR2.out HR1.out HR3.out hl1 hl3' HN.out H13.out H23.out hd hlt HX.out HT.out⟩, by simp [Go.RowKit.intOf]; omega⟩
              · obtain rfl : i = j := by omega
                go_wp2_with fail
                refine bodyPost_ret (v := .agg #[.slice (some ⟨g1, 0, none⟩) i i, .slice (some ⟨g2, 0, none⟩) (v + 1) (v + 1)]) (by simp (maxDischargeDepth := 6) [results, Tryz.results183, go_sem, *]) rfl ⟨g1, g2, X, B, rfl, ?_, ?_, HX.out, HBL.out, by omega, by omega, ?_⟩
                · exact (HR1.out.other (by simp; omega) _).other (by simp; omega) _
                · exact (HR2.out.other (by simp; omega) _).other (by simp; omega) _
                · exact ((hgW.trans y3.grows).set (Nat.le_refl _) _).set (Nat.le_refl _) _
end Go.Proofs.YtgplpgldhoelcaaGreat

