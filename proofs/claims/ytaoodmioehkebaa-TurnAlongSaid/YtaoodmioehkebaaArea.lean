/- Contracts: twice the area of a ring of places. -/
import Derived.Test.YtaoodmioehkebaaTurned
namespace Go.Proofs.Ytaoodmioehkebaa
open Go Go.RowKit
def crI (p q : Pl) : Int := p.x * q.y - p.y * q.x
def crAt (E : List Pl) (k : Nat) : Int := crI (gp E k) (gp E ((k + 1) % E.length))
/-- Twice the area of the first k triangles. -/
def arK (E : List Pl) : Nat → Int
  | 0 => 0
  | k + 1 => arK E k + crAt E k
theorem arK_succ (E : List Pl) (k : Nat) : arK E (k + 1) = arK E k + crAt E k := rfl
def areaI (E : List Pl) : Int := if 1000 < E.length ∨ E.all okP = false then 0 else arK E E.length
theorem gp_ok {E : List Pl} (h : E.all okP = true) {k : Nat} (hk : k < E.length) : okP (gp E k) = true := by
  rw [List.all_eq_true] at h
  apply h
  unfold gp
  rw [List.getD_eq_getElem?_getD, List.getElem?_eq_getElem hk]
  exact List.getElem_mem _
theorem mul_bd {u v : Int} (hu : u.natAbs ≤ 1048576) (hv : v.natAbs ≤ 1048576) : -1099511627776 ≤ u * v ∧ u * v ≤ 1099511627776 := by
  have : (u * v).natAbs ≤ 1099511627776 := by rw [Int.natAbs_mul]; exact Nat.mul_le_mul hu hv
  omega
theorem crI_bd {p q : Pl} (h : okP p = true) (h' : okP q = true) : -2199023255552 ≤ crI p q ∧ crI p q ≤ 2199023255552 := by
  rw [okP_iff] at h h'
  have b1 := mul_bd (u := p.x) (v := q.y) (by omega) (by omega)
  have b2 := mul_bd (u := p.y) (v := q.x) (by omega) (by omega)
  unfold crI
  omega
theorem arK_bd {E : List Pl} (h : E.all okP = true) (k : Nat) (hk : k ≤ E.length) : -(k * 2199023255552 : Int) ≤ arK E k ∧ arK E k ≤ k * 2199023255552 := by
  induction k with
  | zero => simp [arK]
  | succ k ih =>
    have := ih (by omega)
    have b := crI_bd (gp_ok h (k := k) (by omega)) (gp_ok h (k := (k + 1) % E.length) (Nat.mod_lt _ (by omega)))
    rw [arK_succ]
    unfold crAt
    omega
theorem plAtE {p : Pl} (h : okP p = true) : ∃ re im, IsI re p.x ∧ IsI im p.y ∧ ∀ w, Calls Try.prog 40 #[.agg #[.int .i64 p.x, .int .i64 p.y]] w fun e w' => e = .returned (.complex .f64 re im) ∧ Grows w w' := by
  have := plAtZ p
  rw [show pz p = p by unfold pz; rw [if_pos h]] at this
  exact this
theorem area_facts {p q : Pl} {a b c d : Nat} (h : okP p = true) (h' : okP q = true) (i1 : IsI a p.x) (i2 : IsI b p.y) (i3 : IsI c q.x) (i4 : IsI d q.y) :
    ∃ re im, cMulBits a (Op.negFloat .f64 b) c d = some (re, im) ∧ floatToIntVal .f64 im .i64 = some (crI p q) := by
  rw [okP_iff] at h h'
  have i5 := neg_int i2
  have b1 := mul_bd (u := p.x) (v := q.x) (by omega) (by omega)
  have b2 := mul_bd (u := -p.y) (v := q.y) (by omega) (by omega)
  have b3 := mul_bd (u := p.x) (v := q.y) (by omega) (by omega)
  have b4 := mul_bd (u := -p.y) (v := q.x) (by omega) (by omega)
  obtain ⟨ac, q4, j4⟩ := mul_int i1 i3 (by omega)
  obtain ⟨bd, q5, j5⟩ := mul_int i5 i4 (by omega)
  obtain ⟨r, q6, j6⟩ := sub_int j4 j5 (by omega)
  obtain ⟨ad, q7, j7⟩ := mul_int i1 i4 (by omega)
  obtain ⟨bc, q8, j8⟩ := mul_int i5 i3 (by omega)
  obtain ⟨m, q9, j9⟩ := add_int j7 j8 (by omega)
  refine ⟨r, m, ?_, ?_⟩
  · simp only [cMulBits, floatBits, show FloatKind.f64.format = Ieee.double from rfl, q4, q5, q6, q7, q8, q9, Option.bind_some]
  · have e : p.x * q.y + -p.y * q.x = crI p q := by unfold crI; rw [Int.neg_mul]; omega
    rw [e] at j9
    unfold floatToIntVal
    rw [toInt_int j9]
    dsimp only
    have : crI p q = p.x * q.y + -p.y * q.x := e.symm
    rw [if_pos ⟨by show (-9223372036854775808 : Int) ≤ _; omega, by show _ ≤ (9223372036854775807 : Int); omega⟩]
set_option maxRecDepth 20000 in
set_option maxHeartbeats 4000000 in
theorem tuArea (A : Option Addr) (n c : Nat) (E : List Pl) (w : World) (h : Rd w A 2 n (psCells E)) (hn : n ≤ 1000000) : Calls Try.prog 29 #[.slice A n c] w fun e w' => e = .returned (.int .i64 (areaI E)) ∧ Grows w w' := by
  have HL := hide h.plen
  have C1 := fun W (g : Grows w W) => plRight A n c E W (h.grows g) hn
  have HR := hide h
  clear h
  by_cases h0 : 1000 < n
  · have HV : Hid (areaI E = 0) := by unfold areaI; exact if_pos (.inl (by rw [HL.out]; exact h0))
    clear C1
    go_enter Try.func29, Try.ntmps29
    go_wp2
    go_ret
    exact ⟨ret_int HV.out.symm, (by repeat (first | exact Grows.refl _ | refine Grows.now ?_ _ | refine Grows.new ?_ _ | refine Grows.drewN ?_ _ | refine Grows.drew ?_ | assumption | (refine Grows.set ?_ (by first | omega | (simp; done) | (simp; omega)) _)))⟩
  cases h1 : E.all okP with
  | false =>
    have HV : Hid (areaI E = 0) := by unfold areaI; exact if_pos (.inr h1)
    rw [h1] at C1
    have H1 := hide C1
    clear C1 h1
    go_enter Try.func29, Try.ntmps29
    go_wp2_with (first | (go_at_call 41; refine (H1.out _ (by repeat (first | exact Grows.refl _ | refine Grows.now ?_ _ | refine Grows.new ?_ _ | refine Grows.drewN ?_ _ | refine Grows.drew ?_ | assumption | (refine Grows.set ?_ (by first | omega | (simp; done) | (simp; omega)) _)))).mono ?_; rintro e w' ⟨rfl, hg⟩; (first | obtain ⟨x, rfl⟩ := Grows.later2 hg | obtain ⟨x, rfl⟩ := Grows.later hg); clear hg))
    go_ret
    exact ⟨ret_int HV.out.symm, (by repeat (first | exact Grows.refl _ | refine Grows.now ?_ _ | refine Grows.new ?_ _ | refine Grows.drewN ?_ _ | refine Grows.drew ?_ | assumption | (refine Grows.set ?_ (by first | omega | (simp; done) | (simp; omega)) _)))⟩
  | true =>
    have HV : Hid (areaI E = arK E n) := by unfold areaI; rw [if_neg (by rw [h1, HL.out]; simp; omega), HL.out]; exact rfl
    rw [h1] at C1
    have H1 := hide C1
    have HO := hide h1
    clear C1 h1
    go_enter Try.func29, Try.ntmps29
    go_wp2_with (first | (go_at_call 41; refine (H1.out _ (by repeat (first | exact Grows.refl _ | refine Grows.now ?_ _ | refine Grows.new ?_ _ | refine Grows.drewN ?_ _ | refine Grows.drew ?_ | assumption | (refine Grows.set ?_ (by first | omega | (simp; done) | (simp; omega)) _)))).mono ?_; rintro e w' ⟨rfl, hg⟩; (first | obtain ⟨x, rfl⟩ := Grows.later2 hg | obtain ⟨x, rfl⟩ := Grows.later hg); clear hg))
    go_loopw [16, 2] (fun i s wr => ∃ k : Nat, k ≤ n ∧ i = .int .i64 (k : Int) ∧ s = .int .i64 (arK E k) ∧ ∃ y : Later w, wr = y.now) (fun i _ _ => n - (intOf i).toNat)
    case atStart => exact ⟨0, by omega, by go_num, rfl, _, rfl⟩
    case round =>
      obtain ⟨k, hk, rfl, rfl, y, rfl⟩ := hrel
      by_cases hend : n ≤ k
      · have hkm : k = n := by omega
        subst hkm
        go_wp2
        go_ret
        exact ⟨ret_int HV.out.symm, (by repeat (first | exact Grows.refl _ | refine Grows.now ?_ _ | refine Grows.new ?_ _ | refine Grows.drewN ?_ _ | refine Grows.drew ?_ | assumption | (refine Grows.set ?_ (by first | omega | (simp; done) | (simp; omega)) _)))⟩
      · obtain ⟨b, off, rfl, hc⟩ := HR.out.places (by omega)
        have hj : (k + 1) % n < n := Nat.mod_lt _ (by omega)
        have hj2 : (((k : Int) + 1).tmod (n : Int)) = (((k + 1) % n : Nat) : Int) := by rw [Int.tmod_eq_emod_of_nonneg (by omega)]; simp
        obtain ⟨hc1, hc2⟩ := hc k (by omega)
        obtain ⟨hc3, hc4⟩ := hc _ hj
        have hok1 := gp_ok HO.out (k := k) (by have := HL.out; omega)
        have hok2 := gp_ok HO.out (k := (k + 1) % n) (by have := HL.out; omega)
        obtain ⟨a1, a2, i1, i2, P1⟩ := plAtE hok1
        obtain ⟨a3, a4, i3, i4, P2⟩ := plAtE hok2
        obtain ⟨re, im, q1, q2⟩ := area_facts hok1 hok2 i1 i2 i3 i4
        have HS : Hid (arK E (k + 1) = arK E k + crI (gp E k) (gp E ((k + 1) % n))) := by
          show _ = _
          rw [arK_succ]; unfold crAt; rw [HL.out]
        have bd1 := crI_bd hok1 hok2
        have bd2 := arK_bd HO.out k (by have := HL.out; omega)
        have P3 := hide P1
        have P4 := hide P2
        have o1 := hide (fun t w => run_complex_mul (P := Try.prog) w t _ _ _ _ _ _ q1)
        have o2 := hide (fun w => run_convert_float_int (P := Try.prog) w 70 3 .f64 .i64 _ _ (by rw [Try.underlying70]; rfl) Try.underlying3 q2)
        clear hc P1 P2 hok1 hok2 i1 i2 i3 i4 q1 q2
        generalize crI (gp E k) (gp E ((k + 1) % n)) = cr at *
        generalize arK E k = ak at *
        generalize gp E k = pk at *
        generalize (k + 1) % n = j at *
        generalize gp E j = pj at *
        go_wp2_with fail
        ((first | refine wp_region_gen2 (by kernel_rfl) (by kernel_rfl) ?_ | refine wp_region_gen (by kernel_rfl) (by kernel_rfl) ?_); (repeat' (first | (refine gLex_val0 rfl (by kernel_rfl) (fun K hK => ?_); (go_simp; (try (simp only [↓IntWalk.iteOmega]; try go_simp)); (try simp (disch := omega) only [IntWalk.i64_in]); (try simp (disch := omega) only [IntWalk.u64_in]); first | (refine hK _ ?_; clear hK K) | (apply Exists.intro; refine ⟨fun x => ?_, hK _ ?_⟩; (first | (go_at_call 40; first | with_reducible exact P3.out _ | with_reducible exact P4.out _) | (go_at_call 53; exact calls_same (tuConj _ _ _)) | (simp only [o1.out]; refine ⟨Grows.refl _, rfl⟩) | (simp only [o2.out]; refine ⟨Grows.refl _, rfl⟩)); clear hK K))) | (refine gLex_undef rfl rfl rfl (by kernel_rfl) (fun K hK => ?_); go_simp; refine hK _ ?_; clear hK K) | (refine gLex_ask rfl rfl rfl ?_; first | (apply gAsk_yes; kernel_rfl; intro K hK; (go_simp; (try (simp only [↓IntWalk.iteOmega]; try go_simp)); (try simp (disch := omega) only [IntWalk.i64_in]); (try simp (disch := omega) only [IntWalk.u64_in]); first | (refine hK _ ?_; clear hK K) | (apply Exists.intro; refine ⟨fun x => ?_, hK _ ?_⟩; (first | (go_at_call 40; first | with_reducible exact P3.out _ | with_reducible exact P4.out _) | (go_at_call 53; exact calls_same (tuConj _ _ _)) | (simp only [o1.out]; refine ⟨Grows.refl _, rfl⟩) | (simp only [o2.out]; refine ⟨Grows.refl _, rfl⟩)); clear hK K))) | ((first | apply gAsk_no1 | apply gAsk_no2); kernel_rfl; intro K hK; simp [go_sem]; refine hK _ ?_; clear hK K) | (apply gAsk_part; kernel_rfl; all_goals (intro h K hK; (try simp only [Bool.not_true] at h); (try simp only [Bool.not_false] at h); (try simp only [decide_eq_true_eq] at h); (try simp only [decide_eq_false_iff_not] at h); first | (exfalso; first | contradiction | omega) | (go_simp; (try (simp only [↓IntWalk.iteOmega]; try go_simp)); (try simp (disch := omega) only [IntWalk.i64_in]); (try simp (disch := omega) only [IntWalk.u64_in]); first | (refine hK _ ?_; clear hK K) | (apply Exists.intro; refine ⟨fun x => ?_, hK _ ?_⟩; (first | (go_at_call 40; first | with_reducible exact P3.out _ | with_reducible exact P4.out _) | (go_at_call 53; exact calls_same (tuConj _ _ _)) | (simp only [o1.out]; refine ⟨Grows.refl _, rfl⟩) | (simp only [o2.out]; refine ⟨Grows.refl _, rfl⟩)); clear hK K))))))); all_goals ((apply gLex_end); intro x))
        go_wp2
        exact ⟨⟨k + 1, by omega, by go_num, by rw [HS.out], Grows.later (by repeat (first | exact Grows.refl _ | refine Grows.now ?_ _ | refine Grows.new ?_ _ | refine Grows.drewN ?_ _ | refine Grows.drew ?_ | assumption | (refine Grows.set ?_ (by first | omega | (simp; done) | (simp; omega)) _)))⟩, by simp [intOf]; omega⟩
set_option maxRecDepth 20000 in
set_option maxHeartbeats 4000000 in
theorem r10Area (A : Option Addr) (n c : Nat) (E : List Pl) (w : World) (h : Rd w A 2 n (psCells E)) (hn : n ≤ 1000000) : Calls Try.prog 46 #[.slice A n c] w fun e w' => e = .returned (.int .i64 (areaI E)) ∧ Grows w w' := by
  have HL := hide h.plen
  have C1 := fun W (g : Grows w W) => r9Right A n c E W (h.grows g) hn
  have HR := hide h
  clear h
  by_cases h0 : 1000 < n
  · have HV : Hid (areaI E = 0) := by unfold areaI; exact if_pos (.inl (by rw [HL.out]; exact h0))
    clear C1
    go_enter Try.func46, Try.ntmps46
    go_wp2
    go_ret
    exact ⟨ret_int HV.out.symm, (by repeat (first | exact Grows.refl _ | refine Grows.now ?_ _ | refine Grows.new ?_ _ | refine Grows.drewN ?_ _ | refine Grows.drew ?_ | assumption | (refine Grows.set ?_ (by first | omega | (simp; done) | (simp; omega)) _)))⟩
  cases h1 : E.all okP with
  | false =>
    have HV : Hid (areaI E = 0) := by unfold areaI; exact if_pos (.inr h1)
    rw [h1] at C1
    have H1 := hide C1
    clear C1 h1
    go_enter Try.func46, Try.ntmps46
    go_wp2_with (first | (go_at_call 27; refine (H1.out _ (by repeat (first | exact Grows.refl _ | refine Grows.now ?_ _ | refine Grows.new ?_ _ | refine Grows.drewN ?_ _ | refine Grows.drew ?_ | assumption | (refine Grows.set ?_ (by first | omega | (simp; done) | (simp; omega)) _)))).mono ?_; rintro e w' ⟨rfl, hg⟩; (first | obtain ⟨x, rfl⟩ := Grows.later2 hg | obtain ⟨x, rfl⟩ := Grows.later hg); clear hg))
    go_ret
    exact ⟨ret_int HV.out.symm, (by repeat (first | exact Grows.refl _ | refine Grows.now ?_ _ | refine Grows.new ?_ _ | refine Grows.drewN ?_ _ | refine Grows.drew ?_ | assumption | (refine Grows.set ?_ (by first | omega | (simp; done) | (simp; omega)) _)))⟩
  | true =>
    have HV : Hid (areaI E = arK E n) := by unfold areaI; rw [if_neg (by rw [h1, HL.out]; simp; omega), HL.out]; exact rfl
    rw [h1] at C1
    have H1 := hide C1
    have HO := hide h1
    clear C1 h1
    go_enter Try.func46, Try.ntmps46
    go_wp2_with (first | (go_at_call 27; refine (H1.out _ (by repeat (first | exact Grows.refl _ | refine Grows.now ?_ _ | refine Grows.new ?_ _ | refine Grows.drewN ?_ _ | refine Grows.drew ?_ | assumption | (refine Grows.set ?_ (by first | omega | (simp; done) | (simp; omega)) _)))).mono ?_; rintro e w' ⟨rfl, hg⟩; (first | obtain ⟨x, rfl⟩ := Grows.later2 hg | obtain ⟨x, rfl⟩ := Grows.later hg); clear hg))
    go_loopw [4, 3] (fun i s wr => ∃ k : Nat, k ≤ n ∧ i = .int .i64 (k : Int) ∧ s = .int .i64 (arK E k) ∧ ∃ y : Later w, wr = y.now) (fun i _ _ => n - (intOf i).toNat)
    case atStart => exact ⟨0, by omega, by go_num, rfl, _, rfl⟩
    case round =>
      obtain ⟨k, hk, rfl, rfl, y, rfl⟩ := hrel
      by_cases hend : n ≤ k
      · have hkm : k = n := by omega
        subst hkm
        go_wp2
        go_ret
        exact ⟨ret_int HV.out.symm, (by repeat (first | exact Grows.refl _ | refine Grows.now ?_ _ | refine Grows.new ?_ _ | refine Grows.drewN ?_ _ | refine Grows.drew ?_ | assumption | (refine Grows.set ?_ (by first | omega | (simp; done) | (simp; omega)) _)))⟩
      · obtain ⟨b, off, rfl, hc⟩ := HR.out.places (by omega)
        have hj : (k + 1) % n < n := Nat.mod_lt _ (by omega)
        have hj2 : (((k : Int) + 1).tmod (n : Int)) = (((k + 1) % n : Nat) : Int) := by rw [Int.tmod_eq_emod_of_nonneg (by omega)]; simp
        obtain ⟨hc1, hc2⟩ := hc k (by omega)
        obtain ⟨hc3, hc4⟩ := hc _ hj
        have hok1 := gp_ok HO.out (k := k) (by have := HL.out; omega)
        have hok2 := gp_ok HO.out (k := (k + 1) % n) (by have := HL.out; omega)
        have e1 := (okP_iff _).1 hok1
        have e2 := (okP_iff _).1 hok2
        have b1 := mul_bd (u := (gp E k).x) (v := (gp E ((k + 1) % n)).y) (by omega) (by omega)
        have b2 := mul_bd (u := (gp E k).y) (v := (gp E ((k + 1) % n)).x) (by omega) (by omega)
        have HS : Hid (arK E (k + 1) = arK E k + crI (gp E k) (gp E ((k + 1) % n))) := by
          show _ = _
          rw [arK_succ]; unfold crAt; rw [HL.out]
        have bd1 := crI_bd hok1 hok2
        have bd2 := arK_bd HO.out k (by have := HL.out; omega)
        clear hc hok1 hok2 e1 e2 bd1
        unfold crI at HS
        generalize arK E k = ak at *
        generalize gp E k = pk at *
        generalize (k + 1) % n = j at *
        generalize gp E j = pj at *
        have d1 := y.grows.keeps hc1
        have d2 := y.grows.keeps hc2
        have d3 := y.grows.keeps hc3
        have d4 := y.grows.keeps hc4
        have d5 : ¬ b = y.now.heap.size := by have := cell_lt (w := y.now) (by rw [d1]; rfl); dsimp only at this; omega
        have d6 : ¬ y.now.heap.size = b := fun e => d5 e.symm
        have d7 : n ≠ 0 := by omega
        go_wp2
        go_region
        all_goals go_wp2
        all_goals exact ⟨⟨k + 1, by omega, by go_num, by rw [HS.out, ← Int.add_sub_assoc], Grows.later (by repeat (first | exact Grows.refl _ | refine Grows.now ?_ _ | refine Grows.new ?_ _ | refine Grows.drewN ?_ _ | refine Grows.drew ?_ | assumption | (refine Grows.set ?_ (by first | omega | (simp; done) | (simp; omega)) _)))⟩, by simp [intOf]; omega⟩
end Go.Proofs.Ytaoodmioehkebaa
