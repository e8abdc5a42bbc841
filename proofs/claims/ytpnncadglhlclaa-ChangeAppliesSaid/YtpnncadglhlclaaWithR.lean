/- Contract: a graph with one weight changed, by the answer. -/
import Derived.Test.YtpnncadglhlclaaWithE
import Derived.Deep.RegionLaw
namespace Go.Proofs.Ytpnncadglhlclaa
open Go Go.RowKit
set_option maxRecDepth 20000 in
set_option maxHeartbeats 4000000 in
theorem r5With (N : Int) (A : Option Addr) (n c : Nat) (E : List Edg) (e x : Int) (w : World) (h : Rd w A 3 n (esCells E)) (hn : n ≤ 1000000) :
    Calls Try.prog 102 #[.agg #[.int .i64 N, .slice A n c], .int .i64 e, .int .u64 x] w (GiveGF w (withF N E e x) fun N' A' n' c' w' => withF N E e x = 0 → N' = N ∧ n' = E.length ∧ Own w' w.heap.size 49 3 A' n' c' (esCells (setW E e.toNat x))) := by
  have hl := h.elen
  have C1 := fun W (g : Grows w W) => r5Right N A n c E W (h.grows g) hn
  have C3 := hide (fun W => calls_same (r5weight x W))
  have HV : Hid (withF N E e x = if rightF N E = 0 then (if edgeB n e then (if wtB x then 0 else 2) else 8) else 1) := by unfold withF chF; rw [hl]; rfl
  rw [HV.out]
  have HH := hide hl
  have HR := hide h
  clear h HV hl
  by_cases hr : rightF N E = 0
  · rw [if_pos hr]
    rw [hr] at C1
    have H1 := hide C1
    clear C1 hr
    cases he : edgeB n e with
    | false =>
      have hek : ¬ (0 ≤ e ∧ e < n) := of_decide_eq_false he
      clear he
      rw [if_neg (by simp)]
      by_cases he0 : e < 0
      ·
        go_enter Try.func102, Try.ntmps102
        go_wp2_with (first | (go_at_call 74; refine (H1.out _ (by repeat (first | exact Grows.refl _ | refine Grows.now ?_ _ | refine Grows.new ?_ _ | refine Grows.drewN ?_ _ | refine Grows.drew ?_ | assumption | (refine Grows.set ?_ (by first | omega | (simp; done) | (simp; omega)) _)))).mono ?_; rintro e w' ⟨rfl, hg⟩; (first | obtain ⟨x, rfl⟩ := Grows.later2 hg | obtain ⟨x, rfl⟩ := Grows.later hg); clear hg))
        refine bodyPost_ret (v := .tuple #[.agg #[.int .i64 0, .slice none 0 0], .int .i64 8]) (by simp (maxDischargeDepth := 6) [results, Try.results102, go_sem, *]) rfl ⟨_, _, _, _, rfl, fun h => by simp at h, (by repeat (first | exact Grows.refl _ | refine Grows.now ?_ _ | refine Grows.new ?_ _ | refine Grows.drewN ?_ _ | refine Grows.drew ?_ | assumption | (refine Grows.set ?_ (by first | omega | (simp; done) | (simp; omega)) _)))⟩
      · have he1 : (n : Int) ≤ e := by omega
        go_enter Try.func102, Try.ntmps102
        go_wp2_with (first | (go_at_call 74; refine (H1.out _ (by repeat (first | exact Grows.refl _ | refine Grows.now ?_ _ | refine Grows.new ?_ _ | refine Grows.drewN ?_ _ | refine Grows.drew ?_ | assumption | (refine Grows.set ?_ (by first | omega | (simp; done) | (simp; omega)) _)))).mono ?_; rintro e w' ⟨rfl, hg⟩; (first | obtain ⟨x, rfl⟩ := Grows.later2 hg | obtain ⟨x, rfl⟩ := Grows.later hg); clear hg))
        refine bodyPost_ret (v := .tuple #[.agg #[.int .i64 0, .slice none 0 0], .int .i64 8]) (by simp (maxDischargeDepth := 6) [results, Try.results102, go_sem, *]) rfl ⟨_, _, _, _, rfl, fun h => by simp at h, (by repeat (first | exact Grows.refl _ | refine Grows.now ?_ _ | refine Grows.new ?_ _ | refine Grows.drewN ?_ _ | refine Grows.drew ?_ | assumption | (refine Grows.set ?_ (by first | omega | (simp; done) | (simp; omega)) _)))⟩
    | true =>
      rw [if_pos rfl]
      have hek : 0 ≤ e ∧ e < n := of_decide_eq_true he
      clear he
      have he0 : ¬ e < 0 := by omega
      have he1 : ¬ (n : Int) ≤ e := by omega
      cases hx : wtB x with
      | false =>
        rw [hx] at C3
        clear hx
        rw [if_neg (by simp)]
        go_enter Try.func102, Try.ntmps102
        go_wp2_with (first | (go_at_call 74; refine (H1.out _ (by repeat (first | exact Grows.refl _ | refine Grows.now ?_ _ | refine Grows.new ?_ _ | refine Grows.drewN ?_ _ | refine Grows.drew ?_ | assumption | (refine Grows.set ?_ (by first | omega | (simp; done) | (simp; omega)) _)))).mono ?_; rintro e w' ⟨rfl, hg⟩; (first | obtain ⟨x, rfl⟩ := Grows.later2 hg | obtain ⟨x, rfl⟩ := Grows.later hg); clear hg) | (go_at_call 112; refine (C3.out _).mono ?_; rintro e w' ⟨rfl, hg⟩; (first | obtain ⟨x, rfl⟩ := Grows.later2 hg | obtain ⟨x, rfl⟩ := Grows.later hg); clear hg))
        refine bodyPost_ret (v := .tuple #[.agg #[.int .i64 0, .slice none 0 0], .int .i64 2]) (by simp (maxDischargeDepth := 6) [results, Try.results102, go_sem, *]) rfl ⟨_, _, _, _, rfl, fun h => by simp at h, (by repeat (first | exact Grows.refl _ | refine Grows.now ?_ _ | refine Grows.new ?_ _ | refine Grows.drewN ?_ _ | refine Grows.drew ?_ | assumption | (refine Grows.set ?_ (by first | omega | (simp; done) | (simp; omega)) _)))⟩
      | true =>
        rw [hx] at C3
        clear hx
        rw [if_pos rfl]
        obtain ⟨k, rfl⟩ := Int.eq_ofNat_of_zero_le hek.1
        have hk : k < n := by omega
        clear hek he0 he1
        obtain ⟨b, off, rfl, _⟩ := HR.out.2 (by omega) (by omega)
        rw [Int.toNat_natCast]
        go_enter Try.func102, Try.ntmps102
        go_upto_region 7 with (first
          | (go_at_call 74; refine (H1.out _ (by repeat (first | exact Grows.refl _ | refine Grows.now ?_ _ | refine Grows.new ?_ _ | refine Grows.drewN ?_ _ | refine Grows.drew ?_ | assumption | (refine Grows.set ?_ (by first | omega | (simp; done) | (simp; omega)) _)))).mono ?_; rintro e w' ⟨rfl, hg⟩; obtain ⟨x1, rfl⟩ := hg.later; clear hg)
          | (go_at_call 112; refine (C3.out _).mono ?_; rintro e w' ⟨rfl, hg⟩; obtain ⟨x3, rfl⟩ := hg.later; clear hg))
        have hgx := (show Grows w x3.now from (by repeat (first | exact Grows.refl _ | refine Grows.now ?_ _ | refine Grows.new ?_ _ | refine Grows.drewN ?_ _ | refine Grows.drew ?_ | assumption | (refine Grows.set ?_ (by first | omega | (simp; done) | (simp; omega)) _)))).size
        have hgy := (x1.grows.trans x3.grows).size
        simp only [World.size_alloc] at hgy
        go_cut [8] (fun s8 wx => ∃ y : Later x3.now, wx = y.now ∧ ∃ g8 g c3, s8 = .pointer (some ⟨g8, 0, none⟩) ∧ x3.now.heap.size ≤ g8 ∧ g8 ≠ g ∧ x3.now.heap.size ≤ g ∧ Mine y.now ⟨g8, 0, none⟩ (.int .i64 N) ∧ Mine y.now ⟨g8, 1, none⟩ (.slice (some ⟨g, 0, none⟩) n c3) ∧ Own y.now x3.now.heap.size 49 3 (some ⟨g, 0, none⟩) n c3 (esCells E))
        case first =>
          go_region_law (refine step_appNew elemEdge rfl _ _ rfl _ rfl ⟨b, off, none⟩ n c _ rfl (HR.out.grows (by repeat (first | exact Grows.refl _ | refine Grows.now ?_ _ | refine Grows.new ?_ _ | refine Grows.drewN ?_ _ | refine Grows.drew ?_ | assumption | (refine Grows.set ?_ (by first | omega | (simp; done) | (simp; omega)) _)))) (es_one E) (by omega) (by omega) ?_; intro A3 c3 y3 hown3; obtain ⟨g, rfl, hgB, hlt, _⟩ := hown3.atS (by omega); simp only [World.size_drew, World.size_alloc] at hgB; have HO3 := hide hown3; clear hown3)
          all_goals go_wp2_with fail
          all_goals go_meet
          all_goals (case rel =>
            first
              | exact ⟨⟨y3.now.alloc _, (by repeat (first | exact Grows.refl _ | refine Grows.now ?_ _ | refine Grows.new ?_ _ | refine Grows.drewN ?_ _ | refine Grows.drew ?_ | assumption | (refine Grows.set ?_ (by first | omega | (simp; done) | (simp; omega)) _)))⟩, rfl, _, g, c3, rfl, by have := y3.size; simp at this ⊢; omega, by omega, by omega, inferInstance, inferInstance, (HO3.out.new _).base (by first | (simp; done) | (simp; omega))⟩
              | (refine ⟨⟨(y3.now.setCell _ _).setCell _ _, (by repeat (first | exact Grows.refl _ | refine Grows.now ?_ _ | refine Grows.new ?_ _ | refine Grows.drewN ?_ _ | refine Grows.drew ?_ | assumption | (refine Grows.set ?_ (by first | omega | (simp; done) | (simp; omega)) _)))⟩, rfl, _, g, c3, rfl, by omega, by omega, by omega, ⟨by simp [go_sem], by simp [go_sem]⟩, ⟨by simp [go_sem], by simp [go_sem]⟩, ?_⟩
                 exact ((HO3.out.low (by first | (simp; done) | (simp; omega)) _).low (by first | (simp; done) | (simp; omega)) _).base (by first | (simp; done) | (simp; omega))))
        case rest =>
          obtain ⟨y, rfl, g8, g, c3, rfl, hg8, hne, hgw, m1, m2, hown⟩ := hcut
          have hgw' := hgw
          have hgw : w.heap.size ≤ g := by omega
          obtain ⟨g', e', _, hlt, hM⟩ := hown.atS (by omega)
          obtain rfl : g = g' := by simpa using e'
          have c5 := hM _ _ (es_at2 (k := k) (by rw [HH.out]; exact hk))
          have HO := hide hown
          clear hown hM e'
          go_wp2
          refine bodyPost_ret (v := .tuple #[.agg #[.int .i64 N, .slice (some ⟨g, 0, none⟩) n c3], .int .i64 0]) (by simp (maxDischargeDepth := 6) [results, Try.results102, go_sem, *]) rfl ⟨_, _, _, _, rfl, fun _ => ⟨rfl, HH.out.symm, ?_⟩, (by repeat (first | exact Grows.refl _ | refine Grows.now ?_ _ | refine Grows.new ?_ _ | refine Grows.drewN ?_ _ | refine Grows.drew ?_ | assumption | (refine Grows.set ?_ (by first | omega | (simp; done) | (simp; omega)) _)))⟩
          obtain ⟨y2, e2, ho2⟩ := HO.out.putS (w0 := x3.now) (j := k * 3 + 2) (by repeat (first | exact Grows.refl _ | refine Grows.now ?_ _ | refine Grows.new ?_ _ | refine Grows.drewN ?_ _ | refine Grows.drew ?_ | assumption | (refine Grows.set ?_ (by first | omega | (simp; done) | (simp; omega)) _))) (by omega) (.int .u64 x)
          rw [esCells_setW] at ho2
          rw [e2]
          exact ((ho2.low (by show w.heap.size + 1 < _; omega) _).low (by show w.heap.size + 1 < _; omega) _).base hgx
  · rw [if_neg hr]
    have hr2 : (rightF N E == 0) = false := beq_eq_false_iff_ne.2 hr
    have H1 := hide C1
    clear C1 hr
    go_enter Try.func102, Try.ntmps102
    go_wp2_with (first | (go_at_call 74; refine (H1.out _ (by repeat (first | exact Grows.refl _ | refine Grows.now ?_ _ | refine Grows.new ?_ _ | refine Grows.drewN ?_ _ | refine Grows.drew ?_ | assumption | (refine Grows.set ?_ (by first | omega | (simp; done) | (simp; omega)) _)))).mono ?_; rintro e w' ⟨rfl, hg⟩; (first | obtain ⟨x, rfl⟩ := Grows.later2 hg | obtain ⟨x, rfl⟩ := Grows.later hg); clear hg))
    refine bodyPost_ret (v := .tuple #[.agg #[.int .i64 0, .slice none 0 0], .int .i64 1]) (by simp (maxDischargeDepth := 6) [results, Try.results102, go_sem, *]) rfl ⟨_, _, _, _, rfl, fun h => by simp at h, (by repeat (first | exact Grows.refl _ | refine Grows.now ?_ _ | refine Grows.new ?_ _ | refine Grows.drewN ?_ _ | refine Grows.drew ?_ | assumption | (refine Grows.set ?_ (by first | omega | (simp; done) | (simp; omega)) _)))⟩
end Go.Proofs.Ytpnncadglhlclaa
