/- Walk: what is undone is as it was, and what makes one graph of another one does. -/
import Derived.Test.YtpnncadglhlclaaUndo
import Derived.Test.YtpnncadglhlclaaRefDiff
import Derived.Test.YtpnncadglhlclaaAlive33
import Derived.Test.YtpnncadglhlclaaOpenC
import Derived.Test.YtpnncadglhlclaaLightB
import Derived.Test.YtpnncadglhlclaaBackPlain
namespace Go.Proofs.Ytpnncadglhlclaa
open Go Go.RowKit
set_option maxRecDepth 20000 in
set_option maxHeartbeats 8000000 in
theorem changeBackW (N : Int) (A : Option Addr) (n c : Nat) (E : List Edg) (C : Option Addr) (k e : Nat) (L : List Chg) (w : World)
    (_ : I64 N) (_ : n ≤ c) (h : Rd w A 3 n (esCells E)) (hE : ∀ k, k < n → edgOk (ge E k)) (_ : k ≤ e) (h3 : Rd w C 2 k (csCells L)) (_ : ∀ j, j < k → chOk (gc L j)) :
    Calls Try.prog 14 #[.agg #[.int .i64 N, .slice A n c], .slice C k e] w fun e w' => e = .returned (.bool true) ∧ Grows w w' := by
  have C1 := fun W => lLight N A n c W
  cases h4 : lightG N n with
  | false =>
    rw [h4] at C1
    have H1 := hide C1
    clear C1 h4 h h3 hE
    go_enter Try.func14, Try.ntmps14
    go_wp2_with fail
    refine (H1.out _).mono ?_; rintro e w' ⟨rfl, hg⟩; obtain ⟨x1, rfl⟩ := hg.later; clear hg
    go_wp2_with fail
    refine (alive33 _).mono ?_; rintro e w' ⟨rfl, hg⟩; obtain ⟨x2, rfl⟩ := hg.later; clear hg
    go_wp2
    go_ret
    exact ⟨rfl, (by repeat (first | exact Grows.refl _ | refine Grows.now ?_ _ | refine Grows.new ?_ _ | refine Grows.drewN ?_ _ | refine Grows.drew ?_ | assumption | (refine Grows.set ?_ (by first | omega | (simp; done) | (simp; omega)) _)))⟩
  | true =>
  have q1 : (N ≤ 100 ∨ 4096 < N) ∧ n ≤ 300 := of_decide_eq_true h4
  rw [h4] at C1
  have H1 := hide C1
  clear C1 h4
  by_cases h6 : (40 : Int) < k
  · clear h h3 hE
    go_enter Try.func14, Try.ntmps14
    go_wp2_with fail
    refine (H1.out _).mono ?_; rintro e w' ⟨rfl, hg⟩; obtain ⟨x1, rfl⟩ := hg.later; clear hg
    go_wp2_with fail
    refine (alive33 _).mono ?_; rintro e w' ⟨rfl, hg⟩; obtain ⟨x2, rfl⟩ := hg.later; clear hg
    go_wp2
    go_ret
    exact ⟨rfl, (by repeat (first | exact Grows.refl _ | refine Grows.now ?_ _ | refine Grows.new ?_ _ | refine Grows.drewN ?_ _ | refine Grows.drew ?_ | assumption | (refine Grows.set ?_ (by first | omega | (simp; done) | (simp; omega)) _)))⟩
  have hn : n ≤ 1000000 := by omega
  have hk : k ≤ 1000000 := by omega
  have hlk := h3.clen
  have hl := h.elen
  have C3 := hide (fun (W : World) (g : Grows w W) => law33of C k e L W (h3.grows g) hk)
  have C4 := hide (fun (W : World) (g : Grows w W) (A1 : Option Addr) (c1 : Nat) (hr : Rd W A1 2 L.length (csCells L)) => chApplyF N A n c E A1 L.length c1 L W (h.grows g) hn hr (by omega))
  have C6 := hide (fun (W : World) (g : Grows w W) (A1 : Option Addr) (c1 : Nat) (hr : Rd W A1 2 L.length (csCells L)) => chUndo N A n c E A1 L.length c1 L W (h.grows g) hn hr (by omega) (fun j hj => (hE j hj).2.2))
  have l1 : (apL N E L).length ≤ 1000000 := by
    unfold apL
    split
    · rw [apE_len, h.elen]; exact hn
    · simp
  have l2 : (unV N E L).length ≤ 1000000 := by
    unfold unV
    split
    · have := unL_len E L E.length; rw [h.elen] at this; rw [h.elen]; omega
    · simp
  have l3 : (difV N E N (apL N E L)).length ≤ 1000000 := by
    unfold difV
    split
    · have := difL_len E (apL N E L) E.length; rw [h.elen] at this; rw [h.elen]; omega
    · simp
  have HB := hide (fun hf => back (N := N) (E := E) (L := L) hf)
  have HU0 : Hid (¬ apF N E L = 0 → apN N E L = 0 ∧ unV N E L = []) := fun hf => ⟨by
    unfold apN
    cases ho : apOk N E L with
    | false => rfl
    | true =>
      exfalso
      unfold apOk at ho
      simp only [Bool.and_eq_true, decide_eq_true_eq] at ho
      exact hf (ap_all ho.1 (fun j hj => bdK_ok (by rw [ho.2]; exact hj))).2.2.2, by unfold unV; rw [if_neg hf]⟩
  have HE0 := hide h
  clear h h3 hE
  have hlE : E.length ≤ 1000000 := by omega
  have HDF := hide (fun (W : World) (A7 : Option Addr) (c7 : Nat) (g : Grows w W) (hr : Rd W A7 3 (apL N E L).length (esCells (apL N E L))) => chDiff N A n c E N A7 (apL N E L).length c7 (apL N E L) W (HE0.out.grows g) hn hr l1)
  have HA2 := hide (fun (W : World) (A7 : Option Addr) (c7 : Nat) (A9 : Option Addr) (c9 : Nat) (hr : Rd W A7 3 (apL N E L).length (esCells (apL N E L))) (hu : Rd W A9 2 (unV N E L).length (csCells (unV N E L))) => chApply N A7 (apL N E L).length c7 (apL N E L) A9 (unV N E L).length c9 (unV N E L) W hr l1 hu l2)
  have HA3 := hide (fun (W : World) (A11 : Option Addr) (c11 : Nat) (g : Grows w W) (hu : Rd W A11 2 (difV N E N (apL N E L)).length (csCells (difV N E N (apL N E L)))) => chApply N A n c E A11 (difV N E N (apL N E L)).length c11 (difV N E N (apL N E L)) W (HE0.out.grows g) hn hu l3)
  have HLE := hide hl
  clear hlk hl
  generalize hN4 : apN N E L = N4 at *
  generalize hE4 : apL N E L = E4 at *
  generalize hi4 : apI N E L = i4 at *
  generalize hf4 : apF N E L = f4 at *
  generalize hU4 : unV N E L = U4 at *
  clear hN4 hE4 hi4 hf4 hU4
  go_enter Try.func14, Try.ntmps14
  go_wp2_with fail
  refine (H1.out _).mono ?_; rintro e w' ⟨rfl, hg⟩; obtain ⟨x2, rfl⟩ := hg.later; clear hg
  have hgx : Grows w x2.now := (by repeat (first | exact Grows.refl _ | refine Grows.now ?_ _ | refine Grows.new ?_ _ | refine Grows.drewN ?_ _ | refine Grows.drew ?_ | assumption | (refine Grows.set ?_ (by first | omega | (simp; done) | (simp; omega)) _)))
  go_upto_region 3 with fail
  go_cut [5, 6, 7] (fun s7 s8 s9 wx => s8 = .int .i64 i4 ∧ s9 = .int .i64 f4 ∧ ∃ z : Later x2.now, wx = z.now ∧ ∃ g7 A7 c7, s7 = .pointer (some ⟨g7, 0, none⟩) ∧ Mine z.now ⟨g7, 0, none⟩ (.int .i64 N4) ∧ Mine z.now ⟨g7, 1, none⟩ (.slice A7 E4.length c7) ∧ Hid (Rd z.now A7 3 E4.length (esCells E4)))
  case first =>
    clear H1 C6 HB HU0 HE0 HDF HA2 HA3
    go_region_with (first
      | (go_at_call 62; refine (C3.out _ (by repeat (first | exact Grows.refl _ | refine Grows.now ?_ _ | refine Grows.new ?_ _ | refine Grows.drewN ?_ _ | refine Grows.drew ?_ | assumption | (refine Grows.set ?_ (by first | omega | (simp; done) | (simp; omega)) _)))).mono ?_; rintro e w' ⟨A1, c1, rfl, ho1, hg⟩; obtain ⟨x3, rfl⟩ := hg.later; have HO1 := hide ho1.rd; clear hg ho1)
      | (go_at_call 61; refine (C4.out _ (by repeat (first | exact Grows.refl _ | refine Grows.now ?_ _ | refine Grows.new ?_ _ | refine Grows.drewN ?_ _ | refine Grows.drew ?_ | assumption | (refine Grows.set ?_ (by first | omega | (simp; done) | (simp; omega)) _))) A1 c1 (HO1.out.grows (by repeat (first | exact Grows.refl _ | refine Grows.now ?_ _ | refine Grows.new ?_ _ | refine Grows.drewN ?_ _ | refine Grows.drew ?_ | assumption | (refine Grows.set ?_ (by first | omega | (simp; done) | (simp; omega)) _))))).mono ?_; rintro e w' ⟨A7, c7, rfl, hr, hfr, hg⟩; obtain ⟨x4, rfl⟩ := hg.later; have HR := hide hr; have HFR := hide hfr; clear hg hr hfr))
    all_goals go_wp2_with fail
    all_goals go_meet
    all_goals (case rel =>
      first
        | (refine ⟨rfl, rfl, ⟨x4.now.alloc _, ?gg⟩, (by with_reducible rfl), _, A7, c7, rfl, Mine.new0 _ _ _ _, Mine.new1 _ _ _ _ _, ?mf⟩
           case gg => exact (by repeat (first | exact Grows.refl _ | refine Grows.now ?_ _ | refine Grows.new ?_ _ | refine Grows.drewN ?_ _ | refine Grows.drew ?_ | assumption | (refine Grows.set ?_ (by first | omega | (simp; done) | (simp; omega)) _)))
           case mf => exact HR.out.new _)
        | (have hx3 := x3.grows.size
           try simp at hx3
           have h3s := (show Grows x2.now x3.now from (by repeat (first | exact Grows.refl _ | refine Grows.now ?_ _ | refine Grows.new ?_ _ | refine Grows.drewN ?_ _ | refine Grows.drew ?_ | assumption | (refine Grows.set ?_ (by first | omega | (simp; done) | (simp; omega)) _)))).size
           refine ⟨rfl, rfl, ⟨(x4.now.setCell _ _).setCell _ _, ?gg⟩, (by with_reducible rfl), _, A7, c7, rfl, ⟨by simp [go_sem], by simp [go_sem]⟩, ⟨by simp [go_sem], by simp [go_sem]⟩, ?mf⟩
           case gg => exact (by repeat (first | exact Grows.refl _ | refine Grows.now ?_ _ | refine Grows.new ?_ _ | refine Grows.drewN ?_ _ | refine Grows.drew ?_ | assumption | (refine Grows.set ?_ (by first | omega | (simp; done) | (simp; omega)) _)))
           case mf => exact fin5 HR.out HFR.out (by first | (simp; done) | (simp; omega)) (by first | (simp; done) | (simp; omega)) _ _))
  case rest =>
    obtain ⟨rfl, rfl, z, rfl, g7, A7, c7, rfl, m0, m1, HR7⟩ := hcut
    go_upto_region 4 with fail
    go_cut [8, 9] (fun s13 s14 wx => s14 = .int .i64 f4 ∧ ∃ z2 : Later z.now, wx = z2.now ∧ ∃ A9 c9, s13 = .slice A9 U4.length c9 ∧ Hid (Rd z2.now A9 2 U4.length (csCells U4)))
    case first =>
      clear H1 HB HU0 HE0 HDF HA2 HA3
      go_region_with (first
        | (go_at_call 62; refine (C3.out _ (by repeat (first | exact Grows.refl _ | refine Grows.now ?_ _ | refine Grows.new ?_ _ | refine Grows.drewN ?_ _ | refine Grows.drew ?_ | assumption | (refine Grows.set ?_ (by first | omega | (simp; done) | (simp; omega)) _)))).mono ?_; rintro e w' ⟨A1, c1, rfl, ho1, hg⟩; obtain ⟨x3, rfl⟩ := hg.later; have HO1 := hide ho1.rd; clear hg ho1)
        | (go_at_call 64; refine (C6.out _ (by repeat (first | exact Grows.refl _ | refine Grows.now ?_ _ | refine Grows.new ?_ _ | refine Grows.drewN ?_ _ | refine Grows.drew ?_ | assumption | (refine Grows.set ?_ (by first | omega | (simp; done) | (simp; omega)) _))) A1 c1 (HO1.out.grows (by repeat (first | exact Grows.refl _ | refine Grows.now ?_ _ | refine Grows.new ?_ _ | refine Grows.drewN ?_ _ | refine Grows.drew ?_ | assumption | (refine Grows.set ?_ (by first | omega | (simp; done) | (simp; omega)) _))))).mono ?_; rintro e w' ⟨A9, c9, rfl, hr, hg⟩; obtain ⟨x4, rfl⟩ := hg.later; have HR := hide hr; clear hg hr))
      all_goals go_wp2_with fail
      all_goals go_meet
      all_goals (case rel => exact ⟨rfl, ⟨x4.now, (by repeat (first | exact Grows.refl _ | refine Grows.now ?_ _ | refine Grows.new ?_ _ | refine Grows.drewN ?_ _ | refine Grows.drew ?_ | assumption | (refine Grows.set ?_ (by first | omega | (simp; done) | (simp; omega)) _)))⟩, rfl, A9, c9, rfl, HR.out⟩)
    case rest =>
      obtain ⟨rfl, z2, rfl, A9, c9, rfl, HR9⟩ := hcut
      by_cases hf : f4 = 0
      · obtain ⟨v1, v2, ⟨v3, v4, v5⟩, v6, ⟨v7, v8, v9⟩, v10⟩ := HB.out hf
        subst hf v1
        have HA2' := hide (fun W A7 c7 A9 c9 hr hu => HA2.out W A7 c7 A9 c9 hr hu)
        rw [v3, v4, v5] at HA2'
        have HA3' := hide (fun W A11 c11 g hu => HA3.out W A11 c11 g hu)
        rw [v7, v8, v9] at HA3'
        have HDF' := hide (fun W A7 c7 g hr => HDF.out W A7 c7 g hr)
        rw [v6] at HDF'
        clear HA2 HA3 HDF HB HU0 v2 v3 v4 v5 v6 v7 v8 v9
        generalize difV N4 E N4 E4 = D4 at *
        generalize apI N4 E4 U4 = i5 at *
        generalize apI N4 E D4 = i6 at *
        have hle : ((D4.length : Int) ≤ (U4.length : Int)) := by omega
        go_wp2_with fail
        refine (HA2'.out _ A7 c7 A9 c9 (HR7.out.grows (by repeat (first | exact Grows.refl _ | refine Grows.now ?_ _ | refine Grows.new ?_ _ | refine Grows.drewN ?_ _ | refine Grows.drew ?_ | assumption | (refine Grows.set ?_ (by first | omega | (simp; done) | (simp; omega)) _)))) (HR9.out.grows (by repeat (first | exact Grows.refl _ | refine Grows.now ?_ _ | refine Grows.new ?_ _ | refine Grows.drewN ?_ _ | refine Grows.drew ?_ | assumption | (refine Grows.set ?_ (by first | omega | (simp; done) | (simp; omega)) _))))).mono ?_; rintro e w' ⟨A10, c10, rfl, hr10, hg⟩; obtain ⟨x6, rfl⟩ := hg.later; have HR10 := hide hr10; clear hg hr10
        go_wp2_with fail
        refine (HDF'.out _ A7 c7 (by repeat (first | exact Grows.refl _ | refine Grows.now ?_ _ | refine Grows.new ?_ _ | refine Grows.drewN ?_ _ | refine Grows.drew ?_ | assumption | (refine Grows.set ?_ (by first | omega | (simp; done) | (simp; omega)) _))) (HR7.out.grows (by repeat (first | exact Grows.refl _ | refine Grows.now ?_ _ | refine Grows.new ?_ _ | refine Grows.drewN ?_ _ | refine Grows.drew ?_ | assumption | (refine Grows.set ?_ (by first | omega | (simp; done) | (simp; omega)) _))))).mono ?_; rintro e w' ⟨A11, c11, rfl, hr11, hg⟩; obtain ⟨x7, rfl⟩ := hg.later; have HR11 := hide hr11; clear hg hr11
        go_wp2_with fail
        refine (HA3'.out _ A11 c11 (by repeat (first | exact Grows.refl _ | refine Grows.now ?_ _ | refine Grows.new ?_ _ | refine Grows.drewN ?_ _ | refine Grows.drew ?_ | assumption | (refine Grows.set ?_ (by first | omega | (simp; done) | (simp; omega)) _))) (HR11.out.grows (by repeat (first | exact Grows.refl _ | refine Grows.now ?_ _ | refine Grows.new ?_ _ | refine Grows.drewN ?_ _ | refine Grows.drew ?_ | assumption | (refine Grows.set ?_ (by first | omega | (simp; done) | (simp; omega)) _))))).mono ?_; rintro e w' ⟨A12, c12, rfl, hr12, hg⟩; obtain ⟨x8, rfl⟩ := hg.later; have HR12 := hide hr12; clear hg hr12
        go_wp2_with fail
        have HE1 := hide (show Rd w A 3 E.length (esCells E) by rw [HLE.out]; exact HE0.out)
        have hls := HLE.out
        subst hls
        refine (r5Same N4 A10 _ c10 A c E _ (HR10.out.grows (by repeat (first | exact Grows.refl _ | refine Grows.now ?_ _ | refine Grows.new ?_ _ | refine Grows.drewN ?_ _ | refine Grows.drew ?_ | assumption | (refine Grows.set ?_ (by first | omega | (simp; done) | (simp; omega)) _)))) (HE1.out.grows (by repeat (first | exact Grows.refl _ | refine Grows.now ?_ _ | refine Grows.new ?_ _ | refine Grows.drewN ?_ _ | refine Grows.drew ?_ | assumption | (refine Grows.set ?_ (by first | omega | (simp; done) | (simp; omega)) _)))) hlE).mono ?_; rintro e w' ⟨rfl, hg⟩; obtain ⟨x9, rfl⟩ := hg.later; clear hg
        go_wp2_with fail
        refine (r5Same N4 A12 _ c12 A7 c7 E4 _ (HR12.out.grows (by repeat (first | exact Grows.refl _ | refine Grows.now ?_ _ | refine Grows.new ?_ _ | refine Grows.drewN ?_ _ | refine Grows.drew ?_ | assumption | (refine Grows.set ?_ (by first | omega | (simp; done) | (simp; omega)) _)))) (HR7.out.grows (by repeat (first | exact Grows.refl _ | refine Grows.now ?_ _ | refine Grows.new ?_ _ | refine Grows.drewN ?_ _ | refine Grows.drew ?_ | assumption | (refine Grows.set ?_ (by first | omega | (simp; done) | (simp; omega)) _)))) l1).mono ?_; rintro e w' ⟨rfl, hg⟩; obtain ⟨x10, rfl⟩ := hg.later; clear hg
        go_wp2_with fail
        refine (alive33 _).mono ?_; rintro e w' ⟨rfl, hg⟩; obtain ⟨x12, rfl⟩ := hg.later; clear hg
        go_wp2
        go_ret
        exact ⟨rfl, (by repeat (first | exact Grows.refl _ | refine Grows.now ?_ _ | refine Grows.new ?_ _ | refine Grows.drewN ?_ _ | refine Grows.drew ?_ | assumption | (refine Grows.set ?_ (by first | omega | (simp; done) | (simp; omega)) _)))⟩
      · obtain ⟨v1, v2⟩ := HU0.out hf
        subst v1 v2
        have hd : (f4 == 0) = false := beq_eq_false_iff_ne.2 hf
        have hd2 : (f4 != 0) = true := bne_iff_ne.2 hf
        clear HA2 HA3 HDF HB HU0 C3 C4 C6
        go_wp2_with fail
        refine (alive33 _).mono ?_; rintro e w' ⟨rfl, hg⟩; obtain ⟨x12, rfl⟩ := hg.later; clear hg
        go_wp2
        go_ret
        exact ⟨rfl, (by repeat (first | exact Grows.refl _ | refine Grows.now ?_ _ | refine Grows.new ?_ _ | refine Grows.drewN ?_ _ | refine Grows.drew ?_ | assumption | (refine Grows.set ?_ (by first | omega | (simp; done) | (simp; omega)) _)))⟩
end Go.Proofs.Ytpnncadglhlclaa
