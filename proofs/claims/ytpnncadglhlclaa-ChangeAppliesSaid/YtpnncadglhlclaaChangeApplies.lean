/- Walk: any graph with any changes, what undoes them, and which changes make one graph of another one. -/
import Derived.Test.YtpnncadglhlclaaUndo
import Derived.Test.YtpnncadglhlclaaRefDiff
import Derived.Test.YtpnncadglhlclaaAlive33
import Derived.Test.YtpnncadglhlclaaOpenC
import Derived.Test.YtpnncadglhlclaaLightB
namespace Go.Proofs.Ytpnncadglhlclaa
open Go Go.RowKit
set_option maxRecDepth 20000 in
set_option maxHeartbeats 8000000 in
theorem changeAppliesW (N : Int) (A : Option Addr) (n c : Nat) (E : List Edg) (N2 : Int) (B : Option Addr) (m d : Nat) (F : List Edg) (C : Option Addr) (k e : Nat) (L : List Chg) (w : World)
    (_ : I64 N) (_ : n ≤ c) (h : Rd w A 3 n (esCells E)) (hE : ∀ k, k < n → edgOk (ge E k)) (_ : I64 N2) (_ : m ≤ d) (h2 : Rd w B 3 m (esCells F)) (_ : ∀ k, k < m → edgOk (ge F k)) (_ : k ≤ e) (h3 : Rd w C 2 k (csCells L)) (_ : ∀ j, j < k → chOk (gc L j)) :
    Calls Try.prog 13 #[.agg #[.int .i64 N, .slice A n c], .agg #[.int .i64 N2, .slice B m d], .slice C k e] w fun e w' => e = .returned (.bool true) ∧ Grows w w' := by
  have C1 := fun W => lLight N A n c W
  have C2 := fun W => lLight N2 B m d W
  cases h4 : lightG N n with
  | false =>
    rw [h4] at C1
    have H1 := hide C1
    clear C1 C2 h4 h h2 h3 hE
    go_enter Try.func13, Try.ntmps13
    go_wp2_with fail
    refine (H1.out _).mono ?_; rintro e w' ⟨rfl, hg⟩; obtain ⟨x1, rfl⟩ := hg.later; clear hg
    go_wp2_with fail
    refine (alive33 _).mono ?_; rintro e w' ⟨rfl, hg⟩; obtain ⟨x2, rfl⟩ := hg.later; clear hg
    go_wp2
    go_ret
    exact ⟨rfl, (by repeat (first | exact Grows.refl _ | refine Grows.now ?_ _ | refine Grows.new ?_ _ | refine Grows.drewN ?_ _ | refine Grows.drew ?_ | assumption | (refine Grows.set ?_ (by first | omega | (simp; done) | (simp; omega)) _)))⟩
  | true =>
  have q1 : (N ≤ 100 ∨ 4096 < N) ∧ n ≤ 300 := of_decide_eq_true h4
  rw [h4] at C1
  have H1 := hide C1
  clear C1 h4
  cases h5 : lightG N2 m with
  | false =>
    rw [h5] at C2
    have H2 := hide C2
    clear C2 h5 h h2 h3 hE
    go_enter Try.func13, Try.ntmps13
    go_wp2_with fail
    refine (H1.out _).mono ?_; rintro e w' ⟨rfl, hg⟩; obtain ⟨x1, rfl⟩ := hg.later; clear hg
    go_wp2_with fail
    refine (H2.out _).mono ?_; rintro e w' ⟨rfl, hg⟩; obtain ⟨x3, rfl⟩ := hg.later; clear hg
    go_wp2_with fail
    refine (alive33 _).mono ?_; rintro e w' ⟨rfl, hg⟩; obtain ⟨x2, rfl⟩ := hg.later; clear hg
    go_wp2
    go_ret
    exact ⟨rfl, (by repeat (first | exact Grows.refl _ | refine Grows.now ?_ _ | refine Grows.new ?_ _ | refine Grows.drewN ?_ _ | refine Grows.drew ?_ | assumption | (refine Grows.set ?_ (by first | omega | (simp; done) | (simp; omega)) _)))⟩
  | true =>
  have q2 : (N2 ≤ 100 ∨ 4096 < N2) ∧ m ≤ 300 := of_decide_eq_true h5
  rw [h5] at C2
  have H2 := hide C2
  clear C2 h5
  by_cases h6 : (40 : Int) < k
  · clear h h2 h3 hE
    go_enter Try.func13, Try.ntmps13
    go_wp2_with fail
    refine (H1.out _).mono ?_; rintro e w' ⟨rfl, hg⟩; obtain ⟨x1, rfl⟩ := hg.later; clear hg
    go_wp2_with fail
    refine (H2.out _).mono ?_; rintro e w' ⟨rfl, hg⟩; obtain ⟨x3, rfl⟩ := hg.later; clear hg
    go_wp2_with fail
    refine (alive33 _).mono ?_; rintro e w' ⟨rfl, hg⟩; obtain ⟨x2, rfl⟩ := hg.later; clear hg
    go_wp2
    go_ret
    exact ⟨rfl, (by repeat (first | exact Grows.refl _ | refine Grows.now ?_ _ | refine Grows.new ?_ _ | refine Grows.drewN ?_ _ | refine Grows.drew ?_ | assumption | (refine Grows.set ?_ (by first | omega | (simp; done) | (simp; omega)) _)))⟩
  have hn : n ≤ 1000000 := by omega
  have hm : m ≤ 1000000 := by omega
  have hk : k ≤ 1000000 := by omega
  have hlk := h3.clen
  have C3 := hide (fun (W : World) (g : Grows w W) => law33of C k e L W (h3.grows g) hk)
  have C4 := hide (fun (W : World) (g : Grows w W) (A1 : Option Addr) (c1 : Nat) (hr : Rd W A1 2 L.length (csCells L)) => chApplyF N A n c E A1 L.length c1 L W (h.grows g) hn hr (by omega))
  have C5 := hide (fun (W : World) (g : Grows w W) => r33Apply N A n c E C k e L W (h.grows g) hn (h3.grows g) hk)
  have C6 := hide (fun (W : World) (g : Grows w W) (A1 : Option Addr) (c1 : Nat) (hr : Rd W A1 2 L.length (csCells L)) => chUndo N A n c E A1 L.length c1 L W (h.grows g) hn hr (by omega) (fun j hj => (hE j hj).2.2))
  have C7 := hide (fun (W : World) (g : Grows w W) => r33Undo N A n c E C k e L W (h.grows g) hn (h3.grows g) hk)
  have C8 := hide (fun (W : World) (g : Grows w W) => chDiff N A n c E N2 B m d F W (h.grows g) hn (h2.grows g) hm)
  have C9 := hide (fun (W : World) (g : Grows w W) => r33Diff N A n c E N2 B m d F W (h.grows g) hn (h2.grows g) hm)
  have l1 : (apL N E L).length ≤ 1000000 := by
    unfold apL
    split
    · rw [apE_len, h.elen]; exact hn
    · simp
  have l2 : (unV N E L).length ≤ 1000000 := by
    unfold unV
    split
    · have := unL_len E L E.length; rw [h.elen] at this; rw [h.elen]; omega
    · simp
  have l3 : (difV N E N2 F).length ≤ 1000000 := by
    unfold difV
    split
    · have := difL_len E F E.length; rw [h.elen] at this; rw [h.elen]; omega
    · simp
  clear h h2 h3 hE hlk
  generalize apN N E L = N4 at *
  generalize apL N E L = E4 at *
  generalize apI N E L = i4 at *
  generalize apF N E L = f4 at *
  generalize unV N E L = U4 at *
  generalize difV N E N2 F = D4 at *
  generalize difB N E N2 F = b4 at *
  go_enter Try.func13, Try.ntmps13
  go_wp2_with fail
  refine (H1.out _).mono ?_; rintro e w' ⟨rfl, hg⟩; obtain ⟨x1, rfl⟩ := hg.later; clear hg
  go_wp2_with fail
  refine (H2.out _).mono ?_; rintro e w' ⟨rfl, hg⟩; obtain ⟨x2, rfl⟩ := hg.later; clear hg
  have hgx : Grows w x2.now := (by repeat (first | exact Grows.refl _ | refine Grows.now ?_ _ | refine Grows.new ?_ _ | refine Grows.drewN ?_ _ | refine Grows.drew ?_ | assumption | (refine Grows.set ?_ (by first | omega | (simp; done) | (simp; omega)) _)))
  go_upto_region 3 with fail
  go_cut [7, 8, 9] (fun s7 s8 s9 wx => s8 = .int .i64 i4 ∧ s9 = .int .i64 f4 ∧ ∃ z : Later x2.now, wx = z.now ∧ ∃ g7 A7 c7, s7 = .pointer (some ⟨g7, 0, none⟩) ∧ Mine z.now ⟨g7, 0, none⟩ (.int .i64 N4) ∧ Mine z.now ⟨g7, 1, none⟩ (.slice A7 E4.length c7) ∧ Hid (Rd z.now A7 3 E4.length (esCells E4)))
  case first =>
    clear H1 H2 C5 C6 C7 C8 C9
    go_region_with (first
      | (go_at_call 62; refine (C3.out _ (by repeat (first | exact Grows.refl _ | refine Grows.now ?_ _ | refine Grows.new ?_ _ | refine Grows.drewN ?_ _ | refine Grows.drew ?_ | assumption | (refine Grows.set ?_ (by first | omega | (simp; done) | (simp; omega)) _)))).mono ?_; rintro e w' ⟨A1, c1, rfl, ho1, hg⟩; obtain ⟨x3, rfl⟩ := hg.later; have HO1 := hide ho1.rd; clear hg ho1)
      | (go_at_call 61; refine (C4.out _ (by repeat (first | exact Grows.refl _ | refine Grows.now ?_ _ | refine Grows.new ?_ _ | refine Grows.drewN ?_ _ | refine Grows.drew ?_ | assumption | (refine Grows.set ?_ (by first | omega | (simp; done) | (simp; omega)) _))) A1 c1 (HO1.out.grows (by repeat (first | exact Grows.refl _ | refine Grows.now ?_ _ | refine Grows.new ?_ _ | refine Grows.drewN ?_ _ | refine Grows.drew ?_ | assumption | (refine Grows.set ?_ (by first | omega | (simp; done) | (simp; omega)) _))))).mono ?_; rintro e w' ⟨A7, c7, rfl, hr, hfr, hg⟩; obtain ⟨x4, rfl⟩ := hg.later; have HR := hide hr; have HFR := hide hfr; clear hg hr hfr))
    all_goals go_wp2_with fail
    all_goals go_meet
    all_goals (case rel =>
      first
        | (refine ⟨rfl, rfl, ⟨x4.now.alloc _, ?gg⟩, (by with_reducible rfl), _, A7, c7, rfl, Mine.new0 _ _ _ _, Mine.new1 _ _ _ _ _, ?mf⟩
           case gg => exact (by repeat (first | exact Grows.refl _ | refine Grows.now ?_ _ | refine Grows.new ?_ _ | refine Grows.drewN ?_ _ | refine Grows.drew ?_ | assumption | (refine Grows.set ?_ (by first | omega | (simp; done) | (simp; omega)) _)))
           case mf => exact HR.out.new _)
        | (have hx3 := x3.grows.size
           try simp at hx3
           have h3s := (show Grows x2.now x3.now from (by repeat (first | exact Grows.refl _ | refine Grows.now ?_ _ | refine Grows.new ?_ _ | refine Grows.drewN ?_ _ | refine Grows.drew ?_ | assumption | (refine Grows.set ?_ (by first | omega | (simp; done) | (simp; omega)) _)))).size
           refine ⟨rfl, rfl, ⟨(x4.now.setCell _ _).setCell _ _, ?gg⟩, (by with_reducible rfl), _, A7, c7, rfl, ⟨by simp [go_sem], by simp [go_sem]⟩, ⟨by simp [go_sem], by simp [go_sem]⟩, ?mf⟩
           case gg => exact (by repeat (first | exact Grows.refl _ | refine Grows.now ?_ _ | refine Grows.new ?_ _ | refine Grows.drewN ?_ _ | refine Grows.drew ?_ | assumption | (refine Grows.set ?_ (by first | omega | (simp; done) | (simp; omega)) _)))
           case mf => exact fin5 HR.out HFR.out (by first | (simp; done) | (simp; omega)) (by first | (simp; done) | (simp; omega)) _ _))
  case rest =>
    obtain ⟨rfl, rfl, z, rfl, g7, A7, c7, rfl, m0, m1, HR7⟩ := hcut
    go_upto_region 5 with (go_at_call 63; refine (C5.out _ (by repeat (first | exact Grows.refl _ | refine Grows.now ?_ _ | refine Grows.new ?_ _ | refine Grows.drewN ?_ _ | refine Grows.drew ?_ | assumption | (refine Grows.set ?_ (by first | omega | (simp; done) | (simp; omega)) _)))).mono ?_; rintro e w' ⟨A8, c8, rfl, hr8, hg⟩; obtain ⟨x5, rfl⟩ := hg.later; have HR8 := hide hr8; clear hg hr8)
    go_cut [13, 14] (fun s13 s14 wx => s14 = .int .i64 f4 ∧ ∃ z2 : Later (x5.now.alloc (.cells #[.int .i64 N4, .slice A8 E4.length c8] 24)), wx = z2.now ∧ ∃ A9 c9, s13 = .slice A9 U4.length c9 ∧ Hid (Rd z2.now A9 2 U4.length (csCells U4)))
    case first =>
      clear H1 H2 C5 C7 C8 C9
      go_region_with (first
        | (go_at_call 62; refine (C3.out _ (by repeat (first | exact Grows.refl _ | refine Grows.now ?_ _ | refine Grows.new ?_ _ | refine Grows.drewN ?_ _ | refine Grows.drew ?_ | assumption | (refine Grows.set ?_ (by first | omega | (simp; done) | (simp; omega)) _)))).mono ?_; rintro e w' ⟨A1, c1, rfl, ho1, hg⟩; obtain ⟨x3, rfl⟩ := hg.later; have HO1 := hide ho1.rd; clear hg ho1)
        | (go_at_call 64; refine (C6.out _ (by repeat (first | exact Grows.refl _ | refine Grows.now ?_ _ | refine Grows.new ?_ _ | refine Grows.drewN ?_ _ | refine Grows.drew ?_ | assumption | (refine Grows.set ?_ (by first | omega | (simp; done) | (simp; omega)) _))) A1 c1 (HO1.out.grows (by repeat (first | exact Grows.refl _ | refine Grows.now ?_ _ | refine Grows.new ?_ _ | refine Grows.drewN ?_ _ | refine Grows.drew ?_ | assumption | (refine Grows.set ?_ (by first | omega | (simp; done) | (simp; omega)) _))))).mono ?_; rintro e w' ⟨A9, c9, rfl, hr, hg⟩; obtain ⟨x4, rfl⟩ := hg.later; have HR := hide hr; clear hg hr))
      all_goals go_wp2_with fail
      all_goals go_meet
      all_goals (case rel => exact ⟨rfl, ⟨x4.now, (by repeat (first | exact Grows.refl _ | refine Grows.now ?_ _ | refine Grows.new ?_ _ | refine Grows.drewN ?_ _ | refine Grows.drew ?_ | assumption | (refine Grows.set ?_ (by first | omega | (simp; done) | (simp; omega)) _)))⟩, rfl, A9, c9, rfl, HR.out⟩)
    case rest =>
      obtain ⟨rfl, z2, rfl, A9, c9, rfl, HR9⟩ := hcut
      go_wp2_with fail
      refine (C7.out _ (by repeat (first | exact Grows.refl _ | refine Grows.now ?_ _ | refine Grows.new ?_ _ | refine Grows.drewN ?_ _ | refine Grows.drew ?_ | assumption | (refine Grows.set ?_ (by first | omega | (simp; done) | (simp; omega)) _)))).mono ?_; rintro e w' ⟨A10, c10, rfl, hr10, hg⟩; obtain ⟨x6, rfl⟩ := hg.later; have HR10 := hide hr10; clear hg hr10
      go_wp2_with fail
      refine (C8.out _ (by repeat (first | exact Grows.refl _ | refine Grows.now ?_ _ | refine Grows.new ?_ _ | refine Grows.drewN ?_ _ | refine Grows.drew ?_ | assumption | (refine Grows.set ?_ (by first | omega | (simp; done) | (simp; omega)) _)))).mono ?_; rintro e w' ⟨A11, c11, rfl, hr11, hg⟩; obtain ⟨x7, rfl⟩ := hg.later; have HR11 := hide hr11; clear hg hr11
      go_wp2_with fail
      refine (C9.out _ (by repeat (first | exact Grows.refl _ | refine Grows.now ?_ _ | refine Grows.new ?_ _ | refine Grows.drewN ?_ _ | refine Grows.drew ?_ | assumption | (refine Grows.set ?_ (by first | omega | (simp; done) | (simp; omega)) _)))).mono ?_; rintro e w' ⟨A12, c12, rfl, hr12, hg⟩; obtain ⟨x8, rfl⟩ := hg.later; have HR12 := hide hr12; clear hg hr12
      go_wp2_with fail
      refine (r5Same N4 A7 _ c7 A8 c8 E4 _ (HR7.out.grows (by repeat (first | exact Grows.refl _ | refine Grows.now ?_ _ | refine Grows.new ?_ _ | refine Grows.drewN ?_ _ | refine Grows.drew ?_ | assumption | (refine Grows.set ?_ (by first | omega | (simp; done) | (simp; omega)) _)))) (HR8.out.grows (by repeat (first | exact Grows.refl _ | refine Grows.now ?_ _ | refine Grows.new ?_ _ | refine Grows.drewN ?_ _ | refine Grows.drew ?_ | assumption | (refine Grows.set ?_ (by first | omega | (simp; done) | (simp; omega)) _)))) l1).mono ?_; rintro e w' ⟨rfl, hg⟩; obtain ⟨x9, rfl⟩ := hg.later; clear hg
      go_wp2_with fail
      refine (law33same A9 _ c9 A10 c10 U4 _ (HR9.out.grows (by repeat (first | exact Grows.refl _ | refine Grows.now ?_ _ | refine Grows.new ?_ _ | refine Grows.drewN ?_ _ | refine Grows.drew ?_ | assumption | (refine Grows.set ?_ (by first | omega | (simp; done) | (simp; omega)) _)))) (HR10.out.grows (by repeat (first | exact Grows.refl _ | refine Grows.now ?_ _ | refine Grows.new ?_ _ | refine Grows.drewN ?_ _ | refine Grows.drew ?_ | assumption | (refine Grows.set ?_ (by first | omega | (simp; done) | (simp; omega)) _)))) l2).mono ?_; rintro e w' ⟨rfl, hg⟩; obtain ⟨x10, rfl⟩ := hg.later; clear hg
      go_wp2_with fail
      refine (law33same A11 _ c11 A12 c12 D4 _ (HR11.out.grows (by repeat (first | exact Grows.refl _ | refine Grows.now ?_ _ | refine Grows.new ?_ _ | refine Grows.drewN ?_ _ | refine Grows.drew ?_ | assumption | (refine Grows.set ?_ (by first | omega | (simp; done) | (simp; omega)) _)))) (HR12.out.grows (by repeat (first | exact Grows.refl _ | refine Grows.now ?_ _ | refine Grows.new ?_ _ | refine Grows.drewN ?_ _ | refine Grows.drew ?_ | assumption | (refine Grows.set ?_ (by first | omega | (simp; done) | (simp; omega)) _)))) l3).mono ?_; rintro e w' ⟨rfl, hg⟩; obtain ⟨x11, rfl⟩ := hg.later; clear hg
      go_wp2_with fail
      refine (alive33 _).mono ?_; rintro e w' ⟨rfl, hg⟩; obtain ⟨x12, rfl⟩ := hg.later; clear hg
      go_wp2
      go_ret
      exact ⟨rfl, (by repeat (first | exact Grows.refl _ | refine Grows.now ?_ _ | refine Grows.new ?_ _ | refine Grows.drewN ?_ _ | refine Grows.drew ?_ | assumption | (refine Grows.set ?_ (by first | omega | (simp; done) | (simp; omega)) _)))⟩
end Go.Proofs.Ytpnncadglhlclaa
