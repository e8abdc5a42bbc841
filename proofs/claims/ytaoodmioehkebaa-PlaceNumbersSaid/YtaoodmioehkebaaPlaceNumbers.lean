/- Walk: which places may be, and that each one's number is its own. -/
import Derived.Test.YtaoodmioehkebaaTurned
import Derived.Test.YtaoodmioehkebaaPlaceApart
import Derived.Test.YtaoodmioehkebaaOpenP
namespace Go.Proofs.Ytaoodmioehkebaa
open Go Go.RowKit
theorem plOf_half (w : World) : Calls Try.prog 39 #[.complex .f64 4602678819172646912 4607182418800017408] w fun e w' => e = .returned (.tuple #[.agg #[.int .i64 0, .int .i64 0], .bool false]) ∧ Grows w w' := by
  have HK1 := hide (fun args W => run_callGo (P := Try.prog) Try.func73 (by kernel_rfl) (by kernel_rfl) args W)
  go_enter Try.func39, Try.ntmps39
  go_wp2_with (first | (go_at_call 73; refine (plOf1_half _).mono ?_; rintro e w' ⟨rfl, rfl⟩))
  refine bodyPost_ret (v := .tuple #[.agg #[.int .i64 0, .int .i64 0], .bool false]) (by simp [results, Try.results39, go_sem]) rfl ⟨rfl, (by repeat (first | exact Grows.refl _ | refine Grows.now ?_ _ | refine Grows.new ?_ _ | refine Grows.drewN ?_ _ | refine Grows.drew ?_ | assumption | (refine Grows.set ?_ (by first | omega | (simp; done) | (simp; omega)) _)))⟩
theorem far_int : IsI 4697254415642394624 1048577 := ⟨false, 4503603922337792, -32, by decide +kernel, by rw [LP_eq]; omega, by rw [LP_eq]; decide +kernel, fun _ => by decide⟩
theorem plOf_far (w : World) : Calls Try.prog 39 #[.complex .f64 4697254415642394624 0] w fun e w' => e = .returned (.tuple #[.agg #[.int .i64 0, .int .i64 0], .bool false]) ∧ Grows w w' := by
  have := plOf far_int zero_int (by decide) (by decide) w
  have e : ofV 1048577 0 = .tuple #[.agg #[.int .i64 0, .int .i64 0], .bool false] := by unfold ofV mxB; rw [decide_eq_false (by decide)]; rfl
  rw [e] at this
  exact this
set_option maxRecDepth 20000 in
set_option maxHeartbeats 8000000 in
theorem placeNumbersW (A : Option Addr) (n c : Nat) (E : List Pl) (x y : Int) (w : World) (_ : n ≤ c) (h : Rd w A 2 n (psCells E)) (_ : ∀ k, k < n → plOk (gp E k)) (_ : I64 x) (_ : I64 y) :
    Calls Try.prog 9 #[.slice A n c, .int .i64 x, .int .i64 y] w fun e w' => e = .returned (.bool true) ∧ Grows w w' := by
  by_cases h0 : 200 < n
  · clear h
    go_enter Try.func9, Try.ntmps9
    go_wp2_with (first | (go_at_call 25; refine (alive09 _).mono ?_; rintro e w' ⟨rfl, hg⟩; (first | obtain ⟨x, rfl⟩ := Grows.later2 hg | obtain ⟨x, rfl⟩ := Grows.later hg); clear hg))
    go_ret
    exact ⟨rfl, (by repeat (first | exact Grows.refl _ | refine Grows.now ?_ _ | refine Grows.new ?_ _ | refine Grows.drewN ?_ _ | refine Grows.drew ?_ | assumption | (refine Grows.set ?_ (by first | omega | (simp; done) | (simp; omega)) _)))⟩
  have C1 := hide (fun W (g : Grows w W) => plRight A n c E W (h.grows g) (by omega))
  have C2 := hide (fun W (g : Grows w W) => r9Right A n c E W (h.grows g) (by omega))
  clear h
  generalize E.all okP = r at *
  obtain ⟨p, hp⟩ : ∃ a : Pl, a = ⟨x, y⟩ := ⟨_, rfl⟩
  obtain ⟨rfl, rfl⟩ : p.x = x ∧ p.y = y := by rw [hp]; exact ⟨rfl, rfl⟩
  clear hp
  have C3 := fun W => r9One p.x p.y W
  obtain ⟨re, im, i1, i2, C4⟩ := plAtZ p
  have hz := (okP_iff _).1 (pz_ok p)
  have C5 := fun W => plOf i1 i2 (by omega) (by omega) W
  have e : ofV (pz p).x (pz p).y = .tuple #[.agg #[.int .i64 (pz p).x, .int .i64 (pz p).y], .bool true] := by
    unfold ofV mxB
    rw [decide_eq_true (by omega), decide_eq_true (by omega)]; rfl
  rw [e] at C5
  have H4 := hide C4
  unfold pVal at H4
  clear i1 i2 hz e C4
  have HO : okP p = oneB p.x p.y := rfl
  cases ho : okP p with
  | true =>
    rw [← HO, ho] at C3
    rw [show pz p = p by unfold pz; rw [if_pos ho]] at C5
    have H3 := hide C3
    have H5 := hide C5
    clear C3 C5 ho HO
    go_enter Try.func9, Try.ntmps9
    go_wp2_with (first | (go_at_call 40; refine (H4.out _).mono ?_; rintro e w' ⟨rfl, hg⟩; (first | obtain ⟨x, rfl⟩ := Grows.later2 hg | obtain ⟨x, rfl⟩ := Grows.later hg); clear hg) | (go_at_call 39; refine ((by first | with_reducible exact H5.out _ | with_reducible exact plOf_half _ | with_reducible exact plOf_far _) : Calls _ _ _ _ _).mono ?_; rintro e w' ⟨rfl, hg⟩; (first | obtain ⟨x, rfl⟩ := Grows.later2 hg | obtain ⟨x, rfl⟩ := Grows.later hg); clear hg) | (go_at_call 26; refine (H3.out _).mono ?_; rintro e w' ⟨rfl, hg⟩; (first | obtain ⟨x, rfl⟩ := Grows.later2 hg | obtain ⟨x, rfl⟩ := Grows.later hg); clear hg) | (go_at_call 41; refine (C1.out _ (by repeat (first | exact Grows.refl _ | refine Grows.now ?_ _ | refine Grows.new ?_ _ | refine Grows.drewN ?_ _ | refine Grows.drew ?_ | assumption | (refine Grows.set ?_ (by first | omega | (simp; done) | (simp; omega)) _)))).mono ?_; rintro e w' ⟨rfl, hg⟩; (first | obtain ⟨x, rfl⟩ := Grows.later2 hg | obtain ⟨x, rfl⟩ := Grows.later hg); clear hg) | (go_at_call 27; refine (C2.out _ (by repeat (first | exact Grows.refl _ | refine Grows.now ?_ _ | refine Grows.new ?_ _ | refine Grows.drewN ?_ _ | refine Grows.drew ?_ | assumption | (refine Grows.set ?_ (by first | omega | (simp; done) | (simp; omega)) _)))).mono ?_; rintro e w' ⟨rfl, hg⟩; (first | obtain ⟨x, rfl⟩ := Grows.later2 hg | obtain ⟨x, rfl⟩ := Grows.later hg); clear hg) | (go_at_call 25; refine (alive09 _).mono ?_; rintro e w' ⟨rfl, hg⟩; (first | obtain ⟨x, rfl⟩ := Grows.later2 hg | obtain ⟨x, rfl⟩ := Grows.later hg); clear hg))
    go_ret
    exact ⟨rfl, (by repeat (first | exact Grows.refl _ | refine Grows.now ?_ _ | refine Grows.new ?_ _ | refine Grows.drewN ?_ _ | refine Grows.drew ?_ | assumption | (refine Grows.set ?_ (by first | omega | (simp; done) | (simp; omega)) _)))⟩
  | false =>
    rw [← HO, ho] at C3
    have H3 := hide C3
    have H5 := hide C5
    clear C3 C5 ho HO
    go_enter Try.func9, Try.ntmps9
    go_wp2_with (first | (go_at_call 40; refine (H4.out _).mono ?_; rintro e w' ⟨rfl, hg⟩; (first | obtain ⟨x, rfl⟩ := Grows.later2 hg | obtain ⟨x, rfl⟩ := Grows.later hg); clear hg) | (go_at_call 39; refine ((by first | with_reducible exact H5.out _ | with_reducible exact plOf_half _ | with_reducible exact plOf_far _) : Calls _ _ _ _ _).mono ?_; rintro e w' ⟨rfl, hg⟩; (first | obtain ⟨x, rfl⟩ := Grows.later2 hg | obtain ⟨x, rfl⟩ := Grows.later hg); clear hg) | (go_at_call 26; refine (H3.out _).mono ?_; rintro e w' ⟨rfl, hg⟩; (first | obtain ⟨x, rfl⟩ := Grows.later2 hg | obtain ⟨x, rfl⟩ := Grows.later hg); clear hg) | (go_at_call 41; refine (C1.out _ (by repeat (first | exact Grows.refl _ | refine Grows.now ?_ _ | refine Grows.new ?_ _ | refine Grows.drewN ?_ _ | refine Grows.drew ?_ | assumption | (refine Grows.set ?_ (by first | omega | (simp; done) | (simp; omega)) _)))).mono ?_; rintro e w' ⟨rfl, hg⟩; (first | obtain ⟨x, rfl⟩ := Grows.later2 hg | obtain ⟨x, rfl⟩ := Grows.later hg); clear hg) | (go_at_call 27; refine (C2.out _ (by repeat (first | exact Grows.refl _ | refine Grows.now ?_ _ | refine Grows.new ?_ _ | refine Grows.drewN ?_ _ | refine Grows.drew ?_ | assumption | (refine Grows.set ?_ (by first | omega | (simp; done) | (simp; omega)) _)))).mono ?_; rintro e w' ⟨rfl, hg⟩; (first | obtain ⟨x, rfl⟩ := Grows.later2 hg | obtain ⟨x, rfl⟩ := Grows.later hg); clear hg) | (go_at_call 25; refine (alive09 _).mono ?_; rintro e w' ⟨rfl, hg⟩; (first | obtain ⟨x, rfl⟩ := Grows.later2 hg | obtain ⟨x, rfl⟩ := Grows.later hg); clear hg))
    go_ret
    exact ⟨rfl, (by repeat (first | exact Grows.refl _ | refine Grows.now ?_ _ | refine Grows.new ?_ _ | refine Grows.drewN ?_ _ | refine Grows.drew ?_ | assumption | (refine Grows.set ?_ (by first | omega | (simp; done) | (simp; omega)) _)))⟩
end Go.Proofs.Ytaoodmioehkebaa
