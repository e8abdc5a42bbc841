/- Walk: the turns of any way, twice the area of any ring, and any place turned about. -/
import Derived.Test.YtaoodmioehkebaaAlong
import Derived.Test.YtaoodmioehkebaaArea
import Derived.Test.YtaoodmioehkebaaSame
import Derived.Test.YtaoodmioehkebaaTurnTells
import Derived.Test.YtaoodmioehkebaaShareBounds
import Derived.Test.YtaoodmioehkebaaOpenP
namespace Go.Proofs.Ytaoodmioehkebaa
open Go Go.RowKit
set_option maxRecDepth 20000 in
set_option maxHeartbeats 8000000 in
theorem turnAlongW (N : Int) (A : Option Addr) (m c : Nat) (E : List Edg) (Z : Option Addr) (nz cz : Nat) (L : List Pl) (s : Int) (B : Option Addr) (n d : Nat) (l : List Int) (q : Int) (w : World)
    (_ : I64 N) (_ : m ≤ c) (h : Rd w A 3 m (esCells E)) (_ : ∀ k, k < m → edgOk (ge E k)) (_ : nz ≤ cz) (hz : Rd w Z 2 nz (psCells L)) (_ : ∀ k, k < nz → plOk (gp L k)) (_ : I64 s) (_ : n ≤ d) (h' : Rd w B 1 n (l.map (.int .i64))) (_ : ∀ z ∈ l, (Lit.int .i64 z).wf = true) (hq : I64 q) :
    Calls Try.prog 10 #[.agg #[.int .i64 N, .slice A m c], .slice Z nz cz, .int .i64 s, .slice B n d, .int .i64 q] w fun e w' => e = .returned (.bool true) ∧ Grows w w' := by
  have C0 := fun W => lLight N A m c W
  cases hl : lightG N m with
  | false =>
    rw [hl] at C0
    have H0 := hide C0
    clear h h' hz hl C0 hq
    go_enter Try.func10, Try.ntmps10
    go_wp2_with (first | (go_at_call 30; refine (H0.out _).mono ?_; rintro e w' ⟨rfl, hg⟩; (first | obtain ⟨x, rfl⟩ := Grows.later2 hg | obtain ⟨x, rfl⟩ := Grows.later hg); clear hg) | (go_at_call 15; refine (alive10 _).mono ?_; rintro e w' ⟨rfl, hg⟩; (first | obtain ⟨x, rfl⟩ := Grows.later2 hg | obtain ⟨x, rfl⟩ := Grows.later hg); clear hg))
    go_ret
    exact ⟨rfl, (by repeat (first | exact Grows.refl _ | refine Grows.now ?_ _ | refine Grows.new ?_ _ | refine Grows.drewN ?_ _ | refine Grows.drew ?_ | assumption | (refine Grows.set ?_ (by first | omega | (simp; done) | (simp; omega)) _)))⟩
  | true =>
  rw [hl] at C0
  have H0 := hide C0
  have hm : m ≤ 300 := by unfold lightG at hl; simp at hl; omega
  clear C0 hl
  by_cases h0 : 300 < nz ∨ 100 < n
  · clear h h' hz hq
    have h0' : (decide ((300 : Int) < (nz : Int)) || decide ((100 : Int) < (n : Int))) = true := by simp; omega
    by_cases h1 : 300 < nz
    · skip
      go_enter Try.func10, Try.ntmps10
      go_wp2_with (first | (go_at_call 30; refine (H0.out _).mono ?_; rintro e w' ⟨rfl, hg⟩; (first | obtain ⟨x, rfl⟩ := Grows.later2 hg | obtain ⟨x, rfl⟩ := Grows.later hg); clear hg) | (go_at_call 15; refine (alive10 _).mono ?_; rintro e w' ⟨rfl, hg⟩; (first | obtain ⟨x, rfl⟩ := Grows.later2 hg | obtain ⟨x, rfl⟩ := Grows.later hg); clear hg))
      go_ret
      exact ⟨rfl, (by repeat (first | exact Grows.refl _ | refine Grows.now ?_ _ | refine Grows.new ?_ _ | refine Grows.drewN ?_ _ | refine Grows.drew ?_ | assumption | (refine Grows.set ?_ (by first | omega | (simp; done) | (simp; omega)) _)))⟩
    · have h2 : 100 < n := by omega
      clear h0 h0'
      go_enter Try.func10, Try.ntmps10
      go_wp2_with (first | (go_at_call 30; refine (H0.out _).mono ?_; rintro e w' ⟨rfl, hg⟩; (first | obtain ⟨x, rfl⟩ := Grows.later2 hg | obtain ⟨x, rfl⟩ := Grows.later hg); clear hg) | (go_at_call 15; refine (alive10 _).mono ?_; rintro e w' ⟨rfl, hg⟩; (first | obtain ⟨x, rfl⟩ := Grows.later2 hg | obtain ⟨x, rfl⟩ := Grows.later hg); clear hg))
      go_ret
      exact ⟨rfl, (by repeat (first | exact Grows.refl _ | refine Grows.now ?_ _ | refine Grows.new ?_ _ | refine Grows.drewN ?_ _ | refine Grows.drew ?_ | assumption | (refine Grows.set ?_ (by first | omega | (simp; done) | (simp; omega)) _)))⟩
  have hn1 : nz ≤ 300 := by omega
  have hn2 : n ≤ 100 := by omega
  clear h0
  have H1 := hide (fun (W : World) (g : Grows w W) => tuAlong N A m c E Z nz cz L s B n d l W (h.grows g) (by omega) (hz.grows g) (by omega) (h'.grows g) (by omega))
  have H2 := hide (fun (W : World) (g : Grows w W) => r10Along N A m c E Z nz cz L s B n d l W (h.grows g) (by omega) (hz.grows g) (by omega) (h'.grows g) (by omega))
  have HB : Hid ((alongL N E L s l).length ≤ 1000000) := by
    have := (show l.length = n by simpa using h'.len)
    show _ ≤ _
    unfold alongL
    split
    · rw [tnL_len]; omega
    · simp
  have H3 := hide (fun (W : World) (g : Grows w W) => tuArea Z nz cz L W (hz.grows g) (by omega))
  have H4 := hide (fun (W : World) (g : Grows w W) => r10Area Z nz cz L W (hz.grows g) (by omega))
  have H5 := hide (fun p W => tuTurned p q W hq)
  have H6 := hide (fun p W => r10Turned p q W hq)
  have HZ := hide hz
  clear h h' hz hq
  generalize areaI L = ar at *
  generalize alB N E L s l = ab at *
  generalize alongL N E L s l = al at *
  unfold pVal at H5 H6
  go_enter Try.func10, Try.ntmps10
  go_wp2_with (first | (go_at_call 30; refine (H0.out _).mono ?_; rintro e w' ⟨rfl, hg⟩; obtain ⟨x, rfl⟩ := hg.later; clear hg) | (go_at_call 42; refine (H1.out _ (by repeat (first | exact Grows.refl _ | refine Grows.now ?_ _ | refine Grows.new ?_ _ | refine Grows.drewN ?_ _ | refine Grows.drew ?_ | assumption | (refine Grows.set ?_ (by first | omega | (simp; done) | (simp; omega)) _)))).mono ?_; rintro e w' ⟨A1, c1, rfl, hr1, hg⟩; obtain ⟨x, rfl⟩ := hg.later; have HR1 := hide hr1; clear hg hr1) | (go_at_call 43; refine (H2.out _ (by repeat (first | exact Grows.refl _ | refine Grows.now ?_ _ | refine Grows.new ?_ _ | refine Grows.drewN ?_ _ | refine Grows.drew ?_ | assumption | (refine Grows.set ?_ (by first | omega | (simp; done) | (simp; omega)) _)))).mono ?_; rintro e w' ⟨A2, c2, rfl, hr2, hg⟩; obtain ⟨x, rfl⟩ := hg.later; have HR2 := hide hr2; clear hg hr2))
  go_loopw [15] (fun i wr => ∃ k : Nat, k ≤ nz ∧ i = .int .i64 (k : Int) ∧ (∃ y : Later x.now, wr = y.now)) (fun i _ => nz - (intOf i).toNat)
  case atStart => exact ⟨0, by omega, by go_num, ⟨_, Grows.refl _⟩, rfl⟩
  case round =>
    obtain ⟨k, hk, rfl, y, rfl⟩ := hrel
    by_cases hend : nz ≤ k
    · have HS := hide (fun (W : World) (g : Grows x.now W) => r1Same A1 al.length c1 al A2 al.length c2 al W (HR1.out.grows (x.grows.trans g)) HB.out (HR2.out.grows g) HB.out)
      go_wp2_with (first | (go_at_call 45; refine (HS.out _ (by repeat (first | exact Grows.refl _ | refine Grows.now ?_ _ | refine Grows.new ?_ _ | refine Grows.drewN ?_ _ | refine Grows.drew ?_ | assumption | (refine Grows.set ?_ (by first | omega | (simp; done) | (simp; omega)) _)))).mono ?_; rintro e w' ⟨rfl, hg⟩; obtain ⟨z1, rfl⟩ := hg.later; clear hg) | (go_at_call 29; refine (H3.out _ (by repeat (first | exact Grows.refl _ | refine Grows.now ?_ _ | refine Grows.new ?_ _ | refine Grows.drewN ?_ _ | refine Grows.drew ?_ | assumption | (refine Grows.set ?_ (by first | omega | (simp; done) | (simp; omega)) _)))).mono ?_; rintro e w' ⟨rfl, hg⟩; obtain ⟨z2, rfl⟩ := hg.later; clear hg) | (go_at_call 46; refine (H4.out _ (by repeat (first | exact Grows.refl _ | refine Grows.now ?_ _ | refine Grows.new ?_ _ | refine Grows.drewN ?_ _ | refine Grows.drew ?_ | assumption | (refine Grows.set ?_ (by first | omega | (simp; done) | (simp; omega)) _)))).mono ?_; rintro e w' ⟨rfl, hg⟩; obtain ⟨z3, rfl⟩ := hg.later; clear hg) | (go_at_call 15; refine (alive10 _).mono ?_; rintro e w' ⟨rfl, hg⟩; obtain ⟨z4, rfl⟩ := hg.later; clear hg))
      go_ret
      exact ⟨rfl, (by repeat (first | exact Grows.refl _ | refine Grows.now ?_ _ | refine Grows.new ?_ _ | refine Grows.drewN ?_ _ | refine Grows.drew ?_ | assumption | (refine Grows.set ?_ (by first | omega | (simp; done) | (simp; omega)) _)))⟩
    · obtain ⟨bz, offz, rfl, hcz⟩ := HZ.out.places (by omega)
      have p1 := Holds.mk (hcz k (by omega)).1
      have p2 := Holds.mk (hcz k (by omega)).2
      have P1 := hide (fun W => H5.out (gp L k) W)
      have P2 := hide (fun W => H6.out (gp L k) W)
      clear hcz
      generalize turnedP (gp L k) q = t at *
      generalize gp L k = P0 at *
      go_wp2_with fail
      ((first | refine wp_region_gen (by kernel_rfl) (by kernel_rfl) ?_); (repeat' (first | (refine gLex_val0 rfl (by kernel_rfl) (fun K hK => ?_); (go_simp; (try (simp only [↓IntWalk.iteOmega]; try go_simp)); (try simp (disch := omega) only [IntWalk.i64_in]); (try simp (disch := omega) only [IntWalk.u64_in]); first | (refine hK _ ?_; clear hK K) | (apply Exists.intro; refine ⟨fun x => ?_, hK _ ?_⟩; (first | (go_at_call 28; exact P1.out _) | (go_at_call 44; exact P2.out _)); clear hK K))) | (refine gLex_undef rfl rfl rfl (by kernel_rfl) (fun K hK => ?_); go_simp; refine hK _ ?_; clear hK K) | (refine gLex_ask rfl rfl rfl ?_; first | (apply gAsk_yes; kernel_rfl; intro K hK; (go_simp; (try (simp only [↓IntWalk.iteOmega]; try go_simp)); (try simp (disch := omega) only [IntWalk.i64_in]); (try simp (disch := omega) only [IntWalk.u64_in]); first | (refine hK _ ?_; clear hK K) | (apply Exists.intro; refine ⟨fun x => ?_, hK _ ?_⟩; (first | (go_at_call 28; exact P1.out _) | (go_at_call 44; exact P2.out _)); clear hK K))) | ((first | apply gAsk_no1 | apply gAsk_no2); kernel_rfl; intro K hK; simp [go_sem]; refine hK _ ?_; clear hK K) | (apply gAsk_part; kernel_rfl; all_goals (intro h K hK; (try simp only [Bool.not_true] at h); (try simp only [Bool.not_false] at h); (try simp only [decide_eq_true_eq] at h); (try simp only [decide_eq_false_iff_not] at h); first | (exfalso; first | contradiction | omega) | (go_simp; (try (simp only [↓IntWalk.iteOmega]; try go_simp)); (try simp (disch := omega) only [IntWalk.i64_in]); (try simp (disch := omega) only [IntWalk.u64_in]); first | (refine hK _ ?_; clear hK K) | (apply Exists.intro; refine ⟨fun x => ?_, hK _ ?_⟩; (first | (go_at_call 28; exact P1.out _) | (go_at_call 44; exact P2.out _)); clear hK K))))))); all_goals ((apply gLex_end); intro x))
      go_wp2
      exact ⟨⟨k + 1, by omega, by go_num, Grows.later (by repeat (first | exact Grows.refl _ | refine Grows.now ?_ _ | refine Grows.new ?_ _ | refine Grows.drewN ?_ _ | refine Grows.drew ?_ | assumption | (refine Grows.set ?_ (by first | omega | (simp; done) | (simp; omega)) _)))⟩, by simp [intOf]; omega⟩
end Go.Proofs.Ytaoodmioehkebaa
