/- The law MarksBounds: for every input it returns true, and each argument reads as before. No condition. -/
import Derived.Test.YtiljgkaffgclgaaQMarksBounds19
import Derived.Test.YtiljgkaffgclgaaQMarksBounds15
/- The law MarksBounds, walked: whatever graph, landmarks and nodes come in, it returns true. -/
namespace Go.Proofs.Ytiljgkaffgclgaa
open Go Go.RowKit
/-- Landmarks that may be, as numbers. -/
theorem mkF_zero {N : Int} {E : List Edg} {l : List Int} (h : mkF N E l = 0) : ∃ (NN : Nat) (l' : List Nat), N = NN ∧ l = l'.map (fun (x : Nat) => (x : Int)) ∧ MarkOk NN E l' ∧ l'.length ≤ 64 := by
  unfold mkF at h
  by_cases h1 : rightF N E = 0
  · rw [if_neg (by omega)] at h
    by_cases h2 : (l.any fun e => !nodeB N e) = true
    · rw [if_pos h2] at h; cases h
    · rw [if_neg h2] at h
      by_cases h3 : 64 < l.length
      · rw [if_pos h3] at h; cases h
      · obtain ⟨r1, _⟩ := right_in h1
        have hall : ∀ x ∈ l, 0 ≤ x ∧ x < N := fun x hx => by
          have h4 : (l.any fun e => !nodeB N e) = false := by simpa using h2
          rw [List.any_eq_false] at h4
          have := h4 x hx
          unfold nodeB at this
          simpa using this
        refine ⟨N.toNat, l.map Int.toNat, by omega, ?_, ⟨by rw [show ((N.toNat : Nat) : Int) = N by omega]; exact h1, fun i hi => ?_⟩, by simpa using h3⟩
        · rw [List.map_map]
          conv => lhs; rw [← List.map_id l]
          refine List.map_congr_left fun x hx => ?_
          have := hall x hx
          show x = ((x.toNat : Nat) : Int)
          omega
        · have hi' : i < l.length := by simpa using hi
          have := hall l[i] (List.getElem_mem hi')
          have e : gn (l.map Int.toNat) i = l[i].toNat := by simp [gn, hi']
          rw [e]
          omega
  · rw [if_pos h1] at h; cases h
theorem nv_cast (l : List Nat) : (l.map (fun (x : Nat) => (x : Int))).map (Value.int .i64) = nv l := by simp [nv]
theorem mkNodes_at {gm NN : Nat} {E : List Edg} {l : List Nat} {F T : Nat → List Nat} {w : World} (h : MkAt w gm NN E l F T) (hl : l.length ≤ 1000000) :
    Calls Try.prog 24 #[.pointer (some ⟨gm, 0, none⟩)] w fun e w' => ∃ A' c', e = .returned (.slice A' l.length c') ∧ Rd w' A' 1 l.length (nv l) ∧ Grows w w' := by
  obtain ⟨A, c, Al, cl, Af, cf, At, ct, gf, gt, a0, _, h2, _⟩ := h.is
  exact mkNodes gm Al cl l w inferInstance h2 hl
theorem mkBound_out {gm NN : Nat} {E : List Edg} {l : List Nat} {F T : Nat → List Nat} {w : World} (h : MkAt w gm NN E l F T) {v t : Int} (hb : (nodeB (NN : Int) v && nodeB (NN : Int) t) = false) :
    Calls Try.prog 18 #[.pointer (some ⟨gm, 0, none⟩), .int .i64 v, .int .i64 t] w fun x w' => x = .returned (.tuple #[.int .u64 0, .bool false]) ∧ Grows w w' := by
  obtain ⟨A, c, Al, cl, Af, cf, At, ct, gf, gt, a0, _⟩ := h.is
  exact mkBoundOut NN gm A E.length c v t w inferInstance inferInstance hb
theorem mkBetween_out {gm NN : Nat} {E : List Edg} {l : List Nat} {F T : Nat → List Nat} {w : World} (h : MkAt w gm NN E l F T) {v t : Int} (hb : (nodeB (NN : Int) v && nodeB (NN : Int) t) = false) :
    Calls Try.prog 19 #[.pointer (some ⟨gm, 0, none⟩), .int .i64 v, .int .i64 t] w fun x w' => x = .returned (.tuple #[.int .u64 0, .int .u64 0, .bool false]) ∧ Grows w w' := by
  obtain ⟨A, c, Al, cl, Af, cf, At, ct, gf, gt, a0, _⟩ := h.is
  exact mkBetweenOut NN gm A E.length c v t w inferInstance inferInstance hb
set_option maxRecDepth 40000 in
set_option maxHeartbeats 8000000 in
theorem marksBoundsW (N : Int) (A : Option Addr) (n c : Nat) (E : List Edg) (B : Option Addr) (m d : Nat) (l : List Int) (v t : Int) (w : World)
    (_ : I64 N) (_ : n ≤ c) (h : Rd w A 3 n (esCells E)) (_ : ∀ k, k < n → edgOk (ge E k)) (_ : m ≤ d) (h2 : Rd w B 1 m (l.map (.int .i64))) (_ : ∀ z ∈ l, (Lit.int .i64 z).wf = true) (_ : -9223372036854775808 ≤ v ∧ v < 9223372036854775808) (_ : -9223372036854775808 ≤ t ∧ t < 9223372036854775808) :
    Calls Try.prog 3 #[.agg #[.int .i64 N, .slice A n c], .slice B m d, .int .i64 v, .int .i64 t] w fun e w' => e = .returned (.bool true) ∧ Grows w w' := by
  obtain rfl : E.length = n := h.elen
  obtain rfl : l.length = m := by simpa using h2.len
  have CL := hide (fun (W : World) => lLight46 N A E.length c B l.length d W)
  cases hq : light46 N E.length l.length with
  | false =>
    rw [hq] at CL
    clear h h2
    go_enter Try.func3, Try.ntmps3
    go_wp2_with (first | (go_at_call 13; refine (CL.out _).mono ?_; rintro e w' ⟨rfl, hg⟩; (first | obtain ⟨x, rfl⟩ := Grows.later2 hg | obtain ⟨x, rfl⟩ := Grows.later hg); clear hg) | (go_at_call 14; refine (alive46 _).mono ?_; rintro e w' ⟨rfl, hg⟩; (first | obtain ⟨x, rfl⟩ := Grows.later2 hg | obtain ⟨x, rfl⟩ := Grows.later hg); clear hg))
    go_ret
    exact ⟨rfl, (by repeat (first | exact Grows.refl _ | refine Grows.now ?_ _ | refine Grows.new ?_ _ | refine Grows.drewN ?_ _ | refine Grows.drew ?_ | assumption | (refine Grows.set ?_ (by first | omega | (simp; done) | (simp; omega)) _)))⟩
  | true =>
    rw [hq] at CL
    have hsz : E.length ≤ 60 ∧ l.length < 100 := by
      unfold light46 at hq
      simp at hq
      omega
    have hE : E.length ≤ 1000000 := by omega
    have hl : l.length ≤ 1000000 := by omega
    have K1 := hide (fun (W : World) (g : Grows w W) => r5Right N A E.length c E W (h.grows g) hE)
    have K2 := hide (fun (W : World) (g : Grows w W) => r25Nodes N (.slice A E.length c) B d l W (h2.grows g) hl)
    have hallany : l.all (nodeB N) = !(l.any fun e => !nodeB N e) := by rw [List.not_any_eq_all_not]; simp
    rw [hallany] at K2
    clear hallany hq
    by_cases hf : mkF N E l = 0
    · obtain ⟨NN, l', rfl, rfl, hK, h64⟩ := mkF_zero hf
      obtain ⟨F, T, hM⟩ := mks_any hK.right
      simp only [List.length_map] at *
      rw [nv_cast] at h2
      have hr0 := hK.right
      rw [hr0] at K1
      have hany : ((l'.map fun (x : Nat) => (x : Int)).any fun e => !nodeB (NN : Int) e) = false := by
        unfold mkF at hf
        rw [if_neg (by omega)] at hf
        by_cases h3 : ((l'.map fun (x : Nat) => (x : Int)).any fun e => !nodeB (NN : Int) e) = true
        · rw [if_pos h3] at hf; cases hf
        · simpa using h3
      rw [hany] at K2
      have C0 := hide (fun (W : World) (g : Grows w W) => mkNew NN A c E B d l' F T hM hK W (h.grows g) (h2.grows g) h64)
      have hd64 : decide ((64 : Int) < (l'.length : Int)) = false := decide_eq_false (by omega)
      have HK := hide hK
      have HM := hide hM
      have HR := hide (And.intro h h2)
      clear hany hr0 hf h h2 hK hM
      by_cases hin : (nodeB (NN : Int) v && nodeB (NN : Int) t) = true
      · obtain ⟨vN, rfl⟩ : ∃ vN : Nat, v = vN := ⟨v.toNat, by unfold nodeB at hin; simp at hin; omega⟩
        obtain ⟨tN, rfl⟩ : ∃ tN : Nat, t = tN := ⟨t.toNat, by unfold nodeB at hin; simp at hin; omega⟩
        have hv : vN < NN := by unfold nodeB at hin; simp at hin; omega
        have ht : tN < NN := by unfold nodeB at hin; simp at hin; omega
        have C1 := hide (fun (gm : Nat) (W : World) (hm : MkAt W gm NN E l' F T) => mkBound NN gm E l' F T HM.out HK.out vN tN hv ht W hm hl)
        have C2 := hide (fun (gm : Nat) (W : World) (hm : MkAt W gm NN E l' F T) => mkBetween NN gm E l' F T HM.out HK.out vN tN hv ht W hm hl)
        have C3 := hide (fun (gm : Nat) (W : World) (hm : MkAt W gm NN E l' F T) => mkBounds NN gm E l' F T HM.out HK.out tN ht W hm hl (by have := (right_in HK.out.right).2.1; omega))
        have C4 := hide (fun (W : World) (g : Grows w W) => r46Bound NN A c E B d l' F T HM.out HK.out vN tN hv ht W (HR.out.1.grows g) (HR.out.2.grows g) hl)
        have C5 := hide (fun (W : World) (g : Grows w W) => r46Above NN A c E B d l' F T HM.out HK.out vN tN hv ht W (HR.out.1.grows g) (HR.out.2.grows g) hl)
        have hbv := hide (bndsL_at F T l' tN hv)
        obtain ⟨bv, hb⟩ : ∃ bv, bndT F T l' vN tN l'.length = bv := ⟨_, rfl⟩
        obtain ⟨av, ha⟩ : ∃ av, abvT F T l' vN tN l'.length = av := ⟨_, rfl⟩
        rw [hb] at C1 C2 C4 hbv
        rw [ha] at C2 C5
        clear hb ha hin
        have hdv : decide ((NN : Int) ≤ (vN : Int)) = false := decide_eq_false (by omega)
        have hdt : decide ((NN : Int) ≤ (tN : Int)) = false := decide_eq_false (by omega)
        go_enter Try.func3, Try.ntmps3
        go_wp2_with fail
        refine (CL.out _).mono ?_; rintro e w' ⟨rfl, hg⟩; obtain ⟨x1, rfl⟩ := hg.later; clear hg
        have b1 : Arr x1.now w.heap.size 24 [.int .i64 (NN : Int), .slice A E.length c] := Arr.grow ⟨by simp [heap_push]⟩ x1.grows
        go_wp2_with fail
        refine (C0.out _ (by repeat (first | exact Grows.refl _ | refine Grows.now ?_ _ | refine Grows.new ?_ _ | refine Grows.drewN ?_ _ | refine Grows.drew ?_ | assumption | (refine Grows.set ?_ (by first | omega | (simp; done) | (simp; omega)) _)))).mono ?_; rintro e w' ⟨gm, rfl, hm, hg⟩; obtain ⟨x2, rfl⟩ := hg.later; have HMK := hide hm; clear hg hm
        go_wp2_with fail
        refine (K1.out _ (by repeat (first | exact Grows.refl _ | refine Grows.now ?_ _ | refine Grows.new ?_ _ | refine Grows.drewN ?_ _ | refine Grows.drew ?_ | assumption | (refine Grows.set ?_ (by first | omega | (simp; done) | (simp; omega)) _)))).mono ?_; rintro e w' ⟨rfl, hg⟩; obtain ⟨x3, rfl⟩ := hg.later; clear hg
        go_wp2_with fail
        refine (K2.out _ (by repeat (first | exact Grows.refl _ | refine Grows.now ?_ _ | refine Grows.new ?_ _ | refine Grows.drewN ?_ _ | refine Grows.drew ?_ | assumption | (refine Grows.set ?_ (by first | omega | (simp; done) | (simp; omega)) _)))).mono ?_; rintro e w' ⟨rfl, hg⟩; obtain ⟨x4, rfl⟩ := hg.later; clear hg
        go_wp2_with fail
        refine (C1.out _ _ (HMK.out.grows (by repeat (first | exact Grows.refl _ | refine Grows.now ?_ _ | refine Grows.new ?_ _ | refine Grows.drewN ?_ _ | refine Grows.drew ?_ | assumption | (refine Grows.set ?_ (by first | omega | (simp; done) | (simp; omega)) _))))).mono ?_; rintro e w' ⟨rfl, hg⟩; obtain ⟨x5, rfl⟩ := hg.later; clear hg
        go_wp2_with fail
        refine (C2.out _ _ (HMK.out.grows (by repeat (first | exact Grows.refl _ | refine Grows.now ?_ _ | refine Grows.new ?_ _ | refine Grows.drewN ?_ _ | refine Grows.drew ?_ | assumption | (refine Grows.set ?_ (by first | omega | (simp; done) | (simp; omega)) _))))).mono ?_; rintro e w' ⟨rfl, hg⟩; obtain ⟨x6, rfl⟩ := hg.later; clear hg
        go_wp2_with fail
        have a1 : Arr (x6.now.alloc (.cells #[.int .i64 (NN : Int), .slice A E.length c, .slice B l'.length d] 39)) x6.now.heap.size 39 [.int .i64 (NN : Int), .slice A E.length c, .slice B l'.length d] := Arr.make _ _ _
        refine (C3.out _ _ (HMK.out.grows (by repeat (first | exact Grows.refl _ | refine Grows.now ?_ _ | refine Grows.new ?_ _ | refine Grows.drewN ?_ _ | refine Grows.drew ?_ | assumption | (refine Grows.set ?_ (by first | omega | (simp; done) | (simp; omega)) _))))).mono ?_; rintro e w' ⟨A3, c3, rfl, hr3, hg⟩; obtain ⟨x7, rfl⟩ := hg.later
        obtain ⟨b3, o3, rfl, hc3⟩ := hr3.at_ (by omega)
        have q3 : Holds x7.now ⟨b3, o3 + vN, none⟩ (.int .u64 (bv : Int)) := ⟨hc3 vN _ (by rw [← hbv.out]; exact wv_at (by rw [bndsL_len]; exact hv))⟩
        generalize x6.now.heap.size = gx at *
        clear hg hc3 hr3
        go_wp2_with fail
        refine (C4.out _ (by repeat (first | exact Grows.refl _ | refine Grows.now ?_ _ | refine Grows.new ?_ _ | refine Grows.drewN ?_ _ | refine Grows.drew ?_ | assumption | (refine Grows.set ?_ (by first | omega | (simp; done) | (simp; omega)) _)))).mono ?_; rintro e w' ⟨rfl, hg⟩; obtain ⟨x8, rfl⟩ := hg.later; clear hg
        go_wp2_with fail
        refine (C5.out _ (by repeat (first | exact Grows.refl _ | refine Grows.now ?_ _ | refine Grows.new ?_ _ | refine Grows.drewN ?_ _ | refine Grows.drew ?_ | assumption | (refine Grows.set ?_ (by first | omega | (simp; done) | (simp; omega)) _)))).mono ?_; rintro e w' ⟨rfl, hg⟩; obtain ⟨x9, rfl⟩ := hg.later; clear hg
        go_wp2_with fail
        have C6 := mkNodes_at (HMK.out.grows (show Grows x2.now x9.now from (by repeat (first | exact Grows.refl _ | refine Grows.now ?_ _ | refine Grows.new ?_ _ | refine Grows.drewN ?_ _ | refine Grows.drew ?_ | assumption | (refine Grows.set ?_ (by first | omega | (simp; done) | (simp; omega)) _))))) hl
        refine C6.mono ?_; rintro e w' ⟨A4, c4, rfl, hr4, hg⟩; obtain ⟨x10, rfl⟩ := hg.later
        have C7 := r1Same A4 l'.length c4 (l'.map fun (x : Nat) => (x : Int)) B l'.length d (l'.map fun (x : Nat) => (x : Int)) x10.now (by rw [nv_cast]; exact hr4) hl (by rw [nv_cast]; exact HR.out.2.grows (by repeat (first | exact Grows.refl _ | refine Grows.now ?_ _ | refine Grows.new ?_ _ | refine Grows.drewN ?_ _ | refine Grows.drew ?_ | assumption | (refine Grows.set ?_ (by first | omega | (simp; done) | (simp; omega)) _)))) hl
        rw [decide_eq_true rfl] at C7
        have HC7 := hide C7
        clear hg hr4 C6 C7
        go_wp2_with fail
        refine HC7.out.mono ?_; rintro e w' ⟨rfl, hg⟩; obtain ⟨x11, rfl⟩ := hg.later; clear hg
        go_wp2_with fail
        refine (alive46 _).mono ?_; rintro e w' ⟨rfl, hg⟩; obtain ⟨x12, rfl⟩ := hg.later; clear hg
        go_wp2_with fail
        go_ret
        exact ⟨rfl, (by repeat (first | exact Grows.refl _ | refine Grows.now ?_ _ | refine Grows.new ?_ _ | refine Grows.drewN ?_ _ | refine Grows.drew ?_ | assumption | (refine Grows.set ?_ (by first | omega | (simp; done) | (simp; omega)) _)))⟩
      · have hin' : (nodeB (NN : Int) v && nodeB (NN : Int) t) = false := by simpa using hin
        have C1 := hide (fun (gm : Nat) (W : World) (hm : MkAt W gm NN E l' F T) => mkBound_out hm hin')
        have C2 := hide (fun (gm : Nat) (W : World) (hm : MkAt W gm NN E l' F T) => mkBetween_out hm hin')
        have hout : v < 0 ∨ (0 ≤ v ∧ (NN : Int) ≤ v) ∨ (0 ≤ v ∧ v < NN ∧ t < 0) ∨ (0 ≤ v ∧ v < NN ∧ 0 ≤ t ∧ (NN : Int) ≤ t) := by
          unfold nodeB at hin'
          simp at hin'
          omega
        clear hin hin'
        go_enter Try.func3, Try.ntmps3
        go_wp2_with fail
        refine (CL.out _).mono ?_; rintro e w' ⟨rfl, hg⟩; obtain ⟨x1, rfl⟩ := hg.later; clear hg
        have b1 : Arr x1.now w.heap.size 24 [.int .i64 (NN : Int), .slice A E.length c] := Arr.grow ⟨by simp [heap_push]⟩ x1.grows
        go_wp2_with fail
        refine (C0.out _ (by repeat (first | exact Grows.refl _ | refine Grows.now ?_ _ | refine Grows.new ?_ _ | refine Grows.drewN ?_ _ | refine Grows.drew ?_ | assumption | (refine Grows.set ?_ (by first | omega | (simp; done) | (simp; omega)) _)))).mono ?_; rintro e w' ⟨gm, rfl, hm, hg⟩; obtain ⟨x2, rfl⟩ := hg.later; have HMK := hide hm; clear hg hm
        go_wp2_with fail
        refine (K1.out _ (by repeat (first | exact Grows.refl _ | refine Grows.now ?_ _ | refine Grows.new ?_ _ | refine Grows.drewN ?_ _ | refine Grows.drew ?_ | assumption | (refine Grows.set ?_ (by first | omega | (simp; done) | (simp; omega)) _)))).mono ?_; rintro e w' ⟨rfl, hg⟩; obtain ⟨x3, rfl⟩ := hg.later; clear hg
        go_wp2_with fail
        refine (K2.out _ (by repeat (first | exact Grows.refl _ | refine Grows.now ?_ _ | refine Grows.new ?_ _ | refine Grows.drewN ?_ _ | refine Grows.drew ?_ | assumption | (refine Grows.set ?_ (by first | omega | (simp; done) | (simp; omega)) _)))).mono ?_; rintro e w' ⟨rfl, hg⟩; obtain ⟨x4, rfl⟩ := hg.later; clear hg
        go_wp2_with fail
        refine (C1.out _ _ (HMK.out.grows (by repeat (first | exact Grows.refl _ | refine Grows.now ?_ _ | refine Grows.new ?_ _ | refine Grows.drewN ?_ _ | refine Grows.drew ?_ | assumption | (refine Grows.set ?_ (by first | omega | (simp; done) | (simp; omega)) _))))).mono ?_; rintro e w' ⟨rfl, hg⟩; obtain ⟨x5, rfl⟩ := hg.later; clear hg
        go_wp2_with fail
        refine (C2.out _ _ (HMK.out.grows (by repeat (first | exact Grows.refl _ | refine Grows.now ?_ _ | refine Grows.new ?_ _ | refine Grows.drewN ?_ _ | refine Grows.drew ?_ | assumption | (refine Grows.set ?_ (by first | omega | (simp; done) | (simp; omega)) _))))).mono ?_; rintro e w' ⟨rfl, hg⟩; obtain ⟨x6, rfl⟩ := hg.later; clear hg
        rcases hout with h1 | ⟨h1, h2⟩ | ⟨h1, h2, h3⟩ | ⟨h1, h2, h3, h4⟩
        · have d1 : decide (v < 0) = true := decide_eq_true h1
          clear h1
          go_wp2_with fail
          refine (alive46 _).mono ?_; rintro e w' ⟨rfl, hg⟩; obtain ⟨x7, rfl⟩ := hg.later; clear hg
          go_wp2_with fail
          go_ret
          exact ⟨rfl, (by repeat (first | exact Grows.refl _ | refine Grows.now ?_ _ | refine Grows.new ?_ _ | refine Grows.drewN ?_ _ | refine Grows.drew ?_ | assumption | (refine Grows.set ?_ (by first | omega | (simp; done) | (simp; omega)) _)))⟩
        · have d1 : decide (v < 0) = false := decide_eq_false (by omega)
          have d2 : decide ((NN : Int) ≤ v) = true := decide_eq_true h2
          clear h1 h2
          go_wp2_with fail
          refine (alive46 _).mono ?_; rintro e w' ⟨rfl, hg⟩; obtain ⟨x7, rfl⟩ := hg.later; clear hg
          go_wp2_with fail
          go_ret
          exact ⟨rfl, (by repeat (first | exact Grows.refl _ | refine Grows.now ?_ _ | refine Grows.new ?_ _ | refine Grows.drewN ?_ _ | refine Grows.drew ?_ | assumption | (refine Grows.set ?_ (by first | omega | (simp; done) | (simp; omega)) _)))⟩
        · have d1 : decide (v < 0) = false := decide_eq_false (by omega)
          have d2 : decide ((NN : Int) ≤ v) = false := decide_eq_false (by omega)
          have d3 : decide (t < 0) = true := decide_eq_true h3
          clear h1 h2 h3
          go_wp2_with fail
          refine (alive46 _).mono ?_; rintro e w' ⟨rfl, hg⟩; obtain ⟨x7, rfl⟩ := hg.later; clear hg
          go_wp2_with fail
          go_ret
          exact ⟨rfl, (by repeat (first | exact Grows.refl _ | refine Grows.now ?_ _ | refine Grows.new ?_ _ | refine Grows.drewN ?_ _ | refine Grows.drew ?_ | assumption | (refine Grows.set ?_ (by first | omega | (simp; done) | (simp; omega)) _)))⟩
        · have d1 : decide (v < 0) = false := decide_eq_false (by omega)
          have d2 : decide ((NN : Int) ≤ v) = false := decide_eq_false (by omega)
          have d3 : decide (t < 0) = false := decide_eq_false (by omega)
          have d4 : decide ((NN : Int) ≤ t) = true := decide_eq_true h4
          clear h1 h2 h3 h4
          go_wp2_with fail
          refine (alive46 _).mono ?_; rintro e w' ⟨rfl, hg⟩; obtain ⟨x7, rfl⟩ := hg.later; clear hg
          go_wp2_with fail
          go_ret
          exact ⟨rfl, (by repeat (first | exact Grows.refl _ | refine Grows.now ?_ _ | refine Grows.new ?_ _ | refine Grows.drewN ?_ _ | refine Grows.drew ?_ | assumption | (refine Grows.set ?_ (by first | omega | (simp; done) | (simp; omega)) _)))⟩
    · have C0 := hide (fun (W : World) (g : Grows w W) => mkNewNo N A c E B d l W (h.grows g) hE (h2.grows g) hl hf)
      have C1 := hide (fun (W : World) => mkBoundNil v t W)
      have C2 := hide (fun (W : World) => mkBetweenNil v t W)
      have HF := hide hf
      clear h h2
      obtain ⟨why, hwhy⟩ : ∃ why, mkF N E l = why := ⟨_, rfl⟩
      rw [hwhy] at C0 HF
      have hwn : (why == 0) = false := beq_eq_false_iff_ne.2 HF.out
      go_enter Try.func3, Try.ntmps3
      go_wp2_with fail
      refine (CL.out _).mono ?_; rintro e w' ⟨rfl, hg⟩; obtain ⟨x1, rfl⟩ := hg.later; clear hg
      have b1 : Arr x1.now w.heap.size 24 [.int .i64 N, .slice A E.length c] := Arr.grow ⟨by simp [heap_push]⟩ x1.grows
      go_wp2_with fail
      refine (C0.out _ (by repeat (first | exact Grows.refl _ | refine Grows.now ?_ _ | refine Grows.new ?_ _ | refine Grows.drewN ?_ _ | refine Grows.drew ?_ | assumption | (refine Grows.set ?_ (by first | omega | (simp; done) | (simp; omega)) _)))).mono ?_; rintro e w' ⟨rfl, hg⟩; obtain ⟨x2, rfl⟩ := hg.later; clear hg
      go_wp2_with fail
      refine (K1.out _ (by repeat (first | exact Grows.refl _ | refine Grows.now ?_ _ | refine Grows.new ?_ _ | refine Grows.drewN ?_ _ | refine Grows.drew ?_ | assumption | (refine Grows.set ?_ (by first | omega | (simp; done) | (simp; omega)) _)))).mono ?_; rintro e w' ⟨rfl, hg⟩; obtain ⟨x3, rfl⟩ := hg.later; clear hg
      by_cases h1 : rightF N E = 0
      · by_cases h3 : (l.any fun e => !nodeB N e) = true
        · obtain rfl : why = 7 := by rw [← hwhy]; unfold mkF; rw [if_neg (by omega), if_pos h3]
          rw [h3] at K2
          rw [h1]
          clear h1 h3 hwhy
          go_wp2_with fail
          refine (K2.out _ (by repeat (first | exact Grows.refl _ | refine Grows.now ?_ _ | refine Grows.new ?_ _ | refine Grows.drewN ?_ _ | refine Grows.drew ?_ | assumption | (refine Grows.set ?_ (by first | omega | (simp; done) | (simp; omega)) _)))).mono ?_; rintro e w' ⟨rfl, hg⟩; obtain ⟨x4, rfl⟩ := hg.later; clear hg
          go_wp2_with fail
          refine (C1.out _).mono ?_; rintro e w' ⟨rfl, hg⟩; obtain ⟨x5, rfl⟩ := hg.later; clear hg
          go_wp2_with fail
          refine (C2.out _).mono ?_; rintro e w' ⟨rfl, hg⟩; obtain ⟨x6, rfl⟩ := hg.later; clear hg
          go_wp2_with fail
          refine (alive46 _).mono ?_; rintro e w' ⟨rfl, hg⟩; obtain ⟨x7, rfl⟩ := hg.later; clear hg
          go_wp2_with fail
          go_ret
          exact ⟨rfl, (by repeat (first | exact Grows.refl _ | refine Grows.now ?_ _ | refine Grows.new ?_ _ | refine Grows.drewN ?_ _ | refine Grows.drew ?_ | assumption | (refine Grows.set ?_ (by first | omega | (simp; done) | (simp; omega)) _)))⟩
        · have h3' : (l.any fun e => !nodeB N e) = false := by simpa using h3
          have h4 : 64 < l.length := by
            rcases Nat.lt_or_ge 64 l.length with h5 | h5
            · exact h5
            · exact absurd (by rw [← hwhy]; unfold mkF; rw [if_neg (by omega), if_neg h3, if_neg (by omega)]) HF.out
          obtain rfl : why = 5 := by rw [← hwhy]; unfold mkF; rw [if_neg (by omega), if_neg h3, if_pos h4]
          have hd : decide ((64 : Int) < (l.length : Int)) = true := decide_eq_true (by omega)
          rw [h3'] at K2
          rw [h1]
          clear h1 h3 h3' hwhy
          go_wp2_with fail
          refine (K2.out _ (by repeat (first | exact Grows.refl _ | refine Grows.now ?_ _ | refine Grows.new ?_ _ | refine Grows.drewN ?_ _ | refine Grows.drew ?_ | assumption | (refine Grows.set ?_ (by first | omega | (simp; done) | (simp; omega)) _)))).mono ?_; rintro e w' ⟨rfl, hg⟩; obtain ⟨x4, rfl⟩ := hg.later; clear hg
          go_wp2_with fail
          refine (C1.out _).mono ?_; rintro e w' ⟨rfl, hg⟩; obtain ⟨x5, rfl⟩ := hg.later; clear hg
          go_wp2_with fail
          refine (C2.out _).mono ?_; rintro e w' ⟨rfl, hg⟩; obtain ⟨x6, rfl⟩ := hg.later; clear hg
          go_wp2_with fail
          refine (alive46 _).mono ?_; rintro e w' ⟨rfl, hg⟩; obtain ⟨x7, rfl⟩ := hg.later; clear hg
          go_wp2_with fail
          go_ret
          exact ⟨rfl, (by repeat (first | exact Grows.refl _ | refine Grows.now ?_ _ | refine Grows.new ?_ _ | refine Grows.drewN ?_ _ | refine Grows.drew ?_ | assumption | (refine Grows.set ?_ (by first | omega | (simp; done) | (simp; omega)) _)))⟩
      · obtain rfl : why = 1 := by rw [← hwhy]; unfold mkF; rw [if_pos h1]
        have hr2 : (rightF N E == 0) = false := beq_eq_false_iff_ne.2 h1
        clear h1 hwhy
        generalize rightF N E = r at *
        go_wp2_with fail
        refine (C1.out _).mono ?_; rintro e w' ⟨rfl, hg⟩; obtain ⟨x5, rfl⟩ := hg.later; clear hg
        go_wp2_with fail
        refine (C2.out _).mono ?_; rintro e w' ⟨rfl, hg⟩; obtain ⟨x6, rfl⟩ := hg.later; clear hg
        go_wp2_with fail
        refine (alive46 _).mono ?_; rintro e w' ⟨rfl, hg⟩; obtain ⟨x7, rfl⟩ := hg.later; clear hg
        go_wp2_with fail
        go_ret
        exact ⟨rfl, (by repeat (first | exact Grows.refl _ | refine Grows.now ?_ _ | refine Grows.new ?_ _ | refine Grows.drewN ?_ _ | refine Grows.drew ?_ | assumption | (refine Grows.set ?_ (by first | omega | (simp; done) | (simp; omega)) _)))⟩
end Go.Proofs.Ytiljgkaffgclgaa

/- The law MarksBounds: for every input it returns true, and each argument reads as before. No condition. -/
namespace Go.Proofs.Ytiljgkaffgclgaa.lawMarksBounds
open Go Go.ChangeShapes Go.WideShapes Go.ChangeAt Go.RowKit Go.Proofs.Ytiljgkaffgclgaa

theorem own : ownKnob Try.prog.godebug = none := by kernel_rfl
theorem laidOut : laidOutB Try.prog = true := by kernel_rfl

set_option maxRecDepth 100000 in
theorem lifted (os : Os) (started : os.Started) (H : Type) (enc : TypeId × Value → H) :
    ReturnsInHanded {} Try.checked os 3 .any (Rows.marksBoundsSpec.pre6 enc Try.prog Try.f3 Rows.marksBoundsRow.domain false) (Rows.marksBoundsSpec.post enc Try.prog Try.f3 false true false false) := by
  refine returnsInHanded_of_change (C := Try.checked) own started (by kernel_rfl) Try.func3
    (ChangeSpec.witness6 (enc := enc) (C := Try.checked) false ⟨#[], #[.agg #[.int .i64 0, .slice none 0 0], .slice none 0 0, .int .i64 0, .int .i64 0], []⟩ 8 (by kernel_rfl) (by kernel_rfl) (by kernel_rfl) (by kernel_rfl)) ?_
  intro W base args ds gs before hval0 hW hcnd _
  have hval : ∀ (j : Nat) t v, Try.f3.params[j]? = some t → args[j]? = some v → Value.okWide Try.prog W .any base t v := hval0
  have hW' := hW
  obtain ⟨p, q, hA0, hV, rfl, hfz, hnd⟩ := hW
  have hA : DataW.TrodAll enc Try.prog W 0 (fun _ => true) true Try.f3.params.toList args.toList ds p := hA0
  rw [Try.params3] at hA hval
  obtain ⟨v0, vs0, d0, ds0, p0, q0, hargs, rfl, rfl, h0, r0⟩ := trodAll_cons hA
  obtain ⟨v1, vs1, d1, ds1, p1, q1, rfl, rfl, rfl, h1, r1⟩ := trodAll_cons r0
  obtain ⟨v2, vs2, d2, ds2, p2, q2, rfl, rfl, rfl, h2, r2⟩ := trodAll_cons r1
  obtain ⟨v3, vs3, d3, ds3, p3, q3, rfl, rfl, rfl, h3, r3⟩ := trodAll_cons r2
  obtain ⟨rfl, rfl, rfl⟩ := trodAll_nil r3
  obtain rfl : args = #[v0, v1, v2, v3] := by cases args; simp_all
  obtain ⟨rfl, rfl⟩ := trodVars_none hV
  have k0 := h0
  have lt0 : ∀ x ∈ p0, x.block < W.heap.size := by obtain ⟨m, hm⟩ := k0; exact DataW.trod_lt m _ _ _ hm
  obtain ⟨a0, A0, n0, c0, z0, rfl, x0, l0, w0, u0⟩ := open_graph Try.underlying24 Try.underlying3 Try.underlying22 Try.underlying77 Try.underlying3 Try.underlying3 Try.underlying33 ⟨rfl, rfl, rfl⟩ ⟨by kernel_rfl, by kernel_rfl, by kernel_rfl⟩ (by kernel_rfl) (by kernel_rfl) (by kernel_rfl) (hval 0 24 v0 rfl rfl) h0
  have k1 := h1
  have lt1 : ∀ x ∈ p1, x.block < W.heap.size := by obtain ⟨m, hm⟩ := k1; exact DataW.trod_lt m _ _ _ hm
  obtain ⟨A1, n1, c1, z1, rfl, l1, w1, u1⟩ := open_numsC Try.underlying25 Try.underlying3 (by kernel_rfl) (hval 1 25 v1 rfl rfl) h1
  have k2 := h2
  have lt2 : ∀ x ∈ p2, x.block < W.heap.size := by obtain ⟨m, hm⟩ := k2; exact DataW.trod_lt m _ _ _ hm
  obtain ⟨a2, rfl, w2⟩ := open_i64 Try.underlying3 (hval 2 3 v2 rfl rfl) h2
  have k3 := h3
  have lt3 : ∀ x ∈ p3, x.block < W.heap.size := by obtain ⟨m, hm⟩ := k3; exact DataW.trod_lt m _ _ _ hm
  obtain ⟨a3, rfl, w3⟩ := open_i64 Try.underlying3 (hval 3 3 v3 rfl rfl) h3
  clear hA0 hval0
  refine (marksBoundsW a0 A0 n0 c0 z0 A1 n1 c1 z1 a2 a3 W x0 l0 w0 u0 l1 w1 u1 w2 w3).mono fun e W' ⟨he, bel⟩ => ?_
  subst he
  exact ⟨_, rfl, _, _, _, [], _, [], hW', trodAll_mk1 (shut_bool Try.underlying4 _), (trodAll_cons_mk (Below.trod laidOut (by kernel_rfl) (of_decide_eq_true (by kernel_rfl)) k0 bel lt0) (trodAll_cons_mk (Below.trod laidOut (by kernel_rfl) (of_decide_eq_true (by kernel_rfl)) k1 bel lt1) (trodAll_cons_mk (Below.trod laidOut (by kernel_rfl) (of_decide_eq_true (by kernel_rfl)) k2 bel lt2) (trodAll_cons_mk (Below.trod laidOut (by kernel_rfl) (of_decide_eq_true (by kernel_rfl)) k3 bel lt3) trodAll_mk0)))), rfl, Below.frame bel _, fun h => by cases h⟩

theorem over : Rows.marksBoundsRow.holds Try.pinned (OpenSpec.ofChange Rows.marksBoundsSpec) :=
  OpenClaim.holds_of_wide 3 Try.f3 rfl rfl rfl rfl rfl rfl rfl ⟨rfl, rfl, rfl, rfl, rfl⟩ rfl rfl rfl rfl rfl (by kernel_rfl) Try.func3 (by kernel_rfl)
    (of_decide_eq_true (by kernel_rfl)) (by unfold Func.isWrapper; first | (rw [if_pos (by decide +kernel)]; kernel_rfl) | (rw [if_neg (by decide +kernel)]; exact ⟨rfl, rfl⟩))
    (fun os started H enc _ => lifted os started H enc)

end Go.Proofs.Ytiljgkaffgclgaa.lawMarksBounds
namespace Go.Proofs.Ytiljgkaffgclgaa
/-- The statement. -/
theorem marksBounds_proved : Rows.MarksBoundsSaid := lawMarksBounds.over
#print axioms marksBounds_proved
end Go.Proofs.Ytiljgkaffgclgaa
