/- The law NearMore: for every input it returns true, and each argument reads as before. No condition. -/
import Derived.Test.YtkhbiaifhoknpaaQNearMore13
import Derived.Test.YtkhbiaifhoknpaaQNearMore12
import Derived.Test.YtkhbiaifhoknpaaQNearMore01
/- The law NearMore, walked: whoever lies within a lesser number lies within a greater one. -/
namespace Go.Proofs.Ytkhbiaifhoknpaa
open Go Go.RowKit
set_option maxRecDepth 20000 in
set_option maxHeartbeats 2000000 in
theorem nrWithinNo (N s r : Int) (A : Option Addr) (n c : Nat) (E : List Edg) (w : World) (h : Rd w A 3 n (esCells E)) (hn : n ≤ 1000000) (hd : dcF N s E [] ≠ 0) :
    Calls Try.prog 6 #[.agg #[.int .i64 N, .slice A n c], .int .i64 s, .int .u64 r] w fun e w' => e = .returned (.tuple #[.slice none 0 0, .int .i64 (dcF N s E [])]) ∧ Grows w w' := by
  have C1 := hide (fun (W1 : World) (g : Grows w W1) => djCheck N s A n c E false (.slice none 0 0) (.slice none 0 0) none 0 0 0 [] W1 (h.grows g) ⟨rfl, fun h => absurd h (by simp)⟩ hn (by omega))
  unfold oVal at C1
  have hr2 : (dcF N s E [] == 0) = false := beq_eq_false_iff_ne.2 hd
  clear h
  generalize dcF N s E [] = q at *
  go_enter Try.func6, Try.ntmps6
  go_wp2_with (go_at_call 10; refine (C1.out _ (by repeat (first | exact Grows.refl _ | refine Grows.now ?_ _ | refine Grows.new ?_ _ | refine Grows.drewN ?_ _ | refine Grows.drew ?_ | assumption | (refine Grows.set ?_ (by first | omega | (simp; done) | (simp; omega)) _)))).mono ?_; rintro e w' ⟨rfl, hg⟩; obtain ⟨x1, rfl⟩ := hg.later; clear hg)
  refine bodyPost_ret (v := .tuple #[.slice none 0 0, .int .i64 q]) (by simp (maxDischargeDepth := 6) [results, Try.results6, go_sem, *]) rfl ?_
  exact ⟨rfl, (by repeat (first | exact Grows.refl _ | refine Grows.now ?_ _ | refine Grows.new ?_ _ | refine Grows.drewN ?_ _ | refine Grows.drew ?_ | assumption | (refine Grows.set ?_ (by first | omega | (simp; done) | (simp; omega)) _)))⟩
set_option maxRecDepth 20000 in
set_option maxHeartbeats 2000000 in
theorem nrRadiusNo (N s k : Int) (A : Option Addr) (n c : Nat) (E : List Edg) (w : World) (h : Rd w A 3 n (esCells E)) (hn : n ≤ 1000000) (hd : dcF N s E [] ≠ 0) :
    Calls Try.prog 8 #[.agg #[.int .i64 N, .slice A n c], .int .i64 s, .int .i64 k] w fun e w' => e = .returned (.tuple #[.int .u64 0, .int .i64 (dcF N s E [])]) ∧ Grows w w' := by
  have C1 := hide (fun (W1 : World) (g : Grows w W1) => djCheck N s A n c E false (.slice none 0 0) (.slice none 0 0) none 0 0 0 [] W1 (h.grows g) ⟨rfl, fun h => absurd h (by simp)⟩ hn (by omega))
  unfold oVal at C1
  have hr2 : (dcF N s E [] == 0) = false := beq_eq_false_iff_ne.2 hd
  clear h
  generalize dcF N s E [] = q at *
  go_enter Try.func8, Try.ntmps8
  go_wp2_with (go_at_call 10; refine (C1.out _ (by repeat (first | exact Grows.refl _ | refine Grows.now ?_ _ | refine Grows.new ?_ _ | refine Grows.drewN ?_ _ | refine Grows.drew ?_ | assumption | (refine Grows.set ?_ (by first | omega | (simp; done) | (simp; omega)) _)))).mono ?_; rintro e w' ⟨rfl, hg⟩; obtain ⟨x1, rfl⟩ := hg.later; clear hg)
  refine bodyPost_ret (v := .tuple #[.int .u64 0, .int .i64 q]) (by simp (maxDischargeDepth := 6) [results, Try.results8, go_sem, *]) rfl ?_
  exact ⟨rfl, (by repeat (first | exact Grows.refl _ | refine Grows.now ?_ _ | refine Grows.new ?_ _ | refine Grows.drewN ?_ _ | refine Grows.drew ?_ | assumption | (refine Grows.set ?_ (by first | omega | (simp; done) | (simp; omega)) _)))⟩
def exN : List Edg := [⟨0, 1, 3⟩]
theorem exN_right : rightF ((2 : Nat) : Int) exN = 0 := by decide +kernel
def exND (v : Nat) : Nat := if v = 1 then 3 else 0
theorem exN_in {xs : List (Nat × Nat)} (hx : SeaN 2 0 exN xs) : within xs 0 = [(0, 0)] := by
  have hw : wtF ((2 : Nat) : Int) exN [] = [3] := by decide +kernel
  have hww : ∀ j, gn (srchOf 2 exN oN).W j = gn [3] j := fun j => by show gn (wtF ((2 : Nat) : Int) exN []) j = _; rw [hw]
  refine all_one (fun p hp => ?_) ?_ ?_
  · obtain ⟨h1, h2⟩ := (within_mem_iff hx.far.sorted).1 hp
    obtain ⟨v, f⟩ := p
    have h3 := (hx.far.way v f h1).2.1
    have h4 : exND v ≤ f := Way.ge (x := srchOf 2 exN oN) exND rfl (fun i hi => by
      have hi : i < 1 := hi
      rw [hww]
      match i, hi with
      | 0, _ => decide) h3
    have h5 := hx.lt _ h1
    simp only at h2 h5
    have hf : f = 0 := by omega
    subst hf
    unfold exND at h4
    split at h4
    · omega
    · have : v = 0 := by omega
      rw [this]
  · obtain ⟨g, hg, hle⟩ := hx.far.all 0 0 .here (fun h => absurd h (Nat.lt_irrefl 0))
    have : g = 0 := by omega
    subst this
    exact (within_mem_iff hx.far.sorted).2 ⟨hg, Nat.le_refl _⟩
  · exact (List.takeWhile_sublist _).nodup (List.Pairwise.imp (fun {a b} h e => h (by rw [e])) (List.pairwise_map.1 hx.far.nodup))
set_option maxRecDepth 20000 in
set_option maxHeartbeats 4000000 in
theorem alive35 (w : World) : Calls Try.prog 5 #[] w fun e w' => e = .returned (.bool true) ∧ Grows w w' := by
  obtain ⟨xs, hx⟩ := sea_n (NN := 2) (s := 0) exN_right (by omega)
  have hin := exN_in hx
  have C1 := hide (fun (W : World) (A : Option Addr) (h : Rd W A 3 1 (esCells exN)) => show Calls Try.prog 6 #[.agg #[.int .i64 2, .slice A 1 1], .int .i64 0, .int .u64 0] W fun e w' => ∃ A' c', e = .returned (.tuple #[.slice A' 1 c', .int .i64 0]) ∧ Rd w' A' 1 1 [.int .i64 0] ∧ Grows W w' from
    (nrWithin 2 0 0 A 1 exN xs W h hx (by omega)).mono (fun e w' h => by
      have e1 : srtI (ordL [(0, 0)]) = [0] := by simp [srtI, ordL]
      unfold GiveWt at h
      rw [hin, e1] at h
      exact h))
  have C2 := hide (fun (A B : Option Addr) (c d : Nat) (W : World) (h : Rd W A 1 1 [.int .i64 0]) (h2 : Rd W B 1 1 [.int .i64 0]) => show Calls Try.prog 9 #[.slice A 1 c, .slice B 1 d] W fun e w' => e = .returned (.bool true) ∧ Grows W w' from r1Same A 1 c [0] B 1 d [0] W h (by omega) h2 (by omega))
  clear hx hin
  go_enter Try.func5, Try.ntmps5
  go_wp2_with fail
  refine (C1.out _ _ (Rd.made (t := 37) (size := 3) (n := 1) (esCells exN) rfl)).mono ?_
  rintro e w' ⟨A', c', rfl, hr, hg⟩
  have HR := hide hr
  obtain ⟨x1, rfl⟩ : ∃ x1 : Later w, w' = x1.now := (Grows.trans (show Grows w _ from (by repeat (first | exact Grows.refl _ | refine Grows.now ?_ _ | refine Grows.new ?_ _ | refine Grows.drewN ?_ _ | refine Grows.drew ?_ | assumption | (refine Grows.set ?_ (by first | omega | (simp; done) | (simp; omega)) _)))) hg).later
  clear hr hg
  go_wp2_with fail
  refine (C2.out _ _ _ _ _ (HR.out.grows (by repeat (first | exact Grows.refl _ | refine Grows.now ?_ _ | refine Grows.new ?_ _ | refine Grows.drewN ?_ _ | refine Grows.drew ?_ | assumption | (refine Grows.set ?_ (by first | omega | (simp; done) | (simp; omega)) _)))) (Rd.made (t := 3) (size := 1) (n := 1) [.int .i64 0] rfl)).mono ?_
  rintro e w' ⟨rfl, hg⟩
  obtain ⟨x2, rfl⟩ := hg.later
  clear hg
  go_wp2_with fail
  go_ret
  exact ⟨rfl, (by repeat (first | exact Grows.refl _ | refine Grows.now ?_ _ | refine Grows.new ?_ _ | refine Grows.drewN ?_ _ | refine Grows.drew ?_ | assumption | (refine Grows.set ?_ (by first | omega | (simp; done) | (simp; omega)) _)))⟩
theorem ordL_mem {xs : List (Nat × Nat)} {z : Int} : z ∈ ordL xs ↔ ∃ p ∈ xs, (p.1 : Int) = z := by
  unfold ordL
  rw [List.mem_map]
theorem near_sub {xs : List (Nat × Nat)} {r r' : Nat} (h : r ≤ r') {z : Int} (hz : z ∈ srtI (ordL (within xs r))) : z ∈ srtI (ordL (within xs r')) := by
  rw [srtI_mem, ordL_mem] at hz ⊢
  obtain ⟨p, hp, e⟩ := hz
  exact ⟨p, within_mem h p hp, e⟩
set_option maxRecDepth 40000 in
set_option maxHeartbeats 8000000 in
theorem nearMoreW (N : Int) (A : Option Addr) (n c : Nat) (E : List Edg) (s r more k : Int) (w : World)
    (_ : I64 N) (_ : n ≤ c) (h : Rd w A 3 n (esCells E)) (_ : ∀ k, k < n → edgOk (ge E k)) (hs0 : -9223372036854775808 ≤ s ∧ s < 9223372036854775808) (hr0 : 0 ≤ r ∧ r < 18446744073709551616) (hm0 : 0 ≤ more ∧ more < 18446744073709551616) (hk0 : -9223372036854775808 ≤ k ∧ k < 9223372036854775808) :
    Calls Try.prog 3 #[.agg #[.int .i64 N, .slice A n c], .int .i64 s, .int .u64 r, .int .u64 more, .int .i64 k] w fun e w' => e = .returned (.bool true) ∧ Grows w w' := by
  obtain rfl : E.length = n := h.elen
  have CL := hide (fun (W : World) => lLight N A E.length c W)
  clear hs0
  cases hq : lightG N E.length with
  | false =>
    rw [hq] at CL
    clear h hr0 hm0 hk0
    go_enter Try.func3, Try.ntmps3
    go_wp2_with (first | (go_at_call 4; refine (CL.out _).mono ?_; rintro e w' ⟨rfl, hg⟩; (first | obtain ⟨x, rfl⟩ := Grows.later2 hg | obtain ⟨x, rfl⟩ := Grows.later hg); clear hg) | (go_at_call 5; refine (alive35 _).mono ?_; rintro e w' ⟨rfl, hg⟩; (first | obtain ⟨x, rfl⟩ := Grows.later2 hg | obtain ⟨x, rfl⟩ := Grows.later hg); clear hg))
    go_ret
    exact ⟨rfl, (by repeat (first | exact Grows.refl _ | refine Grows.now ?_ _ | refine Grows.new ?_ _ | refine Grows.drewN ?_ _ | refine Grows.drew ?_ | assumption | (refine Grows.set ?_ (by first | omega | (simp; done) | (simp; omega)) _)))⟩
  | true =>
    rw [hq] at CL
    have hE : E.length ≤ 1000000 := by
      unfold lightG at hq
      simp at hq
      omega
    clear hq
    by_cases hbig : 1152921504606846976 < r ∨ 1152921504606846976 < more
    · have hb : (decide (1152921504606846976 < r) = true) ∨ (decide (1152921504606846976 < r) = false ∧ decide (1152921504606846976 < more) = true) := by
        by_cases h1 : 1152921504606846976 < r
        · exact .inl (decide_eq_true h1)
        · exact .inr ⟨decide_eq_false h1, decide_eq_true (by omega)⟩
      clear h hbig hr0 hm0 hk0
      rcases hb with d1 | ⟨d1, d2⟩
      all_goals
        go_enter Try.func3, Try.ntmps3
        go_wp2_with (first | (go_at_call 4; refine (CL.out _).mono ?_; rintro e w' ⟨rfl, hg⟩; (first | obtain ⟨x, rfl⟩ := Grows.later2 hg | obtain ⟨x, rfl⟩ := Grows.later hg); clear hg) | (go_at_call 5; refine (alive35 _).mono ?_; rintro e w' ⟨rfl, hg⟩; (first | obtain ⟨x, rfl⟩ := Grows.later2 hg | obtain ⟨x, rfl⟩ := Grows.later hg); clear hg))
        go_ret
        exact ⟨rfl, (by repeat (first | exact Grows.refl _ | refine Grows.now ?_ _ | refine Grows.new ?_ _ | refine Grows.drewN ?_ _ | refine Grows.drew ?_ | assumption | (refine Grows.set ?_ (by first | omega | (simp; done) | (simp; omega)) _)))⟩
    · have d1 : decide (1152921504606846976 < r) = false := decide_eq_false (by omega)
      have d2 : decide (1152921504606846976 < more) = false := decide_eq_false (by omega)
      by_cases hd : dcF N s E [] = 0
      · obtain ⟨e1, e2, e3, _, _⟩ := dc_ok hd
        obtain ⟨NN, rfl⟩ : ∃ NN : Nat, N = NN := ⟨N.toNat, by have := right_in e1; omega⟩
        obtain ⟨sN, rfl⟩ : ∃ sN : Nat, s = sN := ⟨s.toNat, by omega⟩
        obtain ⟨xs, hx⟩ := sea_n (NN := NN) (s := sN) e1 (by omega)
        obtain ⟨rN, hrN⟩ : ∃ z : Nat, r = z := ⟨r.toNat, by omega⟩
        obtain ⟨mN, hmN⟩ : ∃ z : Nat, more = z := ⟨more.toNat, by omega⟩
        have hsum : 0 ≤ r + more ∧ r + more < 18446744073709551616 := by omega
        have C1 := hide (fun (W : World) (g : Grows w W) => show Calls Try.prog 6 #[.agg #[.int .i64 (NN : Int), .slice A E.length c], .int .i64 (sN : Int), .int .u64 r] W (GiveWt xs rN W) from by
          rw [hrN]
          exact nrWithin NN sN rN A c E xs W (h.grows g) hx (by omega))
        have C2 := hide (fun (W : World) (g : Grows w W) => show Calls Try.prog 6 #[.agg #[.int .i64 (NN : Int), .slice A E.length c], .int .i64 (sN : Int), .int .u64 (r + more)] W (GiveWt xs (rN + mN) W) from by
          have e : r + more = ((rN + mN : Nat) : Int) := by omega
          rw [e]
          exact nrWithin NN sN (rN + mN) A c E xs W (h.grows g) hx (by omega))
        unfold GiveWt at C1 C2
        have hsub := fun z hz => near_sub (xs := xs) (r := rN) (r' := rN + mN) (by omega) (z := z) hz
        obtain ⟨L1, hL1⟩ : ∃ L1, srtI (ordL (within xs rN)) = L1 := ⟨_, rfl⟩
        obtain ⟨L2, hL2⟩ : ∃ L2, srtI (ordL (within xs (rN + mN))) = L2 := ⟨_, rfl⟩
        have l1 : L1.length = (within xs rN).length := by rw [← hL1, srtI_len]; simp [ordL]
        have l2 : L2.length = (within xs (rN + mN)).length := by rw [← hL2, srtI_len]; simp [ordL]
        have hlx := hx.len
        have hN4 : NN ≤ 4096 := by have := (right_in e1).2.1; omega
        have w1 := within_len_le xs rN
        have w2 := within_len_le xs (rN + mN)
        rw [hL1] at C1
        rw [hL2] at C2
        rw [← l1] at C1
        rw [← l2] at C2
        have hn1 : L1.length ≤ 1000000 := by omega
        have hn2 : L2.length ≤ 1000000 := by omega
        have CH := hide (fun (B : Option Addr) (c2 : Nat) (W : World) (q : Rd W B 1 L2.length (L2.map (.int .i64))) (j : Nat) (hj : j < L1.length) => show Calls Try.prog 7 #[.slice B L2.length c2, .int .i64 (gi L1 j)] W fun e w' => e = .returned (.bool true) ∧ W = w' from by
          have hm : gi L1 j ∈ L2 := by
            rw [← hL2]
            apply hsub
            rw [hL1]
            have : gi L1 j = L1[j] := by simp [gi, hj]
            rw [this]
            exact List.getElem_mem hj
          have := r1Has B L2.length c2 L2 (gi L1 j) W q hn2
          rw [decide_eq_true hm] at this
          exact this)
        have C3 := hide (fun (W : World) (g : Grows w W) => nrRadius NN sN k A c E xs W (h.grows g) hx (by omega))
        obtain ⟨M, hM⟩ : ∃ M, (max k 1).toNat = M := ⟨_, rfl⟩
        rw [hM] at C3
        have hM1 : 1 ≤ M ∧ max k 1 = (M : Int) := by omega
        have HR := hide h
        have HX := hide hx
        have HK := hide hk0
        clear hL1 hL2 hsub l1 l2 w1 w2 hd e1 e2 e3 hrN hmN hr0 hm0 hbig h hx hk0 hM
        have HM := hide hM1
        have HLX := hide (And.intro hlx hN4)
        clear hM1 hlx hN4
        go_enter Try.func3, Try.ntmps3
        go_wp2_with fail
        refine (CL.out _).mono ?_; rintro e w' ⟨rfl, hg⟩; obtain ⟨x1, rfl⟩ := hg.later; clear hg
        have b1 : Arr x1.now w.heap.size 24 [.int .i64 (NN : Int), .slice A E.length c] := Arr.grow ⟨by simp [heap_push]⟩ x1.grows
        go_wp2_with fail
        refine (C1.out _ (by repeat (first | exact Grows.refl _ | refine Grows.now ?_ _ | refine Grows.new ?_ _ | refine Grows.drewN ?_ _ | refine Grows.drew ?_ | assumption | (refine Grows.set ?_ (by first | omega | (simp; done) | (simp; omega)) _)))).mono ?_; rintro e w' ⟨A1, c1, rfl, hr1, hg⟩; obtain ⟨x2, rfl⟩ := hg.later; have HR1 := hide hr1; clear hg hr1
        go_wp2_with fail
        refine (C2.out _ (by repeat (first | exact Grows.refl _ | refine Grows.now ?_ _ | refine Grows.new ?_ _ | refine Grows.drewN ?_ _ | refine Grows.drew ?_ | assumption | (refine Grows.set ?_ (by first | omega | (simp; done) | (simp; omega)) _)))).mono ?_; rintro e w' ⟨A2, c2, rfl, hr2, hg⟩; obtain ⟨x3, rfl⟩ := hg.later; have HR2 := hide hr2; clear hg hr2
        go_wp2_with fail
        go_loopw [15] (fun s15 wr => ∃ i : Nat, i ≤ L1.length ∧ s15 = .int .i64 (i : Int) ∧ ∃ y : Later x3.now, wr = y.now) (fun s15 _ => L1.length - (Go.RowKit.intOf s15).toNat)
        case atStart => exact ⟨0, by omega, by go_num, ⟨_, Grows.refl _⟩, rfl⟩
        case round =>
          obtain ⟨i, hi, rfl, y, rfl⟩ := hrel
          by_cases hlt : i < L1.length
          · have hdk : decide ((i : Int) < (L1.length : Int)) = true := decide_eq_true (by omega)
            obtain ⟨bH, oH, rfl, hcH⟩ := HR1.out.intsH (by omega)
            have ck := hcH i hlt
            have CH2 := hide (fun (W : World) (g : Grows x3.now W) => CH.out A2 c2 W (HR2.out.grows g) i hlt)
            generalize gi L1 i = z at *
            clear hcH
            go_wp2_with (go_at_call 7; refine (CH2.out _ (by repeat (first | exact Grows.refl _ | refine Grows.now ?_ _ | refine Grows.new ?_ _ | refine Grows.drewN ?_ _ | refine Grows.drew ?_ | assumption | (refine Grows.set ?_ (by first | omega | (simp; done) | (simp; omega)) _)))).mono ?_; rintro e w' ⟨rfl, rfl⟩)
            go_roundw
            case measure => simp [Go.RowKit.intOf]; omega
            case rel => exact ⟨i + 1, by omega, by go_num, ⟨_, (by repeat (first | exact Grows.refl _ | refine Grows.now ?_ _ | refine Grows.new ?_ _ | refine Grows.drewN ?_ _ | refine Grows.drew ?_ | assumption | (refine Grows.set ?_ (by first | omega | (simp; done) | (simp; omega)) _)))⟩, rfl⟩
          · obtain rfl : i = L1.length := by omega
            have hdk : decide ((L1.length : Int) < (L1.length : Int)) = false := decide_eq_false (by omega)
            by_cases hMx : xs.length < M
            · have C3' := hide (fun (W : World) (g : Grows w W) => by
                have := C3.out W g
                rw [radV_no hMx] at this
                exact this)
              clear hMx C3
              go_wp2_with fail
              refine (C3'.out _ (by repeat (first | exact Grows.refl _ | refine Grows.now ?_ _ | refine Grows.new ?_ _ | refine Grows.drewN ?_ _ | refine Grows.drew ?_ | assumption | (refine Grows.set ?_ (by first | omega | (simp; done) | (simp; omega)) _)))).mono ?_; rintro e w' ⟨rfl, hg⟩; obtain ⟨x4, rfl⟩ := hg.later; clear hg
              go_wp2_with fail
              refine (alive35 _).mono ?_; rintro e w' ⟨rfl, hg⟩; obtain ⟨x5, rfl⟩ := hg.later; clear hg
              go_wp2_with fail
              go_ret
              exact ⟨rfl, (by repeat (first | exact Grows.refl _ | refine Grows.now ?_ _ | refine Grows.new ?_ _ | refine Grows.drewN ?_ _ | refine Grows.drew ?_ | assumption | (refine Grows.set ?_ (by first | omega | (simp; done) | (simp; omega)) _)))⟩
            · obtain ⟨⟨v, f⟩, hq⟩ : ∃ q, xs[M - 1]? = some q := ⟨_, List.getElem?_eq_getElem (by have := HM.out; omega)⟩
              have C3' := hide (fun (W : World) (g : Grows w W) => by
                have := C3.out W g
                have e1 : radV xs M = ((f : Int), 0) := by unfold radV; rw [hq]
                rw [e1] at this
                exact this)
              obtain ⟨m1, m2⟩ := within_many HX.out.far.sorted hq
              have hfs : f ≤ 72057594037927936 := HX.out.small (v, f) (List.mem_of_getElem? hq)
              have wl := within_len_le xs f
              have wl2 := within_len_le xs (f - 1)
              have C4 := hide (fun (W : World) (g : Grows w W) => show Calls Try.prog 6 #[.agg #[.int .i64 (NN : Int), .slice A E.length c], .int .i64 (sN : Int), .int .u64 (f : Int)] W fun e w' => ∃ A' c', e = .returned (.tuple #[.slice A' (within xs f).length c', .int .i64 0]) ∧ Grows W w' from
                (nrWithin NN sN f A c E xs W (HR.out.grows g) HX.out (by omega)).mono (fun e w' h => by
                  obtain ⟨A', c', h1, _, h3⟩ := h
                  exact ⟨A', c', h1, h3⟩))
              have C5 := hide (fun (hf : 0 < f) (W : World) (g : Grows w W) => show Calls Try.prog 6 #[.agg #[.int .i64 (NN : Int), .slice A E.length c], .int .i64 (sN : Int), .int .u64 ((f : Int) - 1)] W fun e w' => ∃ A' c', e = .returned (.tuple #[.slice A' (within xs (f - 1)).length c', .int .i64 0]) ∧ Grows W w' from by
                have e1 : (f : Int) - 1 = ((f - 1 : Nat) : Int) := by omega
                rw [e1]
                exact (nrWithin NN sN (f - 1) A c E xs W (HR.out.grows g) HX.out (by omega)).mono (fun e w' h => by
                  obtain ⟨A', c', h1, _, h3⟩ := h
                  exact ⟨A', c', h1, h3⟩))
              obtain ⟨n4, hn4⟩ : ∃ n4, (within xs f).length = n4 := ⟨_, rfl⟩
              obtain ⟨n5, hn5⟩ : ∃ n5, (within xs (f - 1)).length = n5 := ⟨_, rfl⟩
              rw [hn4] at C4 m1 wl
              rw [hn5] at C5 m2 wl2
              obtain ⟨hM1, hM2⟩ := HM.out
              have hlk : decide ((n4 : Int) < k) = false := decide_eq_false (by omega)
              have hz4 : ((n4 : Int) == 0) = false := by simp; omega
              have hz4' : (n4 == 0) = false := by simp; omega
              have hz4'' : n4 ≠ 0 := by omega
              have HML := hide (And.intro hM1 (And.intro hM2 m2))
              obtain ⟨fi, hfi⟩ : ∃ z : Int, (f : Int) = z := ⟨_, rfl⟩
              rw [hfi] at C3' C4 C5
              have HFI := hide hfi
              have HFS := hide hfs
              clear hMx C3 hq m1 m2 wl wl2 hM1 hM2 hfs hn4 hn5 hfi
              by_cases hf0 : 0 < fi
              · have hd5 : decide (0 < fi) = true := decide_eq_true hf0
                have C5' := hide (C5.out (by have := HFI.out; omega))
                obtain ⟨mi, hmi⟩ : ∃ mi : Int, max k 1 = mi := ⟨_, rfl⟩
                have hlm : decide (mi ≤ (n5 : Int)) = false := decide_eq_false (by
                  obtain ⟨z1, z2, z3⟩ := HML.out
                  have z4 := z3 (by have := HFI.out; omega)
                  omega)
                have hfb : fi < 18446744073709551616 := by have := HFI.out; have := HFS.out; omega
                clear C5
                go_wp2_with fail
                refine (C3'.out _ (by repeat (first | exact Grows.refl _ | refine Grows.now ?_ _ | refine Grows.new ?_ _ | refine Grows.drewN ?_ _ | refine Grows.drew ?_ | assumption | (refine Grows.set ?_ (by first | omega | (simp; done) | (simp; omega)) _)))).mono ?_; rintro e w' ⟨rfl, hg⟩; obtain ⟨x4, rfl⟩ := hg.later; clear hg
                go_wp2_with fail
                refine (C4.out _ (by repeat (first | exact Grows.refl _ | refine Grows.now ?_ _ | refine Grows.new ?_ _ | refine Grows.drewN ?_ _ | refine Grows.drew ?_ | assumption | (refine Grows.set ?_ (by first | omega | (simp; done) | (simp; omega)) _)))).mono ?_; rintro e w' ⟨A4, c4, rfl, hg⟩; obtain ⟨x5, rfl⟩ := hg.later; clear hg
                go_wp2_with fail
                refine (C5'.out _ (by repeat (first | exact Grows.refl _ | refine Grows.now ?_ _ | refine Grows.new ?_ _ | refine Grows.drewN ?_ _ | refine Grows.drew ?_ | assumption | (refine Grows.set ?_ (by first | omega | (simp; done) | (simp; omega)) _)))).mono ?_; rintro e w' ⟨A5, c5, rfl, hg⟩; obtain ⟨x6, rfl⟩ := hg.later; clear hg
                go_wp2_with fail
                refine (alive35 _).mono ?_; rintro e w' ⟨rfl, hg⟩; obtain ⟨x7, rfl⟩ := hg.later; clear hg
                go_wp2_with fail
                go_ret
                exact ⟨rfl, (by repeat (first | exact Grows.refl _ | refine Grows.now ?_ _ | refine Grows.new ?_ _ | refine Grows.drewN ?_ _ | refine Grows.drew ?_ | assumption | (refine Grows.set ?_ (by first | omega | (simp; done) | (simp; omega)) _)))⟩
              · have hd5 : decide (0 < fi) = false := decide_eq_false hf0
                clear C5
                go_wp2_with fail
                refine (C3'.out _ (by repeat (first | exact Grows.refl _ | refine Grows.now ?_ _ | refine Grows.new ?_ _ | refine Grows.drewN ?_ _ | refine Grows.drew ?_ | assumption | (refine Grows.set ?_ (by first | omega | (simp; done) | (simp; omega)) _)))).mono ?_; rintro e w' ⟨rfl, hg⟩; obtain ⟨x4, rfl⟩ := hg.later; clear hg
                go_wp2_with fail
                refine (C4.out _ (by repeat (first | exact Grows.refl _ | refine Grows.now ?_ _ | refine Grows.new ?_ _ | refine Grows.drewN ?_ _ | refine Grows.drew ?_ | assumption | (refine Grows.set ?_ (by first | omega | (simp; done) | (simp; omega)) _)))).mono ?_; rintro e w' ⟨A4, c4, rfl, hg⟩; obtain ⟨x5, rfl⟩ := hg.later; clear hg
                go_wp2_with fail
                refine (alive35 _).mono ?_; rintro e w' ⟨rfl, hg⟩; obtain ⟨x7, rfl⟩ := hg.later; clear hg
                go_wp2_with fail
                go_ret
                exact ⟨rfl, (by repeat (first | exact Grows.refl _ | refine Grows.now ?_ _ | refine Grows.new ?_ _ | refine Grows.drewN ?_ _ | refine Grows.drew ?_ | assumption | (refine Grows.set ?_ (by first | omega | (simp; done) | (simp; omega)) _)))⟩
      · have C1 := hide (fun (q : Int) (W : World) (g : Grows w W) => nrWithinNo N s q A E.length c E W (h.grows g) hE hd)
        have C3 := hide (fun (W : World) (g : Grows w W) => nrRadiusNo N s k A E.length c E W (h.grows g) hE hd)
        have hdn : (dcF N s E [] == 0) = false := beq_eq_false_iff_ne.2 hd
        have hsum : 0 ≤ r + more ∧ r + more < 18446744073709551616 := by omega
        clear h hd hr0 hm0 hbig hk0
        generalize dcF N s E [] = why at *
        go_enter Try.func3, Try.ntmps3
        go_wp2_with fail
        refine (CL.out _).mono ?_; rintro e w' ⟨rfl, hg⟩; obtain ⟨x1, rfl⟩ := hg.later; clear hg
        have b1 : Arr x1.now w.heap.size 24 [.int .i64 N, .slice A E.length c] := Arr.grow ⟨by simp [heap_push]⟩ x1.grows
        go_wp2_with fail
        refine (C1.out _ _ (by repeat (first | exact Grows.refl _ | refine Grows.now ?_ _ | refine Grows.new ?_ _ | refine Grows.drewN ?_ _ | refine Grows.drew ?_ | assumption | (refine Grows.set ?_ (by first | omega | (simp; done) | (simp; omega)) _)))).mono ?_; rintro e w' ⟨rfl, hg⟩; obtain ⟨x2, rfl⟩ := hg.later; clear hg
        go_wp2_with fail
        refine (C1.out _ _ (by repeat (first | exact Grows.refl _ | refine Grows.now ?_ _ | refine Grows.new ?_ _ | refine Grows.drewN ?_ _ | refine Grows.drew ?_ | assumption | (refine Grows.set ?_ (by first | omega | (simp; done) | (simp; omega)) _)))).mono ?_; rintro e w' ⟨rfl, hg⟩; obtain ⟨x3, rfl⟩ := hg.later; clear hg
        go_wp2_with fail
        go_loopw [15] (fun s15 wr => s15 = .int .i64 0 ∧ wr = x3.now) (fun _ _ => 0)
        case atStart => exact ⟨rfl, rfl⟩
        case round =>
          obtain ⟨rfl, rfl⟩ := hrel
          go_wp2_with fail
          refine (C3.out _ (by repeat (first | exact Grows.refl _ | refine Grows.now ?_ _ | refine Grows.new ?_ _ | refine Grows.drewN ?_ _ | refine Grows.drew ?_ | assumption | (refine Grows.set ?_ (by first | omega | (simp; done) | (simp; omega)) _)))).mono ?_; rintro e w' ⟨rfl, hg⟩; obtain ⟨x4, rfl⟩ := hg.later; clear hg
          go_wp2_with fail
          refine (alive35 _).mono ?_; rintro e w' ⟨rfl, hg⟩; obtain ⟨x5, rfl⟩ := hg.later; clear hg
          go_wp2_with fail
          go_ret
          exact ⟨rfl, (by repeat (first | exact Grows.refl _ | refine Grows.now ?_ _ | refine Grows.new ?_ _ | refine Grows.drewN ?_ _ | refine Grows.drew ?_ | assumption | (refine Grows.set ?_ (by first | omega | (simp; done) | (simp; omega)) _)))⟩
end Go.Proofs.Ytkhbiaifhoknpaa

/- The law NearMore: for every input it returns true, and each argument reads as before. No condition. -/
namespace Go.Proofs.Ytkhbiaifhoknpaa.lawNearMore
open Go Go.ChangeShapes Go.WideShapes Go.ChangeAt Go.RowKit Go.Proofs.Ytkhbiaifhoknpaa

theorem own : ownKnob Try.prog.godebug = none := by kernel_rfl
theorem laidOut : laidOutB Try.prog = true := by kernel_rfl

set_option maxRecDepth 100000 in
theorem lifted (os : Os) (started : os.Started) (H : Type) (enc : TypeId × Value → H) :
    ReturnsInHanded {} Try.checked os 3 .any (Rows.nearMoreSpec.pre6 enc Try.prog Try.f3 Rows.nearMoreRow.domain false) (Rows.nearMoreSpec.post enc Try.prog Try.f3 false true false false) := by
  refine returnsInHanded_of_change (C := Try.checked) own started (by kernel_rfl) Try.func3
    (ChangeSpec.witness6 (enc := enc) (C := Try.checked) false ⟨#[], #[.agg #[.int .i64 0, .slice none 0 0], .int .i64 0, .int .u64 0, .int .u64 0, .int .i64 0], []⟩ 8 (by kernel_rfl) (by kernel_rfl) (by kernel_rfl) (by kernel_rfl)) ?_
  intro W base args ds gs before hval0 hW hcnd _
  have hval : ∀ (j : Nat) t v, Try.f3.params[j]? = some t → args[j]? = some v → Value.okWide Try.prog W .any base t v := hval0
  have hW' := hW
  obtain ⟨p, q, hA0, hV, rfl, hfz, hnd⟩ := hW
  have hA : DataW.TrodAll enc Try.prog W 0 (fun _ => true) true Try.f3.params.toList args.toList ds p := hA0
  rw [Try.params3] at hA hval
  obtain ⟨v0, vs0, d0, ds0, p0, q0, hargs, rfl, rfl, h0, r0⟩ := trodAll_cons hA
  obtain ⟨v1, vs1, d1, ds1, p1, q1, rfl, rfl, rfl, h1, r1⟩ := trodAll_cons r0
  obtain ⟨v2, vs2, d2, ds2, p2, q2, rfl, rfl, rfl, h2, r2⟩ := trodAll_cons r1
  obtain ⟨v3, vs3, d3, ds3, p3, q3, rfl, rfl, rfl, h3, r3⟩ := trodAll_cons r2
  obtain ⟨v4, vs4, d4, ds4, p4, q4, rfl, rfl, rfl, h4, r4⟩ := trodAll_cons r3
  obtain ⟨rfl, rfl, rfl⟩ := trodAll_nil r4
  obtain rfl : args = #[v0, v1, v2, v3, v4] := by cases args; simp_all
  obtain ⟨rfl, rfl⟩ := trodVars_none hV
  have k0 := h0
  have lt0 : ∀ x ∈ p0, x.block < W.heap.size := by obtain ⟨m, hm⟩ := k0; exact DataW.trod_lt m _ _ _ hm
  obtain ⟨a0, A0, n0, c0, z0, rfl, x0, l0, w0, u0⟩ := open_graph Try.underlying24 Try.underlying3 Try.underlying22 Try.underlying37 Try.underlying3 Try.underlying3 Try.underlying25 ⟨rfl, rfl, rfl⟩ ⟨by kernel_rfl, by kernel_rfl, by kernel_rfl⟩ (by kernel_rfl) (by kernel_rfl) (by kernel_rfl) (hval 0 24 v0 rfl rfl) h0
  have k1 := h1
  have lt1 : ∀ x ∈ p1, x.block < W.heap.size := by obtain ⟨m, hm⟩ := k1; exact DataW.trod_lt m _ _ _ hm
  obtain ⟨a1, rfl, w1⟩ := open_i64 Try.underlying3 (hval 1 3 v1 rfl rfl) h1
  have k2 := h2
  have lt2 : ∀ x ∈ p2, x.block < W.heap.size := by obtain ⟨m, hm⟩ := k2; exact DataW.trod_lt m _ _ _ hm
  obtain ⟨a2, rfl, w2⟩ := open_u64 Try.underlying25 (hval 2 25 v2 rfl rfl) h2
  have k3 := h3
  have lt3 : ∀ x ∈ p3, x.block < W.heap.size := by obtain ⟨m, hm⟩ := k3; exact DataW.trod_lt m _ _ _ hm
  obtain ⟨a3, rfl, w3⟩ := open_u64 Try.underlying25 (hval 3 25 v3 rfl rfl) h3
  have k4 := h4
  have lt4 : ∀ x ∈ p4, x.block < W.heap.size := by obtain ⟨m, hm⟩ := k4; exact DataW.trod_lt m _ _ _ hm
  obtain ⟨a4, rfl, w4⟩ := open_i64 Try.underlying3 (hval 4 3 v4 rfl rfl) h4
  clear hA0 hval0
  refine (nearMoreW a0 A0 n0 c0 z0 a1 a2 a3 a4 W x0 l0 w0 u0 w1 w2 w3 w4).mono fun e W' ⟨he, bel⟩ => ?_
  subst he
  exact ⟨_, rfl, _, _, _, [], _, [], hW', trodAll_mk1 (shut_bool Try.underlying4 _), (trodAll_cons_mk (Below.trod laidOut (by kernel_rfl) (of_decide_eq_true (by kernel_rfl)) k0 bel lt0) (trodAll_cons_mk (Below.trod laidOut (by kernel_rfl) (of_decide_eq_true (by kernel_rfl)) k1 bel lt1) (trodAll_cons_mk (Below.trod laidOut (by kernel_rfl) (of_decide_eq_true (by kernel_rfl)) k2 bel lt2) (trodAll_cons_mk (Below.trod laidOut (by kernel_rfl) (of_decide_eq_true (by kernel_rfl)) k3 bel lt3) (trodAll_cons_mk (Below.trod laidOut (by kernel_rfl) (of_decide_eq_true (by kernel_rfl)) k4 bel lt4) trodAll_mk0))))), rfl, Below.frame bel _, fun h => by cases h⟩

theorem over : Rows.nearMoreRow.holds Try.pinned (OpenSpec.ofChange Rows.nearMoreSpec) :=
  OpenClaim.holds_of_wide 3 Try.f3 rfl rfl rfl rfl rfl rfl rfl ⟨rfl, rfl, rfl, rfl, rfl⟩ rfl rfl rfl rfl rfl (by kernel_rfl) Try.func3 (by kernel_rfl)
    (of_decide_eq_true (by kernel_rfl)) (by unfold Func.isWrapper; first | (rw [if_pos (by decide +kernel)]; kernel_rfl) | (rw [if_neg (by decide +kernel)]; exact ⟨rfl, rfl⟩))
    (fun os started H enc _ => lifted os started H enc)

end Go.Proofs.Ytkhbiaifhoknpaa.lawNearMore
namespace Go.Proofs.Ytkhbiaifhoknpaa
/-- The statement. -/
theorem nearMore_proved : Rows.NearMoreSaid := lawNearMore.over
#print axioms nearMore_proved
end Go.Proofs.Ytkhbiaifhoknpaa
