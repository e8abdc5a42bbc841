/- Contract: a search that goes towards where it lies, whole. -/
import Derived.Test.YtiljgkaffgclgaaQAstarSound00
import Derived.Test.YtiljgkaffgclgaaQMarksSound00
import Derived.WalkMore
/- Contract: a search that goes towards where it lies, whole. -/
namespace Go.Proofs.Ytiljgkaffgclgaa
open Go Go.RowKit
attribute [local go_sem] Oper.semAt_some
theorem run_store_fnA {P : Program} {w : World} {a : Addr} {m : Mode} (fn : Fn) (first captured : Array Value) : (store a (.func fn first captured) m).run P w = stored P w a (.func fn first captured) m := run_store P w a _ m rfl
attribute [local go_sem] run_store_fnA
/-- What comes out: how far, how many were taken, and why not. -/
def resV (t : Nat) (xs : List (Nat × Nat)) : Int × Int × Int :=
  match xs.getLast? with
  | some (v, f) => if v = t then ((f : Int), ((xs.length : Nat) : Int), 0) else (0, 0, 9)
  | none => (0, 0, 9)
theorem resV_no {t : Nat} {xs : List (Nat × Nat)} (h : ∀ p ∈ xs, p.1 ≠ t) : resV t xs = (0, 0, 9) := by
  unfold resV
  cases e : xs.getLast? with
  | none => rfl
  | some p =>
    obtain ⟨v, f⟩ := p
    have := h (v, f) (List.mem_of_getLast? e)
    exact if_neg this
theorem resV_yes (t f : Nat) (pre : List (Nat × Nat)) : resV t (pre ++ [(t, f)]) = ((f : Int), (pre.length : Int) + 1, 0) := by
  unfold resV
  rw [List.getLast?_concat]
  show (if t = t then _ else _) = _
  rw [if_pos rfl, List.length_append]
  rfl
/-- What that says. -/
theorem resV_ok {x : Srch} {s t N : Nat} {xs : List (Nat × Nat)} (h : EndA x s t xs) (hl : xs.length ≤ N) :
    (∃ f n : Nat, resV t xs = ((f : Int), (n : Int), 0) ∧ Way x s t f ∧ (∀ g, Way x s t g → f ≤ g) ∧ 1 ≤ n ∧ n ≤ N) ∨ (resV t xs = (0, 0, 9) ∧ ∀ g, ¬ Way x s t g) := by
  rcases h with ⟨ys, f, rfl, h1, h2, h3⟩ | ⟨h1, h2⟩
  · refine .inl ⟨f, ys.length + 1, by rw [resV_yes]; simp, h2, h3, by omega, by simpa using hl⟩
  · exact .inr ⟨resV_no h1, h2⟩
def GiveW (t : Nat) (xs : List (Nat × Nat)) (w : World) (e : Ending) (w' : World) : Prop :=
  e = .returned (.tuple #[.agg #[.int .u64 (resV t xs).1, .int .i64 (resV t xs).2.1], .int .i64 (resV t xs).2.2]) ∧ Grows w w'
theorem frU {a : Act} (T : (Nat → Value) → Act) (h : a = T (fun n => a.tmps.toList.getD n undef)) : ∃ u, a = T u := ⟨_, h⟩
def TmW (N s t : Nat) (A : Option Addr) (c : Nat) (E : List Edg) (B : Option Addr) (cb b4 b5 b8 ba bA bB b15 : Nat) (Ds : List Nat) (u : Nat → Value) : Act := { tmps := (.agg #[.int .i64 (N : Int), .slice A E.length c] :: .slice B N cb :: .int .i64 (s : Int) :: .int .i64 (t : Int) :: .pointer (some ⟨b4, 0, none⟩) :: .pointer (some ⟨b5, 0, none⟩) :: u 6 :: u 7 :: .pointer (some ⟨b8, 0, none⟩) :: .int .i64 0 :: u 10 :: .pointer (some ⟨ba, 0, none⟩) :: u 12 :: .pointer (some ⟨bA, 0, none⟩) :: .pointer (some ⟨bB, 0, none⟩) :: .pointer (some ⟨b15, 0, none⟩) :: u 16 :: u 17 :: u 18 :: u 19 :: u 20 :: u 21 :: u 22 :: u 23 :: u 24 :: u 25 :: u 26 :: u 27 :: u 28 :: u 29 :: u 30 :: u 31 :: u 32 :: u 33 :: u 34 :: u 35 :: u 36 :: u 37 :: u 38 :: u 39 :: u 40 :: u 41 :: u 42 :: u 43 :: u 44 :: u 45 :: u 46 :: u 47 :: u 48 :: u 49 :: u 50 :: u 51 :: u 52 :: u 53 :: u 54 :: u 55 :: u 56 :: u 57 :: u 58 :: u 59 :: u 60 :: u 61 :: u 62 :: u 63 :: u 64 :: u 65 :: u 66 :: u 67 :: u 68 :: u 69 :: u 70 :: u 71 :: u 72 :: u 73 :: u 74 :: u 75 :: u 76 :: u 77 :: u 78 :: u 79 :: u 80 :: u 81 :: u 82 :: u 83 :: u 84 :: u 85 :: u 86 :: u 87 :: u 88 :: u 89 :: u 90 :: u 91 :: u 92 :: u 93 :: u 94 :: []).toArray, defers := marks Ds }
def TmA (N s t : Nat) (A : Option Addr) (c : Nat) (E : List Edg) (B : Option Addr) (cb b4 b5 b8 ba bA bB b15 v b19 b22 : Nat) (u : Nat → Value) : Act := { tmps := (.agg #[.int .i64 (N : Int), .slice A E.length c] :: .slice B N cb :: .int .i64 (s : Int) :: .int .i64 (t : Int) :: .pointer (some ⟨b4, 0, none⟩) :: .pointer (some ⟨b5, 0, none⟩) :: u 6 :: u 7 :: .pointer (some ⟨b8, 0, none⟩) :: .int .i64 0 :: u 10 :: .pointer (some ⟨ba, 0, none⟩) :: u 12 :: .pointer (some ⟨bA, 0, none⟩) :: .pointer (some ⟨bB, 0, none⟩) :: .pointer (some ⟨b15, 0, none⟩) :: .int .i64 (v : Int) :: u 17 :: u 18 :: .pointer (some ⟨b19, 0, none⟩) :: u 20 :: u 21 :: .pointer (some ⟨b22, 0, none⟩) :: u 23 :: u 24 :: u 25 :: u 26 :: u 27 :: u 28 :: u 29 :: u 30 :: u 31 :: u 32 :: u 33 :: u 34 :: u 35 :: u 36 :: u 37 :: u 38 :: u 39 :: u 40 :: u 41 :: u 42 :: u 43 :: u 44 :: u 45 :: u 46 :: u 47 :: u 48 :: u 49 :: u 50 :: u 51 :: u 52 :: u 53 :: u 54 :: u 55 :: u 56 :: u 57 :: u 58 :: u 59 :: u 60 :: u 61 :: u 62 :: u 63 :: u 64 :: u 65 :: u 66 :: u 67 :: u 68 :: u 69 :: u 70 :: u 71 :: u 72 :: u 73 :: u 74 :: u 75 :: u 76 :: u 77 :: u 78 :: u 79 :: u 80 :: u 81 :: u 82 :: u 83 :: u 84 :: u 85 :: u 86 :: u 87 :: u 88 :: u 89 :: u 90 :: u 91 :: u 92 :: u 93 :: u 94 :: []).toArray, defers := [] }
/-- In the midst of an edge's round. -/
def IbA (N s t : Nat) (A : Option Addr) (c : Nat) (E : List Edg) (B : Option Addr) (cb b4 b5 b8 ba bA bB b15 v b19 : Nat) (x : Srch) (I : List Nat → (Nat → Prop) → World → Prop) (i : Nat) (a' : Act) (p : List Nat) (Mi : Nat → Prop) (W : World) : Prop :=
  ∃ b22, (∃ u, a' = TmA N s t A c E B cb b4 b5 b8 ba bA bB b15 v b19 b22 u) ∧ I p Mi W ∧ Arr W b22 77 [.int .i64 (ge x.E i).f, .int .i64 (ge x.E i).t, .int .u64 (ge x.E i).w] ∧ ¬ Mi b22
theorem asWith1 (n : Nat) (w : World) : Calls Try.prog 120 #[.int .u64 (n : Int)] w fun e w' => e = .returned (.bool (decide (1152921504606846976 < n))) ∧ w = w' := by
  have h : decide ((1152921504606846976 : Int) < (n : Int)) = decide (1152921504606846976 < n) := by
    by_cases e : 1152921504606846976 < n
    · rw [decide_eq_true e, decide_eq_true (by omega)]
    · rw [decide_eq_false e, decide_eq_false (by omega)]
  rw [← h]
  generalize (n : Int) = z at *
  clear h
  go_enter Try.func120, Try.ntmps120
  go_wp2_with fail
  go_ret
  exact ⟨rfl, rfl⟩
set_option maxRecDepth 40000 in
set_option maxHeartbeats 8000000 in
theorem asWith (N s t : Nat) (A : Option Addr) (c : Nat) (E : List Edg) (B : Option Addr) (cb : Nat) (H : List Nat) (xs : List (Nat × Nat)) (w : World) (h : Rd w A 3 E.length (esCells E)) (hr : rightF (N : Int) E = 0) (h2 : Rd w B 1 N (wv H)) (hs : s < N) (ht : t < N)
    (hx : AIn (srchOf N E (allO false)) H 4294967296) (htr : TraceA (srchOf N E (allO false)) H t (reachA H (st0 N) s 0) xs) (hen : EndA (srchOf N E (allO false)) s t xs) (hle : xs.length ≤ N) :
    Calls Try.prog 79 #[.agg #[.int .i64 (N : Int), .slice A E.length c], .slice B N cb, .int .i64 (s : Int), .int .i64 (t : Int)] w (GiveW t xs w) := by
  obtain ⟨r1, r2, r3, r4, r5⟩ := right_in hr
  have hask : askF (N : Int) E [(s : Int), (t : Int)] = 0 := by
    have h1 : nodeB (N : Int) (s : Int) = true := decide_eq_true (by omega)
    have h3 : nodeB (N : Int) (t : Int) = true := decide_eq_true (by omega)
    unfold askF
    rw [if_neg (by omega)]
    simp [h1, h3]
  have hlen : H.length = N := h2.wlen
  have hany : (H.any fun n => decide (1152921504606846976 < n)) = false := by
    rw [List.any_eq_false]
    intro n hn
    obtain ⟨j, hj, rfl⟩ := List.mem_iff_getElem.1 hn
    have e1 : gn H j = H[j] := by simp [gn, hj]
    have := hx.top j (show j < N by omega)
    rw [e1] at this
    simp
    omega
  have C1 := hide (fun (W : World) (g : Grows w W) (Bt : Option Addr) (q : Rd W Bt 1 2 [.int .i64 (s : Int), .int .i64 (t : Int)]) => by
    have := asRight (N : Int) A c E Bt 2 2 [(s : Int), (t : Int)] W (h.grows g) (by omega) q (by omega)
    rw [hask] at this
    exact this)
  have C2 := hide (fun (W : World) (g : Grows w W) => by
    have := containsU B N cb H 120 #[] (fun n => decide (1152921504606846976 < n)) W (h2.grows g) (by omega) (fun args W => by kernel_rfl) (fun W2 g2 j hj => (asWith1 (gn H j) W2).mono (fun e w' h => ⟨h.1, by rw [h.2]; exact Grows.refl _⟩))
    rw [hany] at this
    exact this)
  have C3 := hide (fun (W : World) (g : Grows w W) => adjNew N A E.length c E W (h.grows g) (by omega) hr)
  have HX := hide hx
  have HT := hide (And.intro htr (And.intro hen hle))
  have HH := hide h2
  have HR := hide (And.intro r2 r3)
  have HE := hide r4
  have HRT := hide hr
  clear h h2 hask hany r1 r2 r3 r4 r5 hr hx htr hen hle hlen
  refine calls_of_marks Try.func79 rfl ?_
  simp only [Try.ntmps79, List.size_toArray, List.length_cons, List.length_nil, Nat.reduceAdd, Nat.reduceSub, Array.replicate_succ, Array.replicate_zero, List.push_toArray, List.append_toArray, List.nil_append, List.cons_append]
  go_wp2_with fail
  go_step3
  go_wp2_with fail
  refine (C1.out _ (by repeat (first | exact Grows.refl _ | refine Grows.now ?_ _ | refine Grows.new ?_ _ | refine Grows.drewN ?_ _ | refine Grows.drew ?_ | assumption | (refine Grows.set ?_ (by first | omega | (simp; done) | (simp; omega)) _))) _ (Arr.rd (t := 3) (cs := [.int .i64 (s : Int), .int .i64 (t : Int)]) ⟨by simp [heap_push, Array.getElem_push, Array.getElem?_push]⟩ rfl)).mono ?_; rintro e w' ⟨rfl, hg⟩; obtain ⟨x1, rfl⟩ := hg.later; clear hg
  go_wp2_with fail
  refine (C2.out _ (by repeat (first | exact Grows.refl _ | refine Grows.now ?_ _ | refine Grows.new ?_ _ | refine Grows.drewN ?_ _ | refine Grows.drew ?_ | assumption | (refine Grows.set ?_ (by first | omega | (simp; done) | (simp; omega)) _)))).mono ?_; rintro e w' ⟨rfl, hg⟩; obtain ⟨x2, rfl⟩ := hg.later; clear hg
  go_wp2_with fail
  refine (C3.out _ (by repeat (first | exact Grows.refl _ | refine Grows.now ?_ _ | refine Grows.new ?_ _ | refine Grows.drewN ?_ _ | refine Grows.drew ?_ | assumption | (refine Grows.set ?_ (by first | omega | (simp; done) | (simp; omega)) _)))).mono ?_; rintro e W1 ⟨ba, rfl, hA, hg⟩
  go_wp2_with fail
  have a4 : Arr W1 w.heap.size 24 [.int .i64 (N : Int), .slice A E.length c] := Arr.grow (Arr.grow (Arr.grow ⟨by simp [heap_push, Array.getElem_push, Array.getElem?_push, eq_add2, eq_add3]⟩ x1.grows) x2.grows) hg
  have a5 : Arr W1 (w.heap.size + 1) 40 [.slice B N cb] := Arr.grow (Arr.grow (Arr.grow ⟨by simp [heap_push, Array.getElem_push, Array.getElem?_push, eq_add2, eq_add3]⟩ x1.grows) x2.grows) hg
  have a8 : Arr W1 (w.heap.size + 1 + 1) 50 [.int .u64 0, .int .i64 0] := Arr.grow (Arr.grow (Arr.grow ⟨by simp [heap_push, Array.getElem_push, Array.getElem?_push, eq_add2, eq_add3]⟩ x1.grows) x2.grows) hg
  have hgW : Grows w W1 := Grows.trans (by show Grows w x2.now; exact (by repeat (first | exact Grows.refl _ | refine Grows.now ?_ _ | refine Grows.new ?_ _ | refine Grows.drewN ?_ _ | refine Grows.drew ?_ | assumption | (refine Grows.set ?_ (by first | omega | (simp; done) | (simp; omega)) _)))) hg
  have hB := (HH.out.grows hgW)
  have hBl : ∀ p, B = some p → p.block < w.heap.size := fun p hp => HH.out.block_lt (by omega) (by omega) p hp
  have hx28 : w.heap.size + 1 + 1 < x2.now.heap.size := by have h1 := x1.size; have h2 := x2.size; simp at h1; omega
  have hx2W := hg.size
  have HA := hide (hA.mono (F' := fun k => w.heap.size + 1 + 1 < k ∧ k < W1.heap.size) (fun k hk => ⟨by have := hk.1; omega, hk.2⟩))
  have HB := hide (And.intro hB hBl)
  have HGW := hide hgW
  have HLO := hide (show w.heap.size + 1 + 1 < W1.heap.size by omega)
  clear hA hg hB hBl hgW hx28 hx2W C1 C2 C3 HH
  obtain ⟨b4, hb4⟩ : ∃ b4, w.heap.size = b4 := ⟨_, rfl⟩
  rw [hb4] at a4 a5 a8 HA HB HLO ⊢
  have HB4 := hide hb4
  obtain ⟨b5, hb5⟩ : ∃ b5, b4 + 1 = b5 := ⟨_, rfl⟩
  rw [hb5] at a5 a8 HA HLO ⊢
  obtain ⟨b8, hb8⟩ : ∃ b8, b5 + 1 = b8 := ⟨_, rfl⟩
  rw [hb8] at a8 HA HLO ⊢
  have HB5 := hide (And.intro hb5 hb8)
  clear hb4 hb5 hb8 x1 x2
  refine wp_region_tab (by kernel_rfl) (by kernel_rfl) (by kernel_rfl) (by kernel_rfl) (R7 W1 N b4) ?h0 ?hs ?he
  case h0 => exact ⟨(Grows.refl W1).drew, fun h => absurd h (by decide), fun h => absurd h (by decide), fun h => absurd h (by decide), fun h => absurd h (by decide), fun h => absurd h (by decide), fun h => absurd h (by decide), fun h => absurd h (by decide), fun h => absurd h (by decide)⟩
  case hs =>
    intro D g a w1 ht hj hcl i o ho hD hpre K hK
    have d82 : D 8 = true → D 2 = true := fun hh => hcl 8 2 hh (by kernel_rfl)
    have d95 : D 9 = true → D 5 = true := fun hh => hcl 9 5 hh (by kernel_rfl)
    have d86 : D 8 = true → D 6 = true := fun hh => hcl 8 6 hh (by kernel_rfl)
    have d97 : D 9 = true → D 7 = true := fun hh => hcl 9 7 hh (by kernel_rfl)
    have hsz := hj.grows.size
    have hN6 : N ≤ 65536 := by have := HR.out.1; omega
    match i, ho, hD, hpre, hK with
    | 0, ho, hD, hpre, hK =>
      cases (show some _ = some o from ho)
      rw [if_pos (by rfl)]
      have ne := ev_nf (show a.eval (.tmp 4) = .pointer (some ⟨b4, 0, none⟩) from (ht.out 4 (notDst_spec (by kernel_rfl))).trans rfl)
      go_simp
      exact hK _ _ (hj.next (Grows.refl w1) (by decide) (fun _ => rfl) (fun h => absurd h (by decide)) (fun h => absurd h (by decide)) (fun h => absurd h (by decide)) (fun h => absurd h (by decide)) (fun h => absurd h (by decide)))
    | 1, ho, hD, hpre, hK =>
      cases (show some _ = some o from ho)
      rw [if_pos (by rfl)]
      have ne := ev_nf (show a.eval (.tmp 47) = .pointer (some ⟨b4, 0, none⟩) from (ht.at_ 0 47 rfl (hpre 0 (by kernel_rfl))).trans (hj.c0 (hpre 0 (by kernel_rfl))))
      have q4 := a4.grow hj.grows
      go_simp
      exact hK _ _ (hj.next (Grows.refl w1) (by decide) (fun h => absurd h (by decide)) (fun _ => rfl) (fun h => absurd h (by decide)) (fun h => absurd h (by decide)) (fun h => absurd h (by decide)) (fun h => absurd h (by decide)))
    | 2, ho, hD, hpre, hK =>
      cases (show some _ = some o from ho)
      rw [if_pos (by rfl)]
      have ne := ev_nf (show a.eval (.tmp 48) = .int .i64 (N : Int) from (ht.at_ 1 48 rfl (hpre 1 (by kernel_rfl))).trans (hj.c1 (hpre 1 (by kernel_rfl))))
      go_simp
      have f8 : D 8 = false := by
        cases hh : D 8 with
        | false => rfl
        | true => have := d82 hh; rw [hD] at this; cases this
      refine (stNew N w1 hN6).mono ?_
      rintro e w' ⟨b, k, rfl, hst, l1, l2, l3, l4, hg⟩
      exact hK _ _ (hj.next hg (by decide) (fun h => absurd h (by decide)) (fun h => absurd h (by decide)) (fun _ => ⟨f8, b, k, rfl, hst, by omega, by omega⟩) (fun h => absurd h (by decide)) (fun h => absurd h (by decide)) (fun h => absurd h (by decide)))
    | 3, ho, hD, hpre, hK =>
      cases (show some _ = some o from ho)
      rw [if_pos (by rfl)]
      have ne4 := ev_nf (show a.eval (.tmp 4) = .pointer (some ⟨b4, 0, none⟩) from (ht.out 4 (notDst_spec (by kernel_rfl))).trans rfl)
      go_simp
      exact hK _ _ (hj.next (Grows.refl w1) (by decide) (fun _ => rfl) (fun h => absurd h (by decide)) (fun h => absurd h (by decide)) (fun h => absurd h (by decide)) (fun h => absurd h (by decide)) (fun h => absurd h (by decide)))
    | 4, ho, hD, hpre, hK =>
      cases (show some _ = some o from ho)
      rw [if_pos (by rfl)]
      have ne50 := ev_nf (show a.eval (.tmp 50) = .pointer (some ⟨b4, 0, none⟩) from (ht.at_ 3 50 rfl (hpre 3 (by kernel_rfl))).trans (hj.c3 (hpre 3 (by kernel_rfl))))
      have q4 := a4.grow hj.grows
      go_simp
      exact hK _ _ (hj.next (Grows.refl w1) (by decide) (fun h => absurd h (by decide)) (fun _ => rfl) (fun h => absurd h (by decide)) (fun h => absurd h (by decide)) (fun h => absurd h (by decide)) (fun h => absurd h (by decide)))
    | 5, ho, hD, hpre, hK =>
      cases (show some _ = some o from ho)
      rw [if_pos (by rfl)]
      have ne51 := ev_nf (show a.eval (.tmp 51) = .int .i64 (N : Int) from (ht.at_ 4 51 rfl (hpre 4 (by kernel_rfl))).trans (hj.c4 (hpre 4 (by kernel_rfl))))
      have f9 : D 9 = false := by
        cases hh : D 9 with
        | false => rfl
        | true => have := d95 hh; rw [hD] at this; cases this
      go_simp
      refine (hpNewP N W1.heap.size w1 hN6 hsz).mono ?_
      rintro e w' ⟨u, rfl, hg, hu⟩
      exact hK _ _ (hj.next hg (by decide) (fun h => absurd h (by decide)) (fun h => absurd h (by decide)) (fun h => absurd h (by decide)) (fun _ => ⟨f9, hu⟩) (fun h => absurd h (by decide)) (fun h => absurd h (by decide)))
    | 6, ho, hD, hpre, hK =>
      cases (show some _ = some o from ho)
      rw [if_pos (by rfl)]
      have f8 : D 8 = false := by
        cases hh : D 8 with
        | false => rfl
        | true => have := d86 hh; rw [hD] at this; cases this
      go_simp
      exact hK _ _ (hj.next ((Grows.refl w1).new _) (by decide) (fun h => absurd h (by decide)) (fun h => absurd h (by decide)) (fun h => absurd h (by decide)) (fun h => absurd h (by decide)) (fun _ => ⟨f8, w1.heap.size, rfl, hsz, Arr.make _ _ _⟩) (fun h => absurd h (by decide)))
    | 7, ho, hD, hpre, hK =>
      cases (show some _ = some o from ho)
      rw [if_pos (by rfl)]
      have f9 : D 9 = false := by
        cases hh : D 9 with
        | false => rfl
        | true => have := d97 hh; rw [hD] at this; cases this
      go_simp
      exact hK _ _ (hj.next ((Grows.refl w1).new _) (by decide) (fun h => absurd h (by decide)) (fun h => absurd h (by decide)) (fun h => absurd h (by decide)) (fun h => absurd h (by decide)) (fun h => absurd h (by decide)) (fun _ => ⟨f9, w1.heap.size, rfl, hsz, Arr.make _ _ _⟩))
    | 8, ho, hD, hpre, hK =>
      cases (show some _ = some o from ho)
      rw [if_pos (by rfl)]
      obtain ⟨b, e1, e2, e3⟩ := hj.bA (hpre 6 (by kernel_rfl))
      have ne13 := ev_nf (show a.eval (.tmp 13) = .pointer (some ⟨b, 0, none⟩) from (ht.at_ 6 13 rfl (hpre 6 (by kernel_rfl))).trans e1)
      obtain ⟨b', k', e5, e6⟩ := hj.st (hpre 2 (by kernel_rfl))
      have ne49 := ev_nf (show a.eval (.tmp 49) = .pointer (some ⟨b', 0, none⟩) from (ht.at_ 2 49 rfl (hpre 2 (by kernel_rfl))).trans e5)
      go_simp
      have hq := hj.s8 e1 e2 e3 undef
      rw [e5] at hq
      exact hK _ _ hq
    | 9, ho, hD, hpre, hK =>
      cases (show some _ = some o from ho)
      rw [if_pos (by rfl)]
      obtain ⟨b, e1, e2, e3⟩ := hj.bB (hpre 7 (by kernel_rfl))
      have ne14 := ev_nf (show a.eval (.tmp 14) = .pointer (some ⟨b, 0, none⟩) from (ht.at_ 7 14 rfl (hpre 7 (by kernel_rfl))).trans e1)
      obtain ⟨b', S2', e5, e6⟩ := hj.hp (hpre 5 (by kernel_rfl))
      have ne52 := ev_nf (show a.eval (.tmp 52) = .pointer (some ⟨b', 0, none⟩) from (ht.at_ 5 52 rfl (hpre 5 (by kernel_rfl))).trans e5)
      go_simp
      have hq := hj.s9 e1 e2 e3 undef
      rw [e5] at hq
      exact hK _ _ hq
    | n + 10, ho, hD, hpre, hK => cases (show none = some o from ho)
  case he =>
    intro D g w1 hj hD
    obtain ⟨bA, eA, lA, qA⟩ := hj.bA (hD 6 (by decide))
    obtain ⟨bB, eB, lB, qB⟩ := hj.bB (hD 7 (by decide))
    obtain ⟨bf, gf, e2, hst, lf, lg⟩ := hj.st (hD 2 (by decide))
    obtain ⟨bh, S2, e5, hhp, hT⟩ := hj.hp (hD 5 (by decide))
    rw [hD 8 (by decide), if_pos rfl, e2] at qA
    rw [hD 9 (by decide), if_pos rfl, e5] at qB
    have hg1 := hj.grows
    simp only [putAll, dstOf, List.length_cons, List.length_nil, Nat.reduceAdd, List.getElem?_cons_succ, List.getElem?_cons_zero, Option.bind_some, Act.put, List.setIfInBounds_toArray, List.set_cons_zero, List.set_cons_succ]
    rw [eA, eB]
    clear hj hD e2 e5 eA eB
    go_upto_region 9 with fail
    have a15 : Arr (w1.alloc (.cells #[.func (.func 123) #[] #[.pointer (some ⟨bA, 0, none⟩), .pointer (some ⟨bB, 0, none⟩), .pointer (some ⟨b5, 0, none⟩)]] 155)) w1.heap.size 155 [.func (.func 123) #[] #[.pointer (some ⟨bA, 0, none⟩), .pointer (some ⟨bB, 0, none⟩), .pointer (some ⟨b5, 0, none⟩)]] := Arr.make _ _ _
    have hg2 : Grows w1 (w1.alloc (.cells #[.func (.func 123) #[] #[.pointer (some ⟨bA, 0, none⟩), .pointer (some ⟨bB, 0, none⟩), .pointer (some ⟨b5, 0, none⟩)]] 155)) := (Grows.refl w1).new _
    have l15 : W1.heap.size ≤ w1.heap.size := hg1.size
    generalize w1.alloc (.cells #[.func (.func 123) #[] #[.pointer (some ⟨bA, 0, none⟩), .pointer (some ⟨bB, 0, none⟩), .pointer (some ⟨b5, 0, none⟩)]] 155) = W2 at *
    obtain ⟨b15, hb15⟩ : ∃ b15, w1.heap.size = b15 := ⟨_, rfl⟩
    rw [hb15] at a15 l15 ⊢
    have h5 := HB5.out
    have hAS := as_made (H := H) (b8 := b8) (qA.grow hg2) (qB.grow hg2) ((a5.grow hg1).grow hg2) (by omega) ((HB.out.1.grows hg1).grows hg2) (fun p hp => by have := HB.out.2 p hp; have := HB4.out; omega) HLO.out lA lB (hst.grow hg2) lf lg (hhp.grow hg2) (by
      intro k hk
      obtain ⟨z1, t', z2, z3⟩ := hT k hk
      exact ⟨z1, t', z2.grow hg2, z3⟩) a15 l15
    have CR := hide (asReach _ _ N H bA bB b5 s 0 0 rfl _ _ W2 hAS hs (Lk.hok (st0_lk N) (by have := HR.out.1; omega)) (by omega) (HX.out.top s hs))
    have HF1 := hide (show ∀ k, (k < W1.heap.size ∧ k ≠ b8) ∨ k = bA ∨ k = bB ∨ k = b15 → k < W2.heap.size from by
      obtain ⟨_, _, _, _, _, _, _, _, _, _, _, _, q, _⟩ := hAS
      exact fun k hk => (q k hk).2)
    have HS1 := hide (show ∀ k, (k = bf ∨ k = gf ∨ S2 k) → W1.heap.size ≤ k from by
      rintro k (rfl | rfl | hk)
      · exact lf
      · exact lg
      · exact (hT k hk).1)
    obtain ⟨F, hF⟩ : ∃ F : Nat → Prop, F = fun k => (k < W1.heap.size ∧ k ≠ b8) ∨ k = bA ∨ k = bB ∨ k = b15 := ⟨_, rfl⟩
    obtain ⟨S, hS⟩ : ∃ S : Nat → Prop, S = fun k => k = bf ∨ k = gf ∨ S2 k := ⟨_, rfl⟩
    rw [← hF, ← hS] at CR
    have HF := hide hF
    have hgW2 : Grows W1 W2 := hg1.trans hg2
    have HGW2 := hide hgW2
    have hA2 := HA.out.grows hgW2
    have HA2 := hide (hA2.mono (F' := F) (fun k hk => by rw [HF.out]; exact .inl ⟨hk.2, by omega⟩))
    have HSS := hide (show ∀ k, S k → W1.heap.size ≤ k from by rw [hS]; exact HS1.out)
    have a82 : Arr W2 b8 50 [.int .u64 0, .int .i64 0] := a8.grow hgW2
    have HL2 := hide (show b8 < W1.heap.size ∧ W1.heap.size ≤ b15 ∧ W1.heap.size ≤ W2.heap.size from ⟨HLO.out, l15, hgW2.size⟩)
    have HF8 := hide (show ¬ F b8 from by have h7 := HLO.out; rw [hF]; rintro (⟨_, e⟩ | e | e | e) <;> omega)
    have HB8 := hide (show w.heap.size ≤ b8 from by have h7 := HB4.out; omega)
    clear hA2 hgW2 hS hF HS1 hAS hT hhp lf lg hst qA qB a4 a5 a8 lA lB hg1 hg2 h5 hb15 l15 HA HB HB4 HB5 HLO
    go_wp2_with (go_at_call 123; refine (CR.out).mono ?_; rintro e W3 ⟨rfl, hAS3, ht3⟩)
    have hg3 : Grows w W3 := ht3.later (HGW.out.trans HGW2.out) (fun k hk => Nat.le_trans HGW.out.size (HSS.out k hk))
    obtain ⟨x, hx⟩ : ∃ x, x = srchOf N E (allO false) := ⟨_, rfl⟩
    rw [← hx] at HX HT
    have HXX := hide (show x.N = N ∧ x.E = E ∧ x.back = false ∧ x.W = wtF (N : Int) E [] from by subst hx; exact ⟨rfl, rfl, rfl, rfl⟩)
    have hH0 : Hid (WI F x H t ba bA bB b5 b8 b15 W1.heap.size (.func (.func 123) #[] #[.pointer (some ⟨bA, 0, none⟩), .pointer (some ⟨bB, 0, none⟩), .pointer (some ⟨b5, 0, none⟩)]) w xs [] xs.length W3) := by
      obtain ⟨l1, l2, l3⟩ := HL2.out
      have nS : ∀ k, k < W1.heap.size → ¬ S k := fun k hk e => by have := HSS.out k e; omega
      have h15 : ¬ S b15 := by
        obtain ⟨_, _, _, _, _, _, _, _, _, _, _, _, q, _⟩ := hAS3
        exact fun e => (q b15 (by rw [HF.out]; exact .inr (.inr (.inr rfl)))).1 (.inl e)
      have h15n : ¬ New W2 W3 b15 := fun e => by have := e.1; have := a15.lt; omega
      refine ⟨_, [], xs, _, rfl, ⟨rfl, by simp⟩, HT.out.1, by rw [HXX.out.1]; exact hAS3, ⟨a82.touch ht3 (nS _ l1), a15.touch ht3 h15⟩, ?_, Marks.nil _, (fun D h => by cases h), ⟨fun e => ?_, fun e => ?_⟩, fun k hk => ?_, hg3⟩
      · rw [HXX.out.1, HXX.out.2.1]
        obtain ⟨_, _, _, _, _, _, _, _, _, _, _, _, q, _⟩ := hAS3
        exact HA2.out.touch ht3 (fun k hk e => (q k hk).1 (.inl e))
      · rcases e with e | e
        · exact nS _ l1 e
        · have := e.1; omega
      · rcases e with e | e
        · exact h15 e
        · exact h15n e
      · rcases hk with hk | hk
        · exact HSS.out k hk
        · have := hk.1; omega
    have HWL := hide HGW.out.size
    clear HA2 a82 a15 ht3 hAS3 CR HSS HGW2 hg3 HGW HF1
    clear S
    have HXE := hide hx
    clear hx
    obtain ⟨cl, hcl⟩ : ∃ cl : Value, cl = .func (.func 123) #[] #[.pointer (some ⟨bA, 0, none⟩), .pointer (some ⟨bB, 0, none⟩), .pointer (some ⟨b5, 0, none⟩)] := ⟨_, rfl⟩
    rw [← hcl] at hH0
    have HCL := hide hcl
    clear hcl
    go_step3
    go_wp2_with fail
    refine wp_loop_m (fun m a' wr => ∃ Ds : List Nat, (∃ u, a' = TmW N s t A c E B cb b4 b5 b8 ba bA bB b15 Ds u) ∧ WI F x H t ba bA bB b5 b8 b15 W1.heap.size cl w xs Ds m wr) ?_ ?_
    · exact ⟨xs.length, [], frU _ rfl, hH0.out⟩
    · rintro m a' wr ⟨Ds, ⟨u, rfl⟩, hI⟩
      unfold TmW
      clear hH0
      obtain ⟨st, pre, xr, S, rfl, hall, htr, hAS, ⟨a8, a15⟩, hadj, hMk, hDs, ⟨n8, n15⟩, hS, hgw⟩ := hI
      have HAS := hide hAS
      have HALL := hide hall
      have HMK := hide hMk
      have HDS := hide hDs
      have HSL := hide hS
      have HGW := hide hgw
      have HADJ := hide hadj
      have HA15 := hide a15
      have HN15 := hide n15
      obtain ⟨bf, gf, bh, S2, Ah, ch, ⟨p1, p2, p3⟩, ⟨r1, r2⟩, ⟨f1, f2, f3⟩, ⟨mm, q2⟩, q3, ⟨q4, q5, q6⟩, q7, q8, q9, q10⟩ := hAS
      clear hall hMk hDs hS hgw hadj a15 n15
      rcases htr.inv with ⟨rfl, h0⟩ | ⟨v, f, ys, rfl, hs2, hcase⟩
      · have CP := hide (fun (W : World) (hg : Grows wr W) => hpPopNo bh st.2 S2 W (q3.grow hg) h0)
        clear q2 q3 q6 q7 q8 q9 q10 h0 htr p3 r1 r2
        go_wp2_with (go_at_call 126; refine (CP.out _ (by repeat (first | exact Grows.refl _ | refine Grows.now ?_ _ | refine Grows.new ?_ _ | refine Grows.drewN ?_ _ | refine Grows.drew ?_ | assumption | (refine Grows.set ?_ (by first | omega | (simp; done) | (simp; omega)) _)))).mono ?_; rintro e w' ⟨rfl, hg⟩; obtain ⟨y, rfl⟩ := hg.later; clear hg)
        have e8 : Arr ((y.now.setCell ⟨b8, 0, none⟩ (.int .u64 0)).setCell ⟨b8, 1, none⟩ (.int .i64 0)) b8 50 [.int .u64 0, .int .i64 0] := ((a8.grow y.grows).set 0 _).set 1 _
        have hgy : Touch (fun k => k = b8) wr ((y.now.setCell ⟨b8, 0, none⟩ (.int .u64 0)).setCell ⟨b8, 1, none⟩ (.int .i64 0)) := ((y.grows.touch (fun k => k = b8)).set (p := ⟨b8, 0, none⟩) (.inl rfl) _).set (p := ⟨b8, 1, none⟩) (.inl rfl) _
        have hgz : Grows w ((y.now.setCell ⟨b8, 0, none⟩ (.int .u64 0)).setCell ⟨b8, 1, none⟩ (.int .i64 0)) := hgy.later HGW.out (fun k hk => by subst hk; exact HB8.out)
        have HE8 := hide e8
        have HZ := hide hgz
        have HM := hide (HMK.out.touch hgy (fun D hD => (HDS.out D hD).2.2))
        clear e8 hgy hgz a8
        generalize (y.now.setCell ⟨b8, 0, none⟩ (.int .u64 0)).setCell ⟨b8, 1, none⟩ (.int .i64 0) = Z at *
        rw [Exit.noGoto_ret]
        refine marks_ret Ds rfl HM.out (fun W' htt => ?_)
        have e9 := HE8.out.touch htt (fun e => (HDS.out b8 e).2.2 rfl)
        have k0 := e9.cell 0
        have k1 := e9.cell 1
        refine ⟨.tuple #[.agg #[.int .u64 0, .int .i64 0], .int .i64 9], by simp (maxDischargeDepth := 6) [results, Try.results79, go_sem, k0, k1], ?_, htt.later HZ.out (fun k hk => Nat.le_trans HWL.out (HDS.out k hk).1)⟩
        obtain ⟨h1, h1n⟩ := HALL.out
        rw [h1, List.append_nil, resV_no h1n]
      · have hpl : pre.length ≤ 4096 := by
          have h1 := HALL.out.1
          have h2 := HT.out.2.2
          have h3 := HR.out.1
          rw [h1] at h2
          simp at h2
          omega
        obtain ⟨i, hi1, hi2⟩ := hs2.lies
        have CP := hide (hpPop bh x.N st.2 S2 i wr q3 (fun k hk => q8 k (q6 k hk).1) q10 hs2.pos (by rw [hs2.top]; exact hi1) hi2 hs2.len)
        unfold GivePop at CP
        rw [hs2.top] at CP
        generalize (gi2 st.2.L 0).2 = key at CP
        have HOK := hide hs2
        have HCS := hide hcase
        have HDI : Hid ((st.2.drop v).In x.N) := drop_all_in q10 hi1 hi2
        have nS2 : ∀ k, ¬ S k → ¬ S2 k := fun k hk e => hk (q6 k e).1
        have nF2 : ∀ k, F k → ¬ S2 k := fun k hk e => (q7 k hk).1 (q6 k e).1
        have nb8 := nS2 _ n8
        have nbA := nF2 _ f1
        have nbB := nF2 _ f2
        have nb15 := nS2 _ HN15.out
        have HQ := hide (And.intro q4 (And.intro q5 (And.intro q6 (And.intro q7 (And.intro q8 q9)))))
        have HP3 := hide (And.intro p3 (And.intro r1 r2))
        have HFS := hide (And.intro f1 (And.intro f2 f3))
        have HST := hide q2
        have HNS := hide (And.intro nS2 nF2)
        clear htr hs2 hcase q3 q6 q7 q8 q9 q10 hi1 hi2 nS2 nF2 p3 r1 r2 f1 f2 f3 q2
        go_upto_region 14 with (go_at_call 126; refine (CP.out).mono ?_; rintro e w1 ⟨rfl, hp, ht1⟩; have a8' := a8.touch ht1 nb8; have p1' := p1.touch ht1 nbA; have p2' := p2.touch ht1 nbB; have HP := hide hp; have HT1 := hide ht1; clear hp ht1 a8 p1 p2)
        obtain ⟨q4, q5, q6, q7, q8, q9⟩ := HQ.out
        obtain ⟨p3, r1, r2⟩ := HP3.out
        obtain ⟨nS2, nF2⟩ := HNS.out
        have htz : Touch (fun k => S2 k ∨ k = b8) wr (w1.setCell ⟨b8, 1, none⟩ (.int .i64 ((pre.length : Int) + 1))) := (HT1.out.mono fun k hk => .inl hk).set (p := ⟨b8, 1, none⟩) (.inl (.inr rfl)) _
        have e8 : Arr (w1.setCell ⟨b8, 1, none⟩ (.int .i64 ((pre.length : Int) + 1))) b8 50 [.int .u64 0, .int .i64 ((pre.length : Int) + 1)] := a8'.set 1 _
        have htb : Touch (fun k => k = b8) w1 (w1.setCell ⟨b8, 1, none⟩ (.int .i64 ((pre.length : Int) + 1))) := (Touch.refl (fun k => k = b8) w1).set (p := ⟨b8, 1, none⟩) (.inl rfl) _
        have nF : ∀ k, F k → ¬ (S2 k ∨ k = b8) := fun k hk e => by
          rcases e with e | rfl
          · exact nF2 k hk e
          · exact HF8.out hk
        have hpz := HP.out.touch htb (fun k hk e => by subst e; exact nb8 hk)
        have hsb : ∀ k, S k → k ≠ b8 := fun k hk e => by subst e; exact n8 hk
        have stz := HST.out.touch htz (fun e => by rcases e with e | e; exact (q6 _ e).2 (.inl rfl); exact hsb _ q4 e) (fun e => by rcases e with e | e; exact (q6 _ e).2 (.inr rfl); exact hsb _ q5 e)
        have hAZ : AsAt F S (w1.setCell ⟨b8, 1, none⟩ (.int .i64 ((pre.length : Int) + 1))) x.N H bA bB b5 st.1 (st.2.drop v) :=
          ⟨bf, gf, bh, S2, Ah, ch, ⟨p1'.touch htb (fun e => HF8.out (e ▸ HFS.out.1)), p2'.touch htb (fun e => HF8.out (e ▸ HFS.out.2.1)), p3.touch htz (nF _ HFS.out.2.2)⟩, ⟨r1.touch htz (fun p hp => nF _ (r2 p hp)), r2⟩, HFS.out, ⟨mm, stz⟩, hpz, ⟨q4, q5, q6⟩, fun k hk => ⟨(q7 k hk).1, Nat.lt_of_lt_of_le (q7 k hk).2 htz.size⟩, fun k hk => Nat.lt_of_lt_of_le (q8 k hk) htz.size, q9, HDI.out⟩
        have hgz : Grows w (w1.setCell ⟨b8, 1, none⟩ (.int .i64 ((pre.length : Int) + 1))) := htz.later HGW.out (fun k hk => by
          rcases hk with hk | rfl
          · exact Nat.le_trans HWL.out (HSL.out k (q6 k hk).1)
          · exact HB8.out)
        have adz := HADJ.out.touch htz nF
        have mkz := HMK.out.touch htz (fun D hD e => by
          rcases e with e | e
          · exact (HDS.out D hD).2.1 (q6 _ e).1
          · exact (HDS.out D hD).2.2 e)
        have a15z := HA15.out.touch htz (fun e => by
          rcases e with e | e
          · exact nb15 e
          · have := HL2.out; omega)
        have pz : Arr (w1.setCell ⟨b8, 1, none⟩ (.int .i64 ((pre.length : Int) + 1))) bA 150 [.pointer (some ⟨bf, 0, none⟩)] := p1'.touch htb (fun e => HF8.out (e ▸ HFS.out.1))
        have hfar : (gp st.1 v).2 = 1 ∧ (gp st.1 v).1 = f := by
          have := HOK.out.far
          unfold stD at this
          by_cases e : (gp st.1 v).2 = 1
          · rw [if_pos e] at this
            exact ⟨e, Option.some.inj this⟩
          · rw [if_neg e] at this; cases this
        have CG := hide (stGet bf gf st.1 mm v _ stz (by rw [q9]; exact HOK.out.node))
        rw [if_pos hfar.1, hfar.2, decide_eq_true hfar.1] at CG
        have HAZ := hide hAZ
        have HGZ := hide hgz
        have HADZ := hide adz
        have HMKZ := hide mkz
        clear hAZ hgz adz mkz hfar stz hpz htz htb nF hsb r1 r2 p3 q4 q5 q6 q7 q8 q9 nS2 nF2 HNS HP3 HQ HST HAS HP HT1 HDI HADJ HMK HGW HA15 CP a8' p1' p2' HFS nb8 nbA nbB nb15
        generalize (w1.setCell ⟨b8, 1, none⟩ (.int .i64 ((pre.length : Int) + 1))) = Z at *
        go_upto_region 15 with (go_at_call 127; refine (CG.out).mono ?_; rintro e w' ⟨rfl, hg⟩; obtain ⟨y, rfl⟩ := hg.later; clear hg)
        have hl8 : b8 < Z.heap.size := e8.lt
        have hgY : Grows Z (y.now.alloc (.cells #[.int .u64 (f : Int)] 33)) := y.grows.new _
        have e8y := e8.grow hgY
        have a15y := a15z.grow hgY
        have e19 : Arr (y.now.alloc (.cells #[.int .u64 (f : Int)] 33)) y.now.heap.size 33 [.int .u64 (f : Int)] := Arr.make _ _ _
        have HAY := hide (HAZ.out.grow hgY)
        have HGY := hide (HGZ.out.trans hgY)
        have HADY := hide (HADZ.out.grows hgY)
        have HMKY := hide (HMKZ.out.touch (S := fun _ => False) (hgY.touch _) (fun _ _ => id))
        have hl19 : Z.heap.size ≤ y.now.heap.size := y.size
        have hl19w : y.now.heap.size < (y.now.alloc (.cells #[.int .u64 (f : Int)] 33)).heap.size := e19.lt
        have HS19 := hide (show ¬ S y.now.heap.size ∧ y.now.heap.size ≠ b8 from ⟨fun e => by
          obtain ⟨_, _, _, _, _, _, _, _, _, _, _, _, _, q, _⟩ := HAZ.out
          have := q _ e
          omega, by omega⟩)
        clear e8 a15z pz HAZ HGZ HADZ HMKZ hgY CG
        generalize y.now.alloc (.cells #[.int .u64 (f : Int)] 33) = Y at *
        generalize y.now.heap.size = b19 at *
        clear hl19
        rcases HCS.out with ⟨hvt, rfl⟩ | ⟨hvt, htr2⟩
        · have hb1 : ((v : Int) == (t : Int)) = true := by simp [hvt]
          have HVT := hide hvt
          clear hvt
          go_wp2_with fail
          have e9 : Arr (((Y.setCell ⟨b8, 0, none⟩ (.int .u64 (f : Int))).setCell ⟨b8, 0, none⟩ (.int .u64 (f : Int))).setCell ⟨b8, 1, none⟩ (.int .i64 ((pre.length : Int) + 1))) b8 50 [.int .u64 (f : Int), .int .i64 ((pre.length : Int) + 1)] := ((e8y.set 0 _).set 0 _).set 1 _
          have hty : Touch (fun k => k = b8) Y (((Y.setCell ⟨b8, 0, none⟩ (.int .u64 (f : Int))).setCell ⟨b8, 0, none⟩ (.int .u64 (f : Int))).setCell ⟨b8, 1, none⟩ (.int .i64 ((pre.length : Int) + 1))) := (((Touch.refl (fun k => k = b8) Y).set (p := ⟨b8, 0, none⟩) (.inl rfl) _).set (p := ⟨b8, 0, none⟩) (.inl rfl) _).set (p := ⟨b8, 1, none⟩) (.inl rfl) _
          have HM := hide (HMKY.out.touch hty (fun D hD => (HDS.out D hD).2.2))
          have HZ := hide (hty.later HGY.out (fun k hk => by subst hk; exact HB8.out))
          have HE9 := hide e9
          clear e9 hty e8y a15y e19
          generalize ((Y.setCell ⟨b8, 0, none⟩ (.int .u64 (f : Int))).setCell ⟨b8, 0, none⟩ (.int .u64 (f : Int))).setCell ⟨b8, 1, none⟩ (.int .i64 ((pre.length : Int) + 1)) = ZZ at *
          refine marks_ret Ds rfl HM.out (fun W' htt => ?_)
          have e9 := HE9.out.touch htt (fun e => (HDS.out b8 e).2.2 rfl)
          have k0 := e9.cell 0
          have k1 := e9.cell 1
          have hxs := HALL.out.1
          have hvt := HVT.out
          subst hvt
          refine ⟨.tuple #[.agg #[.int .u64 (f : Int), .int .i64 ((pre.length : Int) + 1)], .int .i64 0], by simp (maxDischargeDepth := 6) [results, Try.results79, go_sem, k0, k1], ?_, htt.later HZ.out (fun k hk => Nat.le_trans HWL.out (HDS.out k hk).1)⟩
          rw [hxs, resV_yes]
        · have hb1 : ((v : Int) == (t : Int)) = false := by simp; omega
          have HVT := hide hvt
          have HTR2 := hide htr2
          clear hvt htr2
          go_wp2_with (go_at_call 91; refine (adjEach ba v false _).mono ?_; rintro e w' ⟨b1, rfl, hb1', i1, i2, i3, hg⟩)
          have hYW := hg
          rw [← HXX.out.2.2.1] at i3
          have hb1lo : Y.heap.size ≤ b1 := by omega
          have hi3 := i3.lt
          have HA3 := HADY.out.grows hg
          have HIB : Hid (InB F b8 b15 b19 w'.heap.size S w Ds) := by
            obtain ⟨_, _, _, _, _, _, _, _, _, _, _, _, q7, q8, _⟩ := HAY.out
            have hs := hg.size
            have hz := HGY.out.size
            exact ⟨fun k hk => Nat.lt_of_lt_of_le (q7 k hk).2 hs, ⟨Nat.lt_of_lt_of_le e8y.lt hs, n8⟩, ⟨Nat.lt_of_lt_of_le a15y.lt hs, HN15.out⟩, ⟨Nat.lt_of_lt_of_le hl19w hs, HS19.out.1⟩, fun D hD => ⟨Nat.lt_of_lt_of_le (Array.getElem?_eq_some_iff.1 (HMKY.out.2 D hD)).1 hs, (HDS.out D hD).2.1⟩, fun k hk => Nat.le_trans HWL.out (HSL.out k hk), Nat.le_trans hz hs⟩
          have hSb1 : ∀ k, S k → k < b1 := by
            obtain ⟨_, _, _, _, _, _, _, _, _, _, _, _, q7, q8, _⟩ := HAY.out
            exact fun k hk => Nat.lt_of_lt_of_le (q8 k hk) hb1lo
          have hINI : InA F x H ba bA bB b5 b8 b15 b19 f w'.heap.size [.int .u64 0, .int .i64 ((pre.length : Int) + 1)] cl S w Ds (st.1, st.2.drop v) [] (fun _ => False) w' :=
            ⟨S, HAY.out.grow hg, fun k hk => hk.elim, fun k hk => .inl hk, ⟨e8y.grow hg, a15y.grow hg, e19.grow hg⟩, HMKY.out.touch (S := fun _ => False) (hg.touch _) (fun _ _ => id), Nat.le_refl _, HGY.out.trans hg, HA3⟩
          have hIN : InN x.N x.E := by
            have h7 := HE.out
            rw [Int.toNat_natCast] at h7
            rw [HXX.out.1, HXX.out.2.1]
            exact h7
          have hvN : v < x.N := HOK.out.node
          have hEL : x.E.length ≤ 16384 := by rw [HXX.out.2.1]; exact HR.out.2
          have hNL : x.N ≤ 4096 := by rw [HXX.out.1]; have := HR.out.1; omega
          have hIy := InA.yields (x := x) (H := H) (ba := ba) (bA := bA) (bB := bB) (bC := b5) (f := f) (r8 := [.int .u64 0, .int .i64 ((pre.length : Int) + 1)]) (cl := cl) (st0 := (st.1, st.2.drop v)) HIB.out
          have HSB := hide hSb1
          clear hg e8y a15y e19 HAY HMKY HADY hSb1
          generalize hlo3 : w'.heap.size = lo3 at *
          have HL3 := hide hlo3
          clear hlo3
          go_wp2_with fail
          refine (wpIn_wide (n := 0)).1 ?_
          refine wp_rangeG (w0 := w') (gf := 144) rfl (enters_of Try.func144 (by kernel_rfl) rfl)
            (each_gives F (fun k => F k ∨ (b1 ≤ k ∧ k ≤ b1 + 1 + 1)) (fun _ => False) ba x.N x.E v x.back b1 w' HA3 (fun k hk => .inl (.inl hk)) hIN hvN (by omega) (by omega) (fun k hk => hk.elim) (.inl (.inr ⟨by omega, by omega⟩)) (.inl (.inr ⟨by omega, by omega⟩)) (.inl (.inr ⟨by omega, by omega⟩)) i1 i2 i3)
            (Keeps.refl _ _ _) (fun k hk => by rcases hk with hk | hk; exact (by have := HIB.out.f k hk; have := HL3.out; omega); (have := HL3.out; omega)) (fun k hk => hk.elim) (fun _ => rfl)
            (InA F x H ba bA bB b5 b8 b15 b19 f lo3 [.int .u64 0, .int .i64 ((pre.length : Int) + 1)] cl S w Ds (st.1, st.2.drop v)) (fun _ _ _ _ => False) hIy (fun c _ _ _ _ _ h _ _ => h.elim) hINI
            (IbA N s t A c E B cb b4 b5 b8 ba bA bB b15 v b19 x (InA F x H ba bA bB b5 b8 b15 b19 f lo3 [.int .u64 0, .int .i64 ((pre.length : Int) + 1)] cl S w Ds (st.1, st.2.drop v))) ?hIb ?assign ?body ?done ?stop
          case hIb =>
            rintro i a' p Mi W Mi' W' ⟨b22, hfr, hI, hb22, hn⟩ htt hM'
            refine ⟨b22, hfr, hIy p Mi W Mi' W' hI htt hM', hb22.touch htt hn, fun e => ?_⟩
            have := hb22.lt
            rcases (hM' b22 e).1 with h | h
            · exact hn h
            · omega
          case assign =>
            intro l2 p i rest Mi W hsp hI
            have HI := hide hI
            clear hI
            unfold encE eVal
            gi_wp2
            have hgA : Grows W (W.alloc (.cells #[.int .i64 (ge x.E i).f, .int .i64 (ge x.E i).t, .int .u64 (ge x.E i).w] 77)) := (Grows.refl _).new _
            obtain ⟨SI, _, a1, _⟩ := HI.out
            refine ⟨⟨W.heap.size, frU (fun u => TmA N s t A c E B cb b4 b5 b8 ba bA bB b15 v b19 W.heap.size u) rfl, hIy p Mi W Mi _ HI.out (hgA.touch _) (fun k hk => ⟨.inl hk, Nat.lt_of_lt_of_le (a1 k hk).2.1 hgA.size⟩), Arr.make _ _ _, fun e => by have := (a1 _ e).2.1; omega⟩, hgA.touch _⟩
          case body =>
            rintro l2 p i rest Mi a' W hsp hl2 hMl hrec ⟨b22, ⟨u, rfl⟩, hI, hb22, hn22⟩
            have HJY := hide hI
            obtain ⟨SI, d, a1, a2, ⟨c8, c15, c19⟩, a4, a5, a6, a7⟩ := hI
            have hiE : i < x.E.length := by
              have : (rowN (nN x.E x.back) x.E.length v)[p.length]? = some i := by rw [hsp]; simp
              exact rowN_lt _ this
            have hef := hIN.f i hiE
            have het := hIN.t i hiE
            have hto : toE x i = tN x.E i := by unfold toE; rw [HXX.out.2.2.1]; rfl
            have hok := (HOK.out.rounds p (i :: rest) hsp).1
            have hfs := HOK.out.small
            have hhi := HX.out.high i hiE
            have hHt := HX.out.top (toE x i) (by rw [hto]; exact het.1)
            have hgw : ((gn x.W i : Nat) : Int) = (ge x.E i).w := by
              rw [HXX.out.2.2.2, HXX.out.2.1]
              exact rightF_wt HRT.out (by rw [← HXX.out.2.1]; exact hiE)
            rw [hef.2, het.2, ← hgw] at hb22
            rw [HCL.out] at c15
            have CR := hide (fun (W' : World) (hg : Grows W W') => show Calls Try.prog 123 #[.int .i64 (tN x.E i : Int), .int .u64 ((f : Int) + (gn x.W i : Int)), .pointer (some ⟨bA, 0, none⟩), .pointer (some ⟨bB, 0, none⟩), .pointer (some ⟨b5, 0, none⟩)] W' (fun e w1 => e = .returned (.tuple #[]) ∧ Keeps (fun k => F k ∨ (b1 ≤ k ∧ k ≤ b1 + 1 + 1)) Mi W w1 ∧ InA F x H ba bA bB b5 b8 b15 b19 f lo3 [.int .u64 0, .int .i64 ((pre.length : Int) + 1)] cl S w Ds (st.1, st.2.drop v) (p ++ [i]) Mi w1) from by
              rw [← hto]
              exact InA.reached HIB.out HJY.out b1 _ (Int.natCast_add f (gn x.W i)).symm (by rw [hto]; exact het.1) hok (by omega) hHt (by have := HL3.out; omega) HSB.out W' hg)
            have hmix : Try.prog.follows .mixedOrders = true := by kernel_rfl
            have hsm : (f : Int) + (gn x.W i : Int) < 18446744073709551616 := by omega
            clear hsp hl2 hMl hrec d a1 a2 c8 a4 a5 a6 a7 hef het hto hok hfs hhi hHt hgw hiE hn22 HJY hIy hINI hIN HIB HA3 HSB i1 i2 i3 hi3 hvN hEL hNL
            unfold TmA
            generalize gn x.W i = gw at *
            generalize tN x.E i = nt at *
            gi_wp2_with (gi_at_call 123; refine (calls_in (wideF_round l2) (CR.out _ (by repeat (first | exact Grows.refl _ | refine Grows.now ?_ _ | refine Grows.new ?_ _ | refine Grows.drewN ?_ _ | refine Grows.drew ?_ | assumption | (refine Grows.set ?_ (by first | omega | (simp; done) | (simp; omega)) _))))).mono ?_; rintro e w1 ⟨rfl, hk⟩; have HK := hide hk; clear hk)
            exact HK.out
          case done =>
            intro D Mi W hlD hMD hI hDW
            obtain ⟨SI, d, a1, a2, ⟨c8, c15, c19⟩, a4, a5, a6, a7⟩ := hI
            have hlow : ∀ k, k < lo3 → ¬ S k → ¬ SI k := fun k hk hn e => by
              rcases a2 k e with h | h
              · exact hn h
              · omega
            have hDlo : ∀ D' ∈ Ds, D' < lo3 ∧ ¬ S D' := HIB.out.ds
            have hW1 : W1.heap.size ≤ lo3 := by
              have h1 := HL2.out
              have h2 := HIB.out.b15.1
              omega
            have hrow : rowN (nN x.E x.back) x.E.length v = rowX x v := rfl
            rw [hrow] at d
            refine ⟨ys.length, Nat.lt_succ_self _, D :: Ds, frU (fun u => TmW N s t A c E B cb b4 b5 b8 ba bA bB b15 (D :: Ds) u) rfl, _, pre ++ [(v, f)], ys, SI, rfl, ⟨by rw [HALL.out.1]; simp, fun q hq => ?_⟩, HTR2.out, d, ⟨by simpa using c8, c15⟩, ?_, a4.cons hDW (fun e => by have := (hDlo D e).1; have := (a1 _ hMD).1; omega), fun D' hD' => ?_, ⟨hlow _ HIB.out.b8.1 HIB.out.b8.2, hlow _ HIB.out.b15.1 HIB.out.b15.2⟩, fun k hk => ?_, a6⟩
            · rcases List.mem_append.1 hq with hq | hq
              · exact HALL.out.2 q hq
              · rw [List.mem_singleton.1 hq]; exact HVT.out
            · exact a7
            · rcases List.mem_cons.1 hD' with rfl | hD'
              · exact ⟨by have := (a1 _ hMD).1; omega, (a1 _ hMD).2.2, fun e => by have := HIB.out.b8.1; have := (a1 _ hMD).1; omega⟩
              · exact ⟨(HDS.out D' hD').1, hlow _ (hDlo D' hD').1 (hDlo D' hD').2, (HDS.out D' hD').2.2⟩
            · rcases a2 k hk with h | h
              · exact HSL.out k h
              · omega
          case stop =>
            intro D c p i rest Mi W _ _ _ h _
            exact h.elim
end Go.Proofs.Ytiljgkaffgclgaa
