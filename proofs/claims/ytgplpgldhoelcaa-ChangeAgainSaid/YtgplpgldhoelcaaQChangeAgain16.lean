/- Contracts: the program's look: is a shortcut an edge, is it two of those ahead of it? -/
import Derived.Test.YtgplpgldhoelcaaQChangeAgain15
import Derived.Test.YtgplpgldhoelcaaQChangeAgain03
import Derived.Test.YtgplpgldhoelcaaQChangeAgain09
import Derived.Test.YtgplpgldhoelcaaQChangeAgain13
import Derived.Test.YtgplpgldhoelcaaQChangeAgain01
namespace Go.Proofs.Ytgplpgldhoelcaa
open Go Go.RowKit
attribute [local go_sem] Oper.semAt_some
theorem hiTwo1 (z : Int) (g i : Nat) (A : Option Addr) (c : Nat) (w : World) (h : Arr w g 61 [.slice A i c]) :
    Calls Try.prog 154 #[.int .i64 z, .pointer (some ⟨g, 0, none⟩)] w fun e w' => e = .returned (.bool (decide (0 ≤ z) && decide (z < (i : Int)))) ∧ w = w' := by
  go_enter Try.func154, Try.ntmps154
  go_wp2_with fail
  all_goals go_ret
  all_goals exact ⟨ret_bool (by first | rfl | (apply bool_ext; simp [*]; done) | (simp [*]; done) | (simp [*]; omega)), rfl⟩
theorem hiTwo1Yes (z : Nat) (g i : Nat) (A : Option Addr) (c : Nat) (w : World) (hz : z < i) (h : Arr w g 61 [.slice A i c]) :
    Calls Try.prog 154 #[.int .i64 (z : Int), .pointer (some ⟨g, 0, none⟩)] w fun e w' => e = .returned (.bool true) ∧ w = w' := by
  have := hiTwo1 (z : Int) g i A c w h
  rw [decide_eq_true (by omega), decide_eq_true (by omega)] at this
  exact this
theorem hiTwo1No (z : Int) (g i : Nat) (A : Option Addr) (c : Nat) (w : World) (hz : ¬ (0 ≤ z ∧ z < i)) (h : Arr w g 61 [.slice A i c]) :
    Calls Try.prog 154 #[.int .i64 z, .pointer (some ⟨g, 0, none⟩)] w fun e w' => e = .returned (.bool false) ∧ w = w' := by
  have := hiTwo1 z g i A c w h
  rw [← Bool.decide_and, decide_eq_false hz] at this
  exact this
theorem hiTwo1Y (z : Int) (g i : Nat) (A : Option Addr) (c : Nat) (w : World) (hz : 0 ≤ z ∧ z < i) (h : Arr w g 61 [.slice A i c]) :
    Calls Try.prog 154 #[.int .i64 z, .pointer (some ⟨g, 0, none⟩)] w fun e w' => e = .returned (.bool true) ∧ w = w' := by
  have := hiTwo1 z g i A c w h
  rw [← Bool.decide_and, decide_eq_true hz] at this
  exact this
set_option maxRecDepth 20000 in
set_option maxHeartbeats 4000000 in
theorem hiTwoNo (B A : Option Addr) (m d n c i : Nat) (S : List SI) (w : World) (_ : Rd w A 6 n (sis S)) (_ : i < n)
    (hc : ¬ ((gsi S i).e = -1 ∧ 0 ≤ (gsi S i).a ∧ (gsi S i).a < i ∧ 0 ≤ (gsi S i).b ∧ (gsi S i).b < i ∧ (gsi S i).f ≠ (gsi S i).t)) :
    Calls Try.prog 128 #[.slice B m d, .slice A i c, siVal (gsi S i)] w fun e w' => e = .returned (.bool false) ∧ Grows w w' := by
  unfold siVal
  generalize (gsi S i).f = f at *
  generalize (gsi S i).t = t at *
  generalize (gsi S i).w = wt at *
  generalize (gsi S i).e = e at *
  generalize (gsi S i).a = a at *
  generalize (gsi S i).b = b at *
  have HC := hide hc
  clear hc
  by_cases q1 : e = -1
  · subst q1
    by_cases q2 : 0 ≤ a ∧ a < i
    · have HQ2 := hide q2
      clear q2
      by_cases q3 : 0 ≤ b ∧ b < i
      · have q6 : (f == t) = true := by
          have := HC.out
          simp only [beq_iff_eq]
          apply Decidable.byContradiction
          intro e4
          exact this ⟨rfl, HQ2.out.1, HQ2.out.2, q3.1, q3.2, e4⟩
        have HQ3 := hide q3
        clear q3
        go_enter Try.func128, Try.ntmps128
        go_upto_region 1 with fail
        have a2 : Arr ((w.alloc (.cells #[.slice A i c] 61)).alloc (.cells #[.int .i64 f, .int .i64 t, .int .u64 wt, .int .i64 (-1), .int .i64 a, .int .i64 b] 95)) w.heap.size 61 [.slice A i c] := (Arr.make _ _ _).grow ((Grows.refl _).new _)
        have a5 : Arr ((w.alloc (.cells #[.slice A i c] 61)).alloc (.cells #[.int .i64 f, .int .i64 t, .int .u64 wt, .int .i64 (-1), .int .i64 a, .int .i64 b] 95)) (w.heap.size + 1) 95 [.int .i64 f, .int .i64 t, .int .u64 wt, .int .i64 (-1), .int .i64 a, .int .i64 b] := by
          have h1 := Arr.make (w.alloc (.cells #[.slice A i c] 61)) [.int .i64 f, .int .i64 t, .int .u64 wt, .int .i64 (-1), .int .i64 a, .int .i64 b] 95
          simpa using h1
        have hg1 : Grows w ((w.alloc (.cells #[.slice A i c] 61)).alloc (.cells #[.int .i64 f, .int .i64 t, .int .u64 wt, .int .i64 (-1), .int .i64 a, .int .i64 b] 95)) := ((Grows.refl w).new _).new _
        generalize (w.alloc (.cells #[.slice A i c] 61)).alloc (.cells #[.int .i64 f, .int .i64 t, .int .u64 wt, .int .i64 (-1), .int .i64 a, .int .i64 b] 95) = W1 at *
        generalize w.heap.size + 1 = b5 at *
        generalize w.heap.size = b2 at *
        obtain ⟨y1, rfl⟩ := hg1.later
        clear hg1
        go_wp2_with fail
        go_at_call 154
        refine (hiTwo1Y a b2 i A c y1.now HQ2.out a2).mono ?_
        rintro e w' ⟨rfl, rfl⟩
        go_wp2_with fail
        go_at_call 154
        refine (hiTwo1Y b b2 i A c y1.now HQ3.out a2).mono ?_
        rintro e w' ⟨rfl, rfl⟩
        go_wp2_with fail
        go_ret
        exact ⟨rfl, GG⟩
      · have HQ3 := hide q3
        clear q3
        go_enter Try.func128, Try.ntmps128
        go_upto_region 1 with fail
        have a2 : Arr ((w.alloc (.cells #[.slice A i c] 61)).alloc (.cells #[.int .i64 f, .int .i64 t, .int .u64 wt, .int .i64 (-1), .int .i64 a, .int .i64 b] 95)) w.heap.size 61 [.slice A i c] := (Arr.make _ _ _).grow ((Grows.refl _).new _)
        have a5 : Arr ((w.alloc (.cells #[.slice A i c] 61)).alloc (.cells #[.int .i64 f, .int .i64 t, .int .u64 wt, .int .i64 (-1), .int .i64 a, .int .i64 b] 95)) (w.heap.size + 1) 95 [.int .i64 f, .int .i64 t, .int .u64 wt, .int .i64 (-1), .int .i64 a, .int .i64 b] := by
          have h1 := Arr.make (w.alloc (.cells #[.slice A i c] 61)) [.int .i64 f, .int .i64 t, .int .u64 wt, .int .i64 (-1), .int .i64 a, .int .i64 b] 95
          simpa using h1
        have hg1 : Grows w ((w.alloc (.cells #[.slice A i c] 61)).alloc (.cells #[.int .i64 f, .int .i64 t, .int .u64 wt, .int .i64 (-1), .int .i64 a, .int .i64 b] 95)) := ((Grows.refl w).new _).new _
        generalize (w.alloc (.cells #[.slice A i c] 61)).alloc (.cells #[.int .i64 f, .int .i64 t, .int .u64 wt, .int .i64 (-1), .int .i64 a, .int .i64 b] 95) = W1 at *
        generalize w.heap.size + 1 = b5 at *
        generalize w.heap.size = b2 at *
        obtain ⟨y1, rfl⟩ := hg1.later
        clear hg1
        go_wp2_with fail
        go_at_call 154
        refine (hiTwo1Y a b2 i A c y1.now HQ2.out a2).mono ?_
        rintro e w' ⟨rfl, rfl⟩
        go_wp2_with fail
        go_at_call 154
        refine (hiTwo1No b b2 i A c y1.now HQ3.out a2).mono ?_
        rintro e w' ⟨rfl, rfl⟩
        go_wp2_with fail
        go_ret
        exact ⟨rfl, GG⟩
    · have HQ2 := hide q2
      clear q2
      go_enter Try.func128, Try.ntmps128
      go_upto_region 1 with fail
      have a2 : Arr ((w.alloc (.cells #[.slice A i c] 61)).alloc (.cells #[.int .i64 f, .int .i64 t, .int .u64 wt, .int .i64 (-1), .int .i64 a, .int .i64 b] 95)) w.heap.size 61 [.slice A i c] := (Arr.make _ _ _).grow ((Grows.refl _).new _)
      have a5 : Arr ((w.alloc (.cells #[.slice A i c] 61)).alloc (.cells #[.int .i64 f, .int .i64 t, .int .u64 wt, .int .i64 (-1), .int .i64 a, .int .i64 b] 95)) (w.heap.size + 1) 95 [.int .i64 f, .int .i64 t, .int .u64 wt, .int .i64 (-1), .int .i64 a, .int .i64 b] := by
        have h1 := Arr.make (w.alloc (.cells #[.slice A i c] 61)) [.int .i64 f, .int .i64 t, .int .u64 wt, .int .i64 (-1), .int .i64 a, .int .i64 b] 95
        simpa using h1
      have hg1 : Grows w ((w.alloc (.cells #[.slice A i c] 61)).alloc (.cells #[.int .i64 f, .int .i64 t, .int .u64 wt, .int .i64 (-1), .int .i64 a, .int .i64 b] 95)) := ((Grows.refl w).new _).new _
      generalize (w.alloc (.cells #[.slice A i c] 61)).alloc (.cells #[.int .i64 f, .int .i64 t, .int .u64 wt, .int .i64 (-1), .int .i64 a, .int .i64 b] 95) = W1 at *
      generalize w.heap.size + 1 = b5 at *
      generalize w.heap.size = b2 at *
      obtain ⟨y1, rfl⟩ := hg1.later
      clear hg1
      go_wp2_with fail
      go_at_call 154
      refine (hiTwo1No a b2 i A c y1.now HQ2.out a2).mono ?_
      rintro e w' ⟨rfl, rfl⟩
      go_wp2_with fail
      go_ret
      exact ⟨rfl, GG⟩
  · have q2 : (e != -1) = true := by simpa using q1
    clear q1
    go_enter Try.func128, Try.ntmps128
    go_upto_region 1 with fail
    have a2 : Arr ((w.alloc (.cells #[.slice A i c] 61)).alloc (.cells #[.int .i64 f, .int .i64 t, .int .u64 wt, .int .i64 e, .int .i64 a, .int .i64 b] 95)) w.heap.size 61 [.slice A i c] := (Arr.make _ _ _).grow ((Grows.refl _).new _)
    have a5 : Arr ((w.alloc (.cells #[.slice A i c] 61)).alloc (.cells #[.int .i64 f, .int .i64 t, .int .u64 wt, .int .i64 e, .int .i64 a, .int .i64 b] 95)) (w.heap.size + 1) 95 [.int .i64 f, .int .i64 t, .int .u64 wt, .int .i64 e, .int .i64 a, .int .i64 b] := by
      have h1 := Arr.make (w.alloc (.cells #[.slice A i c] 61)) [.int .i64 f, .int .i64 t, .int .u64 wt, .int .i64 e, .int .i64 a, .int .i64 b] 95
      simpa using h1
    have hg1 : Grows w ((w.alloc (.cells #[.slice A i c] 61)).alloc (.cells #[.int .i64 f, .int .i64 t, .int .u64 wt, .int .i64 e, .int .i64 a, .int .i64 b] 95)) := ((Grows.refl w).new _).new _
    generalize (w.alloc (.cells #[.slice A i c] 61)).alloc (.cells #[.int .i64 f, .int .i64 t, .int .u64 wt, .int .i64 e, .int .i64 a, .int .i64 b] 95) = W1 at *
    generalize w.heap.size + 1 = b5 at *
    generalize w.heap.size = b2 at *
    obtain ⟨y1, rfl⟩ := hg1.later
    clear hg1
    go_wp2_with fail
    go_ret
    exact ⟨rfl, GG⟩
set_option maxRecDepth 20000 in
set_option maxHeartbeats 4000000 in
theorem hiTwo (B A : Option Addr) (m d n c i : Nat) (r : List Int) (S : List SI) (w : World) (h : Rd w A 6 n (sis S)) (hi : i < n) (hr : Rd w B 1 m (r.map (.int .i64))) (hends : ∀ j, j < i → (0 ≤ (gsi S j).f ∧ (gsi S j).f < m) ∧ 0 ≤ (gsi S j).t ∧ (gsi S j).t < m) :
    Calls Try.prog 128 #[.slice B m d, .slice A i c, siVal (gsi S i)] w fun e w' => e = .returned (.bool (twoSB r S i)) ∧ Grows w w' := by
  unfold twoSB siVal
  by_cases hc : (gsi S i).e = -1 ∧ 0 ≤ (gsi S i).a ∧ (gsi S i).a < i ∧ 0 ≤ (gsi S i).b ∧ (gsi S i).b < i ∧ (gsi S i).f ≠ (gsi S i).t
  · rw [decide_eq_true hc, Bool.true_and]
    obtain ⟨hc1, hc2, hc3, hc4, hc5, hc6⟩ := hc
    obtain ⟨p, hp⟩ : ∃ p : Nat, (gsi S i).a = (p : Int) := ⟨(gsi S i).a.toNat, by omega⟩
    obtain ⟨q, hq⟩ : ∃ q : Nat, (gsi S i).b = (q : Int) := ⟨(gsi S i).b.toNat, by omega⟩
    have hpi : p < i := by omega
    have hqi : q < i := by omega
    obtain ⟨bb, off, rfl, hcc⟩ := h.siH (by omega)
    obtain ⟨d1, d2, d3, d4, d5, d6⟩ := hcc p (by omega)
    obtain ⟨e1, e2, e3, e4, e5, e6⟩ := hcc q (by omega)
    obtain ⟨⟨x1, x2⟩, x3, x4⟩ := hends p hpi
    obtain ⟨_, y3, y4⟩ := hends q hqi
    rw [hc1, hp, hq, Int.toNat_natCast, Int.toNat_natCast]
    have hft : ((gsi S i).f == (gsi S i).t) = false := by simpa using hc6
    clear hcc hends h hc1 hc2 hc3 hc4 hc5 hc6 hp hq
    generalize (gsi S i).f = f at *
    generalize (gsi S i).t = t at *
    generalize (gsi S i).w = wt at *
    generalize (gsi S p).f = af at *
    generalize (gsi S p).t = at_ at *
    generalize (gsi S p).w = aw at *
    generalize (gsi S q).f = bf at *
    generalize (gsi S q).t = bt at *
    generalize (gsi S q).w = bw at *
    have K1 := hide (fun (z : Nat) (g : Nat) (W : World) (hz : z < i) (h : Arr W g 61 [.slice (some ⟨bb, off, none⟩) i c]) => hiTwo1Yes z g i (some ⟨bb, off, none⟩) c W hz h)
    have KP := hide (fun (g : Nat) (W : World) => K1.out p g W hpi)
    have KQ := hide (fun (g : Nat) (W : World) => K1.out q g W hqi)
    clear K1
    have HRR := hide hr
    have HX := hide (And.intro (And.intro x1 x2) (And.intro (And.intro x3 x4) (And.intro y3 y4)))
    clear hr x1 x2 x3 x4 y3 y4
    obtain ⟨RR, hRR⟩ : ∃ RR : Bool, RR = (decide (af = f ∧ at_ = bf ∧ bt = t ∧ IntKind.u64.wrap (aw + bw) = wt) && (decide (gi r at_.toNat < gi r f.toNat) && decide (gi r at_.toNat < gi r t.toNat))) := ⟨_, rfl⟩
    rw [← hRR]
    have HRB := hide hRR
    clear hRR
    go_enter Try.func128, Try.ntmps128
    go_upto_region 1 with fail
    have a2 : Arr ((w.alloc (.cells #[.slice (some ⟨bb, off, none⟩) i c] 61)).alloc (.cells #[.int .i64 f, .int .i64 t, .int .u64 wt, .int .i64 (-1), .int .i64 (p : Int), .int .i64 (q : Int)] 95)) w.heap.size 61 [.slice (some ⟨bb, off, none⟩) i c] := (Arr.make _ _ _).grow ((Grows.refl _).new _)
    have a5 : Arr ((w.alloc (.cells #[.slice (some ⟨bb, off, none⟩) i c] 61)).alloc (.cells #[.int .i64 f, .int .i64 t, .int .u64 wt, .int .i64 (-1), .int .i64 (p : Int), .int .i64 (q : Int)] 95)) (w.heap.size + 1) 95 [.int .i64 f, .int .i64 t, .int .u64 wt, .int .i64 (-1), .int .i64 (p : Int), .int .i64 (q : Int)] := by
      have h1 := Arr.make (w.alloc (.cells #[.slice (some ⟨bb, off, none⟩) i c] 61)) [.int .i64 f, .int .i64 t, .int .u64 wt, .int .i64 (-1), .int .i64 (p : Int), .int .i64 (q : Int)] 95
      simpa using h1
    have hg1 : Grows w ((w.alloc (.cells #[.slice (some ⟨bb, off, none⟩) i c] 61)).alloc (.cells #[.int .i64 f, .int .i64 t, .int .u64 wt, .int .i64 (-1), .int .i64 (p : Int), .int .i64 (q : Int)] 95)) := ((Grows.refl w).new _).new _
    generalize (w.alloc (.cells #[.slice (some ⟨bb, off, none⟩) i c] 61)).alloc (.cells #[.int .i64 f, .int .i64 t, .int .u64 wt, .int .i64 (-1), .int .i64 (p : Int), .int .i64 (q : Int)] 95) = W1 at *
    generalize w.heap.size + 1 = b5 at *
    generalize w.heap.size = b2 at *
    obtain ⟨y1, rfl⟩ := hg1.later
    clear hg1
    go_wp2_with fail
    go_at_call 154
    refine (KP.out b2 y1.now a2).mono ?_
    rintro e w' ⟨rfl, rfl⟩
    go_wp2_with fail
    go_at_call 154
    refine (KQ.out b2 y1.now a2).mono ?_
    rintro e w' ⟨rfl, rfl⟩
    go_upto_region 4 with fail
    clear KP KQ
    obtain ⟨VV, hVV⟩ : ∃ V : Nat × Nat → Nat → Value, V = fun k j => ([.slice (some ⟨bb, off, none⟩) i c, .pointer (some ⟨b5, 4, none⟩), .int .i64 (p : Int), .pointer (some ⟨bb, off + p * 6, none⟩), .agg #[.int .i64 af, .int .i64 at_, .int .u64 aw, .int .i64 (gsi S p).e, .int .i64 (gsi S p).a, .int .i64 (gsi S p).b], .slice (some ⟨bb, off, none⟩) i c, .pointer (some ⟨b5, 5, none⟩), .int .i64 (q : Int), .pointer (some ⟨bb, off + q * 6, none⟩), .agg #[.int .i64 bf, .int .i64 bt, .int .u64 bw, .int .i64 (gsi S q).e, .int .i64 (gsi S q).a, .int .i64 (gsi S q).b], .pointer (some ⟨k.1, 0, none⟩), .pointer (some ⟨k.2, 0, none⟩), undef, undef] : List Value).getD j undef := ⟨_, rfl⟩
    refine wp_region_some (by kernel_rfl) (by kernel_rfl) (by kernel_rfl) (by kernel_rfl) (by kernel_rfl) VV
      (fun k D w1 => Grows y1.now w1 ∧ (D 10 = true → y1.now.heap.size ≤ k.1 ∧ Arr w1 k.1 95 (if D 12 = true then [.int .i64 af, .int .i64 at_, .int .u64 aw, .int .i64 (gsi S p).e, .int .i64 (gsi S p).a, .int .i64 (gsi S p).b] else [.int .i64 0, .int .i64 0, .int .u64 0, .int .i64 0, .int .i64 0, .int .i64 0])) ∧ (D 11 = true → y1.now.heap.size ≤ k.2 ∧ Arr w1 k.2 95 (if D 13 = true then [.int .i64 bf, .int .i64 bt, .int .u64 bw, .int .i64 (gsi S q).e, .int .i64 (gsi S q).a, .int .i64 (gsi S q).b] else [.int .i64 0, .int .i64 0, .int .u64 0, .int .i64 0, .int .i64 0, .int .i64 0])) ∧ (D 10 = true → D 11 = true → k.1 ≠ k.2))
      (0, 0) ⟨(Grows.refl _).drew, fun h => absurd h (by simp), fun h => absurd h (by simp), fun h => absurd h (by simp)⟩ ?hs ?he
    case hs =>
      subst hVV
      intro k a hV hO ii oo' ho D hcl hD hpre w1 hM
      obtain ⟨hgx, h12, h13, hne⟩ := hM
      obtain ⟨z, rfl⟩ := hgx.later
      match ii, ho, hD, hpre with
        | 0, ho, hD, hpre =>
          cases (show some _ = some oo' from ho)
          have e4 := ev_nfK ((hO 4 (notDstK (by kernel_rfl))).trans rfl)
          refine runsTo_mono11 (Q := fun uu w1 => w1 = z.now ∧ uu = (.slice (some ⟨bb, off, none⟩) i c : Value)) ?_ (fun uu w1 ⟨h1, hq⟩ => ⟨k, by subst h1; exact ⟨z.grows, by simpa using h12, by simpa using h13, by simpa using hne⟩, fun _ _ _ => rfl, .inr hq⟩)
          clear h12 h13 hne
          go_simp
          all_goals exact ⟨rfl, rfl⟩
        | 1, ho, hD, hpre =>
          cases (show some _ = some oo' from ho)
          have e5 := ev_nfK ((hO 5 (notDstK (by kernel_rfl))).trans rfl)
          refine runsTo_mono11 (Q := fun uu w1 => w1 = z.now ∧ uu = (.pointer (some ⟨b5, 4, none⟩) : Value)) ?_ (fun uu w1 ⟨h1, hq⟩ => ⟨k, by subst h1; exact ⟨z.grows, by simpa using h12, by simpa using h13, by simpa using hne⟩, fun _ _ _ => rfl, .inr hq⟩)
          clear h12 h13 hne
          go_simp
          all_goals exact ⟨rfl, rfl⟩
        | 2, ho, hD, hpre =>
          cases (show some _ = some oo' from ho)
          have e36 := ev_nfK (hV 1 36 rfl)
          refine runsTo_mono11 (Q := fun uu w1 => w1 = z.now ∧ uu = (.int .i64 (p : Int) : Value)) ?_ (fun uu w1 ⟨h1, hq⟩ => ⟨k, by subst h1; exact ⟨z.grows, by simpa using h12, by simpa using h13, by simpa using hne⟩, fun _ _ _ => rfl, .inr hq⟩)
          clear h12 h13 hne
          go_simp
          all_goals exact ⟨rfl, rfl⟩
        | 3, ho, hD, hpre =>
          cases (show some _ = some oo' from ho)
          have e35 := ev_nfK (hV 0 35 rfl)
          have e37 := ev_nfK (hV 2 37 rfl)
          refine runsTo_mono11 (Q := fun uu w1 => w1 = z.now ∧ uu = (.pointer (some ⟨bb, off + p * 6, none⟩) : Value)) ?_ (fun uu w1 ⟨h1, hq⟩ => ⟨k, by subst h1; exact ⟨z.grows, by simpa using h12, by simpa using h13, by simpa using hne⟩, fun _ _ _ => rfl, .inr hq⟩)
          clear h12 h13 hne
          go_simp
          all_goals exact ⟨rfl, rfl⟩
        | 4, ho, hD, hpre =>
          cases (show some _ = some oo' from ho)
          have e38 := ev_nfK (hV 3 38 rfl)
          refine runsTo_mono11 (Q := fun uu w1 => w1 = z.now ∧ uu = (.agg #[.int .i64 af, .int .i64 at_, .int .u64 aw, .int .i64 (gsi S p).e, .int .i64 (gsi S p).a, .int .i64 (gsi S p).b] : Value)) ?_ (fun uu w1 ⟨h1, hq⟩ => ⟨k, by subst h1; exact ⟨z.grows, by simpa using h12, by simpa using h13, by simpa using hne⟩, fun _ _ _ => rfl, .inr hq⟩)
          clear h12 h13 hne
          go_simp
          all_goals exact ⟨rfl, rfl⟩
        | 5, ho, hD, hpre =>
          cases (show some _ = some oo' from ho)
          have e4 := ev_nfK ((hO 4 (notDstK (by kernel_rfl))).trans rfl)
          refine runsTo_mono11 (Q := fun uu w1 => w1 = z.now ∧ uu = (.slice (some ⟨bb, off, none⟩) i c : Value)) ?_ (fun uu w1 ⟨h1, hq⟩ => ⟨k, by subst h1; exact ⟨z.grows, by simpa using h12, by simpa using h13, by simpa using hne⟩, fun _ _ _ => rfl, .inr hq⟩)
          clear h12 h13 hne
          go_simp
          all_goals exact ⟨rfl, rfl⟩
        | 6, ho, hD, hpre =>
          cases (show some _ = some oo' from ho)
          have e5 := ev_nfK ((hO 5 (notDstK (by kernel_rfl))).trans rfl)
          refine runsTo_mono11 (Q := fun uu w1 => w1 = z.now ∧ uu = (.pointer (some ⟨b5, 5, none⟩) : Value)) ?_ (fun uu w1 ⟨h1, hq⟩ => ⟨k, by subst h1; exact ⟨z.grows, by simpa using h12, by simpa using h13, by simpa using hne⟩, fun _ _ _ => rfl, .inr hq⟩)
          clear h12 h13 hne
          go_simp
          all_goals exact ⟨rfl, rfl⟩
        | 7, ho, hD, hpre =>
          cases (show some _ = some oo' from ho)
          have e41 := ev_nfK (hV 6 41 rfl)
          refine runsTo_mono11 (Q := fun uu w1 => w1 = z.now ∧ uu = (.int .i64 (q : Int) : Value)) ?_ (fun uu w1 ⟨h1, hq⟩ => ⟨k, by subst h1; exact ⟨z.grows, by simpa using h12, by simpa using h13, by simpa using hne⟩, fun _ _ _ => rfl, .inr hq⟩)
          clear h12 h13 hne
          go_simp
          all_goals exact ⟨rfl, rfl⟩
        | 8, ho, hD, hpre =>
          cases (show some _ = some oo' from ho)
          have e40 := ev_nfK (hV 5 40 rfl)
          have e42 := ev_nfK (hV 7 42 rfl)
          refine runsTo_mono11 (Q := fun uu w1 => w1 = z.now ∧ uu = (.pointer (some ⟨bb, off + q * 6, none⟩) : Value)) ?_ (fun uu w1 ⟨h1, hq⟩ => ⟨k, by subst h1; exact ⟨z.grows, by simpa using h12, by simpa using h13, by simpa using hne⟩, fun _ _ _ => rfl, .inr hq⟩)
          clear h12 h13 hne
          go_simp
          all_goals exact ⟨rfl, rfl⟩
        | 9, ho, hD, hpre =>
          cases (show some _ = some oo' from ho)
          have e43 := ev_nfK (hV 8 43 rfl)
          refine runsTo_mono11 (Q := fun uu w1 => w1 = z.now ∧ uu = (.agg #[.int .i64 bf, .int .i64 bt, .int .u64 bw, .int .i64 (gsi S q).e, .int .i64 (gsi S q).a, .int .i64 (gsi S q).b] : Value)) ?_ (fun uu w1 ⟨h1, hq⟩ => ⟨k, by subst h1; exact ⟨z.grows, by simpa using h12, by simpa using h13, by simpa using hne⟩, fun _ _ _ => rfl, .inr hq⟩)
          clear h12 h13 hne
          go_simp
          all_goals exact ⟨rfl, rfl⟩
        | 10, ho, hD, hpre =>
          cases (show some _ = some oo' from ho)
          have n12 : D 12 = false := by
            cases hd : D 12 with
            | false => rfl
            | true => exact absurd (hcl 12 10 hd (by kernel_rfl)) (by rw [hD]; exact Bool.false_ne_true)
          have h4 : Grows z.now (z.now.alloc (.cells #[.int .i64 0, .int .i64 0, .int .u64 0, .int .i64 0, .int .i64 0, .int .i64 0] 95)) := (Grows.refl _).new _
          refine runsTo_mono11 (Q := fun uu w1 => w1 = z.now.alloc (.cells #[.int .i64 0, .int .i64 0, .int .u64 0, .int .i64 0, .int .i64 0, .int .i64 0] 95) ∧ uu = (.pointer (some ⟨z.now.heap.size, 0, none⟩) : Value)) ?_ (fun uu w1 hq => ?_)
          · clear h12 h13 hne
            go_simp
            all_goals exact ⟨rfl, rfl⟩
          · obtain ⟨h8, h1⟩ := hq
            subst h8
            refine ⟨(z.now.heap.size, k.2), ⟨z.grows.trans h4, fun _ => ⟨z.size, by rw [if_neg (by simp [n12])]; exact Arr.make _ _ _⟩, fun hd => ⟨(h13 (by simpa using hd)).1, by have := (h13 (by simpa using hd)).2.grow h4; simpa using this⟩, fun _ hd e => by have := (h13 (by simpa using hd)).2.lt; simp only at e; omega⟩, fun j _ hDj => ?_, .inr h1⟩
            · match j, hDj with
              | 0, _ => rfl
              | 1, _ => rfl
              | 2, _ => rfl
              | 3, _ => rfl
              | 4, _ => rfl
              | 5, _ => rfl
              | 6, _ => rfl
              | 7, _ => rfl
              | 8, _ => rfl
              | 9, _ => rfl
              | 10, hDj => exact absurd hDj (by rw [hD]; exact Bool.false_ne_true)
              | 11, _ => rfl
              | 12, _ => rfl
              | 13, _ => rfl
              | n + 14, _ => rfl
        | 11, ho, hD, hpre =>
          cases (show some _ = some oo' from ho)
          have n13 : D 13 = false := by
            cases hd : D 13 with
            | false => rfl
            | true => exact absurd (hcl 13 11 hd (by kernel_rfl)) (by rw [hD]; exact Bool.false_ne_true)
          have h4 : Grows z.now (z.now.alloc (.cells #[.int .i64 0, .int .i64 0, .int .u64 0, .int .i64 0, .int .i64 0, .int .i64 0] 95)) := (Grows.refl _).new _
          refine runsTo_mono11 (Q := fun uu w1 => w1 = z.now.alloc (.cells #[.int .i64 0, .int .i64 0, .int .u64 0, .int .i64 0, .int .i64 0, .int .i64 0] 95) ∧ uu = (.pointer (some ⟨z.now.heap.size, 0, none⟩) : Value)) ?_ (fun uu w1 hq => ?_)
          · clear h12 h13 hne
            go_simp
            all_goals exact ⟨rfl, rfl⟩
          · obtain ⟨h8, h1⟩ := hq
            subst h8
            refine ⟨(k.1, z.now.heap.size), ⟨z.grows.trans h4, fun hd => ⟨(h12 (by simpa using hd)).1, by have := (h12 (by simpa using hd)).2.grow h4; simpa using this⟩, fun _ => ⟨z.size, by rw [if_neg (by simp [n13])]; exact Arr.make _ _ _⟩, fun hd _ e => by have := (h12 (by simpa using hd)).2.lt; simp only at e; omega⟩, fun j _ hDj => ?_, .inr h1⟩
            · match j, hDj with
              | 0, _ => rfl
              | 1, _ => rfl
              | 2, _ => rfl
              | 3, _ => rfl
              | 4, _ => rfl
              | 5, _ => rfl
              | 6, _ => rfl
              | 7, _ => rfl
              | 8, _ => rfl
              | 9, _ => rfl
              | 10, _ => rfl
              | 11, hDj => exact absurd hDj (by rw [hD]; exact Bool.false_ne_true)
              | 12, _ => rfl
              | 13, _ => rfl
              | n + 14, _ => rfl
        | 12, ho, hD, hpre =>
          cases (show some _ = some oo' from ho)
          have e8 := ev_nfK (hV 10 8 rfl)
          have e39 := ev_nfK (hV 4 39 rfl)
          have d10 : D 10 = true := hpre 10 (by kernel_rfl)
          have n12 : D 12 = false := hD
          have ar := (h12 d10).2
          rw [if_neg (by rw [n12]; exact Bool.false_ne_true)] at ar
          have t0_ := ar.mine 0 rfl
          have t1_ := ar.mine 1 rfl
          have t2_ := ar.mine 2 rfl
          have t3_ := ar.mine 3 rfl
          have t4_ := ar.mine 4 rfl
          have t5_ := ar.mine 5 rfl
          have hk := (h12 d10).1
          have htq := st6_20_touch z.now k.1 (.int .i64 af) (.int .i64 at_) (.int .u64 aw) (.int .i64 (gsi S p).e) (.int .i64 (gsi S p).a) (.int .i64 (gsi S p).b)
          have hgq : Grows y1.now (st6_20 z.now k.1 (.int .i64 af) (.int .i64 at_) (.int .u64 aw) (.int .i64 (gsi S p).e) (.int .i64 (gsi S p).a) (.int .i64 (gsi S p).b)) := htq.later z.grows (fun j hj => by rw [hj]; exact hk)
          refine runsTo_mono11 (Q := fun uu w1 => w1 = st6_20 z.now k.1 (.int .i64 af) (.int .i64 at_) (.int .u64 aw) (.int .i64 (gsi S p).e) (.int .i64 (gsi S p).a) (.int .i64 (gsi S p).b)) ?_ (fun uu w1 hq => ?_)
          · clear h12 h13 hne hk htq hgq
            go_simp
            all_goals rfl
          · subst hq
            exact ⟨k, ⟨hgq, fun _ => ⟨hk, by rw [if_pos (by simp)]; exact st6_20_is ar _ _ _ _ _ _⟩, fun hd => ⟨(h13 (by simpa using hd)).1, by have := (h13 (by simpa using hd)).2.touch htq (fun e => hne d10 (by simpa using hd) e.symm); simpa using this⟩, by simpa using hne⟩, fun _ _ _ => rfl, .inl rfl⟩
        | 13, ho, hD, hpre =>
          cases (show some _ = some oo' from ho)
          have e9 := ev_nfK (hV 11 9 rfl)
          have e44 := ev_nfK (hV 9 44 rfl)
          have d11 : D 11 = true := hpre 11 (by kernel_rfl)
          have n13 : D 13 = false := hD
          have ar := (h13 d11).2
          rw [if_neg (by rw [n13]; exact Bool.false_ne_true)] at ar
          have t0_ := ar.mine 0 rfl
          have t1_ := ar.mine 1 rfl
          have t2_ := ar.mine 2 rfl
          have t3_ := ar.mine 3 rfl
          have t4_ := ar.mine 4 rfl
          have t5_ := ar.mine 5 rfl
          have hk := (h13 d11).1
          have htq := st6_20_touch z.now k.2 (.int .i64 bf) (.int .i64 bt) (.int .u64 bw) (.int .i64 (gsi S q).e) (.int .i64 (gsi S q).a) (.int .i64 (gsi S q).b)
          have hgq : Grows y1.now (st6_20 z.now k.2 (.int .i64 bf) (.int .i64 bt) (.int .u64 bw) (.int .i64 (gsi S q).e) (.int .i64 (gsi S q).a) (.int .i64 (gsi S q).b)) := htq.later z.grows (fun j hj => by rw [hj]; exact hk)
          refine runsTo_mono11 (Q := fun uu w1 => w1 = st6_20 z.now k.2 (.int .i64 bf) (.int .i64 bt) (.int .u64 bw) (.int .i64 (gsi S q).e) (.int .i64 (gsi S q).a) (.int .i64 (gsi S q).b)) ?_ (fun uu w1 hq => ?_)
          · clear h12 h13 hne hk htq hgq
            go_simp
            all_goals rfl
          · subst hq
            exact ⟨k, ⟨hgq, fun hd => ⟨(h12 (by simpa using hd)).1, by have := (h12 (by simpa using hd)).2.touch htq (fun e => hne (by simpa using hd) d11 e); simpa using this⟩, fun _ => ⟨hk, by rw [if_pos (by simp)]; exact st6_20_is ar _ _ _ _ _ _⟩, by simpa using hne⟩, fun _ _ _ => rfl, .inl rfl⟩
        | n + 14, ho, hD, hpre => cases ho
    case he =>
      intro k w1 hM
      obtain ⟨hgx, h12, h13, hne⟩ := hM
      obtain ⟨z, rfl⟩ := hgx.later
      have ar1 := (h12 rfl).2
      have ar2 := (h13 rfl).2
      rw [if_pos rfl] at ar1 ar2
      clear h12 h13 hne hgx
      subst hVV
      obtain ⟨k1, k2⟩ := k
      simp only [putAll, dstOf, List.length_cons, List.length_nil, Nat.reduceAdd, List.getElem?_cons_zero, List.getElem?_cons_succ, Option.bind_some, List.getD_cons_zero, List.getD_cons_succ, Act.put, List.setIfInBounds_toArray, List.set_cons_zero, List.set_cons_succ]
      by_cases g1 : af = f
      · subst g1
        by_cases g2 : at_ = bf
        · subst g2
          by_cases g3 : bt = t
          · subst g3
            by_cases g4 : IntKind.u64.wrap (aw + bw) = wt
            · obtain ⟨⟨x1, x2⟩, ⟨x3, x4⟩, y3, y4⟩ := HX.out
              obtain ⟨u, rfl⟩ : ∃ u : Nat, af = (u : Int) := ⟨af.toNat, by omega⟩
              obtain ⟨v, rfl⟩ : ∃ v : Nat, at_ = (v : Int) := ⟨at_.toNat, by omega⟩
              obtain ⟨x, rfl⟩ : ∃ x : Nat, bt = (x : Int) := ⟨bt.toNat, by omega⟩
              obtain ⟨bR, offR, rfl, hcR⟩ := HRR.out.intsH (by omega)
              have k1 := hcR u (by omega)
              have k2 := hcR v (by omega)
              have k3 := hcR x (by omega)
              have hRB := HRB.out
              rw [decide_eq_true (show (u : Int) = (u : Int) ∧ (v : Int) = (v : Int) ∧ (x : Int) = (x : Int) ∧ _ from ⟨rfl, rfl, rfl, g4⟩), Bool.true_and] at hRB
              simp only [Int.toNat_natCast] at hRB
              have HRB2 := hide hRB
              have hu : u < m := by omega
              have hv : v < m := by omega
              have hx : x < m := by omega
              clear hcR hRB x1 x2 x3 x4 y3 y4 HX HRR HRB
              have HRB3 : Hid (RR = decide (gi r v < min (gi r u) (gi r x))) := hide (by rw [HRB2.out, ← Bool.decide_and]; exact decide_eq_decide.2 (by omega))
              clear HRB2
              go_wp2_with fail
              ((first | refine wp_region_gen (by kernel_rfl) (by kernel_rfl) ?_); (repeat' (first | (refine gLex_val0 rfl (by kernel_rfl) (fun K hK => ?_); (go_simp; (try (simp only [↓IntWalk.iteOmega]; try go_simp)); (try simp (disch := omega) only [IntWalk.i64_in]); (try simp (disch := omega) only [IntWalk.u64_in]); first | (refine hK _ ?_; clear hK K) | (apply Exists.intro; refine ⟨fun x => ?_, hK _ ?_⟩; (first | fail); clear hK K))) | (refine gLex_undef rfl rfl rfl (by kernel_rfl) (fun K hK => ?_); go_simp; refine hK _ ?_; clear hK K) | (refine gLex_ask rfl rfl rfl ?_; first | (apply gAsk_yes; kernel_rfl; intro K hK; (go_simp; (try (simp only [↓IntWalk.iteOmega]; try go_simp)); (try simp (disch := omega) only [IntWalk.i64_in]); (try simp (disch := omega) only [IntWalk.u64_in]); first | (refine hK _ ?_; clear hK K) | (apply Exists.intro; refine ⟨fun x => ?_, hK _ ?_⟩; (first | fail); clear hK K))) | ((first | apply gAsk_no1 | apply gAsk_no2); kernel_rfl; intro K hK; simp [go_sem]; refine hK _ ?_; clear hK K) | (apply gAsk_part; kernel_rfl; all_goals (intro h K hK; (try simp only [Bool.not_true] at h); (try simp only [Bool.not_false] at h); (try simp only [decide_eq_true_eq] at h); (try simp only [decide_eq_false_iff_not] at h); first | (exfalso; first | contradiction | omega) | (go_simp; (try (simp only [↓IntWalk.iteOmega]; try go_simp)); (try simp (disch := omega) only [IntWalk.i64_in]); (try simp (disch := omega) only [IntWalk.u64_in]); first | (refine hK _ ?_; clear hK K) | (apply Exists.intro; refine ⟨fun x => ?_, hK _ ?_⟩; (first | fail); clear hK K))))))); all_goals ((apply gLex_end); intro x))
              go_wp2_with fail
              go_ret
              exact ⟨ret_bool HRB3.out.symm, GG⟩
            · have HRB2 : Hid (RR = false) := hide (by rw [HRB.out, decide_eq_false (fun e => g4 e.2.2.2), Bool.false_and])
              have g5 : (IntKind.u64.wrap (aw + bw) != wt) = true := by simpa using g4
              clear g4
              go_wp2_with fail
              go_ret
              exact ⟨ret_bool HRB2.out.symm, GG⟩
          · have HRB2 : Hid (RR = false) := hide (by rw [HRB.out, decide_eq_false (fun e => g3 e.2.2.1), Bool.false_and])
            have g5 : (bt != t) = true := by simpa using g3
            clear g3
            go_wp2_with fail
            go_ret
            exact ⟨ret_bool HRB2.out.symm, GG⟩
        · have HRB2 : Hid (RR = false) := hide (by rw [HRB.out, decide_eq_false (fun e => g2 e.2.1), Bool.false_and])
          have g5 : (at_ != bf) = true := by simpa using g2
          clear g2
          go_wp2_with fail
          go_ret
          exact ⟨ret_bool HRB2.out.symm, GG⟩
      · have HRB2 : Hid (RR = false) := hide (by rw [HRB.out, decide_eq_false (fun e => g1 e.1), Bool.false_and])
        have g5 : (af != f) = true := by simpa using g1
        clear g1
        go_wp2_with fail
        go_ret
        exact ⟨ret_bool HRB2.out.symm, GG⟩
  · rw [decide_eq_false hc, Bool.false_and]
    exact hiTwoNo B A m d n c i S w h hi hc
end Go.Proofs.Ytgplpgldhoelcaa

namespace Go.Proofs.Ytgplpgldhoelcaa
open Go Go.RowKit
set_option maxRecDepth 20000 in
theorem edge_eqv (a b c a' b' c' : Int) (W : World) : (Op.equalIn 10000 93 (.agg #[.int .i64 a, .int .i64 b, .int .u64 c]) (.agg #[.int .i64 a', .int .i64 b', .int .u64 c'])).run Try.prog W = .ok (a == a' && (b == b' && c == c')) W := by
  have h1 : ∀ x z : Int, ∀ w : World, (Op.equalIn 9999 3 (.int .i64 x) (.int .i64 z)).run Try.prog w = .ok (x == z) w := fun x z w => by
    rw [show (9999 : Nat) = 9998 + 1 from rfl, run_equalIn_int w 9998 3 .i64 .i64 x z Try.underlying3]
  have h2 : ∀ x z : Int, ∀ w : World, (Op.equalIn 9999 38 (.int .u64 x) (.int .u64 z)).run Try.prog w = .ok (x == z) w := fun x z w => by
    rw [show (9999 : Nat) = 9998 + 1 from rfl, run_equalIn_int w 9998 38 .u64 .u64 x z Try.underlying38]
  rw [show (10000 : Nat) = 9999 + 1 from rfl]
  unfold Op.equalIn
  have hp0 : ∀ (a b c : Int) (w : World), (part 3 #[Value.int .i64 a, Value.int .i64 b, Value.int .u64 c] 0).run Try.prog w = .ok (.int .i64 a) w := fun a b c w => by kernel_rfl
  have hp1 : ∀ (a b c : Int) (w : World), (part 3 #[Value.int .i64 a, Value.int .i64 b, Value.int .u64 c] 1).run Try.prog w = .ok (.int .i64 b) w := fun a b c w => by kernel_rfl
  have hp2 : ∀ (a b c : Int) (w : World), (part 38 #[Value.int .i64 a, Value.int .i64 b, Value.int .u64 c] 2).run Try.prog w = .ok (.int .u64 c) w := fun a b c w => by kernel_rfl
  have hst : Try.prog.stoodInHeld 93 = false := by kernel_rfl
  have hpr : ∀ w : World, (program).run Try.prog w = .ok Try.prog w := fun w => rfl
  simp only [Sem.run_bind, run_underlying Try.underlying93, Result.andThen_ok, hpr, hst, Bool.false_eq_true, if_false, List.forIn_toArray, List.forIn_cons, List.forIn_nil]
  cases ha : a == a' <;> cases hb : b == b' <;> cases hc : c == c' <;> simp [h1, h2, hp0, hp1, hp2, Sem.run_bind, Result.andThen_ok, ha, hb, hc]
theorem edge_eq (a b c : Int) (W : World) : (Op.equalIn 10000 93 (.agg #[.int .i64 a, .int .i64 b, .int .u64 c]) (.agg #[.int .i64 a, .int .i64 b, .int .u64 c])).run Try.prog W = .ok true W := by
  rw [edge_eqv, beq_self_eq_true, beq_self_eq_true, beq_self_eq_true]; rfl
set_option maxRecDepth 20000 in
set_option maxHeartbeats 4000000 in
theorem r5Same (N : Int) (A : Option Addr) (n c : Nat) (B : Option Addr) (d : Nat) (E : List Edg) (w : World) (ha : Rd w A 3 n (esCells E)) (hb : Rd w B 3 n (esCells E)) (hn : n ≤ 1000000) :
    Calls Try.prog 22 #[.agg #[.int .i64 N, .slice A n c], .agg #[.int .i64 N, .slice B n d]] w fun e w' => e = .returned (.bool true) ∧ Grows w w' := by
  have HA := hide ha
  have HB := hide hb
  clear ha hb
  go_enter Try.func22, Try.ntmps22
  go_wp2_with fail
  obtain ⟨W0, hW0⟩ : ∃ W0, W0 = ((w.alloc (.cells #[.int .i64 N, .slice A n c] 44)).alloc (.cells #[.int .i64 N, .slice B n d] 44)) := ⟨_, rfl⟩
  have hg0 : Grows w W0 := by rw [hW0]; exact GG
  have m0 : Mine W0 ⟨w.heap.size, 0, none⟩ (.int .i64 N) := by rw [hW0]; infer_instance
  have m1 : Mine W0 ⟨w.heap.size, 1, none⟩ (.slice A n c) := by rw [hW0]; infer_instance
  have m2 : Mine W0 ⟨w.heap.size + 1, 0, none⟩ (.int .i64 N) := by rw [hW0]; infer_instance
  have m3 : Mine W0 ⟨w.heap.size + 1, 1, none⟩ (.slice B n d) := by rw [hW0]; infer_instance
  rw [← hW0]
  clear hW0
  have HA := hide (HA.out.grows hg0)
  have HB := hide (HB.out.grows hg0)
  go_loopw [5] (fun i wr => ∃ k : Nat, k ≤ n ∧ i = .int .i64 (k : Int) ∧ ∃ y : Later W0, wr = y.now) (fun i _ => n - (Go.RowKit.intOf i).toNat)
  case atStart => exact ⟨0, by omega, by go_num, ⟨_, Grows.refl _⟩, rfl⟩
  case round =>
    obtain ⟨k, hk, rfl, y, rfl⟩ := hrel
    by_cases hend : n ≤ k
    · go_wp2
      go_ret
      exact ⟨rfl, GG⟩
    · obtain ⟨b, off, rfl, hc⟩ := HA.out.edgesH (by omega)
      obtain ⟨b2, off2, rfl, hc2⟩ := HB.out.edgesH (by omega)
      obtain ⟨c1, c2, c3⟩ := hc k (by omega)
      obtain ⟨c4, c5, c6⟩ := hc2 k (by omega)
      clear hc hc2
      generalize ge E k = x at *
      obtain ⟨f, t, v⟩ := x
      dsimp only at c1 c2 c3 c4 c5 c6
      have heq := edge_eq f t v
      go_wp2_with fail
      ((first | refine wp_region_gen (by kernel_rfl) (by kernel_rfl) ?_); (repeat' (first | (refine gLex_val0 rfl (by kernel_rfl) (fun K hK => ?_); (go_simp; (try (simp only [↓IntWalk.iteOmega]; try go_simp)); (try simp (disch := omega) only [IntWalk.i64_in]); (try simp (disch := omega) only [IntWalk.u64_in]); first | (refine hK _ ?_; clear hK K) | (apply Exists.intro; refine ⟨fun x => ?_, hK _ ?_⟩; (first | fail); clear hK K))) | (refine gLex_undef rfl rfl rfl (by kernel_rfl) (fun K hK => ?_); go_simp; refine hK _ ?_; clear hK K) | (refine gLex_ask rfl rfl rfl ?_; first | (apply gAsk_yes; kernel_rfl; intro K hK; (go_simp; (try (simp only [↓IntWalk.iteOmega]; try go_simp)); (try simp (disch := omega) only [IntWalk.i64_in]); (try simp (disch := omega) only [IntWalk.u64_in]); first | (refine hK _ ?_; clear hK K) | (apply Exists.intro; refine ⟨fun x => ?_, hK _ ?_⟩; (first | fail); clear hK K))) | ((first | apply gAsk_no1 | apply gAsk_no2); kernel_rfl; intro K hK; simp [go_sem]; refine hK _ ?_; clear hK K) | (apply gAsk_part; kernel_rfl; all_goals (intro h K hK; (try simp only [Bool.not_true] at h); (try simp only [Bool.not_false] at h); (try simp only [decide_eq_true_eq] at h); (try simp only [decide_eq_false_iff_not] at h); first | (exfalso; first | contradiction | omega) | (go_simp; (try (simp only [↓IntWalk.iteOmega]; try go_simp)); (try simp (disch := omega) only [IntWalk.i64_in]); (try simp (disch := omega) only [IntWalk.u64_in]); first | (refine hK _ ?_; clear hK K) | (apply Exists.intro; refine ⟨fun x => ?_, hK _ ?_⟩; (first | fail); clear hK K))))))); all_goals ((apply gLex_end); intro x))
      go_wp2
      exact ⟨⟨k + 1, by omega, by go_num, Grows.later GG⟩, by simp [Go.RowKit.intOf]; omega⟩
end Go.Proofs.Ytgplpgldhoelcaa

namespace Go.Proofs.Ytgplpgldhoelcaa
open Go Go.RowKit
attribute [local go_sem] Oper.semAt_some
def DsF (N : Nat) (E : List Edg) (v : Nat) : List Nat := refL (srchOf N E (noO [])) v
theorem r14AllR (N s : Nat) (A : Option Addr) (c : Nat) (E : List Edg) (w : World) (h : Rd w A 3 E.length (esCells E)) (hr : rightF N E = 0) (hs : s < N) :
    Calls Try.prog 88 #[.agg #[.int .i64 (N : Int), .slice A E.length c], .int .i64 (s : Int), .agg #[.bool false, .slice none 0 0, .slice none 0 0, .slice none 0 0, .int .u64 0]] w fun e w' => ∃ gd, e = .returned (.slice (some ⟨gd, 0, none⟩) N N) ∧ Row1 w' gd 38 1 N N (wv (DsF N E s)) ∧ Grows w w' := by
  have h0 : Rd w none 1 0 [] := ⟨by simp, fun h => absurd h (by simp)⟩
  have hw0 : Rd w none 1 0 (wv []) := ⟨by simp [wv], fun h => absurd h (by simp)⟩
  exact r14All N s A c E (noO []) none none none 0 0 0 w h h0 h0 hw0 (noO_ok hr hs (by simp)) (fun i hi => (noO_w hr i hi).2)
end Go.Proofs.Ytgplpgldhoelcaa

namespace Go.Proofs.Ytgplpgldhoelcaa
open Go Go.RowKit
attribute [local go_sem] Oper.semAt_some
theorem run_makeBoolsR (n : Nat) (hn : n ≤ 1000000000) (w : World) : (Instr.makeSlice 23 (.int .i64 (n : Int)) (.int .i64 (n : Int))).run Try.prog w = .ok (.slice (some ⟨w.heap.size, 0, none⟩) n n) (w.alloc (.cells (List.replicate n (Value.bool false)).toArray 4)) := by
  have h : (Try.prog.info? 4).map (fun i => (i.zero, i.size, i.bytes)) = some (some (.bool false), 1, 1) := by kernel_rfl
  obtain ⟨i, h1, h2, h3, h4⟩ := info_parts h
  have := run_make_row (P := Try.prog) 23 4 i (.bool false) Try.underlying23 h1 h2 h3 rfl .i64 .i64 n (by rw [h4]; omega) (by omega) w
  have e : madeCells #[Value.bool false] n = (List.replicate n (Value.bool false)).toArray := Array.ext' (by rw [toList_madeCells_one])
  rw [e] at this
  exact this
theorem bb_atR {L : List Bool} {j : Nat} (h : j < L.length) : (L.map Value.bool)[j]? = some (.bool (bb L j)) := by simp [bb, h]
def RowAt (W0 : World) (g : Nat) (t : TypeId) (xs : List Value) (wr : World) : Prop := ∃ y : Later W0, wr = y.now ∧ Arr y.now g t xs ∧ W0.heap.size ≤ g
theorem RowAt.grow {W0 : World} {g : Nat} {t : TypeId} {xs : List Value} {wr w2 : World} (h : RowAt W0 g t xs wr) (hg : Grows wr w2) : RowAt W0 g t xs w2 := by
  obtain ⟨y, rfl, h1, h2⟩ := h
  exact ⟨⟨w2, y.grows.trans hg⟩, rfl, h1.grow hg, h2⟩
theorem RowAt.put {W0 : World} {g : Nat} {t : TypeId} {xs : List Value} {wr w2 : World} (h : RowAt W0 g t xs wr) (hg : Grows wr w2) (j : Nat) (u : Value) : RowAt W0 g t (xs.set j u) (w2.setCell ⟨g, j, none⟩ u) := by
  obtain ⟨y, rfl, h1, h2⟩ := h.grow hg
  have hk : Grows W0 (y.now.setCell ⟨g, j, none⟩ u) := ((Touch.refl (fun k => k = g) _).set (.inl rfl) _).later y.grows (fun k hk => by rw [hk]; exact h2)
  exact ⟨⟨_, hk⟩, rfl, h1.set j _, h2⟩
theorem nvI_vals (V : List Nat) : nv V = (nvI V).map (.int .i64) := by simp [nv, nvI]
set_option maxRecDepth 20000 in
set_option maxHeartbeats 2000000 in
theorem rkRight (A : Option Addr) (n c : Nat) (l : List Int) (w : World) (h : Rd w A 1 n (l.map (.int .i64))) (hn : n ≤ 1000000) :
    Calls Try.prog 82 #[.slice A n c] w fun e w' => e = .returned (.bool (rkB l)) ∧ Grows w w' := by
  have hl : l.length = n := by simpa using h.len
  have HL := hide hl
  have HR := hide h
  have mb := fun (w : World) => run_makeBoolsR n (by omega) w
  clear h hl
  go_enter Try.func82, Try.ntmps82
  go_wp2_with fail
  have h0 : RowAt w w.heap.size 4 ((List.replicate n false).map .bool) (w.alloc (Obj.cells (Array.replicate n (Value.bool false)) 4)) := by
    rw [← List.toArray_replicate]
    exact ⟨⟨_, (Grows.refl _).new _⟩, rfl, by rw [List.map_replicate]; exact Arr.make _ _ _, Nat.le_refl _⟩
  have H0 := hide h0
  clear h0 mb
  generalize (w.alloc (Obj.cells (Array.replicate n (Value.bool false)) 4)) = W1 at *
  obtain ⟨g, hg⟩ : ∃ g, g = w.heap.size := ⟨_, rfl⟩
  rw [← hg] at H0 ⊢
  clear hg
  go_loopw [11] (fun i wr => ∃ k : Nat, k ≤ n ∧ i = .int .i64 (k : Int) ∧ ∃ M, Hid (RkM l k M) ∧ RowAt w g 4 (M.map .bool) wr) (fun i _ => n - (Go.RowKit.intOf i).toNat)
  case atStart => exact ⟨0, by omega, by go_num, List.replicate n false, hide (by have := RkM.start l; rwa [HL.out] at this), H0.out⟩
  case round =>
    obtain ⟨k, hk, rfl, M, HM, hrow⟩ := hrel
    obtain ⟨y, rfl, ha, _⟩ := id hrow
    have HROW := hide hrow
    clear hrow H0
    by_cases hlt : k < n
    · obtain ⟨b, off, rfl, hc⟩ := HR.out.intsH (by omega)
      have c1 := hc k (by omega)
      clear hc
      obtain ⟨x, hx⟩ : ∃ x, x = gi l k := ⟨_, rfl⟩
      have HX := hide hx
      rw [← hx] at c1
      clear hx
      have hkl : Hid (k < l.length) := hide (by rw [HL.out]; exact hlt)
      by_cases hneg : x < 0
      · have HB : Hid (rkB l = false) := rkB_no hkl.out (.inl (by rw [← HX.out]; exact hneg))
        clear ha
        go_wp2_with fail
        go_ret
        exact ⟨ret_bool HB.out.symm, GG⟩
      · by_cases hbig : (n : Int) ≤ x
        · have HB : Hid (rkB l = false) := rkB_no hkl.out (.inr (.inl (by rw [← HX.out, HL.out]; exact hbig)))
          clear ha
          go_wp2_with fail
          go_ret
          exact ⟨ret_bool HB.out.symm, GG⟩
        · obtain ⟨v, rfl⟩ : ∃ v : Nat, x = (v : Int) := ⟨x.toNat, by omega⟩
          have hv : v < n := by omega
          have m1 := ha.mine v (bb_atR (by rw [HM.out.len, HL.out]; exact hv))
          clear ha hneg hbig
          cases hb : bb M v with
          | true =>
            rw [hb] at m1
            have HB : Hid (rkB l = false) := rkB_no hkl.out (.inr (.inr (by rw [← HX.out]; exact (HM.out.met v (by rw [HL.out]; exact hv)).1 hb)))
            clear hb
            go_wp2_with fail
            go_ret
            exact ⟨ret_bool HB.out.symm, GG⟩
          | false =>
            rw [hb] at m1
            have HN : Hid (RkM l (k + 1) (M.set v true)) := HM.out.next hkl.out HX.out.symm (by rw [HL.out]; exact hv) hb
            clear hb
            go_wp2_with fail
            go_roundw
            case measure => simp [Go.RowKit.intOf]; omega
            case rel => exact ⟨k + 1, by omega, by go_num, _, HN, by rw [List.map_set]; exact HROW.out.put GG _ _⟩
    · obtain rfl : k = n := by omega
      have HB : Hid (rkB l = true) := hide (by have := HM.out; rw [← HL.out] at this; exact this.all)
      clear ha
      go_wp2_with fail
      go_ret
      exact ⟨ret_bool HB.out.symm, GG⟩
set_option maxRecDepth 20000 in
set_option maxHeartbeats 2000000 in
theorem rkInverse (A : Option Addr) (n c : Nat) (r : List Nat) (w : World) (h : Rd w A 1 n (nv r)) (hn : n ≤ 1000000) (hd : r.Nodup) (hlt : ∀ v ∈ r, v < r.length) :
    Calls Try.prog 72 #[.slice A n c] w fun e w' => ∃ g V, e = .returned (.slice (some ⟨g, 0, none⟩) n n) ∧ InvR n r V ∧ Arr w' g 3 (nv V) ∧ w.heap.size ≤ g ∧ Grows w w' := by
  have hl : r.length = n := by simpa [nv] using h.len
  have C := hide (fun (W : World) (g : Grows w W) => by have := rkRight A n c (nvI r) W (by rw [← nvI_vals]; exact h.grows g) hn; rw [rkB_nat hd hlt] at this; exact this)
  have HL := hide hl
  have hr := h
  rw [nvI_vals] at hr
  have HR := hide hr
  have HD := hide (And.intro hd hlt)
  have mi := fun (w : World) => run_makeInts n (by omega) w
  clear h hl hr hd hlt
  go_enter Try.func72, Try.ntmps72
  go_upto_region 3 with (go_at_call 82; refine (C.out _ GG).mono ?_; rintro e w' ⟨rfl, hg⟩; obtain ⟨x1, rfl⟩ := hg.later; clear hg)
  have h0 : RowAt w x1.now.heap.size 3 (nv (List.replicate n 0)) (x1.now.alloc (Obj.cells (Array.replicate n (Value.int .i64 0)) 3)) := by
    rw [← List.toArray_replicate]
    exact ⟨⟨_, x1.grows.new _⟩, rfl, by rw [show nv (List.replicate n 0) = List.replicate n (Value.int .i64 0) by simp [nv]]; exact Arr.make _ _ _, x1.size⟩
  have H0 := hide h0
  clear h0 C
  go_wp2_with fail
  clear mi
  generalize (x1.now.alloc (Obj.cells (Array.replicate n (Value.int .i64 0)) 3)) = W1 at *
  have hsz := x1.size
  generalize x1.now.heap.size = g at *
  go_loopw [14] (fun i wr => ∃ k : Nat, k ≤ n ∧ i = .int .i64 (k : Int) ∧ ∃ V, Hid (RkI r k V) ∧ RowAt w g 3 (nv V) wr) (fun i _ => n - (Go.RowKit.intOf i).toNat)
  case atStart => exact ⟨0, by omega, by go_num, List.replicate n 0, hide (by have := RkI.start r; rwa [HL.out] at this), H0.out⟩
  case round =>
    obtain ⟨k, hk, rfl, V, HV, hrow⟩ := hrel
    obtain ⟨y, rfl, ha, _⟩ := id hrow
    have HROW := hide hrow
    clear hrow H0
    by_cases hlt : k < n
    · obtain ⟨b, off, rfl, hc⟩ := HR.out.intsH (by omega)
      have c1 := hc k (by omega)
      rw [nvI_gi _ _ (by rw [HL.out]; exact hlt)] at c1
      clear hc
      have hv : gn r k < n := by have := HD.out.2 _ (gn_mem (l := r) (i := k) (by rw [HL.out]; exact hlt)); rw [HL.out] at this; exact this
      have HN : Hid (RkI r (k + 1) (V.set (gn r k) k)) := HV.out.next HD.out.1 (by rw [HL.out]; exact hlt) (by rw [HL.out]; exact hv)
      have m1 := ha.mine (gn r k) (nv_at (by rw [HV.out.len, HL.out]; exact hv))
      clear ha
      generalize gn r k = v at *
      go_wp2_with fail
      go_roundw
      case measure => simp [Go.RowKit.intOf]; omega
      case rel => exact ⟨k + 1, by omega, by go_num, _, HN, by rw [show nv (V.set v k) = (nv V).set v (.int .i64 (k : Int)) by simp [nv, List.map_set]]; exact HROW.out.put GG _ _⟩
    · obtain rfl : k = n := by omega
      have HI : Hid (InvR k r V) := hide (by
        have h1 := HV.out
        rw [← HL.out] at h1 ⊢
        exact h1.inv HD.out.1 HD.out.2)
      obtain ⟨_, _, ha2, hg2⟩ := HROW.out
      go_wp2_with fail
      go_ret
      exact ⟨g, V, rfl, HI.out, by assumption, hg2, GG⟩
end Go.Proofs.Ytgplpgldhoelcaa

