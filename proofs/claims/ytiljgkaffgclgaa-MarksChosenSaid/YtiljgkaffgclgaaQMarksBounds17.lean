/- Contracts: what nil marks tell. -/
import Derived.Test.YtiljgkaffgclgaaQMarksBounds16
import Derived.Test.YtiljgkaffgclgaaQMarksBounds00
/- Contracts: what nil marks tell. -/
namespace Go.Proofs.Ytiljgkaffgclgaa
open Go Go.RowKit
set_option maxRecDepth 20000 in
set_option maxHeartbeats 2000000 in
theorem mkNodes0Nil (v : Value) (w : World) : Calls Try.prog 71 #[.pointer none, v] w fun x w' => x = .returned (.bool false) ∧ Grows w w' := by
  go_enter Try.func71, Try.ntmps71
  go_wp2_with fail
  all_goals go_ret
  all_goals exact ⟨rfl, (by repeat (first | exact Grows.refl _ | refine Grows.now ?_ _ | refine Grows.new ?_ _ | refine Grows.drewN ?_ _ | refine Grows.drew ?_ | assumption | (refine Grows.set ?_ (by first | omega | (simp; done) | (simp; omega)) _)))⟩
set_option maxRecDepth 20000 in
set_option maxHeartbeats 2000000 in
theorem mkBoundNil (v t : Int) (w : World) : Calls Try.prog 18 #[.pointer none, .int .i64 v, .int .i64 t] w fun x w' => x = .returned (.tuple #[.int .u64 0, .bool false]) ∧ Grows w w' := by
  have C := hide (fun (v : Value) (W : World) => mkNodes0Nil v W)
  go_enter Try.func18, Try.ntmps18
  go_wp2_with (go_at_call 71; refine (C.out _ _).mono ?_; rintro e w' ⟨rfl, hg⟩; obtain ⟨x1, rfl⟩ := hg.later; clear hg)
  refine bodyPost_ret (v := .tuple #[.int .u64 0, .bool false]) (by simp (maxDischargeDepth := 6) [results, Try.results18, go_sem, *]) rfl ?_
  exact ⟨rfl, (by repeat (first | exact Grows.refl _ | refine Grows.now ?_ _ | refine Grows.new ?_ _ | refine Grows.drewN ?_ _ | refine Grows.drew ?_ | assumption | (refine Grows.set ?_ (by first | omega | (simp; done) | (simp; omega)) _)))⟩
set_option maxRecDepth 20000 in
set_option maxHeartbeats 2000000 in
theorem mkBetweenNil (v t : Int) (w : World) : Calls Try.prog 19 #[.pointer none, .int .i64 v, .int .i64 t] w fun x w' => x = .returned (.tuple #[.int .u64 0, .int .u64 0, .bool false]) ∧ Grows w w' := by
  have C := hide (fun (W : World) => mkBoundNil v t W)
  go_enter Try.func19, Try.ntmps19
  go_wp2_with (go_at_call 18; refine (C.out _).mono ?_; rintro e w' ⟨rfl, hg⟩; obtain ⟨x1, rfl⟩ := hg.later; clear hg)
  refine bodyPost_ret (v := .tuple #[.int .u64 0, .int .u64 0, .bool false]) (by simp (maxDischargeDepth := 6) [results, Try.results19, go_sem, *]) rfl ?_
  exact ⟨rfl, (by repeat (first | exact Grows.refl _ | refine Grows.now ?_ _ | refine Grows.new ?_ _ | refine Grows.drewN ?_ _ | refine Grows.drew ?_ | assumption | (refine Grows.set ?_ (by first | omega | (simp; done) | (simp; omega)) _)))⟩
set_option maxRecDepth 20000 in
set_option maxHeartbeats 2000000 in
theorem mkBoundsNil (t : Int) (w : World) : Calls Try.prog 20 #[.pointer none, .int .i64 t] w fun x w' => x = .returned (.slice none 0 0) ∧ Grows w w' := by
  have C := hide (fun (v : Value) (W : World) => mkNodes0Nil v W)
  go_enter Try.func20, Try.ntmps20
  go_wp2_with (go_at_call 71; refine (C.out _ _).mono ?_; rintro e w' ⟨rfl, hg⟩; obtain ⟨x1, rfl⟩ := hg.later; clear hg)
  all_goals go_ret
  all_goals exact ⟨rfl, (by repeat (first | exact Grows.refl _ | refine Grows.now ?_ _ | refine Grows.new ?_ _ | refine Grows.drewN ?_ _ | refine Grows.drew ?_ | assumption | (refine Grows.set ?_ (by first | omega | (simp; done) | (simp; omega)) _)))⟩
set_option maxRecDepth 20000 in
set_option maxHeartbeats 2000000 in
theorem mkBoundOut (N : Int) (gm : Nat) (A : Option Addr) (n c : Nat) (v t : Int) (w : World) (h2 : Holds w ⟨gm, 0, none⟩ (.int .i64 N)) (h3 : Holds w ⟨gm, 1, none⟩ (.slice A n c)) (hb : (nodeB N v && nodeB N t) = false) : Calls Try.prog 18 #[.pointer (some ⟨gm, 0, none⟩), .int .i64 v, .int .i64 t] w fun x w' => x = .returned (.tuple #[.int .u64 0, .bool false]) ∧ Grows w w' := by
  have hv : (!([v, t].any fun e => !nodeB N e)) = false := by
    show (!(!nodeB N v || (!nodeB N t || false))) = false
    revert hb
    generalize nodeB N v = a
    generalize nodeB N t = b
    cases a <;> cases b <;> simp
  have C := hide (fun (B : Option Addr) (W : World) (g : Grows w W) (h : Rd W B 1 2 [.int .i64 v, .int .i64 t]) => by
    have := mkNodes0 N gm A n c B 2 2 [v, t] W ⟨g.keeps h2.cell⟩ ⟨g.keeps h3.cell⟩ h (by omega)
    rw [hv] at this
    exact this)
  clear h2 h3 hb hv
  go_enter Try.func18, Try.ntmps18
  go_wp2_with (go_at_call 71; refine (C.out _ _ (by repeat (first | exact Grows.refl _ | refine Grows.now ?_ _ | refine Grows.new ?_ _ | refine Grows.drewN ?_ _ | refine Grows.drew ?_ | assumption | (refine Grows.set ?_ (by first | omega | (simp; done) | (simp; omega)) _))) (Rd.made (w := w) (t := 3) (size := 1) (n := 2) [.int .i64 v, .int .i64 t] rfl)).mono ?_; rintro e w' ⟨rfl, hg⟩; obtain ⟨x1, rfl⟩ := (((Grows.refl w).new _).trans hg).later; clear hg)
  refine bodyPost_ret (v := .tuple #[.int .u64 0, .bool false]) (by simp (maxDischargeDepth := 6) [results, Try.results18, go_sem, *]) rfl ?_
  exact ⟨rfl, (by repeat (first | exact Grows.refl _ | refine Grows.now ?_ _ | refine Grows.new ?_ _ | refine Grows.drewN ?_ _ | refine Grows.drew ?_ | assumption | (refine Grows.set ?_ (by first | omega | (simp; done) | (simp; omega)) _)))⟩
end Go.Proofs.Ytiljgkaffgclgaa

/- Contracts: what landmarks tell between any nodes, by the program. -/
namespace Go.Proofs.Ytiljgkaffgclgaa
open Go Go.RowKit
/-- Rows of numbers, each in a block of its own. -/
def rowsV (NN : Nat) (g : Nat → Nat) (n : Nat) : List Value := (List.range n).map fun i => .slice (some ⟨g i, 0, none⟩) NN NN
theorem rowsV_at (NN : Nat) (g : Nat → Nat) {n j : Nat} (h : j < n) : (rowsV NN g n)[j]? = some (.slice (some ⟨g j, 0, none⟩) NN NN) := by simp [rowsV, h]
theorem Rd.rowsH {w : World} {A : Option Addr} {n NN : Nat} {g : Nat → Nat} (h : Rd w A 1 n (rowsV NN g n)) (hn : 0 < n) : ∃ b off, A = some ⟨b, off, none⟩ ∧ ∀ k, k < n → Holds w ⟨b, off + k, none⟩ (.slice (some ⟨g k, 0, none⟩) NN NN) := by
  obtain ⟨b, off, e, hc⟩ := h.at_ hn
  exact ⟨b, off, e, fun k hk => ⟨hc k _ (rowsV_at NN g hk)⟩⟩
/-- Marks in memory. -/
structure MkAt (w : World) (gm NN : Nat) (E : List Edg) (l : List Nat) (F T : Nat → List Nat) : Prop where
  is : ∃ A c Al cl Af cf At ct gf gt, Arr w gm 102 [.int .i64 (NN : Int), .slice A E.length c, .slice Al l.length cl, .slice Af l.length cf, .slice At l.length ct] ∧ Rd w A 3 E.length (esCells E) ∧ Rd w Al 1 l.length (nv l) ∧
    Rd w Af 1 l.length (rowsV NN gf l.length) ∧ Rd w At 1 l.length (rowsV NN gt l.length) ∧ (∀ i, i < l.length → Row1 w (gf i) 33 1 NN NN (wv (F (gn l i)))) ∧ ∀ i, i < l.length → Row1 w (gt i) 33 1 NN NN (wv (T (gn l i)))
theorem MkAt.grows {w w' : World} {gm NN : Nat} {E : List Edg} {l : List Nat} {F T : Nat → List Nat} (h : MkAt w gm NN E l F T) (g : Grows w w') : MkAt w' gm NN E l F T := by
  obtain ⟨A, c, Al, cl, Af, cf, At, ct, gf, gt, h1, h2, h3, h4, h5, h6, h7⟩ := h.is
  exact ⟨A, c, Al, cl, Af, cf, At, ct, gf, gt, h1.grow g, h2.grows g, h3.grows g, h4.grows g, h5.grows g, fun i hi => (h6 i hi).grow g, fun i hi => (h7 i hi).grow g⟩
theorem Row1.wvH {w : World} {g NN : Nat} {L : List Nat} (h : Row1 w g 33 1 NN NN (wv L)) (hl : L.length = NN) {v : Nat} (hv : v < NN) : Holds w ⟨g, v, none⟩ (.int .u64 (gn L v : Int)) :=
  ⟨(h.mine (j := v) (wv_at (by omega))).cell⟩
set_option maxRecDepth 20000 in
set_option maxHeartbeats 2000000 in
theorem mkBoundsOut (N : Int) (gm : Nat) (A : Option Addr) (n c : Nat) (t : Int) (w : World) (h2 : Holds w ⟨gm, 0, none⟩ (.int .i64 N)) (h3 : Holds w ⟨gm, 1, none⟩ (.slice A n c)) (hb : nodeB N t = false) : Calls Try.prog 20 #[.pointer (some ⟨gm, 0, none⟩), .int .i64 t] w fun x w' => x = .returned (.slice none 0 0) ∧ Grows w w' := by
  have hv : (!([t].any fun e => !nodeB N e)) = false := by simp [hb]
  have C := hide (fun (B : Option Addr) (W : World) (g : Grows w W) (h : Rd W B 1 1 [.int .i64 t]) => by
    have := mkNodes0 N gm A n c B 1 1 [t] W ⟨g.keeps h2.cell⟩ ⟨g.keeps h3.cell⟩ h (by omega)
    rw [hv] at this
    exact this)
  clear h2 h3 hb hv
  go_enter Try.func20, Try.ntmps20
  go_wp2_with (go_at_call 71; refine (C.out _ _ (by repeat (first | exact Grows.refl _ | refine Grows.now ?_ _ | refine Grows.new ?_ _ | refine Grows.drewN ?_ _ | refine Grows.drew ?_ | assumption | (refine Grows.set ?_ (by first | omega | (simp; done) | (simp; omega)) _))) (Rd.made (w := w) (t := 3) (size := 1) (n := 1) [.int .i64 t] rfl)).mono ?_; rintro e w' ⟨rfl, hg⟩; obtain ⟨x1, rfl⟩ := (((Grows.refl w).new _).trans hg).later; clear hg)
  all_goals go_ret
  all_goals exact ⟨rfl, (by repeat (first | exact Grows.refl _ | refine Grows.now ?_ _ | refine Grows.new ?_ _ | refine Grows.drewN ?_ _ | refine Grows.drew ?_ | assumption | (refine Grows.set ?_ (by first | omega | (simp; done) | (simp; omega)) _)))⟩
set_option maxRecDepth 20000 in
set_option maxHeartbeats 4000000 in
theorem mkBound (NN gm : Nat) (E : List Edg) (l : List Nat) (F T : Nat → List Nat) (hM : Mks NN E F T) (hK : MarkOk NN E l) (v t : Nat) (hv : v < NN) (ht : t < NN) (w : World) (h : MkAt w gm NN E l F T) (hl : l.length ≤ 1000000) :
    Calls Try.prog 18 #[.pointer (some ⟨gm, 0, none⟩), .int .i64 (v : Int), .int .i64 (t : Int)] w fun e w' => e = .returned (.tuple #[.int .u64 (bndT F T l v t l.length : Int), .bool true]) ∧ Grows w w' := by
  obtain ⟨A, c, Al, cl, Af, cf, At, ct, gf, gt, a0, _, _, hF, hT, hRf, hRt⟩ := h.is
  have hv2 : (!([(v : Int), (t : Int)].any fun e => !nodeB (NN : Int) e)) = true := by
    have h1 : nodeB (NN : Int) (v : Int) = true := decide_eq_true (by omega)
    have h2 : nodeB (NN : Int) (t : Int) = true := decide_eq_true (by omega)
    simp [h1, h2]
  have C := hide (fun (B : Option Addr) (W : World) (g : Grows w W) (h : Rd W B 1 2 [.int .i64 (v : Int), .int .i64 (t : Int)]) => by
    have a1 := a0.grow g
    have := mkNodes0 (NN : Int) gm A E.length c B 2 2 [(v : Int), (t : Int)] W inferInstance inferInstance h (by omega)
    rw [hv2] at this
    exact this)
  have CL := hide (fun (a b : Nat) (W : World) => mkLess a b W)
  have HN := hide hK.node
  have HF := hide hF
  have HT := hide hT
  have HRf := hide hRf
  have HRt := hide hRt
  have HM := hide (And.intro hM.flen hM.tlen)
  clear h hM hK hF hT hRf hRt hv2
  go_enter Try.func18, Try.ntmps18
  go_wp2_with (go_at_call 71; refine (C.out _ _ (by repeat (first | exact Grows.refl _ | refine Grows.now ?_ _ | refine Grows.new ?_ _ | refine Grows.drewN ?_ _ | refine Grows.drew ?_ | assumption | (refine Grows.set ?_ (by first | omega | (simp; done) | (simp; omega)) _))) (Rd.made (w := w) (t := 3) (size := 1) (n := 2) [.int .i64 (v : Int), .int .i64 (t : Int)] rfl)).mono ?_; rintro e w' ⟨rfl, hg⟩; obtain ⟨x1, rfl⟩ := (((Grows.refl w).new _).trans hg).later; clear hg)
  go_loopw [6, 21] (fun s6 s21 wr => ∃ k : Nat, k ≤ l.length ∧ s21 = .int .i64 (k : Int) ∧ s6 = .int .u64 (bndT F T l v t k : Int) ∧ ∃ y : Later w, wr = y.now) (fun _ s21 _ => l.length - (Go.RowKit.intOf s21).toNat)
  case atStart => exact ⟨0, by omega, by go_num, rfl, ⟨_, (by repeat (first | exact Grows.refl _ | refine Grows.now ?_ _ | refine Grows.new ?_ _ | refine Grows.drewN ?_ _ | refine Grows.drew ?_ | assumption | (refine Grows.set ?_ (by first | omega | (simp; done) | (simp; omega)) _)))⟩, rfl⟩
  case round =>
    obtain ⟨k, hk, rfl, rfl, y, rfl⟩ := hrel
    by_cases hlt : k < l.length
    · obtain ⟨bf, of, rfl, hcf⟩ := HF.out.rowsH (by omega)
      obtain ⟨bt, ot, rfl, hct⟩ := HT.out.rowsH (by omega)
      have c1 := hcf k hlt
      have c2 := hct k hlt
      have hnk := HN.out k hlt
      have d1 := (HRf.out k hlt).wvH (HM.out.1 _ hnk) ht
      have d2 := (HRf.out k hlt).wvH (HM.out.1 _ hnk) hv
      have d3 := (HRt.out k hlt).wvH (HM.out.2 _ hnk) hv
      have d4 := (HRt.out k hlt).wvH (HM.out.2 _ hnk) ht
      have hdk : decide ((k : Int) < (l.length : Int)) = true := decide_eq_true (by omega)
      have HS := hide (show bndT F T l v t (k + 1) = max (max (bndT F T l v t k) (lessN (gn (F (gn l k)) t) (gn (F (gn l k)) v))) (lessN (gn (T (gn l k)) v) (gn (T (gn l k)) t)) from rfl)
      obtain ⟨r1, hr1⟩ : ∃ r1, bndT F T l v t (k + 1) = r1 := ⟨_, rfl⟩
      rw [hr1] at HS
      have HR1 := hide hr1
      clear hr1 hcf hct
      generalize bndT F T l v t k = r0 at *
      generalize gn (F (gn l k)) t = p1 at *
      generalize gn (F (gn l k)) v = p2 at *
      generalize gn (T (gn l k)) v = p3 at *
      generalize gn (T (gn l k)) t = p4 at *
      generalize gf k = q1 at *
      generalize gt k = q2 at *
      go_upto_region 7 with fail
      ((first | refine wp_region_gen (by kernel_rfl) (by kernel_rfl) ?_); (repeat' (first | (refine gLex_val0 rfl (by kernel_rfl) (fun K hK => ?_); (go_simp; (try (simp only [↓IntWalk.iteOmega]; try go_simp)); (try simp (disch := omega) only [IntWalk.i64_in]); (try simp (disch := omega) only [IntWalk.u64_in]); first | (refine hK _ ?_; clear hK K) | (apply Exists.intro; refine ⟨fun x => ?_, hK _ ?_⟩; (first | (go_at_call 72; exact calls_same (CL.out _ _ _))); clear hK K))) | (refine gLex_undef rfl rfl rfl (by kernel_rfl) (fun K hK => ?_); go_simp; refine hK _ ?_; clear hK K) | (refine gLex_ask rfl rfl rfl ?_; first | (apply gAsk_yes; kernel_rfl; intro K hK; (go_simp; (try (simp only [↓IntWalk.iteOmega]; try go_simp)); (try simp (disch := omega) only [IntWalk.i64_in]); (try simp (disch := omega) only [IntWalk.u64_in]); first | (refine hK _ ?_; clear hK K) | (apply Exists.intro; refine ⟨fun x => ?_, hK _ ?_⟩; (first | (go_at_call 72; exact calls_same (CL.out _ _ _))); clear hK K))) | ((first | apply gAsk_no1 | apply gAsk_no2); kernel_rfl; intro K hK; simp [go_sem]; refine hK _ ?_; clear hK K) | (apply gAsk_part; kernel_rfl; all_goals (intro h K hK; (try simp only [Bool.not_true] at h); (try simp only [Bool.not_false] at h); (try simp only [decide_eq_true_eq] at h); (try simp only [decide_eq_false_iff_not] at h); first | (exfalso; first | contradiction | omega) | (go_simp; (try (simp only [↓IntWalk.iteOmega]; try go_simp)); (try simp (disch := omega) only [IntWalk.i64_in]); (try simp (disch := omega) only [IntWalk.u64_in]); first | (refine hK _ ?_; clear hK K) | (apply Exists.intro; refine ⟨fun x => ?_, hK _ ?_⟩; (first | (go_at_call 72; exact calls_same (CL.out _ _ _))); clear hK K))))))); all_goals ((apply gLex_end); intro x))
      go_wp2_with fail
      go_roundw
      case measure => simp [Go.RowKit.intOf]; omega
      case rel => exact ⟨k + 1, by omega, by go_num, by rw [HR1.out]; exact congrArg (Value.int .u64) (by have := HS.out; (repeat' split) <;> omega), ⟨_, (by repeat (first | exact Grows.refl _ | refine Grows.now ?_ _ | refine Grows.new ?_ _ | refine Grows.drewN ?_ _ | refine Grows.drew ?_ | assumption | (refine Grows.set ?_ (by first | omega | (simp; done) | (simp; omega)) _)))⟩, rfl⟩
    · obtain rfl : k = l.length := by omega
      have hdk : decide ((l.length : Int) < (l.length : Int)) = false := decide_eq_false (by omega)
      go_wp2_with fail
      refine bodyPost_ret (v := .tuple #[.int .u64 (bndT F T l v t l.length : Int), .bool true]) (by simp (maxDischargeDepth := 6) [results, Try.results18, go_sem, *]) rfl ?_
      exact ⟨rfl, (by repeat (first | exact Grows.refl _ | refine Grows.now ?_ _ | refine Grows.new ?_ _ | refine Grows.drewN ?_ _ | refine Grows.drew ?_ | assumption | (refine Grows.set ?_ (by first | omega | (simp; done) | (simp; omega)) _)))⟩
end Go.Proofs.Ytiljgkaffgclgaa

/- Contracts: the bounds of how far it is, by the program. -/
namespace Go.Proofs.Ytiljgkaffgclgaa
open Go Go.RowKit
set_option maxRecDepth 20000 in
set_option maxHeartbeats 2000000 in
theorem mkBetweenOut (N : Int) (gm : Nat) (A : Option Addr) (n c : Nat) (v t : Int) (w : World) (h2 : Holds w ⟨gm, 0, none⟩ (.int .i64 N)) (h3 : Holds w ⟨gm, 1, none⟩ (.slice A n c)) (hb : (nodeB N v && nodeB N t) = false) : Calls Try.prog 19 #[.pointer (some ⟨gm, 0, none⟩), .int .i64 v, .int .i64 t] w fun x w' => x = .returned (.tuple #[.int .u64 0, .int .u64 0, .bool false]) ∧ Grows w w' := by
  have C := hide (fun (W : World) (g : Grows w W) => mkBoundOut N gm A n c v t W ⟨g.keeps h2.cell⟩ ⟨g.keeps h3.cell⟩ hb)
  clear h2 h3 hb
  go_enter Try.func19, Try.ntmps19
  go_wp2_with (go_at_call 18; refine (C.out _ (by repeat (first | exact Grows.refl _ | refine Grows.now ?_ _ | refine Grows.new ?_ _ | refine Grows.drewN ?_ _ | refine Grows.drew ?_ | assumption | (refine Grows.set ?_ (by first | omega | (simp; done) | (simp; omega)) _)))).mono ?_; rintro e w' ⟨rfl, hg⟩; obtain ⟨x1, rfl⟩ := hg.later; clear hg)
  refine bodyPost_ret (v := .tuple #[.int .u64 0, .int .u64 0, .bool false]) (by simp (maxDischargeDepth := 6) [results, Try.results19, go_sem, *]) rfl ?_
  exact ⟨rfl, (by repeat (first | exact Grows.refl _ | refine Grows.now ?_ _ | refine Grows.new ?_ _ | refine Grows.drewN ?_ _ | refine Grows.drew ?_ | assumption | (refine Grows.set ?_ (by first | omega | (simp; done) | (simp; omega)) _)))⟩
set_option maxRecDepth 20000 in
set_option maxHeartbeats 4000000 in
theorem mkBetween (NN gm : Nat) (E : List Edg) (l : List Nat) (F T : Nat → List Nat) (hM : Mks NN E F T) (hK : MarkOk NN E l) (v t : Nat) (hv : v < NN) (ht : t < NN) (w : World) (h : MkAt w gm NN E l F T) (hl : l.length ≤ 1000000) :
    Calls Try.prog 19 #[.pointer (some ⟨gm, 0, none⟩), .int .i64 (v : Int), .int .i64 (t : Int)] w fun e w' => e = .returned (.tuple #[.int .u64 (bndT F T l v t l.length : Int), .int .u64 (abvT F T l v t l.length : Int), .bool true]) ∧ Grows w w' := by
  have C := hide (fun (W : World) (g : Grows w W) => mkBound NN gm E l F T hM hK v t hv ht W (h.grows g) hl)
  obtain ⟨A, c, Al, cl, Af, cf, At, ct, gf, gt, a0, _, _, hF, hT, hRf, hRt⟩ := h.is
  have HN := hide hK.node
  have HF := hide hF
  have HT := hide hT
  have HRf := hide hRf
  have HRt := hide hRt
  have HM := hide hM
  clear h hM hK hF hT hRf hRt
  obtain ⟨bv, hbv⟩ : ∃ bv, bndT F T l v t l.length = bv := ⟨_, rfl⟩
  rw [hbv] at C
  have HB := hide hbv
  clear hbv
  go_enter Try.func19, Try.ntmps19
  go_wp2_with (go_at_call 18; refine (C.out _ (by repeat (first | exact Grows.refl _ | refine Grows.now ?_ _ | refine Grows.new ?_ _ | refine Grows.drewN ?_ _ | refine Grows.drew ?_ | assumption | (refine Grows.set ?_ (by first | omega | (simp; done) | (simp; omega)) _)))).mono ?_; rintro e w' ⟨rfl, hg⟩; obtain ⟨x1, rfl⟩ := hg.later; clear hg)
  go_loopw [11, 27] (fun s11 s27 wr => ∃ k : Nat, k ≤ l.length ∧ s27 = .int .i64 (k : Int) ∧ s11 = .int .u64 (abvT F T l v t k : Int) ∧ ∃ y : Later w, wr = y.now) (fun _ s27 _ => l.length - (Go.RowKit.intOf s27).toNat)
  case atStart => exact ⟨0, by omega, by go_num, rfl, ⟨_, (by repeat (first | exact Grows.refl _ | refine Grows.now ?_ _ | refine Grows.new ?_ _ | refine Grows.drewN ?_ _ | refine Grows.drew ?_ | assumption | (refine Grows.set ?_ (by first | omega | (simp; done) | (simp; omega)) _)))⟩, rfl⟩
  case round =>
    obtain ⟨k, hk, rfl, rfl, y, rfl⟩ := hrel
    by_cases hlt : k < l.length
    · obtain ⟨bf, of, rfl, hcf⟩ := HF.out.rowsH (by omega)
      obtain ⟨bt, ot, rfl, hct⟩ := HT.out.rowsH (by omega)
      have c1 := hcf k hlt
      have c2 := hct k hlt
      have hnk := HN.out k hlt
      have d1 := (HRf.out k hlt).wvH (HM.out.flen _ hnk) ht
      have d3 := (HRt.out k hlt).wvH (HM.out.tlen _ hnk) hv
      have hdk : decide ((k : Int) < (l.length : Int)) = true := decide_eq_true (by omega)
      have HS := hide (show abvT F T l v t (k + 1) = min (abvT F T l v t k) (gn (T (gn l k)) v + gn (F (gn l k)) t) from rfl)
      have hp := HM.out.le _ t hnk ht
      have hq := HM.out.le v _ hv hnk
      rw [← HM.out.turn v _ hv hnk] at hq
      obtain ⟨r1, hr1⟩ : ∃ r1, abvT F T l v t (k + 1) = r1 := ⟨_, rfl⟩
      rw [hr1] at HS
      have HR1 := hide hr1
      clear hr1 hcf hct
      generalize abvT F T l v t k = r0 at *
      generalize gn (F (gn l k)) t = p at *
      generalize gn (T (gn l k)) v = q at *
      generalize gf k = q1 at *
      generalize gt k = q2 at *
      unfold farV at hp hq
      have HP := hide hp
      have HQ := hide hq
      obtain ⟨pi, hpi⟩ : ∃ z : Int, (p : Int) = z := ⟨_, rfl⟩
      obtain ⟨qi, hqi⟩ : ∃ z : Int, (q : Int) = z := ⟨_, rfl⟩
      rw [hpi] at d1
      rw [hqi] at d3
      have hp0 : 0 ≤ pi := by omega
      have hq0 : 0 ≤ qi := by omega
      have hp1 : pi ≤ 4611686018427387904 := by omega
      have hq1 : qi ≤ 4611686018427387904 := by omega
      have HPI := hide hpi
      have HQI := hide hqi
      clear hpi hqi hp hq
      go_upto_region 8 with fail
      ((first | refine wp_region_gen (by kernel_rfl) (by kernel_rfl) ?_); (repeat' (first | (refine gLex_val0 rfl (by kernel_rfl) (fun K hK => ?_); (go_simp; (try (simp only [↓IntWalk.iteOmega]; try go_simp)); (try simp (disch := omega) only [IntWalk.i64_in]); (try simp (disch := omega) only [IntWalk.u64_in]); first | (refine hK _ ?_; clear hK K) | (apply Exists.intro; refine ⟨fun x => ?_, hK _ ?_⟩; (first | fail); clear hK K))) | (refine gLex_undef rfl rfl rfl (by kernel_rfl) (fun K hK => ?_); go_simp; refine hK _ ?_; clear hK K) | (refine gLex_ask rfl rfl rfl ?_; first | (apply gAsk_yes; kernel_rfl; intro K hK; (go_simp; (try (simp only [↓IntWalk.iteOmega]; try go_simp)); (try simp (disch := omega) only [IntWalk.i64_in]); (try simp (disch := omega) only [IntWalk.u64_in]); first | (refine hK _ ?_; clear hK K) | (apply Exists.intro; refine ⟨fun x => ?_, hK _ ?_⟩; (first | fail); clear hK K))) | ((first | apply gAsk_no1 | apply gAsk_no2); kernel_rfl; intro K hK; simp [go_sem]; refine hK _ ?_; clear hK K) | (apply gAsk_part; kernel_rfl; all_goals (intro h K hK; (try simp only [Bool.not_true] at h); (try simp only [Bool.not_false] at h); (try simp only [decide_eq_true_eq] at h); (try simp only [decide_eq_false_iff_not] at h); first | (exfalso; first | contradiction | omega) | (go_simp; (try (simp only [↓IntWalk.iteOmega]; try go_simp)); (try simp (disch := omega) only [IntWalk.i64_in]); (try simp (disch := omega) only [IntWalk.u64_in]); first | (refine hK _ ?_; clear hK K) | (apply Exists.intro; refine ⟨fun x => ?_, hK _ ?_⟩; (first | fail); clear hK K))))))); all_goals ((apply gLex_end); intro x))
      go_wp2_with fail
      go_roundw
      case measure => simp [Go.RowKit.intOf]; omega
      case rel => exact ⟨k + 1, by omega, by go_num, by rw [HR1.out]; exact congrArg (Value.int .u64) (by have := HS.out; have := HPI.out; have := HQI.out; (repeat' split) <;> omega), ⟨_, (by repeat (first | exact Grows.refl _ | refine Grows.now ?_ _ | refine Grows.new ?_ _ | refine Grows.drewN ?_ _ | refine Grows.drew ?_ | assumption | (refine Grows.set ?_ (by first | omega | (simp; done) | (simp; omega)) _)))⟩, rfl⟩
    · obtain rfl : k = l.length := by omega
      have hdk : decide ((l.length : Int) < (l.length : Int)) = false := decide_eq_false (by omega)
      go_wp2_with fail
      refine bodyPost_ret (v := .tuple #[.int .u64 (bv : Int), .int .u64 (abvT F T l v t l.length : Int), .bool true]) (by simp (maxDischargeDepth := 6) [results, Try.results19, go_sem, *]) rfl ?_
      exact ⟨by rw [HB.out], (by repeat (first | exact Grows.refl _ | refine Grows.now ?_ _ | refine Grows.new ?_ _ | refine Grows.drewN ?_ _ | refine Grows.drew ?_ | assumption | (refine Grows.set ?_ (by first | omega | (simp; done) | (simp; omega)) _)))⟩
def bndsL (F T : Nat → List Nat) (l : List Nat) (t n : Nat) : List Nat := (List.range n).map fun v => bndT F T l v t l.length
theorem bndsL_succ (F T : Nat → List Nat) (l : List Nat) (t n : Nat) : wv (bndsL F T l t (n + 1)) = wv (bndsL F T l t n) ++ [.int .u64 (bndT F T l n t l.length : Int)] := by simp [wv, bndsL, List.range_succ]
theorem bndsL_len (F T : Nat → List Nat) (l : List Nat) (t n : Nat) : (bndsL F T l t n).length = n := by simp [bndsL]
theorem bndsL_at (F T : Nat → List Nat) (l : List Nat) (t : Nat) {n v : Nat} (h : v < n) : gn (bndsL F T l t n) v = bndT F T l v t l.length := by simp [gn, bndsL, h]
set_option maxRecDepth 20000 in
set_option maxHeartbeats 4000000 in
theorem mkBounds (NN gm : Nat) (E : List Edg) (l : List Nat) (F T : Nat → List Nat) (hM : Mks NN E F T) (hK : MarkOk NN E l) (t : Nat) (ht : t < NN) (w : World) (h : MkAt w gm NN E l F T) (hl : l.length ≤ 1000000) (hN : NN ≤ 4096) :
    Calls Try.prog 20 #[.pointer (some ⟨gm, 0, none⟩), .int .i64 (t : Int)] w fun e w' => ∃ A c, e = .returned (.slice A NN c) ∧ Rd w' A 1 NN (wv (bndsL F T l t NN)) ∧ Grows w w' := by
  have CB := hide (fun (W : World) (g : Grows w W) (v : Nat) (hv : v < NN) => mkBound NN gm E l F T hM hK v t hv ht W (h.grows g) hl)
  obtain ⟨A, c, Al, cl, Af, cf, At, ct, gf, gt, a0, _⟩ := h.is
  have hv2 : (!([(t : Int)].any fun e => !nodeB (NN : Int) e)) = true := by
    have h2 : nodeB (NN : Int) (t : Int) = true := decide_eq_true (by omega)
    simp [h2]
  have C := hide (fun (B : Option Addr) (W : World) (g : Grows w W) (h : Rd W B 1 1 [.int .i64 (t : Int)]) => by
    have a1 := a0.grow g
    have := mkNodes0 (NN : Int) gm A E.length c B 1 1 [(t : Int)] W inferInstance inferInstance h (by omega)
    rw [hv2] at this
    exact this)
  clear h hM hK hv2
  go_enter Try.func20, Try.ntmps20
  go_wp2_with (go_at_call 71; refine (C.out _ _ (by repeat (first | exact Grows.refl _ | refine Grows.now ?_ _ | refine Grows.new ?_ _ | refine Grows.drewN ?_ _ | refine Grows.drew ?_ | assumption | (refine Grows.set ?_ (by first | omega | (simp; done) | (simp; omega)) _))) (Rd.made (w := w) (t := 3) (size := 1) (n := 1) [.int .i64 (t : Int)] rfl)).mono ?_; rintro e w' ⟨rfl, hg⟩; obtain ⟨x1, rfl⟩ := (((Grows.refl w).new _).trans hg).later; clear hg)
  go_loopw [4, 21] (fun s4 s21 wr => ∃ k : Nat, k ≤ NN ∧ s21 = .int .i64 (k : Int) ∧ ∃ y : Later w, wr = y.now ∧ ∃ A' c', s4 = .slice A' k c' ∧ Own y.now w.heap.size 33 1 A' k c' (wv (bndsL F T l t k))) (fun _ s21 _ => NN - (Go.RowKit.intOf s21).toNat)
  case atStart => exact ⟨0, by omega, by go_num, ⟨_, (by repeat (first | exact Grows.refl _ | refine Grows.now ?_ _ | refine Grows.new ?_ _ | refine Grows.drewN ?_ _ | refine Grows.drew ?_ | assumption | (refine Grows.set ?_ (by first | omega | (simp; done) | (simp; omega)) _)))⟩, rfl, none, 0, rfl, Own.nil _ _ _ _⟩
  case round =>
    obtain ⟨k, hk, rfl, y, rfl, A', c', rfl, hown⟩ := hrel
    have HO := hide hown
    clear hown
    by_cases hlt : k < NN
    · have hdk : decide ((k : Int) < (NN : Int)) = true := decide_eq_true (by omega)
      have HS := hide (bndsL_succ F T l t k)
      have HL := hide (show (bndsL F T l t k).length = k from bndsL_len _ _ _ _ _)
      have CK := hide (fun (W : World) (g : Grows w W) => CB.out W g k hlt)
      generalize bndT F T l k t l.length = bv at *
      go_wp2_with (first | (go_at_call 18; refine (CK.out _ (by repeat (first | exact Grows.refl _ | refine Grows.now ?_ _ | refine Grows.new ?_ _ | refine Grows.drewN ?_ _ | refine Grows.drew ?_ | assumption | (refine Grows.set ?_ (by first | omega | (simp; done) | (simp; omega)) _)))).mono ?_; rintro e w' ⟨rfl, hg⟩; obtain ⟨x2, rfl⟩ := Grows.later hg; clear hg) | (at_builtin; refine wp_app1 elemU64.elem rfl _ _ rfl w (by repeat (first | exact Grows.refl _ | refine Grows.now ?_ _ | refine Grows.new ?_ _ | refine Grows.drewN ?_ _ | refine Grows.drew ?_ | assumption | (refine Grows.set ?_ (by first | omega | (simp; done) | (simp; omega)) _))) k c' A' _ rfl ((HO.out.now _).new _) _ _ _ rfl inferInstance rfl (by omega) ?_; intro A3 c3 y3 hown3; have HO3 := hide hown3; clear hown3))
      go_roundw
      case measure => simp [Go.RowKit.intOf]; omega
      case rel => exact ⟨k + 1, by omega, by go_num, y3, rfl, A3, c3, rfl, by rw [HS.out]; exact HO3.out⟩
    · obtain rfl : k = NN := by omega
      have hdk : decide ((k : Int) < (k : Int)) = false := decide_eq_false (by omega)
      go_wp2_with fail
      go_ret
      exact ⟨A', c', rfl, HO.out.rd, (by repeat (first | exact Grows.refl _ | refine Grows.now ?_ _ | refine Grows.new ?_ _ | refine Grows.drewN ?_ _ | refine Grows.drew ?_ | assumption | (refine Grows.set ?_ (by first | omega | (simp; done) | (simp; omega)) _)))⟩
end Go.Proofs.Ytiljgkaffgclgaa

/- Contracts: landmarks of a graph are laid, by the program. -/
namespace Go.Proofs.Ytiljgkaffgclgaa
open Go Go.RowKit
set_option maxRecDepth 20000 in
set_option maxHeartbeats 2000000 in
theorem mkNew1 (N e : Int) (b : Nat) (A : Option Addr) (n c : Nat) (w : World) (h2 : Holds w ⟨b, 0, none⟩ (.int .i64 N)) (h3 : Holds w ⟨b, 1, none⟩ (.slice A n c)) :
    Calls Try.prog 64 #[.int .i64 e, .pointer (some ⟨b, 0, none⟩)] w fun x w' => x = .returned (.bool (!nodeB N e)) ∧ Grows w w' := by
  have C := hide (fun (W : World) => gNode N e (.slice A n c) W)
  generalize nodeB N e = r at *
  go_enter Try.func64, Try.ntmps64
  go_wp2_with (go_at_call 65; refine (C.out _).mono ?_; rintro e w' ⟨rfl, hg⟩; obtain ⟨x1, rfl⟩ := hg.later; clear hg)
  all_goals go_ret
  all_goals exact ⟨rfl, (by repeat (first | exact Grows.refl _ | refine Grows.now ?_ _ | refine Grows.new ?_ _ | refine Grows.drewN ?_ _ | refine Grows.drew ?_ | assumption | (refine Grows.set ?_ (by first | omega | (simp; done) | (simp; omega)) _)))⟩
/-- Why landmarks may not be; 0: they may. -/
def mkF (N : Int) (E : List Edg) (l : List Int) : Int := if rightF N E ≠ 0 then 1 else if (l.any fun e => !nodeB N e) = true then 7 else if 64 < l.length then 5 else 0
set_option maxRecDepth 20000 in
set_option maxHeartbeats 4000000 in
theorem mkNewNo (N : Int) (A : Option Addr) (c : Nat) (E : List Edg) (B : Option Addr) (cl : Nat) (l : List Int) (w : World) (h : Rd w A 3 E.length (esCells E)) (hE : E.length ≤ 1000000) (h2 : Rd w B 1 l.length (l.map (.int .i64))) (hl : l.length ≤ 1000000) (hf : mkF N E l ≠ 0) :
    Calls Try.prog 15 #[.agg #[.int .i64 N, .slice A E.length c], .slice B l.length cl] w fun e w' => e = .returned (.tuple #[.pointer none, .int .i64 (mkF N E l)]) ∧ Grows w w' := by
  have C1 := hide (fun (W : World) (g : Grows w W) => gRight N A E.length c E W (h.grows g) hE)
  have C2 := hide (fun (W : World) (g : Grows w W) (b : Nat) (h1 : Holds W ⟨b, 0, none⟩ (.int .i64 N)) (h3 : Holds W ⟨b, 1, none⟩ (.slice A E.length c)) => show Calls Try.prog 63 #[.slice B l.length cl, .func (.func 64) #[] #[.pointer (some ⟨b, 0, none⟩)]] W fun e w' => e = .returned (.bool (l.any fun e => !nodeB N e)) ∧ Grows W w' from
    containsI B l.length cl l 64 #[.pointer (some ⟨b, 0, none⟩)] (fun e => !nodeB N e) W (h2.grows g) hl (fun args W => by kernel_rfl) (fun W2 g2 e => mkNew1 N e b A E.length c W2 ⟨g2.keeps h1.cell⟩ ⟨g2.keeps h3.cell⟩))
  clear h h2
  by_cases h1 : rightF N E = 0
  · rw [h1] at C1
    by_cases h3 : (l.any fun e => !nodeB N e) = true
    · have HV := hide (show mkF N E l = 7 by unfold mkF; rw [if_neg (by omega), if_pos h3])
      rw [h3] at C2
      clear hf h1 h3
      go_enter Try.func15, Try.ntmps15
      go_wp2_with (first | (go_at_call 62; refine (C1.out _ (by repeat (first | exact Grows.refl _ | refine Grows.now ?_ _ | refine Grows.new ?_ _ | refine Grows.drewN ?_ _ | refine Grows.drew ?_ | assumption | (refine Grows.set ?_ (by first | omega | (simp; done) | (simp; omega)) _)))).mono ?_; rintro e w' ⟨rfl, hg⟩; obtain ⟨x1, rfl⟩ := hg.later; clear hg) | (go_at_call 63; refine (C2.out _ (by repeat (first | exact Grows.refl _ | refine Grows.now ?_ _ | refine Grows.new ?_ _ | refine Grows.drewN ?_ _ | refine Grows.drew ?_ | assumption | (refine Grows.set ?_ (by first | omega | (simp; done) | (simp; omega)) _))) _ inferInstance inferInstance).mono ?_; rintro e w' ⟨rfl, hg⟩; obtain ⟨x2, rfl⟩ := hg.later; clear hg))
      refine bodyPost_ret (v := .tuple #[.pointer none, .int .i64 7]) (by simp (maxDischargeDepth := 6) [results, Try.results15, go_sem, *]) rfl ?_
      exact ⟨by rw [HV.out], (by repeat (first | exact Grows.refl _ | refine Grows.now ?_ _ | refine Grows.new ?_ _ | refine Grows.drewN ?_ _ | refine Grows.drew ?_ | assumption | (refine Grows.set ?_ (by first | omega | (simp; done) | (simp; omega)) _)))⟩
    · have h3' : (l.any fun e => !nodeB N e) = false := by simpa using h3
      have h4 : 64 < l.length := by
        unfold mkF at hf
        rw [if_neg (by omega), if_neg h3] at hf
        by_cases h5 : 64 < l.length
        · exact h5
        · rw [if_neg h5] at hf; exact absurd rfl hf
      have HV := hide (show mkF N E l = 5 by unfold mkF; rw [if_neg (by omega), if_neg h3, if_pos h4])
      rw [h3'] at C2
      have hd : decide ((64 : Int) < (l.length : Int)) = true := decide_eq_true (by omega)
      clear hf h1 h3 h3'
      go_enter Try.func15, Try.ntmps15
      go_wp2_with (first | (go_at_call 62; refine (C1.out _ (by repeat (first | exact Grows.refl _ | refine Grows.now ?_ _ | refine Grows.new ?_ _ | refine Grows.drewN ?_ _ | refine Grows.drew ?_ | assumption | (refine Grows.set ?_ (by first | omega | (simp; done) | (simp; omega)) _)))).mono ?_; rintro e w' ⟨rfl, hg⟩; obtain ⟨x1, rfl⟩ := hg.later; clear hg) | (go_at_call 63; refine (C2.out _ (by repeat (first | exact Grows.refl _ | refine Grows.now ?_ _ | refine Grows.new ?_ _ | refine Grows.drewN ?_ _ | refine Grows.drew ?_ | assumption | (refine Grows.set ?_ (by first | omega | (simp; done) | (simp; omega)) _))) _ inferInstance inferInstance).mono ?_; rintro e w' ⟨rfl, hg⟩; obtain ⟨x2, rfl⟩ := hg.later; clear hg))
      refine bodyPost_ret (v := .tuple #[.pointer none, .int .i64 5]) (by simp (maxDischargeDepth := 6) [results, Try.results15, go_sem, *]) rfl ?_
      exact ⟨by rw [HV.out], (by repeat (first | exact Grows.refl _ | refine Grows.now ?_ _ | refine Grows.new ?_ _ | refine Grows.drewN ?_ _ | refine Grows.drew ?_ | assumption | (refine Grows.set ?_ (by first | omega | (simp; done) | (simp; omega)) _)))⟩
  · have HV := hide (show mkF N E l = 1 by unfold mkF; rw [if_pos h1])
    have hr2 : (rightF N E == 0) = false := beq_eq_false_iff_ne.2 h1
    clear hf h1
    generalize rightF N E = r at *
    go_enter Try.func15, Try.ntmps15
    go_wp2_with (first | (go_at_call 62; refine (C1.out _ (by repeat (first | exact Grows.refl _ | refine Grows.now ?_ _ | refine Grows.new ?_ _ | refine Grows.drewN ?_ _ | refine Grows.drew ?_ | assumption | (refine Grows.set ?_ (by first | omega | (simp; done) | (simp; omega)) _)))).mono ?_; rintro e w' ⟨rfl, hg⟩; obtain ⟨x1, rfl⟩ := hg.later; clear hg))
    refine bodyPost_ret (v := .tuple #[.pointer none, .int .i64 1]) (by simp (maxDischargeDepth := 6) [results, Try.results15, go_sem, *]) rfl ?_
    exact ⟨by rw [HV.out], (by repeat (first | exact Grows.refl _ | refine Grows.now ?_ _ | refine Grows.new ?_ _ | refine Grows.drewN ?_ _ | refine Grows.drew ?_ | assumption | (refine Grows.set ?_ (by first | omega | (simp; done) | (simp; omega)) _)))⟩
end Go.Proofs.Ytiljgkaffgclgaa

/- A region that draws its order, by an invariant: what is known while some of its operations are done. -/
namespace Go.Proofs.Ytiljgkaffgclgaa
open Go
section
variable {P : Program}
theorem ready_mem {md : Region.Mode} {ops : Array Oper} {listed : Array Bool} {i : Nat} : i ∈ Region.ready md ops listed ↔ i < ops.size ∧ listed.getD i true = false ∧ ∃ o, ops[i]? = some o ∧ ∀ e ∈ o.after, Region.binds md e = true → listed.getD e.on false = true := by
  unfold Region.ready
  rw [List.mem_filter, List.mem_range]
  constructor
  · rintro ⟨h1, h2⟩
    rw [Bool.and_eq_true, Bool.not_eq_true'] at h2
    refine ⟨h1, h2.1, ops[i], by simp [h1], fun e he hb => ?_⟩
    have h3 := h2.2
    simp only [Array.getElem?_eq_getElem h1, Option.map_some, Option.getD_some, Array.all_eq_true'] at h3
    have := h3 e he
    rw [hb] at this
    simpa using this
  · rintro ⟨h1, h2, o, h3, h4⟩
    refine ⟨h1, ?_⟩
    rw [h2, h3]
    simp only [Bool.not_false, Bool.true_and, Option.map_some, Option.getD_some, Array.all_eq_true']
    intro e he
    cases hb : Region.binds md e
    · rfl
    · simpa using h4 e he hb
/-- Each edge leads back in the text. -/
def backB (l : List Oper) : Bool := (List.range l.length).all fun i => match l[i]? with | some o => o.after.all fun e => !Region.binds .any e || decide (e.on < i) | none => true
theorem backB_spec {l : List Oper} (h : backB l = true) {i : Nat} {o : Oper} (ho : l[i]? = some o) {e : Edge} (he : e ∈ o.after) (hb : Region.binds .any e = true) : e.on < i := by
  unfold backB at h
  rw [List.all_eq_true] at h
  have hi : i < l.length := (List.getElem?_eq_some_iff.1 ho).1
  have := h i (by simpa using hi)
  rw [ho] at this
  simp only [Array.all_eq_true'] at this
  have := this e he
  rw [hb] at this
  simpa using this
theorem all_listed {l : List Oper} (hB : backB l = true) {listed : Array Bool} (hs : listed.size = l.length) (h : Region.ready .any l.toArray listed = []) : ∀ n j, j < n → j < l.length → listed.getD j true = true := by
  intro n
  induction n with
  | zero => intro j hj; omega
  | succ n ih =>
    intro j hj hl
    by_cases hjn : j < n
    · exact ih j hjn hl
    · cases hd : listed.getD j true with
      | true => rfl
      | false =>
        exfalso
        have : j ∈ Region.ready .any l.toArray listed := ready_mem.2 ⟨by simpa using hl, hd, l[j], by simp [hl], fun e he hb => by
          have h1 := backB_spec hB (i := j) (o := l[j]) (by simp [hl]) he hb
          have h2 := ih e.on (by omega) (by omega)
          have h3 : e.on < listed.size := by omega
          simp only [Array.getD, h3, dite_true] at h2 ⊢
          exact h2⟩
        rw [h] at this
        cases this
variable {l : List Oper} {Q : Exit → Act → World → Prop}
theorem set_getD (listed : Array Bool) (i : Nat) (hi : i < listed.size) : (fun j => (listed.setIfInBounds i true).getD j true) = fun j => if j = i then true else listed.getD j true := by
  funext j
  by_cases h : j = i
  · subst h; simp [Array.getD, hi]
  · rw [if_neg h]
    simp only [Array.getD, Array.size_setIfInBounds]
    by_cases hj : j < listed.size
    · simp [hj, Array.getElem_setIfInBounds, Ne.symm h]
    · simp [hj]
theorem wpAny_inv (hB : backB l = true) (I : (Nat → Bool) → Act → World → Prop)
    (hs : ∀ D a w, I D a w → ∀ i o, l[i]? = some o → D i = false → (∀ e ∈ o.after, Region.binds .any e = true → D e.on = true) → ∀ K : Act → World → Prop, (∀ a' w', I (fun j => if j = i then true else D j) a' w' → K a' w') →
      if Region.wanted o (yielded l.toArray a.tmps) = true then Oper.wp P o a w K Q else K (a.put o.dst undef) w)
    (he : ∀ D a w, I D a w → (∀ j, j < l.length → D j = true) → Q .normal a w) :
    ∀ (fuel : Nat) (listed : Array Bool) (a : Act) (w : World), listed.size = l.length → listed.toList.count false ≤ fuel → I (fun j => listed.getD j true) a w → wpAny P .any l.toArray Q fuel listed a w
  | 0, listed, a, w, hl, hc, hI => by
    have hall : ∀ j, j < l.length → listed.getD j true = true := fun j hj => by
      have h0 : listed.toList.count false = 0 := by omega
      rw [List.count_eq_zero] at h0
      have h1 : j < listed.size := by omega
      cases hd : listed.getD j true with
      | true => rfl
      | false =>
        exfalso
        simp only [Array.getD, h1, dite_true] at hd
        exact h0 (by rw [← hd]; simp)
    refine ⟨?_, he _ a w hI hall⟩
    rw [List.eq_nil_iff_forall_not_mem]
    intro i hi
    obtain ⟨h1, h2, _⟩ := ready_mem.1 hi
    rw [hall i (by simpa using h1)] at h2
    cases h2
  | fuel + 1, listed, a, w, hl, hc, hI => by
    refine ⟨fun hn => he _ a w hI fun j hj => all_listed hB hl hn (j + 1) j (by omega) hj, fun i hi => ?_⟩
    obtain ⟨h1, h2, o, h3, h4⟩ := ready_mem.1 hi
    have hil : i < listed.size := by rw [hl]; simpa using h1
    have hst := hs _ a w hI i o (by simpa using h3) h2 (fun e he hb => by
      have := h4 e he hb
      by_cases hj : e.on < listed.size
      · simp only [Array.getD, hj, dite_true] at this ⊢; exact this
      · simp [Array.getD, hj]) (wpAny P .any l.toArray Q fuel (listed.setIfInBounds i true)) (fun a' w' hI' => by
      refine wpAny_inv hB I hs he fuel _ a' w' (by simpa using hl) ?_ (by rw [set_getD listed i hil]; exact hI')
      have hd : listed[i] = false := by have h9 := h2; simp only [Array.getD, hil, dite_true] at h9; exact h9
      have : (listed.setIfInBounds i true).toList = listed.toList.set i true := by simp
      rw [this, List.count_set (by simpa using hil)]
      have e1 : listed.toList[i]'(by simpa using hil) = false := by simpa using hd
      rw [e1]
      have : 0 < listed.toList.count false := List.count_pos_iff.2 (by rw [← e1]; exact List.getElem_mem _)
      simp
      simp at hc this
      omega)
    unfold wpOp
    rw [h3]
    simp only
    split
    · rename_i hw
      rw [if_pos hw] at hst
      exact .inl hst
    · rename_i hw
      rw [if_neg hw] at hst
      exact hst
/-- The law. -/
theorem wp_region_inv {id : Nat} {a : Act} {w : World} (hm : P.follows .mixedOrders = true) (hB : backB l = true) (I : (Nat → Bool) → Act → World → Prop) (h0 : I (fun j => decide (l.length ≤ j)) a w.drew)
    (hs : ∀ D a w, I D a w → ∀ i o, l[i]? = some o → D i = false → (∀ e ∈ o.after, Region.binds .any e = true → D e.on = true) → ∀ K : Act → World → Prop, (∀ a' w', I (fun j => if j = i then true else D j) a' w' → K a' w') →
      if Region.wanted o (yielded l.toArray a.tmps) = true then Oper.wp P o a w K Q else K (a.put o.dst undef) w)
    (he : ∀ D a w, I D a w → (∀ j, j < l.length → D j = true) → Q .normal a w) : (Code.region id l.toArray true).wp P Q a w := by
  refine wp_region_any hm ?_
  refine wpAny_inv hB I hs he _ _ a _ (by simp) (by simp) ?_
  have : (fun j => (Array.replicate l.toArray.size false).getD j true) = fun j => decide (l.length ≤ j) := by
    funext j
    by_cases hj : j < l.length
    · simp [Array.getD, hj]
    · simp [Array.getD, hj]; omega
  rw [this]
  exact h0
/-- The slot that an operation writes. -/
def dstOf (l : List Oper) (j : Nat) : Option Tmp := (l[j]?).bind (·.dst)
/-- No slot is written twice. -/
def injB (l : List Oper) : Bool := (List.range l.length).all fun i => (List.range l.length).all fun j => decide (i = j) || decide (dstOf l i = none) || decide (dstOf l i ≠ dstOf l j)
theorem injB_spec (h : injB l = true) {i j : Nat} {t : Tmp} (hi : dstOf l i = some t) (hj : dstOf l j = some t) : i = j := by
  have lt : ∀ {k : Nat}, dstOf l k = some t → k < l.length := fun {k} hk => by
    rcases Nat.lt_or_ge k l.length with h | h
    · exact h
    · rw [dstOf, List.getElem?_eq_none h] at hk; cases hk
  unfold injB at h
  rw [List.all_eq_true] at h
  have h1 := h i (by simpa using lt hi)
  rw [List.all_eq_true] at h1
  have h2 := h1 j (by simpa using lt hj)
  simp only [Bool.or_eq_true, decide_eq_true_eq] at h2
  rcases h2 with (h2 | h2) | h2
  · exact h2
  · rw [hi] at h2; cases h2
  · rw [hi, hj] at h2; exact absurd rfl h2
/-- What the slots hold while some operations are done: g j, what operation j has yielded. -/
structure TabI (l : List Oper) (a0 : Act) (D : Nat → Bool) (g : Nat → Value) (a : Act) : Prop where
  d : a.defers = a0.defers
  n : a.tmps.size = a0.tmps.size
  out : ∀ t, (∀ j, dstOf l j ≠ some t) → a.eval (.tmp t) = a0.eval (.tmp t)
  at_ : ∀ j t, dstOf l j = some t → D j = true → a.eval (.tmp t) = g j
theorem put_eval (a : Act) (t s : Tmp) (v : Value) (ht : t < a.tmps.size) : (a.put (some t) v).eval (.tmp s) = if s = t then v else a.eval (.tmp s) := by
  show (a.tmps.setIfInBounds t v).getD s undef = if s = t then v else a.tmps.getD s undef
  by_cases h : s = t
  · subst h
    simp [Array.getD, ht]
  · rw [if_neg h]
    simp only [Array.getD, Array.size_setIfInBounds]
    by_cases hs : s < a.tmps.size
    · simp [hs, Array.getElem_setIfInBounds, Ne.symm h]
    · simp [hs]
def updG (g : Nat → Value) (i : Nat) (v : Value) : Nat → Value := fun j => if j = i then v else g j
theorem TabI.put {a0 : Act} {D : Nat → Bool} {g : Nat → Value} {a : Act} (hJ : injB l = true) (h : TabI l a0 D g a) {i : Nat} {o : Oper} (ho : l[i]? = some o) (hsz : ∀ t, o.dst = some t → t < a0.tmps.size) (v : Value) :
    TabI l a0 (fun j => if j = i then true else D j) (updG g i v) (a.put o.dst v) := by
  have hd : dstOf l i = o.dst := by simp [dstOf, ho]
  cases hdst : o.dst with
  | none =>
    refine ⟨h.d, h.n, h.out, fun j t hj hD => ?_⟩
    have hji : j ≠ i := fun e => by rw [e, hd, hdst] at hj; cases hj
    simp only [updG, if_neg hji] at hD ⊢
    exact h.at_ j t hj hD
  | some s =>
    have hs : s < a.tmps.size := by rw [h.n]; exact hsz s hdst
    refine ⟨h.d, by simpa [Act.put] using h.n, fun t ht => ?_, fun j t hj hD => ?_⟩
    · rw [put_eval _ _ _ _ hs, if_neg (fun e => by subst e; exact ht i (by rw [hd, hdst]))]
      exact h.out t ht
    · rw [put_eval _ _ _ _ hs]
      by_cases hji : j = i
      · subst hji
        rw [hd, hdst] at hj
        injection hj with hj
        rw [if_pos hj.symm]
        simp [updG]
      · simp only [updG, if_neg hji] at hD ⊢
        rw [if_neg (fun e => by subst e; exact hji (injB_spec hJ hj (by rw [hd, hdst])))]
        exact h.at_ j t hj hD
/-- All slots of the region, set. -/
def putAll (l : List Oper) (g : Nat → Value) (a0 : Act) : Nat → Act
  | 0 => a0
  | k + 1 => (putAll l g a0 k).put (dstOf l k) (g k)
theorem putAll_size (l : List Oper) (g : Nat → Value) (a0 : Act) : ∀ k, (putAll l g a0 k).tmps.size = a0.tmps.size
  | 0 => rfl
  | k + 1 => by
    have ih := putAll_size l g a0 k
    simp only [putAll]
    cases dstOf l k with
    | none => exact ih
    | some t => simpa [Act.put] using ih
theorem putAll_defers (l : List Oper) (g : Nat → Value) (a0 : Act) : ∀ k, (putAll l g a0 k).defers = a0.defers
  | 0 => rfl
  | k + 1 => by
    have ih := putAll_defers l g a0 k
    simp only [putAll]
    cases dstOf l k with
    | none => exact ih
    | some t => exact ih
theorem putAll_eval (hJ : injB l = true) (g : Nat → Value) (a0 : Act) (hsz : ∀ j t, dstOf l j = some t → t < a0.tmps.size) (t : Tmp) : ∀ k, (∀ j, j < k → dstOf l j = some t → (putAll l g a0 k).eval (.tmp t) = g j) ∧ ((∀ j, j < k → dstOf l j ≠ some t) → (putAll l g a0 k).eval (.tmp t) = a0.eval (.tmp t))
  | 0 => ⟨fun j hj => absurd hj (by omega), fun _ => rfl⟩
  | k + 1 => by
    obtain ⟨ih1, ih2⟩ := putAll_eval hJ g a0 hsz t k
    simp only [putAll]
    cases hk : dstOf l k with
    | none =>
      refine ⟨fun j hj hd => ?_, fun h => ih2 fun j hj => h j (by omega)⟩
      by_cases e : j = k
      · subst e; rw [hk] at hd; cases hd
      · exact ih1 j (by omega) hd
    | some s =>
      have hs : s < (putAll l g a0 k).tmps.size := by rw [putAll_size]; exact hsz k s hk
      refine ⟨fun j hj hd => ?_, fun h => ?_⟩
      · rw [put_eval _ _ _ _ hs]
        by_cases e : j = k
        · subst e
          rw [hk] at hd
          injection hd with hd
          rw [if_pos hd.symm]
        · rw [if_neg (fun e2 => by subst e2; exact e (injB_spec hJ hd hk))]
          exact ih1 j (by omega) hd
      · rw [put_eval _ _ _ _ hs, if_neg (fun e => by subst e; exact h k (by omega) hk)]
        exact ih2 fun j hj => h j (by omega)
theorem TabI.all {a0 : Act} {D : Nat → Bool} {g : Nat → Value} {a : Act} (hJ : injB l = true) (h : TabI l a0 D g a) (hD : ∀ j, j < l.length → D j = true) (hsz : ∀ j t, dstOf l j = some t → t < a0.tmps.size) : a = putAll l g a0 l.length := by
  have key : ∀ t : Nat, a.eval (.tmp t) = (putAll l g a0 l.length).eval (.tmp t) := fun t => by
    obtain ⟨h1, h2⟩ := putAll_eval hJ g a0 hsz t l.length
    by_cases hj : ∃ j, j < l.length ∧ dstOf l j = some t
    · obtain ⟨j, hj, hd⟩ := hj
      rw [h1 j hj hd]
      exact h.at_ j t hd (hD j hj)
    · have hn : ∀ j, dstOf l j ≠ some t := fun j hd => hj ⟨j, (by
        rcases Nat.lt_or_ge j l.length with h | h
        · exact h
        · rw [dstOf, List.getElem?_eq_none h] at hd; cases hd), hd⟩
      rw [h2 fun j _ => hn j]
      exact h.out t hn
  have e1 : a.tmps = (putAll l g a0 l.length).tmps := by
    refine Array.ext (by rw [h.n, putAll_size]) fun t h1 h2 => ?_
    have := key t
    simp only [Act.eval, Array.getD, h1, h2, dite_true] at this
    exact this
  have e2 : a.defers = (putAll l g a0 l.length).defers := by rw [h.d, putAll_defers]
  cases a
  simp only at e1 e2
  subst e1 e2
  rfl
/-- Does operation i wait for operation j? -/
def waitB (l : List Oper) (i j : Nat) : Bool := match l[i]? with | some o => o.after.any fun e => decide (e.on = j) && Region.binds .any e | none => false
theorem waitB_spec {i j : Nat} {o : Oper} (ho : l[i]? = some o) (h : waitB l i j = true) : ∃ e ∈ o.after, e.on = j ∧ Region.binds .any e = true := by
  unfold waitB at h
  rw [ho] at h
  simp only [Array.any_eq_true'] at h
  obtain ⟨e, he, h⟩ := h
  rw [Bool.and_eq_true, decide_eq_true_eq] at h
  exact ⟨e, he, h.1, h.2⟩
/-- The law, by a table of what the operations have yielded. -/
theorem wp_region_tab {id : Nat} {a0 : Act} {w : World} (hm : P.follows .mixedOrders = true) (hB : backB l = true) (hJ : injB l = true) (hsz : ((List.range l.length).all fun j => match dstOf l j with | some t => decide (t < a0.tmps.size) | none => true) = true)
    (J : (Nat → Bool) → (Nat → Value) → World → Prop) (h0 : J (fun j => decide (l.length ≤ j)) (fun _ => undef) w.drew)
    (hs : ∀ D g a w, TabI l a0 D g a → J D g w → (∀ i j, D i = true → waitB l i j = true → D j = true) → ∀ i o, l[i]? = some o → D i = false → (∀ j, waitB l i j = true → D j = true) → ∀ K : Act → World → Prop, (∀ v w', J (fun j => if j = i then true else D j) (updG g i v) w' → K (a.put o.dst v) w') →
      if Region.wanted o (yielded l.toArray a.tmps) = true then Oper.wp P o a w K Q else K (a.put o.dst undef) w)
    (he : ∀ D g w, J D g w → (∀ j, j < l.length → D j = true) → Q .normal (putAll l g a0 l.length) w) : (Code.region id l.toArray true).wp P Q a0 w := by
  have hsz' : ∀ j t, dstOf l j = some t → t < a0.tmps.size := fun j t hd => by
    have hj : j < l.length := by
      rcases Nat.lt_or_ge j l.length with h | h
      · exact h
      · rw [dstOf, List.getElem?_eq_none h] at hd; cases hd
    rw [List.all_eq_true] at hsz
    have := hsz j (by simpa using hj)
    rw [hd] at this
    simpa using this
  refine wp_region_inv hm hB (fun D a w => (∃ g, TabI l a0 D g a ∧ J D g w) ∧ ∀ i j, D i = true → waitB l i j = true → D j = true) ⟨⟨fun _ => undef, ⟨rfl, rfl, fun _ _ => rfl, fun j t hd hD => ?_⟩, h0⟩, fun i j hD hE => ?_⟩ ?_ ?_
  · exfalso
    rw [decide_eq_true_eq] at hD
    rw [dstOf, List.getElem?_eq_none hD] at hd
    cases hd
  · exfalso
    rw [decide_eq_true_eq] at hD
    unfold waitB at hE
    rw [List.getElem?_eq_none hD] at hE
    cases hE
  · rintro D a w ⟨⟨g, ht, hj⟩, hcl⟩ i o ho hD hpre K hK
    have hpre' : ∀ j, waitB l i j = true → D j = true := fun j hE => by
      obtain ⟨e, he, rfl, hb⟩ := waitB_spec ho hE
      exact hpre e he hb
    refine hs D g a w ht hj hcl i o ho hD hpre' K fun v w' hj' => hK _ _ ⟨⟨_, ht.put hJ ho (fun t hd => hsz' i t (by simp [dstOf, ho, hd])) v, hj'⟩, fun i' j hDi hE => ?_⟩
    show (if j = i then true else D j) = true
    by_cases e : j = i
    · rw [if_pos e]
    · rw [if_neg e]
      by_cases e2 : i' = i
      · subst e2; exact hpre' j hE
      · have hDi' : (if i' = i then true else D i') = true := hDi
        rw [if_neg e2] at hDi'
        exact hcl i' j hDi' hE
  · rintro D a w ⟨⟨g, ht, hj⟩, _⟩ hD
    rw [ht.all hJ hD hsz']
    exact he D g w hj hD
end
end Go.Proofs.Ytiljgkaffgclgaa
