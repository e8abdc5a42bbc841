/- The law MarksChosen: for every input it returns true, and each argument reads as before. No condition. -/
import Derived.Test.YtiljgkaffgclgaaQAstarSound03
import Derived.Test.YtiljgkaffgclgaaQMarksChosen00
import Derived.Test.YtiljgkaffgclgaaQMarksChosen01
import Derived.Test.YtiljgkaffgclgaaQMarksBounds19
import Derived.Test.YtiljgkaffgclgaaQMarksBounds15
/- Contract: how far it is, by landmarks. -/
namespace Go.Proofs.Ytiljgkaffgclgaa
open Go Go.RowKit
attribute [local go_sem] Oper.semAt_some
theorem bnds_ain {NN : Nat} {E : List Edg} {F T : Nat → List Nat} {l : List Nat} {t : Nat} (hM : Mks NN E F T) (hK : MarkOk NN E l) (ht : t < NN) : AIn (srchOf NN E (allO false)) (bndsL F T l t NN) 4294967296 :=
  cons_in hK.right (fun i hi => by
    obtain ⟨hf, hto, _, _⟩ := hM.hop hK.right hi
    have h1 := bnd_step (l := l) hM hK.right hi ht l.length (Nat.le_refl _) hK.node
    have h2 := rightF_wt hK.right hi
    rw [bndsL_at F T l t hf, bndsL_at F T l t hto]
    omega) (fun v hv => by
    rw [bndsL_at F T l t hv]
    exact bnd_top (l := l) hM hK.right hv ht l.length (Nat.le_refl _) hK.node)
set_option maxRecDepth 20000 in
set_option maxHeartbeats 4000000 in
theorem mkDistOut (N : Int) (gm : Nat) (A : Option Addr) (n c : Nat) (s t : Int) (w : World) (h2 : Holds w ⟨gm, 0, none⟩ (.int .i64 N)) (h3 : Holds w ⟨gm, 1, none⟩ (.slice A n c)) (hb : (nodeB N s && nodeB N t) = false) :
    Calls Try.prog 26 #[.pointer (some ⟨gm, 0, none⟩), .int .i64 s, .int .i64 t] w fun e w' => e = .returned (.tuple #[.agg #[.int .u64 0, .int .i64 0], .int .i64 7]) ∧ Grows w w' := by
  have hv : (!([s, t].any fun e => !nodeB N e)) = false := by
    simp only [List.any_cons, List.any_nil, Bool.or_false]
    cases h1 : nodeB N s <;> cases h2 : nodeB N t <;> simp [h1, h2] at hb ⊢
  have C := hide (fun (B : Option Addr) (W : World) (g : Grows w W) (h : Rd W B 1 2 [.int .i64 s, .int .i64 t]) => by
    have := mkNodes0 N gm A n c B 2 2 [s, t] W ⟨g.keeps h2.cell⟩ ⟨g.keeps h3.cell⟩ h (by omega)
    rw [hv] at this
    exact this)
  clear h2 h3 hb hv
  go_enter Try.func26, Try.ntmps26
  go_wp2_with fail
  have hrd : Rd ((w.alloc (.cells #[.int .u64 0, .int .i64 0] 50)).alloc (.cells #[.int .i64 s, .int .i64 t] 3)) (some ⟨w.heap.size + 1, 0, none⟩) 1 2 [.int .i64 s, .int .i64 t] := by
    have h3 := Rd.made (w := w.alloc (.cells #[.int .u64 0, .int .i64 0] 50)) (t := 3) (size := 1) (n := 2) [.int .i64 s, .int .i64 t] rfl
    rw [show (w.alloc (.cells #[.int .u64 0, .int .i64 0] 50)).heap.size = w.heap.size + 1 by simp] at h3
    exact h3
  refine (C.out _ _ (by repeat (first | exact Grows.refl _ | refine Grows.now ?_ _ | refine Grows.new ?_ _ | refine Grows.drewN ?_ _ | refine Grows.drew ?_ | assumption | (refine Grows.set ?_ (by first | omega | (simp; done) | (simp; omega)) _))) hrd).mono ?_; rintro e w' ⟨rfl, hg⟩; obtain ⟨x1, rfl⟩ := hg.later; clear hg
  go_wp2_with fail
  refine bodyPost_ret (v := .tuple #[.agg #[.int .u64 0, .int .i64 0], .int .i64 7]) (by simp (maxDischargeDepth := 6) [results, Try.results26, go_sem, *]) rfl ?_
  exact ⟨rfl, (by repeat (first | exact Grows.refl _ | refine Grows.now ?_ _ | refine Grows.new ?_ _ | refine Grows.drewN ?_ _ | refine Grows.drew ?_ | assumption | (refine Grows.set ?_ (by first | omega | (simp; done) | (simp; omega)) _)))⟩
set_option maxRecDepth 20000 in
set_option maxHeartbeats 4000000 in
theorem mkDistW (NN gm : Nat) (E : List Edg) (l : List Nat) (F T : Nat → List Nat) (hM : Mks NN E F T) (hK : MarkOk NN E l) (s t : Nat) (hs : s < NN) (ht : t < NN) (xs : List (Nat × Nat)) (w : World) (h : MkAt w gm NN E l F T) (hl : l.length ≤ 1000000)
    (htr : TraceA (srchOf NN E (allO false)) (bndsL F T l t NN) t (reachA (bndsL F T l t NN) (st0 NN) s 0) xs) (hen : EndA (srchOf NN E (allO false)) s t xs) (hle : xs.length ≤ NN) :
    Calls Try.prog 26 #[.pointer (some ⟨gm, 0, none⟩), .int .i64 (s : Int), .int .i64 (t : Int)] w (GiveW t xs w) := by
  have hN : NN ≤ 4096 := by have := (right_in hK.right).2.1; omega
  have hv2 : (!([(s : Int), (t : Int)].any fun e => !nodeB (NN : Int) e)) = true := by
    have h1 : nodeB (NN : Int) (s : Int) = true := decide_eq_true (by omega)
    have h2 : nodeB (NN : Int) (t : Int) = true := decide_eq_true (by omega)
    simp [h1, h2]
  obtain ⟨A, c, Al, cl, Af, cf, At, ct, gf, gt, a0, hE, _⟩ := h.is
  have C := hide (fun (B : Option Addr) (W : World) (g : Grows w W) (h : Rd W B 1 2 [.int .i64 (s : Int), .int .i64 (t : Int)]) => by
    have a1 := a0.grow g
    have := mkNodes0 (NN : Int) gm A E.length c B 2 2 [(s : Int), (t : Int)] W inferInstance inferInstance h (by omega)
    rw [hv2] at this
    exact this)
  have C1 := hide (fun (W : World) (g : Grows w W) => mkBounds NN gm E l F T hM hK t ht W (h.grows g) hl hN)
  have C2 := hide (fun (B : Option Addr) (cb : Nat) (W : World) (g : Grows w W) (q : Rd W B 1 NN (wv (bndsL F T l t NN))) => asWith NN s t A c E B cb (bndsL F T l t NN) xs W (hE.grows g) hK.right q hs ht (bnds_ain hM hK ht) htr hen hle)
  unfold GiveW at C2 ⊢
  clear h hM hK hv2 hE htr hen hle
  generalize resV t xs = r at *
  obtain ⟨r1, r2, r3⟩ := r
  generalize bndsL F T l t NN = HB at *
  go_enter Try.func26, Try.ntmps26
  go_wp2_with fail
  have hrd : Rd ((w.alloc (.cells #[.int .u64 0, .int .i64 0] 50)).alloc (.cells #[.int .i64 (s : Int), .int .i64 (t : Int)] 3)) (some ⟨w.heap.size + 1, 0, none⟩) 1 2 [.int .i64 (s : Int), .int .i64 (t : Int)] := by
    have h3 := Rd.made (w := w.alloc (.cells #[.int .u64 0, .int .i64 0] 50)) (t := 3) (size := 1) (n := 2) [.int .i64 (s : Int), .int .i64 (t : Int)] rfl
    rw [show (w.alloc (.cells #[.int .u64 0, .int .i64 0] 50)).heap.size = w.heap.size + 1 by simp] at h3
    exact h3
  refine (C.out _ _ (by repeat (first | exact Grows.refl _ | refine Grows.now ?_ _ | refine Grows.new ?_ _ | refine Grows.drewN ?_ _ | refine Grows.drew ?_ | assumption | (refine Grows.set ?_ (by first | omega | (simp; done) | (simp; omega)) _))) hrd).mono ?_; rintro e w' ⟨rfl, hg⟩; obtain ⟨x1, rfl⟩ := hg.later; clear hg
  go_upto_region 5 with fail
  refine wp_region_tail1 12 (by kernel_rfl) (by kernel_rfl) ?_; simp only [List.take_succ_cons, List.take_zero, List.drop_succ_cons, List.drop_zero]
  (repeat' (first | (refine gLex_val0 rfl (by kernel_rfl) (fun K hK => ?_); (go_simp; (try (simp only [↓IntWalk.iteOmega]; try go_simp)); (try simp (disch := omega) only [IntWalk.i64_in]); (try simp (disch := omega) only [IntWalk.u64_in]); first | (refine hK _ ?_; clear hK K) | (apply Exists.intro; refine ⟨fun x => ?_, hK _ ?_⟩; (first | fail); clear hK K))) | (refine gLex_undef rfl rfl rfl (by kernel_rfl) (fun K hK => ?_); go_simp; refine hK _ ?_; clear hK K) | (refine gLex_ask rfl rfl rfl ?_; first | (apply gAsk_yes; kernel_rfl; intro K hK; (go_simp; (try (simp only [↓IntWalk.iteOmega]; try go_simp)); (try simp (disch := omega) only [IntWalk.i64_in]); (try simp (disch := omega) only [IntWalk.u64_in]); first | (refine hK _ ?_; clear hK K) | (apply Exists.intro; refine ⟨fun x => ?_, hK _ ?_⟩; (first | fail); clear hK K))) | ((first | apply gAsk_no1 | apply gAsk_no2); kernel_rfl; intro K hK; simp [go_sem]; refine hK _ ?_; clear hK K))))
  refine gLex_propW (by kernel_rfl) (by kernel_rfl) rfl (by simp) (RowP NN (wv HB)) (RowP.lasts _ _) (fun x => by
    go_simp
    refine (C1.out _ (by repeat (first | exact Grows.refl _ | refine Grows.now ?_ _ | refine Grows.new ?_ _ | refine Grows.drewN ?_ _ | refine Grows.drew ?_ | assumption | (refine Grows.set ?_ (by first | omega | (simp; done) | (simp; omega)) _)))).mono ?_
    rintro e w' ⟨A8, c8, rfl, hr8, hg⟩
    exact ⟨_, rfl, hg, A8, c8, rfl, hr8⟩) ?_
  (repeat' (first | (refine gLex_val0 rfl (by kernel_rfl) (fun K hK => ?_); (go_simp; (try (simp only [↓IntWalk.iteOmega]; try go_simp)); (try simp (disch := omega) only [IntWalk.i64_in]); (try simp (disch := omega) only [IntWalk.u64_in]); first | (refine hK _ ?_; clear hK K) | (apply Exists.intro; refine ⟨fun x => ?_, hK _ ?_⟩; (first | fail); clear hK K))) | (refine gLex_undef rfl rfl rfl (by kernel_rfl) (fun K hK => ?_); go_simp; refine hK _ ?_; clear hK K) | (refine gLex_ask rfl rfl rfl ?_; first | (apply gAsk_yes; kernel_rfl; intro K hK; (go_simp; (try (simp only [↓IntWalk.iteOmega]; try go_simp)); (try simp (disch := omega) only [IntWalk.i64_in]); (try simp (disch := omega) only [IntWalk.u64_in]); first | (refine hK _ ?_; clear hK K) | (apply Exists.intro; refine ⟨fun x => ?_, hK _ ?_⟩; (first | fail); clear hK K))) | ((first | apply gAsk_no1 | apply gAsk_no2); kernel_rfl; intro K hK; simp [go_sem]; refine hK _ ?_; clear hK K))))
  refine gLex_depV (t0 := 26) (by kernel_rfl) (by kernel_rfl) rfl (by simp [Act.put]) (.tuple #[.agg #[.int .u64 r1, .int .i64 r2], .int .i64 r3]) (fun x u hu => by
    obtain ⟨A8, c8, rfl, hr8⟩ := hu
    go_simp
    refine (C2.out _ _ _ (by repeat (first | exact Grows.refl _ | refine Grows.now ?_ _ | refine Grows.new ?_ _ | refine Grows.drewN ?_ _ | refine Grows.drew ?_ | assumption | (refine Grows.set ?_ (by first | omega | (simp; done) | (simp; omega)) _))) hr8).mono ?_
    rintro e w' ⟨rfl, hg⟩
    first | exact ⟨rfl, hg⟩ | exact ⟨_, rfl, hg, rfl⟩ | exact ⟨rfl, hg, rfl⟩) ?_
  (repeat' (first | (refine gLex_val0 rfl (by kernel_rfl) (fun K hK => ?_); (go_simp; (try (simp only [↓IntWalk.iteOmega]; try go_simp)); (try simp (disch := omega) only [IntWalk.i64_in]); (try simp (disch := omega) only [IntWalk.u64_in]); first | (refine hK _ ?_; clear hK K) | (apply Exists.intro; refine ⟨fun x => ?_, hK _ ?_⟩; (first | fail); clear hK K))) | (refine gLex_undef rfl rfl rfl (by kernel_rfl) (fun K hK => ?_); go_simp; refine hK _ ?_; clear hK K) | (refine gLex_ask rfl rfl rfl ?_; first | (apply gAsk_yes; kernel_rfl; intro K hK; (go_simp; (try (simp only [↓IntWalk.iteOmega]; try go_simp)); (try simp (disch := omega) only [IntWalk.i64_in]); (try simp (disch := omega) only [IntWalk.u64_in]); first | (refine hK _ ?_; clear hK K) | (apply Exists.intro; refine ⟨fun x => ?_, hK _ ?_⟩; (first | fail); clear hK K))) | ((first | apply gAsk_no1 | apply gAsk_no2); kernel_rfl; intro K hK; simp [go_sem]; refine hK _ ?_; clear hK K))))
  refine gLex_endT1 (by simp) (fun x v hv => ?_)
  go_wp2_with fail
  refine bodyPost_ret (v := .tuple #[.agg #[.int .u64 r1, .int .i64 r2], .int .i64 r3]) (by simp (maxDischargeDepth := 6) [results, Try.results26, go_sem]) rfl ?_
  exact ⟨rfl, (by repeat (first | exact Grows.refl _ | refine Grows.now ?_ _ | refine Grows.new ?_ _ | refine Grows.drewN ?_ _ | refine Grows.drew ?_ | assumption | (refine Grows.set ?_ (by first | omega | (simp; done) | (simp; omega)) _)))⟩
end Go.Proofs.Ytiljgkaffgclgaa

/- The law MarksChosen, walked: which landmarks are chosen, and how far any node is, by their bounds. -/
namespace Go.Proofs.Ytiljgkaffgclgaa
open Go Go.RowKit
set_option maxRecDepth 20000 in
set_option maxHeartbeats 4000000 in
theorem mkChooseNo (N n : Int) (A : Option Addr) (c : Nat) (E : List Edg) (w : World) (h : Rd w A 3 E.length (esCells E)) (hE : E.length ≤ 1000000) (r : Int) (hr : r = if rightF N E ≠ 0 then 1 else 2) (hd : rightF N E ≠ 0 ∨ n < 1 ∨ 64 < n) :
    Calls Try.prog 55 #[.agg #[.int .i64 N, .slice A E.length c], .int .i64 n] w fun e w' => e = .returned (.tuple #[.slice none 0 0, .int .i64 r]) ∧ Grows w w' := by
  have C1 := hide (fun (W : World) (g : Grows w W) => gRight N A E.length c E W (h.grows g) hE)
  clear h
  by_cases hk : rightF N E = 0
  · rw [hk] at C1
    rw [if_neg (by omega)] at hr
    have hb : (decide (n < 1) = true) ∨ (decide (n < 1) = false ∧ decide (64 < n) = true) := by
      by_cases h1 : n < 1
      · exact .inl (decide_eq_true h1)
      · exact .inr ⟨decide_eq_false h1, decide_eq_true (by omega)⟩
    subst hr
    clear hk hd
    rcases hb with h1 | ⟨h1, h2⟩
    all_goals
      go_enter Try.func55, Try.ntmps55
      go_wp2_with fail
      go_step3
      go_wp2_with (go_at_call 62; refine (C1.out _ (by repeat (first | exact Grows.refl _ | refine Grows.now ?_ _ | refine Grows.new ?_ _ | refine Grows.drewN ?_ _ | refine Grows.drew ?_ | assumption | (refine Grows.set ?_ (by first | omega | (simp; done) | (simp; omega)) _)))).mono ?_; rintro e w' ⟨rfl, hg⟩; obtain ⟨x1, rfl⟩ := hg.later; clear hg)
      rw [Exit.noGoto_ret]
      refine bodyPost_ret (v := .tuple #[.slice none 0 0, .int .i64 2]) (by simp (maxDischargeDepth := 6) [results, Try.results55, go_sem]) rfl ⟨rfl, (by repeat (first | exact Grows.refl _ | refine Grows.now ?_ _ | refine Grows.new ?_ _ | refine Grows.drewN ?_ _ | refine Grows.drew ?_ | assumption | (refine Grows.set ?_ (by first | omega | (simp; done) | (simp; omega)) _)))⟩
  · have d1 : (rightF N E == 0) = false := beq_eq_false_iff_ne.2 hk
    rw [if_pos hk] at hr
    subst hr
    clear hk hd
    generalize rightF N E = rr at *
    go_enter Try.func55, Try.ntmps55
    go_wp2_with fail
    go_step3
    go_wp2_with (go_at_call 62; refine (C1.out _ (by repeat (first | exact Grows.refl _ | refine Grows.now ?_ _ | refine Grows.new ?_ _ | refine Grows.drewN ?_ _ | refine Grows.drew ?_ | assumption | (refine Grows.set ?_ (by first | omega | (simp; done) | (simp; omega)) _)))).mono ?_; rintro e w' ⟨rfl, hg⟩; obtain ⟨x1, rfl⟩ := hg.later; clear hg)
    rw [Exit.noGoto_ret]
    refine bodyPost_ret (v := .tuple #[.slice none 0 0, .int .i64 1]) (by simp (maxDischargeDepth := 6) [results, Try.results55, go_sem]) rfl ⟨rfl, (by repeat (first | exact Grows.refl _ | refine Grows.now ?_ _ | refine Grows.new ?_ _ | refine Grows.drewN ?_ _ | refine Grows.drew ?_ | assumption | (refine Grows.set ?_ (by first | omega | (simp; done) | (simp; omega)) _)))⟩
theorem far_of {NN s t f : Nat} {E : List Edg} {xs : List (Nat × Nat)} (hx : SeaOk NN s E false xs) (ht : t < NN) (hw : Way (srchOf NN E (allO false)) s t f) (hm : ∀ g, Way (srchOf NN E (allO false)) s t g → f ≤ g) : gn (outL NN xs) t = f ∧ f < farV := by
  have h1 : gn (outL NN xs) t = f := hx.far.is (v := t) rfl ht hw hm
  obtain ⟨g, hg, _⟩ := hx.far.all t f hw (fun h => absurd h (Nat.lt_irrefl 0))
  have h2 := outL_at (N := NN) hx.far.nodup ht hg
  have h3 : g ≤ NN * 17592186044416 := (hx.far.way _ _ hg).2.2.2
  have hN4 : NN ≤ 4096 := by have := (right_in hx.ok.right).2.1; omega
  refine ⟨h1, ?_⟩
  rw [h1] at h2
  unfold farV
  omega
theorem far_none {NN s t : Nat} {E : List Edg} {xs : List (Nat × Nat)} (hx : SeaOk NN s E false xs) (ht : t < NN) (hn : ∀ g, ¬ Way (srchOf NN E (allO false)) s t g) : gn (outL NN xs) t = farV := by
  refine outL_no ht (fun h => ?_)
  obtain ⟨⟨u, f⟩, hq, rfl⟩ := List.mem_map.1 h
  exact hn f (hx.far.way _ _ hq).2.1
set_option maxRecDepth 40000 in
set_option maxHeartbeats 8000000 in
theorem marksChosenW (N : Int) (A : Option Addr) (n c : Nat) (E : List Edg) (k s t : Int) (w : World)
    (_ : I64 N) (_ : n ≤ c) (h : Rd w A 3 n (esCells E)) (_ : ∀ k, k < n → edgOk (ge E k)) (hz1 : -9223372036854775808 ≤ k ∧ k < 9223372036854775808) (hz2 : -9223372036854775808 ≤ s ∧ s < 9223372036854775808) (hz3 : -9223372036854775808 ≤ t ∧ t < 9223372036854775808) :
    Calls Try.prog 10 #[.agg #[.int .i64 N, .slice A n c], .int .i64 k, .int .i64 s, .int .i64 t] w fun e w' => e = .returned (.bool true) ∧ Grows w w' := by
  obtain rfl : E.length = n := h.elen
  clear hz1 hz2 hz3
  have CL := hide (fun (W : World) => lLight46 N A E.length c none 0 0 W)
  cases hq : light46 N E.length 0 with
  | false =>
    rw [hq] at CL
    clear h
    go_enter Try.func10, Try.ntmps10
    go_wp2_with (first | (go_at_call 13; refine (CL.out _).mono ?_; rintro e w' ⟨rfl, hg⟩; (first | obtain ⟨x, rfl⟩ := Grows.later2 hg | obtain ⟨x, rfl⟩ := Grows.later hg); clear hg) | (go_at_call 14; refine (alive46 _).mono ?_; rintro e w' ⟨rfl, hg⟩; (first | obtain ⟨x, rfl⟩ := Grows.later2 hg | obtain ⟨x, rfl⟩ := Grows.later hg); clear hg))
    go_ret
    exact ⟨rfl, (by repeat (first | exact Grows.refl _ | refine Grows.now ?_ _ | refine Grows.new ?_ _ | refine Grows.drewN ?_ _ | refine Grows.drew ?_ | assumption | (refine Grows.set ?_ (by first | omega | (simp; done) | (simp; omega)) _)))⟩
  | true =>
    rw [hq] at CL
    have hE : E.length ≤ 1000000 := by
      unfold light46 at hq
      simp at hq
      omega
    clear hq
    by_cases h6 : 6 < k ∧ k ≤ 64
    · have d1 : decide (6 < k) = true := decide_eq_true h6.1
      have d2 : decide (k ≤ 64) = true := decide_eq_true h6.2
      clear h h6
      go_enter Try.func10, Try.ntmps10
      go_wp2_with (first | (go_at_call 13; refine (CL.out _).mono ?_; rintro e w' ⟨rfl, hg⟩; (first | obtain ⟨x, rfl⟩ := Grows.later2 hg | obtain ⟨x, rfl⟩ := Grows.later hg); clear hg) | (go_at_call 14; refine (alive46 _).mono ?_; rintro e w' ⟨rfl, hg⟩; (first | obtain ⟨x, rfl⟩ := Grows.later2 hg | obtain ⟨x, rfl⟩ := Grows.later hg); clear hg))
      go_ret
      exact ⟨rfl, (by repeat (first | exact Grows.refl _ | refine Grows.now ?_ _ | refine Grows.new ?_ _ | refine Grows.drewN ?_ _ | refine Grows.drew ?_ | assumption | (refine Grows.set ?_ (by first | omega | (simp; done) | (simp; omega)) _)))⟩
    · have CR := hide (fun (W : World) (g : Grows w W) => r5Right N A E.length c E W (h.grows g) hE)
      have h64 : (decide (6 < k) = false ∧ k ≤ 6) ∨ (decide (6 < k) = true ∧ decide (k ≤ 64) = false ∧ 64 < k) := by
        by_cases h1 : 6 < k
        · exact .inr ⟨decide_eq_true h1, decide_eq_false (by omega), by omega⟩
        · exact .inl ⟨decide_eq_false h1, by omega⟩
      clear h6
      by_cases hr : rightF N E = 0
      · by_cases hk : k < 1 ∨ 64 < k
        · have C0 := hide (fun (W : World) (g : Grows w W) => mkChooseNo N k A c E W (h.grows g) hE 2 (by rw [if_neg (by omega)]) (.inr hk))
          rw [hr] at CR
          have hb : (decide (6 < k) = false ∧ decide (k < 1) = true) ∨ (decide (6 < k) = true ∧ decide (k ≤ 64) = false ∧ decide (k < 1) = false ∧ decide (64 < k) = true) := by
            rcases h64 with ⟨e1, e2⟩ | ⟨e1, e2, e3⟩
            · exact .inl ⟨e1, decide_eq_true (by omega)⟩
            · exact .inr ⟨e1, e2, decide_eq_false (by omega), decide_eq_true e3⟩
          clear h hr hk h64
          rcases hb with ⟨d1, d2⟩ | ⟨d1, d2, d3, d4⟩
          all_goals (
            go_enter Try.func10, Try.ntmps10
            go_wp2_with fail
            refine (CL.out _).mono ?_; rintro e w' ⟨rfl, hg⟩; obtain ⟨x1, rfl⟩ := hg.later; clear hg
            have b1 : Arr x1.now w.heap.size 24 [.int .i64 N, .slice A E.length c] := Arr.grow ⟨by simp [heap_push]⟩ x1.grows
            go_wp2_with fail
            refine (C0.out _ (by repeat (first | exact Grows.refl _ | refine Grows.now ?_ _ | refine Grows.new ?_ _ | refine Grows.drewN ?_ _ | refine Grows.drew ?_ | assumption | (refine Grows.set ?_ (by first | omega | (simp; done) | (simp; omega)) _)))).mono ?_; rintro e w' ⟨rfl, hg⟩; obtain ⟨x2, rfl⟩ := hg.later; clear hg
            go_wp2_with fail
            refine (CR.out _ (by repeat (first | exact Grows.refl _ | refine Grows.now ?_ _ | refine Grows.new ?_ _ | refine Grows.drewN ?_ _ | refine Grows.drew ?_ | assumption | (refine Grows.set ?_ (by first | omega | (simp; done) | (simp; omega)) _)))).mono ?_; rintro e w' ⟨rfl, hg⟩; obtain ⟨x3, rfl⟩ := hg.later; clear hg
            go_wp2_with fail
            refine (alive46 _).mono ?_; rintro e w' ⟨rfl, hg⟩; obtain ⟨x4, rfl⟩ := hg.later; clear hg
            go_wp2_with fail
            go_ret
            exact ⟨rfl, (by repeat (first | exact Grows.refl _ | refine Grows.now ?_ _ | refine Grows.new ?_ _ | refine Grows.drewN ?_ _ | refine Grows.drew ?_ | assumption | (refine Grows.set ?_ (by first | omega | (simp; done) | (simp; omega)) _)))⟩)
        · have d1 : decide (6 < k) = false := decide_eq_false (by rcases h64 with h | h <;> omega)
          have hk6 : k ≤ 6 := by rcases h64 with h | h <;> omega
          obtain ⟨NN, rfl⟩ : ∃ NN : Nat, N = NN := ⟨N.toNat, by have := right_in hr; omega⟩
          obtain ⟨kN, rfl⟩ : ∃ kN : Nat, k = kN := ⟨k.toNat, by omega⟩
          have d2 : decide ((kN : Int) < 1) = false := decide_eq_false (by omega)
          have d3 : decide ((64 : Int) < (kN : Int)) = false := decide_eq_false (by omega)
          have hk1 : 1 ≤ kN := by omega
          have hk7 : kN ≤ 6 := by omega
          have hN4 : NN ≤ 4096 ∧ 1 ≤ NN := by have := right_in hr; omega
          obtain ⟨F, T, hM⟩ := mks_any hr
          obtain ⟨m, hm⟩ : ∃ m, m + 1 = min kN NN := ⟨min kN NN - 1, by omega⟩
          have hmN : m < NN := by omega
          have hlen := chosen_len F NN m
          have hK : MarkOk NN E (chosen F NN m) := ⟨hr, fun j hj => chosen_lt F hmN (by omega)⟩
          have C0 := hide (fun (W : World) (g : Grows w W) => show Calls Try.prog 55 #[.agg #[.int .i64 (NN : Int), .slice A E.length c], .int .i64 (kN : Int)] W fun e w' => ∃ A' c', e = .returned (.tuple #[.slice A' (m + 1) c', .int .i64 0]) ∧ Rd w' A' 1 (m + 1) (nv (chosen F NN m)) ∧ Grows W w' from
            (mkChoose NN kN A c E F T hM hr hk1 (by omega) W (h.grows g)).mono (by
              rintro e w' ⟨A', c', m', hm', rfl, hr, hg⟩
              obtain rfl : m' = m := by omega
              exact ⟨A', c', rfl, hr, hg⟩))
          have C1 := hide (fun (W : World) (g : Grows w W) => show Calls Try.prog 56 #[.agg #[.int .i64 (NN : Int), .slice A E.length c], .int .i64 (kN : Int)] W fun e w' => ∃ A' c', e = .returned (.slice A' (m + 1) c') ∧ Rd w' A' 1 (m + 1) (nv (chosen F NN m)) ∧ Grows W w' from
            (r46Choose NN kN A c E F T hM hr hk1 (by omega) W (h.grows g)).mono (by
              rintro e w' ⟨A', c', m', hm', rfl, hr, hg⟩
              obtain rfl : m' = m := by omega
              exact ⟨A', c', rfl, hr, hg⟩))
          generalize hl : chosen F NN m = l at *
          clear hl
          have C2 := hide (fun (A5 : Option Addr) (c5 : Nat) (B5 : Option Addr) (d5 : Nat) (W : World) (q : Rd W A5 1 (m + 1) (nv l)) (q' : Rd W B5 1 (m + 1) (nv l)) => by
            have := r1Same A5 (m + 1) c5 (l.map fun (x : Nat) => (x : Int)) B5 (m + 1) d5 (l.map fun (x : Nat) => (x : Int)) W (by rw [nv_cast]; exact q) (by omega) (by rw [nv_cast]; exact q') (by omega)
            rw [decide_eq_true rfl] at this
            exact this)
          have C3 := hide (fun (B : Option Addr) (cl : Nat) (W : World) (g : Grows w W) (q : Rd W B 1 (m + 1) (nv l)) => by
            have := mkNew NN A c E B cl l F T hM hK W (h.grows g) (by rw [hlen]; exact q) (by omega)
            rw [hlen] at this
            exact this)
          rw [hr] at CR
          by_cases hin : (nodeB (NN : Int) s && nodeB (NN : Int) t) = true
          · obtain ⟨sN, rfl⟩ : ∃ sN : Nat, s = sN := ⟨s.toNat, by unfold nodeB at hin; simp at hin; omega⟩
            obtain ⟨tN, rfl⟩ : ∃ tN : Nat, t = tN := ⟨t.toNat, by unfold nodeB at hin; simp at hin; omega⟩
            have hs : sN < NN := by unfold nodeB at hin; simp at hin; omega
            have ht : tN < NN := by unfold nodeB at hin; simp at hin; omega
            obtain ⟨xs, hxs, hFv⟩ := hM.f sN hs
            obtain ⟨ys, htr, hen, hle⟩ := traceA_whole (s := sN) (t := tN) (bnds_ain hM hK ht) hN4.1 hs (Nat.le_refl _)
            have C4 := hide (fun (gm : Nat) (W : World) (q : MkAt W gm NN E l F T) => by
              have := mkDistW NN gm E l F T hM hK sN tN hs ht ys W q (by omega) htr hen hle
              unfold GiveW at this
              exact this)
            have C5 := hide (fun (W : World) (g : Grows w W) => show Calls Try.prog 25 #[.agg #[.int .i64 (NN : Int), .slice A E.length c], .int .i64 (sN : Int), .agg #[.bool false, .slice none 0 0, .slice none 0 0, .slice none 0 0, .int .u64 0]] W fun e w' =>
                ∃ gd, e = .returned (.slice (some ⟨gd, 0, none⟩) NN NN) ∧ Row1 w' gd 33 1 NN NN (wv (F sN)) ∧ Grows W w' from by
              rw [hFv, ← hxs.ref]
              exact r14All NN sN A c E (allO false) none none none 0 0 0 W (h.grows g) (rdNone _ _) (rdNone _ _) (rdNone _ _) hxs.ok hxs.wb)
            have HFL := hide (hM.flen sN hs)
            have hrep := hide (fun (W : World) => report_eqv 0 0 0 0 W)
            have hds : decide ((NN : Int) ≤ (sN : Int)) = false := decide_eq_false (by omega)
            have hdt : decide ((NN : Int) ≤ (tN : Int)) = false := decide_eq_false (by omega)
            rcases resV_ok (N := NN) hen hle with ⟨f, nn, er, hw, hmn, hn1, hn2⟩ | ⟨er, hno⟩
            · rw [er] at C4
              obtain ⟨hd, hf⟩ := far_of hxs ht hw hmn
              rw [← hFv] at hd
              have HD := hide hd
              obtain ⟨fi, hfi⟩ : ∃ z : Int, (f : Int) = z := ⟨_, rfl⟩
              obtain ⟨ni, hni⟩ : ∃ z : Int, (nn : Int) = z := ⟨_, rfl⟩
              rw [hfi, hni] at C4
              have HFI := hide hfi
              have df : decide (4611686018427387904 ≤ fi) = false := decide_eq_false (by unfold farV at hf; omega)
              have dn1 : decide (1 ≤ ni) = true := decide_eq_true (by omega)
              have dn2 : decide (ni ≤ (NN : Int)) = true := decide_eq_true (by omega)
              clear h hr hin hM hK hxs hFv htr hen hle er hw hmn hn1 hn2 hd hf hfi hni h64 hk hk6 hlen hm hmN hk1 hk7 hN4
              go_enter Try.func10, Try.ntmps10
              go_wp2_with fail
              refine (CL.out _).mono ?_; rintro e w' ⟨rfl, hg⟩; obtain ⟨x1, rfl⟩ := hg.later; clear hg
              have b1 : Arr x1.now w.heap.size 24 [.int .i64 (NN : Int), .slice A E.length c] := Arr.grow ⟨by simp [heap_push]⟩ x1.grows
              go_wp2_with fail
              refine (C0.out _ (by repeat (first | exact Grows.refl _ | refine Grows.now ?_ _ | refine Grows.new ?_ _ | refine Grows.drewN ?_ _ | refine Grows.drew ?_ | assumption | (refine Grows.set ?_ (by first | omega | (simp; done) | (simp; omega)) _)))).mono ?_; rintro e w' ⟨A3, c3, rfl, hr3, hg⟩; obtain ⟨x2, rfl⟩ := hg.later; have HR3 := hide hr3; clear hg hr3
              go_wp2_with fail
              refine (CR.out _ (by repeat (first | exact Grows.refl _ | refine Grows.now ?_ _ | refine Grows.new ?_ _ | refine Grows.drewN ?_ _ | refine Grows.drew ?_ | assumption | (refine Grows.set ?_ (by first | omega | (simp; done) | (simp; omega)) _)))).mono ?_; rintro e w' ⟨rfl, hg⟩; obtain ⟨x3, rfl⟩ := hg.later; clear hg
              go_wp2_with fail
              refine (C1.out _ (by repeat (first | exact Grows.refl _ | refine Grows.now ?_ _ | refine Grows.new ?_ _ | refine Grows.drewN ?_ _ | refine Grows.drew ?_ | assumption | (refine Grows.set ?_ (by first | omega | (simp; done) | (simp; omega)) _)))).mono ?_; rintro e w' ⟨A4, c4, rfl, hr4, hg⟩; obtain ⟨x4, rfl⟩ := hg.later; have HR4 := hide hr4; clear hg hr4
              go_wp2_with fail
              refine (C2.out _ _ _ _ _ (HR3.out.grows (by repeat (first | exact Grows.refl _ | refine Grows.now ?_ _ | refine Grows.new ?_ _ | refine Grows.drewN ?_ _ | refine Grows.drew ?_ | assumption | (refine Grows.set ?_ (by first | omega | (simp; done) | (simp; omega)) _)))) HR4.out).mono ?_; rintro e w' ⟨rfl, hg⟩; obtain ⟨x5, rfl⟩ := hg.later; clear hg
              go_wp2_with fail
              refine (C3.out _ _ _ (by repeat (first | exact Grows.refl _ | refine Grows.now ?_ _ | refine Grows.new ?_ _ | refine Grows.drewN ?_ _ | refine Grows.drew ?_ | assumption | (refine Grows.set ?_ (by first | omega | (simp; done) | (simp; omega)) _))) (HR3.out.grows (by repeat (first | exact Grows.refl _ | refine Grows.now ?_ _ | refine Grows.new ?_ _ | refine Grows.drewN ?_ _ | refine Grows.drew ?_ | assumption | (refine Grows.set ?_ (by first | omega | (simp; done) | (simp; omega)) _))))).mono ?_; rintro e w' ⟨gm, rfl, hmk, hg⟩; obtain ⟨x6, rfl⟩ := hg.later; have HMK := hide hmk; clear hg hmk
              go_wp2_with fail
              refine (C4.out _ _ HMK.out).mono ?_; rintro e w' ⟨rfl, hg⟩; obtain ⟨x7, rfl⟩ := hg.later; clear hg
              go_wp2_with fail
              refine (C5.out _ (by repeat (first | exact Grows.refl _ | refine Grows.now ?_ _ | refine Grows.new ?_ _ | refine Grows.drewN ?_ _ | refine Grows.drew ?_ | assumption | (refine Grows.set ?_ (by first | omega | (simp; done) | (simp; omega)) _)))).mono ?_; rintro e w' ⟨gd, rfl, hrow, hg⟩
              obtain ⟨x8, hx8⟩ := hg.later
              have q8 : Holds w' ⟨gd, tN, none⟩ (.int .u64 fi) := by have := hrow.wvH HFL.out ht; rw [HD.out, HFI.out] at this; exact this
              subst hx8
              clear hg hrow
              go_wp2_with fail
              refine (alive46 _).mono ?_; rintro e w' ⟨rfl, hg⟩; obtain ⟨x9, rfl⟩ := hg.later; clear hg
              go_wp2_with fail
              go_ret
              exact ⟨rfl, (by repeat (first | exact Grows.refl _ | refine Grows.now ?_ _ | refine Grows.new ?_ _ | refine Grows.drewN ?_ _ | refine Grows.drew ?_ | assumption | (refine Grows.set ?_ (by first | omega | (simp; done) | (simp; omega)) _)))⟩
            · rw [er] at C4
              have hd := far_none hxs ht hno
              rw [← hFv] at hd
              have HD := hide hd
              clear h hr hin hM hK hxs hFv htr hen hle er hno hd h64 hk hk6 hlen hm hmN hk1 hk7 hN4
              go_enter Try.func10, Try.ntmps10
              go_wp2_with fail
              refine (CL.out _).mono ?_; rintro e w' ⟨rfl, hg⟩; obtain ⟨x1, rfl⟩ := hg.later; clear hg
              have b1 : Arr x1.now w.heap.size 24 [.int .i64 (NN : Int), .slice A E.length c] := Arr.grow ⟨by simp [heap_push]⟩ x1.grows
              go_wp2_with fail
              refine (C0.out _ (by repeat (first | exact Grows.refl _ | refine Grows.now ?_ _ | refine Grows.new ?_ _ | refine Grows.drewN ?_ _ | refine Grows.drew ?_ | assumption | (refine Grows.set ?_ (by first | omega | (simp; done) | (simp; omega)) _)))).mono ?_; rintro e w' ⟨A3, c3, rfl, hr3, hg⟩; obtain ⟨x2, rfl⟩ := hg.later; have HR3 := hide hr3; clear hg hr3
              go_wp2_with fail
              refine (CR.out _ (by repeat (first | exact Grows.refl _ | refine Grows.now ?_ _ | refine Grows.new ?_ _ | refine Grows.drewN ?_ _ | refine Grows.drew ?_ | assumption | (refine Grows.set ?_ (by first | omega | (simp; done) | (simp; omega)) _)))).mono ?_; rintro e w' ⟨rfl, hg⟩; obtain ⟨x3, rfl⟩ := hg.later; clear hg
              go_wp2_with fail
              refine (C1.out _ (by repeat (first | exact Grows.refl _ | refine Grows.now ?_ _ | refine Grows.new ?_ _ | refine Grows.drewN ?_ _ | refine Grows.drew ?_ | assumption | (refine Grows.set ?_ (by first | omega | (simp; done) | (simp; omega)) _)))).mono ?_; rintro e w' ⟨A4, c4, rfl, hr4, hg⟩; obtain ⟨x4, rfl⟩ := hg.later; have HR4 := hide hr4; clear hg hr4
              go_wp2_with fail
              refine (C2.out _ _ _ _ _ (HR3.out.grows (by repeat (first | exact Grows.refl _ | refine Grows.now ?_ _ | refine Grows.new ?_ _ | refine Grows.drewN ?_ _ | refine Grows.drew ?_ | assumption | (refine Grows.set ?_ (by first | omega | (simp; done) | (simp; omega)) _)))) HR4.out).mono ?_; rintro e w' ⟨rfl, hg⟩; obtain ⟨x5, rfl⟩ := hg.later; clear hg
              go_wp2_with fail
              refine (C3.out _ _ _ (by repeat (first | exact Grows.refl _ | refine Grows.now ?_ _ | refine Grows.new ?_ _ | refine Grows.drewN ?_ _ | refine Grows.drew ?_ | assumption | (refine Grows.set ?_ (by first | omega | (simp; done) | (simp; omega)) _))) (HR3.out.grows (by repeat (first | exact Grows.refl _ | refine Grows.now ?_ _ | refine Grows.new ?_ _ | refine Grows.drewN ?_ _ | refine Grows.drew ?_ | assumption | (refine Grows.set ?_ (by first | omega | (simp; done) | (simp; omega)) _))))).mono ?_; rintro e w' ⟨gm, rfl, hmk, hg⟩; obtain ⟨x6, rfl⟩ := hg.later; have HMK := hide hmk; clear hg hmk
              go_wp2_with fail
              refine (C4.out _ _ HMK.out).mono ?_; rintro e w' ⟨rfl, hg⟩; obtain ⟨x7, rfl⟩ := hg.later; clear hg
              go_wp2_with fail
              refine (C5.out _ (by repeat (first | exact Grows.refl _ | refine Grows.now ?_ _ | refine Grows.new ?_ _ | refine Grows.drewN ?_ _ | refine Grows.drew ?_ | assumption | (refine Grows.set ?_ (by first | omega | (simp; done) | (simp; omega)) _)))).mono ?_; rintro e w' ⟨gd, rfl, hrow, hg⟩
              obtain ⟨x8, hx8⟩ := hg.later
              have q8 : Holds w' ⟨gd, tN, none⟩ (.int .u64 4611686018427387904) := by have := hrow.wvH HFL.out ht; rw [HD.out] at this; exact this
              subst hx8
              clear hg hrow
              have hrq := hrep.out
              go_wp2_with fail
              refine (alive46 _).mono ?_; rintro e w' ⟨rfl, hg⟩; obtain ⟨x9, rfl⟩ := hg.later; clear hg
              go_wp2_with fail
              go_ret
              exact ⟨rfl, (by repeat (first | exact Grows.refl _ | refine Grows.now ?_ _ | refine Grows.new ?_ _ | refine Grows.drewN ?_ _ | refine Grows.drew ?_ | assumption | (refine Grows.set ?_ (by first | omega | (simp; done) | (simp; omega)) _)))⟩
          · have hin' : (nodeB (NN : Int) s && nodeB (NN : Int) t) = false := by simpa using hin
            have C4 := hide (fun (gm : Nat) (W : World) (q : MkAt W gm NN E l F T) => show Calls Try.prog 26 #[.pointer (some ⟨gm, 0, none⟩), .int .i64 s, .int .i64 t] W fun e w' => e = .returned (.tuple #[.agg #[.int .u64 0, .int .i64 0], .int .i64 7]) ∧ Grows W w' from by
              obtain ⟨Aq, cq, Al, cl, Af, cf, At, ct, gf, gt, a0, _⟩ := q.is
              exact mkDistOut (NN : Int) gm Aq E.length cq s t W inferInstance inferInstance hin')
            have hout : (decide (s < 0) = true) ∨ (decide (s < 0) = false ∧ decide ((NN : Int) ≤ s) = true) ∨ (decide (s < 0) = false ∧ decide ((NN : Int) ≤ s) = false ∧ decide (t < 0) = true) ∨ (decide (s < 0) = false ∧ decide ((NN : Int) ≤ s) = false ∧ decide (t < 0) = false ∧ decide ((NN : Int) ≤ t) = true) := by
              unfold nodeB at hin'
              simp at hin'
              simp
              omega
            have hrep := hide (fun (W : World) => report_eqv 0 0 0 0 W)
            clear h hr hin hin' hM hK h64 hk hk6 hlen hm hmN hk1 hk7 hN4
            rcases hout with o1 | ⟨o1, o2⟩ | ⟨o1, o2, o3⟩ | ⟨o1, o2, o3, o4⟩
            all_goals (
              go_enter Try.func10, Try.ntmps10
              go_wp2_with fail
              refine (CL.out _).mono ?_; rintro e w' ⟨rfl, hg⟩; obtain ⟨x1, rfl⟩ := hg.later; clear hg
              have b1 : Arr x1.now w.heap.size 24 [.int .i64 (NN : Int), .slice A E.length c] := Arr.grow ⟨by simp [heap_push]⟩ x1.grows
              go_wp2_with fail
              refine (C0.out _ (by repeat (first | exact Grows.refl _ | refine Grows.now ?_ _ | refine Grows.new ?_ _ | refine Grows.drewN ?_ _ | refine Grows.drew ?_ | assumption | (refine Grows.set ?_ (by first | omega | (simp; done) | (simp; omega)) _)))).mono ?_; rintro e w' ⟨A3, c3, rfl, hr3, hg⟩; obtain ⟨x2, rfl⟩ := hg.later; have HR3 := hide hr3; clear hg hr3
              go_wp2_with fail
              refine (CR.out _ (by repeat (first | exact Grows.refl _ | refine Grows.now ?_ _ | refine Grows.new ?_ _ | refine Grows.drewN ?_ _ | refine Grows.drew ?_ | assumption | (refine Grows.set ?_ (by first | omega | (simp; done) | (simp; omega)) _)))).mono ?_; rintro e w' ⟨rfl, hg⟩; obtain ⟨x3, rfl⟩ := hg.later; clear hg
              go_wp2_with fail
              refine (C1.out _ (by repeat (first | exact Grows.refl _ | refine Grows.now ?_ _ | refine Grows.new ?_ _ | refine Grows.drewN ?_ _ | refine Grows.drew ?_ | assumption | (refine Grows.set ?_ (by first | omega | (simp; done) | (simp; omega)) _)))).mono ?_; rintro e w' ⟨A4, c4, rfl, hr4, hg⟩; obtain ⟨x4, rfl⟩ := hg.later; have HR4 := hide hr4; clear hg hr4
              go_wp2_with fail
              refine (C2.out _ _ _ _ _ (HR3.out.grows (by repeat (first | exact Grows.refl _ | refine Grows.now ?_ _ | refine Grows.new ?_ _ | refine Grows.drewN ?_ _ | refine Grows.drew ?_ | assumption | (refine Grows.set ?_ (by first | omega | (simp; done) | (simp; omega)) _)))) HR4.out).mono ?_; rintro e w' ⟨rfl, hg⟩; obtain ⟨x5, rfl⟩ := hg.later; clear hg
              go_wp2_with fail
              refine (C3.out _ _ _ (by repeat (first | exact Grows.refl _ | refine Grows.now ?_ _ | refine Grows.new ?_ _ | refine Grows.drewN ?_ _ | refine Grows.drew ?_ | assumption | (refine Grows.set ?_ (by first | omega | (simp; done) | (simp; omega)) _))) (HR3.out.grows (by repeat (first | exact Grows.refl _ | refine Grows.now ?_ _ | refine Grows.new ?_ _ | refine Grows.drewN ?_ _ | refine Grows.drew ?_ | assumption | (refine Grows.set ?_ (by first | omega | (simp; done) | (simp; omega)) _))))).mono ?_; rintro e w' ⟨gm, rfl, hmk, hg⟩; obtain ⟨x6, rfl⟩ := hg.later; have HMK := hide hmk; clear hg hmk
              go_wp2_with fail
              refine (C4.out _ _ HMK.out).mono ?_; rintro e w' ⟨rfl, hg⟩; obtain ⟨x7, rfl⟩ := hg.later; clear hg
              have hrq := hrep.out
              go_wp2_with fail
              refine (alive46 _).mono ?_; rintro e w' ⟨rfl, hg⟩; obtain ⟨x9, rfl⟩ := hg.later; clear hg
              go_wp2_with fail
              go_ret
              exact ⟨rfl, (by repeat (first | exact Grows.refl _ | refine Grows.now ?_ _ | refine Grows.new ?_ _ | refine Grows.drewN ?_ _ | refine Grows.drew ?_ | assumption | (refine Grows.set ?_ (by first | omega | (simp; done) | (simp; omega)) _)))⟩)
      · have C0 := hide (fun (W : World) (g : Grows w W) => mkChooseNo N k A c E W (h.grows g) hE 1 (by rw [if_pos hr]) (.inl hr))
        have hwn : (rightF N E == 0) = false := beq_eq_false_iff_ne.2 hr
        have hb : (decide (6 < k) = false) ∨ (decide (6 < k) = true ∧ decide (k ≤ 64) = false) := by
          rcases h64 with ⟨e1, _⟩ | ⟨e1, e2, _⟩
          · exact .inl e1
          · exact .inr ⟨e1, e2⟩
        clear h hr h64
        generalize rightF N E = rr at *
        rcases hb with d1 | ⟨d1, d2⟩
        all_goals (
          go_enter Try.func10, Try.ntmps10
          go_wp2_with fail
          refine (CL.out _).mono ?_; rintro e w' ⟨rfl, hg⟩; obtain ⟨x1, rfl⟩ := hg.later; clear hg
          have b1 : Arr x1.now w.heap.size 24 [.int .i64 N, .slice A E.length c] := Arr.grow ⟨by simp [heap_push]⟩ x1.grows
          go_wp2_with fail
          refine (C0.out _ (by repeat (first | exact Grows.refl _ | refine Grows.now ?_ _ | refine Grows.new ?_ _ | refine Grows.drewN ?_ _ | refine Grows.drew ?_ | assumption | (refine Grows.set ?_ (by first | omega | (simp; done) | (simp; omega)) _)))).mono ?_; rintro e w' ⟨rfl, hg⟩; obtain ⟨x2, rfl⟩ := hg.later; clear hg
          go_wp2_with fail
          refine (CR.out _ (by repeat (first | exact Grows.refl _ | refine Grows.now ?_ _ | refine Grows.new ?_ _ | refine Grows.drewN ?_ _ | refine Grows.drew ?_ | assumption | (refine Grows.set ?_ (by first | omega | (simp; done) | (simp; omega)) _)))).mono ?_; rintro e w' ⟨rfl, hg⟩; obtain ⟨x3, rfl⟩ := hg.later; clear hg
          go_wp2_with fail
          refine (alive46 _).mono ?_; rintro e w' ⟨rfl, hg⟩; obtain ⟨x4, rfl⟩ := hg.later; clear hg
          go_wp2_with fail
          go_ret
          exact ⟨rfl, (by repeat (first | exact Grows.refl _ | refine Grows.now ?_ _ | refine Grows.new ?_ _ | refine Grows.drewN ?_ _ | refine Grows.drew ?_ | assumption | (refine Grows.set ?_ (by first | omega | (simp; done) | (simp; omega)) _)))⟩)
end Go.Proofs.Ytiljgkaffgclgaa

/- The law MarksChosen: for every input it returns true, and each argument reads as before. No condition. -/
namespace Go.Proofs.Ytiljgkaffgclgaa.lawMarksChosen
open Go Go.ChangeShapes Go.WideShapes Go.ChangeAt Go.RowKit Go.Proofs.Ytiljgkaffgclgaa

theorem own : ownKnob Try.prog.godebug = none := by kernel_rfl
theorem laidOut : laidOutB Try.prog = true := by kernel_rfl

set_option maxRecDepth 100000 in
theorem lifted (os : Os) (started : os.Started) (H : Type) (enc : TypeId × Value → H) :
    ReturnsInHanded {} Try.checked os 10 .any (Rows.marksChosenSpec.pre6 enc Try.prog Try.f10 Rows.marksChosenRow.domain false) (Rows.marksChosenSpec.post enc Try.prog Try.f10 false true false false) := by
  refine returnsInHanded_of_change (C := Try.checked) own started (by kernel_rfl) Try.func10
    (ChangeSpec.witness6 (enc := enc) (C := Try.checked) false ⟨#[], #[.agg #[.int .i64 0, .slice none 0 0], .int .i64 0, .int .i64 0, .int .i64 0], []⟩ 8 (by kernel_rfl) (by kernel_rfl) (by kernel_rfl) (by kernel_rfl)) ?_
  intro W base args ds gs before hval0 hW hcnd _
  have hval : ∀ (j : Nat) t v, Try.f10.params[j]? = some t → args[j]? = some v → Value.okWide Try.prog W .any base t v := hval0
  have hW' := hW
  obtain ⟨p, q, hA0, hV, rfl, hfz, hnd⟩ := hW
  have hA : DataW.TrodAll enc Try.prog W 0 (fun _ => true) true Try.f10.params.toList args.toList ds p := hA0
  rw [Try.params10] at hA hval
  obtain ⟨v0, vs0, d0, ds0, p0, q0, hargs, rfl, rfl, h0, r0⟩ := trodAll_cons hA
  obtain ⟨v1, vs1, d1, ds1, p1, q1, rfl, rfl, rfl, h1, r1⟩ := trodAll_cons r0
  obtain ⟨v2, vs2, d2, ds2, p2, q2, rfl, rfl, rfl, h2, r2⟩ := trodAll_cons r1
  obtain ⟨v3, vs3, d3, ds3, p3, q3, rfl, rfl, rfl, h3, r3⟩ := trodAll_cons r2
  obtain ⟨rfl, rfl, rfl⟩ := trodAll_nil r3
  obtain rfl : args = #[v0, v1, v2, v3] := by cases args; simp_all
  obtain ⟨rfl, rfl⟩ := trodVars_none hV
  have k0 := h0
  have lt0 : ∀ x ∈ p0, x.block < W.heap.size := by obtain ⟨m, hm⟩ := k0; exact DataW.trod_lt m _ _ _ hm
  obtain ⟨a0, A0, n0, c0, z0, rfl, x0, l0, w0, u0⟩ := open_graph Try.underlying24 Try.underlying3 Try.underlying22 Try.underlying77 Try.underlying3 Try.underlying3 Try.underlying33 ⟨rfl, rfl, rfl⟩ ⟨by kernel_rfl, by kernel_rfl, by kernel_rfl⟩ (by kernel_rfl) (by kernel_rfl) (by kernel_rfl) (hval 0 24 v0 rfl rfl) h0
  have k1 := h1
  have lt1 : ∀ x ∈ p1, x.block < W.heap.size := by obtain ⟨m, hm⟩ := k1; exact DataW.trod_lt m _ _ _ hm
  obtain ⟨a1, rfl, w1⟩ := open_i64 Try.underlying3 (hval 1 3 v1 rfl rfl) h1
  have k2 := h2
  have lt2 : ∀ x ∈ p2, x.block < W.heap.size := by obtain ⟨m, hm⟩ := k2; exact DataW.trod_lt m _ _ _ hm
  obtain ⟨a2, rfl, w2⟩ := open_i64 Try.underlying3 (hval 2 3 v2 rfl rfl) h2
  have k3 := h3
  have lt3 : ∀ x ∈ p3, x.block < W.heap.size := by obtain ⟨m, hm⟩ := k3; exact DataW.trod_lt m _ _ _ hm
  obtain ⟨a3, rfl, w3⟩ := open_i64 Try.underlying3 (hval 3 3 v3 rfl rfl) h3
  clear hA0 hval0
  refine (marksChosenW a0 A0 n0 c0 z0 a1 a2 a3 W x0 l0 w0 u0 w1 w2 w3).mono fun e W' ⟨he, bel⟩ => ?_
  subst he
  exact ⟨_, rfl, _, _, _, [], _, [], hW', trodAll_mk1 (shut_bool Try.underlying4 _), (trodAll_cons_mk (Below.trod laidOut (by kernel_rfl) (of_decide_eq_true (by kernel_rfl)) k0 bel lt0) (trodAll_cons_mk (Below.trod laidOut (by kernel_rfl) (of_decide_eq_true (by kernel_rfl)) k1 bel lt1) (trodAll_cons_mk (Below.trod laidOut (by kernel_rfl) (of_decide_eq_true (by kernel_rfl)) k2 bel lt2) (trodAll_cons_mk (Below.trod laidOut (by kernel_rfl) (of_decide_eq_true (by kernel_rfl)) k3 bel lt3) trodAll_mk0)))), rfl, Below.frame bel _, fun h => by cases h⟩

theorem over : Rows.marksChosenRow.holds Try.pinned (OpenSpec.ofChange Rows.marksChosenSpec) :=
  OpenClaim.holds_of_wide 10 Try.f10 rfl rfl rfl rfl rfl rfl rfl ⟨rfl, rfl, rfl, rfl, rfl⟩ rfl rfl rfl rfl rfl (by kernel_rfl) Try.func10 (by kernel_rfl)
    (of_decide_eq_true (by kernel_rfl)) (by unfold Func.isWrapper; first | (rw [if_pos (by decide +kernel)]; kernel_rfl) | (rw [if_neg (by decide +kernel)]; exact ⟨rfl, rfl⟩))
    (fun os started H enc _ => lifted os started H enc)

end Go.Proofs.Ytiljgkaffgclgaa.lawMarksChosen
namespace Go.Proofs.Ytiljgkaffgclgaa
/-- The statement. -/
theorem marksChosen_proved : Rows.MarksChosenSaid := lawMarksChosen.over
#print axioms marksChosen_proved
end Go.Proofs.Ytiljgkaffgclgaa
