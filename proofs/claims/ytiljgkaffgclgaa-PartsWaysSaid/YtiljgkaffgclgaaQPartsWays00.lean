/- The law PartsWays: for every input it returns true, and each argument reads as before. No condition. -/
import Derived.Test.YtiljgkaffgclgaaQPartsReach14
import Derived.Test.YtiljgkaffgclgaaQPartsReach15
/- The law PartsWays, walked: whoever is in one part comes to each other, and between two parts there are no ways both ways round. -/
namespace Go.Proofs.Ytiljgkaffgclgaa
open Go Go.RowKit
theorem parts_ways {N : Nat} {E : List Edg} (hE : InN N E) {u v : Nat} (hu : u < N) (hv : v < N) : (gi (strongL N E) u == gi (strongL N E) v) = (bb (reachL N E u false) v && bb (reachL N E v false) u) := by
  have h1 := strong_is hE hu hv
  have h2 : bb (reachL N E u false) v = true ↔ Rch E false u v := rounds_is hE hu v
  have h3 : bb (reachL N E v false) u = true ↔ Rch E false v u := rounds_is hE hv u
  rw [← h2, ← h3] at h1
  rw [Bool.eq_iff_iff, beq_iff_eq, h1, Bool.and_eq_true]
set_option maxRecDepth 40000 in
set_option maxHeartbeats 8000000 in
theorem partsWaysW (N : Int) (A : Option Addr) (n c : Nat) (E : List Edg) (w : World) (_ : I64 N) (_ : n ≤ c) (h : Rd w A 3 n (esCells E)) (_ : ∀ k, k < n → edgOk (ge E k)) :
    Calls Try.prog 12 #[.agg #[.int .i64 N, .slice A n c]] w fun e w' => e = .returned (.bool true) ∧ Grows w w' := by
  have CL := hide (fun (W : World) => lLight17 N A n c W)
  have CA := hide (fun (W : World) => alive17 W)
  have hel := h.elen
  subst hel
  cases hq : light17 N E.length with
  | false =>
    rw [hq] at CL
    clear hq h
    go_enter Try.func12, Try.ntmps12
    go_wp2_with (first | (go_at_call 37; refine (CL.out _).mono ?_; rintro e w' ⟨rfl, hg⟩; obtain ⟨x1, rfl⟩ := hg.later; clear hg) | (go_at_call 38; refine (CA.out _).mono ?_; rintro e w' ⟨rfl, hg⟩; obtain ⟨x2, rfl⟩ := hg.later; clear hg))
    go_ret
    exact ⟨rfl, (by repeat (first | exact Grows.refl _ | refine Grows.now ?_ _ | refine Grows.new ?_ _ | refine Grows.drewN ?_ _ | refine Grows.drew ?_ | assumption | (refine Grows.set ?_ (by first | omega | (simp; done) | (simp; omega)) _)))⟩
  | true =>
    rw [hq] at CL
    have hn : E.length ≤ 100 := by
      unfold light17 at hq
      simp only [Bool.and_eq_true, decide_eq_true_eq] at hq
      exact hq.2
    clear hq
    have C5 := hide (fun (W : World) (g : Grows w W) => r5Right N A E.length c E W (h.grows g) (by omega))
    by_cases hr : rightF N E = 0
    · rw [hr] at C5
      obtain ⟨r1, r2, _, r4, _⟩ := right_in hr
      obtain ⟨N', rfl⟩ : ∃ k : Nat, N = (k : Int) := ⟨N.toNat, by omega⟩
      rw [Int.toNat_natCast] at r4
      have CT := hide (fun (W : World) (hg : Grows w W) => tjStrong N' A c E W (h.grows hg) hr)
      have CP := hide (fun (s : Nat) (hs : s < N') (W : World) (hg : Grows w W) => ptReach N' s A c E false W (h.grows hg) hr hs)
      have HK := hide (fun (u v : Nat) (hu : u < N') (hv : v < N') => parts_ways r4 hu hv)
      have HLN := hide (fun (s : Nat) => reachL_len N' E s false)
      have HSL := hide (strongL_len r4)
      have hN : N' ≤ 4096 := by omega
      clear h hr r1 r2 r4 hn
      go_enter Try.func12, Try.ntmps12
      go_upto_region 4 with (first | (go_at_call 37; refine (CL.out _).mono ?_; rintro e w' ⟨rfl, hg⟩; obtain ⟨x1, rfl⟩ := hg.later; clear hg) | (go_at_call 16; refine (C5.out _ (by repeat (first | exact Grows.refl _ | refine Grows.now ?_ _ | refine Grows.new ?_ _ | refine Grows.drewN ?_ _ | refine Grows.drew ?_ | assumption | (refine Grows.set ?_ (by first | omega | (simp; done) | (simp; omega)) _)))).mono ?_; rintro e w' ⟨rfl, hg⟩; obtain ⟨x2, rfl⟩ := hg.later; clear hg) | (go_at_call 61; refine (CT.out _ (by repeat (first | exact Grows.refl _ | refine Grows.now ?_ _ | refine Grows.new ?_ _ | refine Grows.drewN ?_ _ | refine Grows.drew ?_ | assumption | (refine Grows.set ?_ (by first | omega | (simp; done) | (simp; omega)) _)))).mono ?_; rintro e w' ⟨gl, rfl, hl, hg⟩; obtain ⟨x3, rfl⟩ := hg.later; have HL := hide hl; clear hg hl))
      have HC := hide (fun (j : Nat) (hj : j < N') => show Holds x3.now ⟨gl, j, none⟩ (.int .i64 (gi (strongL N' E) j)) from by
        obtain ⟨b, off, e, hc⟩ := HL.out.intsH (by omega)
        injection e with e
        injection e with e1 e2
        subst e1 e2
        have := hc j hj
        rwa [Nat.zero_add] at this)
      have hgw : Grows w x3.now := (by repeat (first | exact Grows.refl _ | refine Grows.now ?_ _ | refine Grows.new ?_ _ | refine Grows.drewN ?_ _ | refine Grows.drew ?_ | assumption | (refine Grows.set ?_ (by first | omega | (simp; done) | (simp; omega)) _)))
      have z1 : Arr x3.now w.heap.size 24 [.int .i64 (N' : Int), .slice A E.length c] := (Arr.make w _ _).grow (show Grows (w.alloc (.cells #[.int .i64 (N' : Int), .slice A E.length c] 24)) x3.now from (by repeat (first | exact Grows.refl _ | refine Grows.now ?_ _ | refine Grows.new ?_ _ | refine Grows.drewN ?_ _ | refine Grows.drew ?_ | assumption | (refine Grows.set ?_ (by first | omega | (simp; done) | (simp; omega)) _))))
      clear HL CT C5 CL HSL
      generalize w.heap.size = b1 at *
      go_wp2_with fail
      go_loopw [4] (fun s4 wr => ∃ k : Nat, k ≤ N' ∧ s4 = .int .i64 (k : Int) ∧ ∃ y : Later x3.now, wr = y.now) (fun i _ => N' - (Go.RowKit.intOf i).toNat)
      case atStart => exact ⟨0, by omega, by go_num, ⟨x3.now, Grows.refl _⟩, rfl⟩
      case round =>
        obtain ⟨u, hu, rfl, y, rfl⟩ := hrel
        by_cases hlt : u < N'
        · go_upto_region 12 with (go_at_call 40; refine (CP.out u hlt _ (hgw.trans (by repeat (first | exact Grows.refl _ | refine Grows.now ?_ _ | refine Grows.new ?_ _ | refine Grows.drewN ?_ _ | refine Grows.drew ?_ | assumption | (refine Grows.set ?_ (by first | omega | (simp; done) | (simp; omega)) _))))).mono ?_; rintro e w' ⟨gr, rfl, ha, hg⟩; obtain ⟨y1, rfl⟩ := hg.later; have HAR := hide ha; clear hg ha)
          have hy1 : Grows x3.now y1.now := y.grows.trans y1.grows
          obtain ⟨y2, hy2⟩ : ∃ y2 : Later x3.now, y2.now = y1.now := ⟨⟨_, hy1⟩, rfl⟩
          rw [← hy2] at HAR
          rw [← hy2]
          clear hy1 hy2 y1
          go_wp2_with fail
          go_loopw [6] (fun s6 wr => ∃ k : Nat, k ≤ N' ∧ s6 = .int .i64 (k : Int) ∧ ∃ y3 : Later y2.now, wr = y3.now) (fun i _ => N' - (Go.RowKit.intOf i).toNat)
          case atStart => exact ⟨0, by omega, by go_num, ⟨y2.now, Grows.refl _⟩, rfl⟩
          case round =>
            obtain ⟨v, hv, rfl, y3, rfl⟩ := hrel
            by_cases hlv : v < N'
            · go_upto_region 16 with (go_at_call 40; refine (CP.out v hlv _ (hgw.trans (y2.grows.trans (by repeat (first | exact Grows.refl _ | refine Grows.now ?_ _ | refine Grows.new ?_ _ | refine Grows.drewN ?_ _ | refine Grows.drew ?_ | assumption | (refine Grows.set ?_ (by first | omega | (simp; done) | (simp; omega)) _)))))).mono ?_; rintro e w' ⟨gb, rfl, ha, hg⟩; obtain ⟨y4, rfl⟩ := hg.later; have HAB := hide ha; clear hg ha)
              have c1 : Holds y4.now ⟨gl, u, none⟩ (.int .i64 (gi (strongL N' E) u)) := ⟨(y2.grows.trans (y3.grows.trans y4.grows)).keeps (HC.out u hlt).cell⟩
              have c2 : Holds y4.now ⟨gl, v, none⟩ (.int .i64 (gi (strongL N' E) v)) := ⟨(y2.grows.trans (y3.grows.trans y4.grows)).keeps (HC.out v hlv).cell⟩
              have m1 := (HAR.out.grow (y3.grows.trans y4.grows)).mine v (bb_at (by rw [HLN.out]; exact hlv))
              have m2 := HAB.out.mine u (bb_at (by rw [HLN.out]; exact hlt))
              have hk := HK.out u v hlt hlv
              have z4 : Arr y4.now b1 24 [.int .i64 (N' : Int), .slice A E.length c] := z1.grow (y2.grows.trans (y3.grows.trans y4.grows))
              generalize gi (strongL N' E) u = a at *
              generalize gi (strongL N' E) v = b at *
              generalize bb (reachL N' E u false) v = p at *
              generalize bb (reachL N' E v false) u = q at *
              cases p with
              | false =>
                have hk2 : (a == b) = false := hk
                clear hk
                ((first | refine wp_region_gen (by kernel_rfl) (by kernel_rfl) ?_); (repeat' (first | (refine gLex_val0 rfl (by kernel_rfl) (fun K hK => ?_); (go_simp; (try (simp only [↓IntWalk.iteOmega]; try go_simp)); (try simp (disch := omega) only [IntWalk.i64_in]); (try simp (disch := omega) only [IntWalk.u64_in]); first | (refine hK _ ?_; clear hK K) | (apply Exists.intro; refine ⟨fun x => ?_, hK _ ?_⟩; (first | fail); clear hK K))) | (refine gLex_undef rfl rfl rfl (by kernel_rfl) (fun K hK => ?_); go_simp; refine hK _ ?_; clear hK K) | (refine gLex_ask rfl rfl rfl ?_; first | (apply gAsk_yes; kernel_rfl; intro K hK; (go_simp; (try (simp only [↓IntWalk.iteOmega]; try go_simp)); (try simp (disch := omega) only [IntWalk.i64_in]); (try simp (disch := omega) only [IntWalk.u64_in]); first | (refine hK _ ?_; clear hK K) | (apply Exists.intro; refine ⟨fun x => ?_, hK _ ?_⟩; (first | fail); clear hK K))) | ((first | apply gAsk_no1 | apply gAsk_no2); kernel_rfl; intro K hK; simp [go_sem]; refine hK _ ?_; clear hK K) | (apply gAsk_part; kernel_rfl; all_goals (intro h K hK; (try simp only [Bool.not_true] at h); (try simp only [Bool.not_false] at h); (try simp only [decide_eq_true_eq] at h); (try simp only [decide_eq_false_iff_not] at h); first | (exfalso; first | contradiction | omega) | (go_simp; (try (simp only [↓IntWalk.iteOmega]; try go_simp)); (try simp (disch := omega) only [IntWalk.i64_in]); (try simp (disch := omega) only [IntWalk.u64_in]); first | (refine hK _ ?_; clear hK K) | (apply Exists.intro; refine ⟨fun x => ?_, hK _ ?_⟩; (first | fail); clear hK K))))))); all_goals ((apply gLex_end); intro y5))
                go_wp2_with fail
                go_roundw
                case measure => simp [Go.RowKit.intOf]; omega
                case rel => exact ⟨v + 1, by omega, by go_num, ⟨_, y3.grows.trans (y4.grows.trans y5.grows)⟩, rfl⟩
              | true =>
                cases q with
                | false =>
                  have hk2 : (a == b) = false := hk
                  clear hk
                  ((first | refine wp_region_gen (by kernel_rfl) (by kernel_rfl) ?_); (repeat' (first | (refine gLex_val0 rfl (by kernel_rfl) (fun K hK => ?_); (go_simp; (try (simp only [↓IntWalk.iteOmega]; try go_simp)); (try simp (disch := omega) only [IntWalk.i64_in]); (try simp (disch := omega) only [IntWalk.u64_in]); first | (refine hK _ ?_; clear hK K) | (apply Exists.intro; refine ⟨fun x => ?_, hK _ ?_⟩; (first | fail); clear hK K))) | (refine gLex_undef rfl rfl rfl (by kernel_rfl) (fun K hK => ?_); go_simp; refine hK _ ?_; clear hK K) | (refine gLex_ask rfl rfl rfl ?_; first | (apply gAsk_yes; kernel_rfl; intro K hK; (go_simp; (try (simp only [↓IntWalk.iteOmega]; try go_simp)); (try simp (disch := omega) only [IntWalk.i64_in]); (try simp (disch := omega) only [IntWalk.u64_in]); first | (refine hK _ ?_; clear hK K) | (apply Exists.intro; refine ⟨fun x => ?_, hK _ ?_⟩; (first | fail); clear hK K))) | ((first | apply gAsk_no1 | apply gAsk_no2); kernel_rfl; intro K hK; simp [go_sem]; refine hK _ ?_; clear hK K) | (apply gAsk_part; kernel_rfl; all_goals (intro h K hK; (try simp only [Bool.not_true] at h); (try simp only [Bool.not_false] at h); (try simp only [decide_eq_true_eq] at h); (try simp only [decide_eq_false_iff_not] at h); first | (exfalso; first | contradiction | omega) | (go_simp; (try (simp only [↓IntWalk.iteOmega]; try go_simp)); (try simp (disch := omega) only [IntWalk.i64_in]); (try simp (disch := omega) only [IntWalk.u64_in]); first | (refine hK _ ?_; clear hK K) | (apply Exists.intro; refine ⟨fun x => ?_, hK _ ?_⟩; (first | fail); clear hK K))))))); all_goals ((apply gLex_end); intro y5))
                  go_wp2_with fail
                  go_roundw
                  case measure => simp [Go.RowKit.intOf]; omega
                  case rel => exact ⟨v + 1, by omega, by go_num, ⟨_, y3.grows.trans (y4.grows.trans y5.grows)⟩, rfl⟩
                | true =>
                  have hk2 : (a == b) = true := hk
                  clear hk
                  ((first | refine wp_region_gen (by kernel_rfl) (by kernel_rfl) ?_); (repeat' (first | (refine gLex_val0 rfl (by kernel_rfl) (fun K hK => ?_); (go_simp; (try (simp only [↓IntWalk.iteOmega]; try go_simp)); (try simp (disch := omega) only [IntWalk.i64_in]); (try simp (disch := omega) only [IntWalk.u64_in]); first | (refine hK _ ?_; clear hK K) | (apply Exists.intro; refine ⟨fun x => ?_, hK _ ?_⟩; (first | fail); clear hK K))) | (refine gLex_undef rfl rfl rfl (by kernel_rfl) (fun K hK => ?_); go_simp; refine hK _ ?_; clear hK K) | (refine gLex_ask rfl rfl rfl ?_; first | (apply gAsk_yes; kernel_rfl; intro K hK; (go_simp; (try (simp only [↓IntWalk.iteOmega]; try go_simp)); (try simp (disch := omega) only [IntWalk.i64_in]); (try simp (disch := omega) only [IntWalk.u64_in]); first | (refine hK _ ?_; clear hK K) | (apply Exists.intro; refine ⟨fun x => ?_, hK _ ?_⟩; (first | fail); clear hK K))) | ((first | apply gAsk_no1 | apply gAsk_no2); kernel_rfl; intro K hK; simp [go_sem]; refine hK _ ?_; clear hK K) | (apply gAsk_part; kernel_rfl; all_goals (intro h K hK; (try simp only [Bool.not_true] at h); (try simp only [Bool.not_false] at h); (try simp only [decide_eq_true_eq] at h); (try simp only [decide_eq_false_iff_not] at h); first | (exfalso; first | contradiction | omega) | (go_simp; (try (simp only [↓IntWalk.iteOmega]; try go_simp)); (try simp (disch := omega) only [IntWalk.i64_in]); (try simp (disch := omega) only [IntWalk.u64_in]); first | (refine hK _ ?_; clear hK K) | (apply Exists.intro; refine ⟨fun x => ?_, hK _ ?_⟩; (first | fail); clear hK K))))))); all_goals ((apply gLex_end); intro y5))
                  go_wp2_with fail
                  go_roundw
                  case measure => simp [Go.RowKit.intOf]; omega
                  case rel => exact ⟨v + 1, by omega, by go_num, ⟨_, y3.grows.trans (y4.grows.trans y5.grows)⟩, rfl⟩
            · obtain rfl : v = N' := by omega
              go_wp2_with fail
              go_roundw
              case measure => simp [Go.RowKit.intOf]; omega
              case rel => exact ⟨u + 1, by omega, by go_num, ⟨_, y2.grows.trans y3.grows⟩, rfl⟩
        · obtain rfl : u = N' := by omega
          go_wp2_with (go_at_call 38; refine (CA.out _).mono ?_; rintro e w' ⟨rfl, hg⟩; obtain ⟨x9, rfl⟩ := hg.later; clear hg)
          go_ret
          exact ⟨rfl, hgw.trans (y.grows.trans (by repeat (first | exact Grows.refl _ | refine Grows.now ?_ _ | refine Grows.new ?_ _ | refine Grows.drewN ?_ _ | refine Grows.drew ?_ | assumption | (refine Grows.set ?_ (by first | omega | (simp; done) | (simp; omega)) _))))⟩
    · have hb : (rightF N E == 0) = false := beq_eq_false_iff_ne.2 hr
      clear h
      generalize rightF N E = r at *
      go_enter Try.func12, Try.ntmps12
      go_wp2_with (first | (go_at_call 37; refine (CL.out _).mono ?_; rintro e w' ⟨rfl, hg⟩; obtain ⟨x1, rfl⟩ := hg.later; clear hg) | (go_at_call 16; refine (C5.out _ (by repeat (first | exact Grows.refl _ | refine Grows.now ?_ _ | refine Grows.new ?_ _ | refine Grows.drewN ?_ _ | refine Grows.drew ?_ | assumption | (refine Grows.set ?_ (by first | omega | (simp; done) | (simp; omega)) _)))).mono ?_; rintro e w' ⟨rfl, hg⟩; obtain ⟨x2, rfl⟩ := hg.later; clear hg) | (go_at_call 38; refine (CA.out _).mono ?_; rintro e w' ⟨rfl, hg⟩; obtain ⟨x9, rfl⟩ := hg.later; clear hg))
      go_ret
      exact ⟨rfl, (by repeat (first | exact Grows.refl _ | refine Grows.now ?_ _ | refine Grows.new ?_ _ | refine Grows.drewN ?_ _ | refine Grows.drew ?_ | assumption | (refine Grows.set ?_ (by first | omega | (simp; done) | (simp; omega)) _)))⟩
end Go.Proofs.Ytiljgkaffgclgaa

/- The law PartsWays: for every input it returns true, and each argument reads as before. No condition. -/
namespace Go.Proofs.Ytiljgkaffgclgaa.lawPartsWays
open Go Go.ChangeShapes Go.WideShapes Go.ChangeAt Go.RowKit Go.Proofs.Ytiljgkaffgclgaa

theorem own : ownKnob Try.prog.godebug = none := by kernel_rfl
theorem laidOut : laidOutB Try.prog = true := by kernel_rfl

set_option maxRecDepth 100000 in
theorem lifted (os : Os) (started : os.Started) (H : Type) (enc : TypeId × Value → H) :
    ReturnsInHanded {} Try.checked os 12 .any (Rows.partsWaysSpec.pre6 enc Try.prog Try.f12 Rows.partsWaysRow.domain false) (Rows.partsWaysSpec.post enc Try.prog Try.f12 false true false false) := by
  refine returnsInHanded_of_change (C := Try.checked) own started (by kernel_rfl) Try.func12
    (ChangeSpec.witness6 (enc := enc) (C := Try.checked) false ⟨#[], #[.agg #[.int .i64 0, .slice none 0 0]], []⟩ 8 (by kernel_rfl) (by kernel_rfl) (by kernel_rfl) (by kernel_rfl)) ?_
  intro W base args ds gs before hval0 hW hcnd _
  have hval : ∀ (j : Nat) t v, Try.f12.params[j]? = some t → args[j]? = some v → Value.okWide Try.prog W .any base t v := hval0
  have hW' := hW
  obtain ⟨p, q, hA0, hV, rfl, hfz, hnd⟩ := hW
  have hA : DataW.TrodAll enc Try.prog W 0 (fun _ => true) true Try.f12.params.toList args.toList ds p := hA0
  rw [Try.params12] at hA hval
  obtain ⟨v0, vs0, d0, ds0, p0, q0, hargs, rfl, rfl, h0, r0⟩ := trodAll_cons hA
  obtain ⟨rfl, rfl, rfl⟩ := trodAll_nil r0
  obtain rfl : args = #[v0] := by cases args; simp_all
  obtain ⟨rfl, rfl⟩ := trodVars_none hV
  have k0 := h0
  have lt0 : ∀ x ∈ p0, x.block < W.heap.size := by obtain ⟨m, hm⟩ := k0; exact DataW.trod_lt m _ _ _ hm
  obtain ⟨a0, A0, n0, c0, z0, rfl, x0, l0, w0, u0⟩ := open_graph Try.underlying24 Try.underlying3 Try.underlying22 Try.underlying77 Try.underlying3 Try.underlying3 Try.underlying33 ⟨rfl, rfl, rfl⟩ ⟨by kernel_rfl, by kernel_rfl, by kernel_rfl⟩ (by kernel_rfl) (by kernel_rfl) (by kernel_rfl) (hval 0 24 v0 rfl rfl) h0
  clear hA0 hval0
  refine (partsWaysW a0 A0 n0 c0 z0 W x0 l0 w0 u0).mono fun e W' ⟨he, bel⟩ => ?_
  subst he
  exact ⟨_, rfl, _, _, _, [], _, [], hW', trodAll_mk1 (shut_bool Try.underlying4 _), (trodAll_cons_mk (Below.trod laidOut (by kernel_rfl) (of_decide_eq_true (by kernel_rfl)) k0 bel lt0) trodAll_mk0), rfl, Below.frame bel _, fun h => by cases h⟩

theorem over : Rows.partsWaysRow.holds Try.pinned (OpenSpec.ofChange Rows.partsWaysSpec) :=
  OpenClaim.holds_of_wide 12 Try.f12 rfl rfl rfl rfl rfl rfl rfl ⟨rfl, rfl, rfl, rfl, rfl⟩ rfl rfl rfl rfl rfl (by kernel_rfl) Try.func12 (by kernel_rfl)
    (of_decide_eq_true (by kernel_rfl)) (by unfold Func.isWrapper; first | (rw [if_pos (by decide +kernel)]; kernel_rfl) | (rw [if_neg (by decide +kernel)]; exact ⟨rfl, rfl⟩))
    (fun os started H enc _ => lifted os started H enc)

end Go.Proofs.Ytiljgkaffgclgaa.lawPartsWays
namespace Go.Proofs.Ytiljgkaffgclgaa
/-- The statement. -/
theorem partsWays_proved : Rows.PartsWaysSaid := lawPartsWays.over
#print axioms partsWays_proved
end Go.Proofs.Ytiljgkaffgclgaa
