/- The law StatFar: for every input it returns true, and each argument reads as before. No condition. -/
import Derived.Test.YtomednfddpggaaaGreatQStatFar16
import Derived.Test.YtomednfddpggaaaGreatQStatFar22
import Derived.Test.YtomednfddpggaaaGreatQStatFar25
import Derived.Test.YtomednfddpggaaaGreatQStatFar01
/- The law StatFar, walked: which two nodes lie farthest apart, and which edges are there twice. -/
namespace Go.Proofs.YtomednfddpggaaaGreat
open Go Go.RowKit
attribute [local go_sem] Oper.semAt_some
set_option maxRecDepth 20000 in
set_option maxHeartbeats 2000000 in
theorem stFarNo (N : Int) (A : Option Addr) (n c : Nat) (E : List Edg) (w : World) (h : Rd w A 3 n (esCells E)) (hn : n ≤ 1000000) (hr : rightF N E ≠ 0) :
    Calls Tryz.prog 21 #[.agg #[.int .i64 N, .slice A n c]] w fun e w' => e = .returned (.tuple #[.int .i64 0, .int .i64 0, .int .u64 0, .bool false]) ∧ Grows w w' := by
  have C0 := hide (fun (W : World) (g : Grows w W) => gRight N A n c E W (h.grows g) hn)
  have hb : (rightF N E != 0) = true := bne_iff_ne.2 hr
  clear h hr
  generalize rightF N E = r at *
  go_enter Tryz.func21, Tryz.ntmps21
  go_wp2_with (go_at_call 31; refine (C0.out _ GG).mono ?_; rintro e w' ⟨rfl, hg⟩; obtain ⟨x0, rfl⟩ := hg.later; clear hg)
  refine bodyPost_ret (v := .tuple #[.int .i64 0, .int .i64 0, .int .u64 0, .bool false]) (by simp (maxDischargeDepth := 6) [results, Tryz.results21, go_sem, *]) rfl ⟨rfl, GG⟩
set_option maxRecDepth 20000 in
set_option maxHeartbeats 2000000 in
theorem r38FarNo (N : Int) (A : Option Addr) (n c : Nat) (E : List Edg) (w : World) (h : Rd w A 3 n (esCells E)) (hn : n ≤ 1000000) (hr : rightF N E ≠ 0) :
    Calls Tryz.prog 22 #[.agg #[.int .i64 N, .slice A n c]] w fun e w' => e = .returned (.tuple #[.int .i64 0, .int .i64 0, .int .u64 0, .bool false]) ∧ Grows w w' := by
  have C0 := hide (fun (W : World) (g : Grows w W) => r5Right N A n c E W (h.grows g) hn)
  have hb : (rightF N E != 0) = true := bne_iff_ne.2 hr
  clear h hr
  generalize rightF N E = r at *
  go_enter Tryz.func22, Tryz.ntmps22
  go_wp2_with (go_at_call 36; refine (C0.out _ GG).mono ?_; rintro e w' ⟨rfl, hg⟩; obtain ⟨x0, rfl⟩ := hg.later; clear hg)
  refine bodyPost_ret (v := .tuple #[.int .i64 0, .int .i64 0, .int .u64 0, .bool false]) (by simp (maxDischargeDepth := 6) [results, Tryz.results22, go_sem, *]) rfl ⟨rfl, GG⟩
set_option maxRecDepth 20000 in
set_option maxHeartbeats 2000000 in
theorem stDoublesNo (N : Int) (A : Option Addr) (n c : Nat) (E : List Edg) (w : World) (h : Rd w A 3 n (esCells E)) (hn : n ≤ 1000000) (hr : rightF N E ≠ 0) :
    Calls Tryz.prog 23 #[.agg #[.int .i64 N, .slice A n c]] w fun e w' => e = .returned (.slice none 0 0) ∧ Grows w w' := by
  have C0 := hide (fun (W : World) (g : Grows w W) => gRight N A n c E W (h.grows g) hn)
  have hb : (rightF N E != 0) = true := bne_iff_ne.2 hr
  clear h hr
  generalize rightF N E = r at *
  go_enter Tryz.func23, Tryz.ntmps23
  go_wp2_with (go_at_call 31; refine (C0.out _ GG).mono ?_; rintro e w' ⟨rfl, hg⟩; obtain ⟨x0, rfl⟩ := hg.later; clear hg)
  go_ret
  exact ⟨rfl, GG⟩
set_option maxRecDepth 40000 in
set_option maxHeartbeats 8000000 in
theorem r38DoublesNo (N : Int) (A : Option Addr) (n c : Nat) (E : List Edg) (w : World) (h : Rd w A 3 n (esCells E)) (hn : n ≤ 1000000) (hr : rightF N E ≠ 0) :
    Calls Tryz.prog 24 #[.agg #[.int .i64 N, .slice A n c]] w fun e w' => e = .returned (.slice none 0 0) ∧ Grows w w' := by
  have C0 := hide (fun (W : World) (g : Grows w W) => r5Right N A n c E W (h.grows g) hn)
  have hb : (rightF N E == 0) = false := beq_eq_false_iff_ne.2 hr
  clear h hr
  generalize rightF N E = r at *
  go_enter Tryz.func24, Tryz.ntmps24
  go_wp2_with fail
  have hgw : Grows w (w.alloc (.cells #[.int .i64 N, .slice A n c] 24)) := GG
  go_loopw [4, 3] (fun i u wr => i = .int .i64 0 ∧ u = .slice none 0 0 ∧ ∃ y : Later (w.alloc (.cells #[.int .i64 N, .slice A n c] 24)), wr = y.now) (fun _ _ _ => 0)
  case atStart => exact ⟨rfl, rfl, ⟨_, Grows.refl _⟩, rfl⟩
  case round =>
    obtain ⟨rfl, rfl, y, rfl⟩ := hrel
    go_wp2_with (go_at_call 36; refine (C0.out _ GG).mono ?_; rintro e w' ⟨rfl, hg⟩; obtain ⟨y0, rfl⟩ := hg.later; clear hg)
    all_goals go_ret
    all_goals exact ⟨rfl, GG⟩
set_option maxRecDepth 40000 in
set_option maxHeartbeats 8000000 in
theorem sfCore (N : Int) (A : Option Addr) (n c : Nat) (w : World) (a b m : Int) (k : Bool) (L : List Int) (hL : L.length ≤ 1000000)
    (CL : Hid (∀ W, Calls Tryz.prog 19 #[.agg #[.int .i64 N, .slice A n c]] W fun e w' => e = .returned (.bool true) ∧ Grows W w'))
    (CX : Hid (∀ W, Grows w W → Calls Tryz.prog 21 #[.agg #[.int .i64 N, .slice A n c]] W fun x w' => x = .returned (.tuple #[.int .i64 a, .int .i64 b, .int .u64 m, .bool k]) ∧ Grows W w'))
    (CY : Hid (∀ W, Grows w W → Calls Tryz.prog 22 #[.agg #[.int .i64 N, .slice A n c]] W fun x w' => x = .returned (.tuple #[.int .i64 a, .int .i64 b, .int .u64 m, .bool k]) ∧ Grows W w'))
    (CC : Hid (∀ W, Grows w W → Calls Tryz.prog 23 #[.agg #[.int .i64 N, .slice A n c]] W fun x w' => ∃ A' c', x = .returned (.slice A' L.length c') ∧ Rd w' A' 1 L.length (L.map (.int .i64)) ∧ Grows W w'))
    (CD : Hid (∀ W, Grows w W → Calls Tryz.prog 24 #[.agg #[.int .i64 N, .slice A n c]] W fun x w' => ∃ A' c', x = .returned (.slice A' L.length c') ∧ Rd w' A' 1 L.length (L.map (.int .i64)) ∧ Grows W w')) :
    Calls Tryz.prog 4 #[.agg #[.int .i64 N, .slice A n c]] w fun e w' => e = .returned (.bool true) ∧ Grows w w' := by
  have CA := hide (fun (W : World) => alive38 W)
  have h1 : (a == a) = true := beq_self_eq_true a
  have h2 : (b == b) = true := beq_self_eq_true b
  have h3 : (m == m) = true := beq_self_eq_true m
  have h4 : (k == k) = true := by cases k <;> rfl
  go_enter Tryz.func4, Tryz.ntmps4
  go_upto_region 5 with (first
    | (go_at_call 19; refine (CL.out _).mono ?_; rintro e w' ⟨rfl, hg⟩; obtain ⟨x1, rfl⟩ := hg.later; clear hg)
    | (go_at_call 21; refine (CX.out _ GG).mono ?_; rintro e w' ⟨rfl, hg⟩; obtain ⟨x2, rfl⟩ := hg.later; clear hg)
    | (go_at_call 22; refine (CY.out _ GG).mono ?_; rintro e w' ⟨rfl, hg⟩; obtain ⟨x3, rfl⟩ := hg.later; clear hg))
  have hgw : Grows w x3.now := GG
  refine wp_region_gen (by kernel_rfl) (by kernel_rfl) ?_
  (repeat' (first | (refine gLex_val0 rfl (by kernel_rfl) (fun K hK => ?_); (go_simp; (try (simp only [↓IntWalk.iteOmega]; try go_simp)); (try simp (disch := omega) only [IntWalk.i64_in]); (try simp (disch := omega) only [IntWalk.u64_in]); first | (refine hK _ ?_; clear hK K) | (apply Exists.intro; refine ⟨fun x => ?_, hK _ ?_⟩; (first | fail); clear hK K))) | (refine gLex_undef rfl rfl rfl (by kernel_rfl) (fun K hK => ?_); go_simp; refine hK _ ?_; clear hK K) | (refine gLex_ask rfl rfl rfl ?_; first | (apply gAsk_yes; kernel_rfl; intro K hK; (go_simp; (try (simp only [↓IntWalk.iteOmega]; try go_simp)); (try simp (disch := omega) only [IntWalk.i64_in]); (try simp (disch := omega) only [IntWalk.u64_in]); first | (refine hK _ ?_; clear hK K) | (apply Exists.intro; refine ⟨fun x => ?_, hK _ ?_⟩; (first | fail); clear hK K))) | ((first | apply gAsk_no1 | apply gAsk_no2); kernel_rfl; intro K hK; simp [go_sem]; refine hK _ ?_; clear hK K))))
  refine gLex_propG (by kernel_rfl) (by kernel_rfl) rfl (by simp) (IRow L) (IRow.lasts _) (fun y => by
    go_simp
    refine (CC.out _ (hgw.trans GG)).mono ?_
    rintro e w' ⟨A', c', rfl, ha, hg⟩
    exact ⟨_, rfl, hg, A', c', rfl, ha⟩) ?_
  (repeat' (first | (refine gLex_val0 rfl (by kernel_rfl) (fun K hK => ?_); (go_simp; (try (simp only [↓IntWalk.iteOmega]; try go_simp)); (try simp (disch := omega) only [IntWalk.i64_in]); (try simp (disch := omega) only [IntWalk.u64_in]); first | (refine hK _ ?_; clear hK K) | (apply Exists.intro; refine ⟨fun x => ?_, hK _ ?_⟩; (first | fail); clear hK K))) | (refine gLex_undef rfl rfl rfl (by kernel_rfl) (fun K hK => ?_); go_simp; refine hK _ ?_; clear hK K) | (refine gLex_ask rfl rfl rfl ?_; first | (apply gAsk_yes; kernel_rfl; intro K hK; (go_simp; (try (simp only [↓IntWalk.iteOmega]; try go_simp)); (try simp (disch := omega) only [IntWalk.i64_in]); (try simp (disch := omega) only [IntWalk.u64_in]); first | (refine hK _ ?_; clear hK K) | (apply Exists.intro; refine ⟨fun x => ?_, hK _ ?_⟩; (first | fail); clear hK K))) | ((first | apply gAsk_no1 | apply gAsk_no2); kernel_rfl; intro K hK; simp [go_sem]; refine hK _ ?_; clear hK K))))
  refine gLex_propG (by kernel_rfl) (by kernel_rfl) rfl (by simp) (IRow L) (IRow.lasts _) (fun y => by
    go_simp
    refine (CD.out _ (hgw.trans GG)).mono ?_
    rintro e w' ⟨A', c', rfl, ha, hg⟩
    exact ⟨_, rfl, hg, A', c', rfl, ha⟩) ?_
  refine gLex_depV2 (t1 := 49) (t2 := 51) (by kernel_rfl) (by kernel_rfl) rfl rfl (by simp) (by simp) (by decide) (.bool true) (fun y u1 u2 h1 h2 => by
    obtain ⟨B1, d1, rfl, k1⟩ := h1
    obtain ⟨B2, d2, rfl, k2⟩ := h2
    go_simp
    have := r1Same B1 L.length d1 L B2 L.length d2 L _ k1 hL k2 hL
    rw [decide_eq_true rfl] at this
    exact this) ?_
  simp only [Act.put, List.setIfInBounds_toArray, List.set_cons_zero, List.set_cons_succ]
  (repeat' (first | (refine gLex_val0 rfl (by kernel_rfl) (fun K hK => ?_); (go_simp; (try (simp only [↓IntWalk.iteOmega]; try go_simp)); (try simp (disch := omega) only [IntWalk.i64_in]); (try simp (disch := omega) only [IntWalk.u64_in]); first | (refine hK _ ?_; clear hK K) | (apply Exists.intro; refine ⟨fun x => ?_, hK _ ?_⟩; (first | (go_at_call 20; exact CA.out _)); clear hK K))) | (refine gLex_undef rfl rfl rfl (by kernel_rfl) (fun K hK => ?_); go_simp; refine hK _ ?_; clear hK K) | (refine gLex_ask rfl rfl rfl ?_; first | (apply gAsk_yes; kernel_rfl; intro K hK; (go_simp; (try (simp only [↓IntWalk.iteOmega]; try go_simp)); (try simp (disch := omega) only [IntWalk.i64_in]); (try simp (disch := omega) only [IntWalk.u64_in]); first | (refine hK _ ?_; clear hK K) | (apply Exists.intro; refine ⟨fun x => ?_, hK _ ?_⟩; (first | (go_at_call 20; exact CA.out _)); clear hK K))) | ((first | apply gAsk_no1 | apply gAsk_no2); kernel_rfl; intro K hK; simp [go_sem]; refine hK _ ?_; clear hK K))))
  refine gLex_endB (fun x8 => ?_)
  refine AtB.pop rfl (by simp [Act.put]) (fun z1 _ => ?_)
  refine AtB.pop rfl (by simp [Act.put]) (fun z2 _ => ?_)
  refine AtB.base ?_
  simp only [Act.put, List.setIfInBounds_toArray, List.set_cons_zero, List.set_cons_succ]
  go_wp2_with fail
  go_ret
  exact ⟨rfl, hgw.trans GG⟩
theorem rd_nil38 (w : World) (size : Nat) : Rd w none size 0 [] := ⟨by simp, fun h => absurd h (by simp)⟩
set_option maxRecDepth 40000 in
set_option maxHeartbeats 8000000 in
theorem statFarW (N : Int) (A : Option Addr) (n c : Nat) (E : List Edg) (w : World) (_ : I64 N) (_ : n ≤ c) (h : Rd w A 3 n (esCells E)) (_ : ∀ k, k < n → edgOk (ge E k)) :
    Calls Tryz.prog 4 #[.agg #[.int .i64 N, .slice A n c]] w fun e w' => e = .returned (.bool true) ∧ Grows w w' := by
  have CL := hide (fun (W : World) => lLight38 N A n c W)
  have hel := h.elen
  subst hel
  cases hq : light38 N E.length with
  | false =>
    have CA := hide (fun (W : World) => alive38 W)
    rw [hq] at CL
    clear hq h
    go_enter Tryz.func4, Tryz.ntmps4
    go_wp2_with (first | (go_at_call 19; refine (CL.out _).mono ?_; rintro e w' ⟨rfl, hg⟩; obtain ⟨x1, rfl⟩ := hg.later; clear hg) | (go_at_call 20; refine (CA.out _).mono ?_; rintro e w' ⟨rfl, hg⟩; obtain ⟨x2, rfl⟩ := hg.later; clear hg))
    go_ret
    exact ⟨rfl, GG⟩
  | true =>
    rw [hq] at CL
    have hn : E.length ≤ 100 := by
      unfold light38 at hq
      simp only [Bool.and_eq_true, decide_eq_true_eq] at hq
      exact hq.2
    clear hq
    by_cases hr : rightF N E = 0
    · obtain ⟨r1, r2, r3, r4, r5⟩ := right_in hr
      obtain ⟨N', rfl⟩ : ∃ k : Nat, N = (k : Int) := ⟨N.toNat, by omega⟩
      have hl := fltL_len (dblB E) E.length
      exact sfCore N' A E.length c w _ _ _ _ (fltL (dblB E) E.length) (by omega) CL (hide fun W g => stFar N' A c E W (h.grows g) hr) (hide fun W g => r38Far N' A c E W (h.grows g) hr) (hide fun W g => stDoubles N' A c E W (h.grows g) hr) (hide fun W g => r38Doubles N' A c E W (h.grows g) hr)
    · exact sfCore N A E.length c w 0 0 0 false [] (by simp) CL (hide fun W g => stFarNo N A E.length c E W (h.grows g) (by omega) hr) (hide fun W g => r38FarNo N A E.length c E W (h.grows g) (by omega) hr)
        (hide fun W g => (stDoublesNo N A E.length c E W (h.grows g) (by omega) hr).mono (by rintro x w' ⟨rfl, hg⟩; exact ⟨none, 0, rfl, rd_nil38 _ _, hg⟩))
        (hide fun W g => (r38DoublesNo N A E.length c E W (h.grows g) (by omega) hr).mono (by rintro x w' ⟨rfl, hg⟩; exact ⟨none, 0, rfl, rd_nil38 _ _, hg⟩))
end Go.Proofs.YtomednfddpggaaaGreat

/- The law StatFar: for every input it returns true, and each argument reads as before. No condition. -/
namespace Go.Proofs.YtomednfddpggaaaGreat.lawStatFar
open Go Go.ChangeShapes Go.WideShapes Go.ChangeAt Go.RowKit Go.Proofs.YtomednfddpggaaaGreat

theorem own : ownKnob Tryz.prog.godebug = none := by kernel_rfl
theorem laidOut : laidOutB Tryz.prog = true := by kernel_rfl

set_option maxRecDepth 100000 in
theorem lifted (os : Os) (started : os.Started) (H : Type) (enc : TypeId × Value → H) :
    ReturnsInHanded {} Tryz.checked os 4 .any (Rows.statFarSpec.pre6 enc Tryz.prog Tryz.f4 Rows.statFarRow.domain false) (Rows.statFarSpec.post enc Tryz.prog Tryz.f4 false true false false) := by
  refine returnsInHanded_of_change (C := Tryz.checked) own started (by kernel_rfl) Tryz.func4
    (ChangeSpec.witness6 (enc := enc) (C := Tryz.checked) false ⟨#[], #[.agg #[.int .i64 0, .slice none 0 0]], []⟩ 8 (by kernel_rfl) (by kernel_rfl) (by kernel_rfl) (by kernel_rfl)) ?_
  intro W base args ds gs before hval0 hW hcnd _
  have hval : ∀ (j : Nat) t v, Tryz.f4.params[j]? = some t → args[j]? = some v → Value.okWide Tryz.prog W .any base t v := hval0
  have hW' := hW
  obtain ⟨p, q, hA0, hV, rfl, hfz, hnd⟩ := hW
  have hA : DataW.TrodAll enc Tryz.prog W 0 (fun _ => true) true Tryz.f4.params.toList args.toList ds p := hA0
  rw [Tryz.params4] at hA hval
  obtain ⟨v0, vs0, d0, ds0, p0, q0, hargs, rfl, rfl, h0, r0⟩ := trodAll_cons hA
  obtain ⟨rfl, rfl, rfl⟩ := trodAll_nil r0
  obtain rfl : args = #[v0] := by cases args; simp_all
  obtain ⟨rfl, rfl⟩ := trodVars_none hV
  have k0 := h0
  have lt0 : ∀ x ∈ p0, x.block < W.heap.size := by obtain ⟨m, hm⟩ := k0; exact DataW.trod_lt m _ _ _ hm
  obtain ⟨a0, A0, n0, c0, z0, rfl, x0, l0, w0, u0⟩ := open_graph Tryz.underlying24 Tryz.underlying3 Tryz.underlying22 Tryz.underlying59 Tryz.underlying3 Tryz.underlying3 Tryz.underlying38 ⟨rfl, rfl, rfl⟩ ⟨by kernel_rfl, by kernel_rfl, by kernel_rfl⟩ (by kernel_rfl) (by kernel_rfl) (by kernel_rfl) (hval 0 24 v0 rfl rfl) h0
  clear hA0 hval0
  refine (statFarW a0 A0 n0 c0 z0 W x0 l0 w0 u0).mono fun e W' ⟨he, bel⟩ => ?_
  subst he
  exact ⟨_, rfl, _, _, _, [], _, [], hW', trodAll_mk1 (shut_bool Tryz.underlying4 _), (trodAll_cons_mk (Below.trod laidOut (by kernel_rfl) (of_decide_eq_true (by kernel_rfl)) k0 bel lt0) trodAll_mk0), rfl, Below.frame bel _, fun h => by cases h⟩

theorem over : Rows.statFarRow.holds Tryz.pinned (OpenSpec.ofChange Rows.statFarSpec) :=
  OpenClaim.holds_of_wide 4 Tryz.f4 rfl rfl rfl rfl rfl rfl rfl ⟨rfl, rfl, rfl, rfl, rfl⟩ rfl rfl rfl rfl rfl (by kernel_rfl) Tryz.func4 (by kernel_rfl)
    (of_decide_eq_true (by kernel_rfl)) (by unfold Func.isWrapper; first | (rw [if_pos (by decide +kernel)]; kernel_rfl) | (rw [if_neg (by decide +kernel)]; exact ⟨rfl, rfl⟩))
    (fun os started H enc _ => lifted os started H enc)

end Go.Proofs.YtomednfddpggaaaGreat.lawStatFar
namespace Go.Proofs.YtomednfddpggaaaGreat
theorem statFar_proved : Rows.StatFarSaid := lawStatFar.over
#print axioms statFar_proved
end Go.Proofs.YtomednfddpggaaaGreat
