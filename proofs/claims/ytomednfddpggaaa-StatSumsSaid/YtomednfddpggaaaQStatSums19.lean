/- The law StatSums: for every input it returns true, and each argument reads as before. No condition. -/
import Derived.Test.YtomednfddpggaaaQStatSums18
import Derived.Test.YtomednfddpggaaaQStatSums14
/- The law StatSums, walked: what all edges weigh lies between as many times the lightest and the heaviest, and there are at most as many parts as nodes. -/
namespace Go.Proofs.Ytomednfddpggaaa
open Go Go.RowKit
attribute [local go_sem] Oper.semAt_some
def LenP (n : Nat) : Pr := fun u _ => ∃ A c, u = .slice A n c
theorem LenP.lasts (n : Nat) : Lasts (LenP n) := fun _ _ _ _ h => h
def light38 (N : Int) (n : Nat) : Bool := lightG N n && (decide (N ≤ 30) || decide (4096 < N)) && decide (n ≤ 100)
set_option maxRecDepth 20000 in
set_option maxHeartbeats 2000000 in
theorem lLight38 (N : Int) (A : Option Addr) (n c : Nat) (w : World) : Calls Try.prog 30 #[.agg #[.int .i64 N, .slice A n c]] w fun e w' => e = .returned (.bool (light38 N n)) ∧ Grows w w' := by
  have C := hide (fun (W : World) => lLight N A n c W)
  have HD : Hid (light38 N n = (lightG N n && (decide (N ≤ 30) || decide (4096 < N)) && decide (n ≤ 100))) := rfl
  generalize light38 N n = r at *
  generalize lightG N n = q at *
  go_enter Try.func30, Try.ntmps30
  go_wp2_with (go_at_call 18; refine (C.out _).mono ?_; rintro e w' ⟨rfl, hg⟩; obtain ⟨x1, rfl⟩ := hg.later; clear hg)
  all_goals go_ret
  all_goals exact ⟨ret_bool (by rw [HD.out]; apply bool_ext; simp_all; try omega), GG⟩
def ex38 : List Edg := [⟨0, 1, 5⟩]
theorem st38 : stV 2 ex38 = .agg #[.int .i64 2, .int .i64 1, .int .i64 2, .int .i64 1, .int .i64 1, .int .i64 1, .int .i64 0, .int .u64 5, .int .u64 5, .int .u64 5] := by
  have h1 : strongN 2 ex38 = 2 := by decide +kernel
  have h2 : partsN 2 ex38 = 1 := by decide +kernel
  have h3 : mxD (d1 2 ex38) 2 = 1 := by decide +kernel
  have h4 : mxD (d2 2 ex38) 2 = 1 := by decide +kernel
  have h5 : (lonL (d1 2 ex38) (d2 2 ex38) 2).length = 0 := by decide +kernel
  have h6 : sumW ex38 ex38.length = 5 := by decide +kernel
  have h7 : leastW ex38 ex38.length = 5 := by decide +kernel
  have h8 : mostW ex38 ex38.length = 5 := by decide +kernel
  unfold stV
  rw [h1, h2, h3, h4, h5, h6, h7, h8]
  rfl
set_option maxRecDepth 20000 in
set_option maxHeartbeats 2000000 in
theorem alive38 (w : World) : Calls Try.prog 32 #[] w fun e w' => e = .returned (.bool true) ∧ Grows w w' := by
  have C := hide (fun (W : World) (A : Option Addr) (h : Rd W A 3 1 (esCells ex38)) => show Calls Try.prog 33 #[.agg #[.int .i64 2, .slice A 1 1]] W fun e w' => e = .returned (.tuple #[.agg #[.int .i64 2, .int .i64 1, .int .i64 2, .int .i64 1, .int .i64 1, .int .i64 1, .int .i64 0, .int .u64 5, .int .u64 5, .int .u64 5], .int .i64 0]) ∧ Grows W w' from by
    have := stOf 2 A 1 ex38 W h (by decide +kernel)
    rw [st38] at this
    exact this)
  have HR := hide (show Rd (w.alloc (.cells #[.int .i64 0, .int .i64 1, .int .u64 5] 68)) (some ⟨w.heap.size, 0, none⟩) 3 1 (esCells ex38) from Rd.made (w := w) (t := 68) (size := 3) (n := 1) (esCells ex38) rfl)
  go_enter Try.func32, Try.ntmps32
  go_wp2_with (go_at_call 33; refine (C.out _ _ (HR.out.grows GG)).mono ?_; rintro e w' ⟨rfl, hg⟩; obtain ⟨x1, rfl⟩ := hg.later; clear hg)
  go_ret
  exact ⟨rfl, GG⟩
theorem sums_law {N : Nat} {E : List Edg} (hr : rightF N E = 0) : (E.length : Int) * leastW E E.length ≤ sumW E E.length ∧ sumW E E.length ≤ (E.length : Int) * mostW E E.length ∧ (0 ≤ leastW E E.length ∧ leastW E E.length ≤ 4294967296) ∧ (0 ≤ mostW E E.length ∧ mostW E E.length ≤ 4294967296) ∧
    1 ≤ partsN N E ∧ partsN N E ≤ strongN N E ∧ strongN N E ≤ N ∧ (lonL (d1 N E) (d2 N E) N).length ≤ partsN N E ∧ mxD (d1 N E) N ≤ E.length := by
  obtain ⟨r1, r2, r3, r4, r5⟩ := right_in hr
  rw [Int.toNat_natCast] at r4
  obtain ⟨_, a2, a3, a4, a5⟩ := stat_w r5 E.length (Nat.le_refl _)
  obtain ⟨l1, l2⟩ := lonL_is r4
  obtain ⟨p1, p2, p3, p4⟩ := parts_counts r4 (by omega) _ l1 l2
  have hd := mxD_in (d := d1 N E) (m := E.length) (by omega) (fun v => (dgL_in (fun i hi => (r4.f i hi).1) v E.length (Nat.le_refl _)).2.1) N
  exact ⟨a4, a5, a3, a2, p1, p2, p3, p4, hd.2⟩
set_option maxRecDepth 40000 in
set_option maxHeartbeats 8000000 in
theorem statSumsW (N : Int) (A : Option Addr) (n c : Nat) (E : List Edg) (w : World) (_ : I64 N) (_ : n ≤ c) (h : Rd w A 3 n (esCells E)) (_ : ∀ k, k < n → edgOk (ge E k)) :
    Calls Try.prog 5 #[.agg #[.int .i64 N, .slice A n c]] w fun e w' => e = .returned (.bool true) ∧ Grows w w' := by
  have CL := hide (fun (W : World) => lLight38 N A n c W)
  have CA := hide (fun (W : World) => alive38 W)
  have hel := h.elen
  subst hel
  cases hq : light38 N E.length with
  | false =>
    rw [hq] at CL
    clear hq h
    go_enter Try.func5, Try.ntmps5
    go_wp2_with (first | (go_at_call 30; refine (CL.out _).mono ?_; rintro e w' ⟨rfl, hg⟩; obtain ⟨x1, rfl⟩ := hg.later; clear hg) | (go_at_call 32; refine (CA.out _).mono ?_; rintro e w' ⟨rfl, hg⟩; obtain ⟨x2, rfl⟩ := hg.later; clear hg))
    go_ret
    exact ⟨rfl, GG⟩
  | true =>
    rw [hq] at CL
    have hn : E.length ≤ 100 := by
      unfold light38 at hq
      simp only [Bool.and_eq_true, decide_eq_true_eq] at hq
      exact hq.2
    clear hq
    have C5 := hide (fun (W : World) (g : Grows w W) => r5Right N A E.length c E W (h.grows g) (by omega))
    by_cases hr : rightF N E = 0
    · rw [hr] at C5
      obtain ⟨r1, r2, r3, r4, r5⟩ := right_in hr
      obtain ⟨N', rfl⟩ : ∃ k : Nat, N = (k : Int) := ⟨N.toNat, by omega⟩
      have CS := hide (fun (W : World) (g : Grows w W) => stOf N' A c E W (h.grows g) hr)
      have CD := hide (fun (W : World) (g : Grows w W) => stDoubles N' A c E W (h.grows g) hr)
      obtain ⟨l1, l2, l3, l4, l5, l6, l7, l8, l9⟩ := sums_law hr
      have l10 := fltL_len (dblB E) E.length
      have hm1 : IntKind.u64.wrap ((E.length : Int) * leastW E E.length) = (E.length : Int) * leastW E E.length := IntWalk.u64_in _ ⟨Int.mul_nonneg (by omega) l3.1, by
        have := Int.mul_le_mul (show (E.length : Int) ≤ 100 by omega) l3.2 l3.1 (by omega)
        omega⟩
      have hm2 : IntKind.u64.wrap ((E.length : Int) * mostW E E.length) = (E.length : Int) * mostW E E.length := IntWalk.u64_in _ ⟨Int.mul_nonneg (by omega) l4.1, by
        have := Int.mul_le_mul (show (E.length : Int) ≤ 100 by omega) l4.2 l4.1 (by omega)
        omega⟩
      have b5 : decide ((1 : Int) ≤ (partsN N' E : Int)) = true := decide_eq_true (by omega)
      unfold stV at CS
      clear h hr r1 r2 r3 r4 r5 l3 l4
      generalize leastW E E.length = le at *
      generalize mostW E E.length = mo at *
      generalize sumW E E.length = tw at *
      generalize strongN N' E = sn at *
      generalize partsN N' E = pn at *
      generalize mxD (d1 N' E) N' = oo at *
      generalize mxD (d2 N' E) N' = ii at *
      generalize (lonL (d1 N' E) (d2 N' E) N').length = ln at *
      generalize fltL (dblB E) E.length = DL at *
      go_enter Try.func5, Try.ntmps5
      go_wp2_with (first
        | (go_at_call 30; refine (CL.out _).mono ?_; rintro e w' ⟨rfl, hg⟩; obtain ⟨x1, rfl⟩ := hg.later; clear hg)
        | (go_at_call 31; refine (C5.out _ GG).mono ?_; rintro e w' ⟨rfl, hg⟩; obtain ⟨x2, rfl⟩ := hg.later; clear hg)
        | (go_at_call 33; refine (CS.out _ GG).mono ?_; rintro e w' ⟨rfl, hg⟩; obtain ⟨x3, rfl⟩ := hg.later; clear hg)
        | (go_at_call 34; refine (CD.out _ GG).mono ?_; rintro e w' ⟨A4, c4, rfl, hr4, hg⟩; obtain ⟨x4, rfl⟩ := Grows.later2 (((Grows.refl x3.now).new _).trans hg); clear hg hr4)
        | (go_at_call 32; refine (CA.out _).mono ?_; rintro e w' ⟨rfl, hg⟩; obtain ⟨x5, rfl⟩ := hg.later; clear hg))
      refine wp_region_gen (by kernel_rfl) (by kernel_rfl) ?_
      (repeat' (first | (refine gLex_val0 rfl (by kernel_rfl) (fun K hK => ?_); (go_simp; (try (simp only [↓IntWalk.iteOmega]; try go_simp)); (try simp (disch := omega) only [IntWalk.i64_in]); (try simp (disch := omega) only [IntWalk.u64_in]); first | (refine hK _ ?_; clear hK K) | (apply Exists.intro; refine ⟨fun x => ?_, hK _ ?_⟩; (first | fail); clear hK K))) | (refine gLex_undef rfl rfl rfl (by kernel_rfl) (fun K hK => ?_); go_simp; refine hK _ ?_; clear hK K) | (refine gLex_ask rfl rfl rfl ?_; first | (apply gAsk_yes; kernel_rfl; intro K hK; (go_simp; (try (simp only [↓IntWalk.iteOmega]; try go_simp)); (try simp (disch := omega) only [IntWalk.i64_in]); (try simp (disch := omega) only [IntWalk.u64_in]); first | (refine hK _ ?_; clear hK K) | (apply Exists.intro; refine ⟨fun x => ?_, hK _ ?_⟩; (first | fail); clear hK K))) | ((first | apply gAsk_no1 | apply gAsk_no2); kernel_rfl; intro K hK; simp [go_sem]; refine hK _ ?_; clear hK K))))
      refine gLex_propG (by kernel_rfl) (by kernel_rfl) rfl (by simp) (LenP DL.length) (LenP.lasts _) (fun y => by
        go_simp
        refine (CD.out _ ((show Grows w _ from GG).trans GG)).mono ?_
        rintro e w' ⟨A', c', rfl, ha, hg⟩
        exact ⟨_, rfl, hg, A', c', rfl⟩) ?_
      refine gLex_depV (t0 := 79) (by kernel_rfl) (by kernel_rfl) rfl (by simp) (.int .i64 (DL.length : Int)) (fun y u hu => by
        obtain ⟨A', c', rfl⟩ := hu
        go_simp) ?_
      simp only [Act.put, List.setIfInBounds_toArray, List.set_cons_zero, List.set_cons_succ]
      (repeat' (first | (refine gLex_val0 rfl (by kernel_rfl) (fun K hK => ?_); (go_simp; (try (simp only [↓IntWalk.iteOmega]; try go_simp)); (try simp (disch := omega) only [IntWalk.i64_in]); (try simp (disch := omega) only [IntWalk.u64_in]); first | (refine hK _ ?_; clear hK K) | (apply Exists.intro; refine ⟨fun x => ?_, hK _ ?_⟩; (first | (go_at_call 32; exact CA.out _)); clear hK K))) | (refine gLex_undef rfl rfl rfl (by kernel_rfl) (fun K hK => ?_); go_simp; refine hK _ ?_; clear hK K) | (refine gLex_ask rfl rfl rfl ?_; first | (apply gAsk_yes; kernel_rfl; intro K hK; (go_simp; (try (simp only [↓IntWalk.iteOmega]; try go_simp)); (try simp (disch := omega) only [IntWalk.i64_in]); (try simp (disch := omega) only [IntWalk.u64_in]); first | (refine hK _ ?_; clear hK K) | (apply Exists.intro; refine ⟨fun x => ?_, hK _ ?_⟩; (first | (go_at_call 32; exact CA.out _)); clear hK K))) | ((first | apply gAsk_no1 | apply gAsk_no2); kernel_rfl; intro K hK; simp [go_sem]; refine hK _ ?_; clear hK K))))
      refine gLex_endB (fun x5 => ?_)
      refine AtB.pop rfl (by simp) (fun z1 _ => ?_)
      refine AtB.base ?_
      simp only [Act.put, List.setIfInBounds_toArray, List.set_cons_zero, List.set_cons_succ]
      go_wp2_with fail
      go_ret
      exact ⟨rfl, GG⟩
    · have hb : (rightF N E != 0) = true := bne_iff_ne.2 hr
      clear h hr
      generalize rightF N E = r at *
      go_enter Try.func5, Try.ntmps5
      go_wp2_with (first
        | (go_at_call 30; refine (CL.out _).mono ?_; rintro e w' ⟨rfl, hg⟩; obtain ⟨x1, rfl⟩ := hg.later; clear hg)
        | (go_at_call 31; refine (C5.out _ GG).mono ?_; rintro e w' ⟨rfl, hg⟩; obtain ⟨x2, rfl⟩ := hg.later; clear hg)
        | (go_at_call 32; refine (CA.out _).mono ?_; rintro e w' ⟨rfl, hg⟩; obtain ⟨x5, rfl⟩ := hg.later; clear hg))
      go_ret
      exact ⟨rfl, GG⟩
end Go.Proofs.Ytomednfddpggaaa

/- The law StatSums: for every input it returns true, and each argument reads as before. No condition. -/
namespace Go.Proofs.Ytomednfddpggaaa.lawStatSums
open Go Go.ChangeShapes Go.WideShapes Go.ChangeAt Go.RowKit Go.Proofs.Ytomednfddpggaaa

theorem own : ownKnob Try.prog.godebug = none := by kernel_rfl
theorem laidOut : laidOutB Try.prog = true := by kernel_rfl

set_option maxRecDepth 100000 in
theorem lifted (os : Os) (started : os.Started) (H : Type) (enc : TypeId × Value → H) :
    ReturnsInHanded {} Try.checked os 5 .any (Rows.statSumsSpec.pre6 enc Try.prog Try.f5 Rows.statSumsRow.domain false) (Rows.statSumsSpec.post enc Try.prog Try.f5 false true false false) := by
  refine returnsInHanded_of_change (C := Try.checked) own started (by kernel_rfl) Try.func5
    (ChangeSpec.witness6 (enc := enc) (C := Try.checked) false ⟨#[], #[.agg #[.int .i64 0, .slice none 0 0]], []⟩ 8 (by kernel_rfl) (by kernel_rfl) (by kernel_rfl) (by kernel_rfl)) ?_
  intro W base args ds gs before hval0 hW hcnd _
  have hval : ∀ (j : Nat) t v, Try.f5.params[j]? = some t → args[j]? = some v → Value.okWide Try.prog W .any base t v := hval0
  have hW' := hW
  obtain ⟨p, q, hA0, hV, rfl, hfz, hnd⟩ := hW
  have hA : DataW.TrodAll enc Try.prog W 0 (fun _ => true) true Try.f5.params.toList args.toList ds p := hA0
  rw [Try.params5] at hA hval
  obtain ⟨v0, vs0, d0, ds0, p0, q0, hargs, rfl, rfl, h0, r0⟩ := trodAll_cons hA
  obtain ⟨rfl, rfl, rfl⟩ := trodAll_nil r0
  obtain rfl : args = #[v0] := by cases args; simp_all
  obtain ⟨rfl, rfl⟩ := trodVars_none hV
  have k0 := h0
  have lt0 : ∀ x ∈ p0, x.block < W.heap.size := by obtain ⟨m, hm⟩ := k0; exact DataW.trod_lt m _ _ _ hm
  obtain ⟨a0, A0, n0, c0, z0, rfl, x0, l0, w0, u0⟩ := open_graph Try.underlying24 Try.underlying3 Try.underlying22 Try.underlying68 Try.underlying3 Try.underlying3 Try.underlying38 ⟨rfl, rfl, rfl⟩ ⟨by kernel_rfl, by kernel_rfl, by kernel_rfl⟩ (by kernel_rfl) (by kernel_rfl) (by kernel_rfl) (hval 0 24 v0 rfl rfl) h0
  clear hA0 hval0
  refine (statSumsW a0 A0 n0 c0 z0 W x0 l0 w0 u0).mono fun e W' ⟨he, bel⟩ => ?_
  subst he
  exact ⟨_, rfl, _, _, _, [], _, [], hW', trodAll_mk1 (shut_bool Try.underlying4 _), (trodAll_cons_mk (Below.trod laidOut (by kernel_rfl) (of_decide_eq_true (by kernel_rfl)) k0 bel lt0) trodAll_mk0), rfl, Below.frame bel _, fun h => by cases h⟩

theorem over : Rows.statSumsRow.holds Try.pinned (OpenSpec.ofChange Rows.statSumsSpec) :=
  OpenClaim.holds_of_wide 5 Try.f5 rfl rfl rfl rfl rfl rfl rfl ⟨rfl, rfl, rfl, rfl, rfl⟩ rfl rfl rfl rfl rfl (by kernel_rfl) Try.func5 (by kernel_rfl)
    (of_decide_eq_true (by kernel_rfl)) (by unfold Func.isWrapper; first | (rw [if_pos (by decide +kernel)]; kernel_rfl) | (rw [if_neg (by decide +kernel)]; exact ⟨rfl, rfl⟩))
    (fun os started H enc _ => lifted os started H enc)

end Go.Proofs.Ytomednfddpggaaa.lawStatSums
namespace Go.Proofs.Ytomednfddpggaaa
theorem statSums_proved : Rows.StatSumsSaid := lawStatSums.over
#print axioms statSums_proved
end Go.Proofs.Ytomednfddpggaaa
