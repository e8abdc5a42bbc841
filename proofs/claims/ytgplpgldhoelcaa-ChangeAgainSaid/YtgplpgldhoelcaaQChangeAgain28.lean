/- The law ChangeAgain: for every input it returns true, and each argument reads as before. No condition. -/
import Derived.Test.YtgplpgldhoelcaaQChangeAgain27
import Derived.Test.YtgplpgldhoelcaaQChangeAgain06
import Derived.Test.YtgplpgldhoelcaaQChangeAgain24
namespace Go.Proofs.Ytgplpgldhoelcaa
open Go Go.RowKit
attribute [local go_sem] Oper.semAt_some
set_option maxRecDepth 40000 in
set_option maxHeartbeats 16000000 in
theorem againGo (k : Nat) (A : Option Addr) (n c : Nat) (E : List Edg) (p q : Nat) (B : Option Addr) (m d : Nat) (l : List Int) (p2 q2 : Nat) (B2 : Option Addr) (m2 d2 : Nat) (l2 : List Int) (C : Option Addr) (kk ee : Nat) (L : List Chg) (e : Int) (w : World) (h : Rd w A 3 n (esCells E)) (hl : Rd w B 1 m (l.map (.int .i64))) (hl2 : Rd w B2 1 m2 (l2.map (.int .i64))) (hc : Rd w C 2 kk (csCells L))
    (h1 : light20B (k : Int) n = true) (h2 : ¬ (60 : Int) < m) (h3 : ¬ (60 : Int) < m2) (h4 : ¬ (40 : Int) < kk) (hok : rightF (k : Int) E = 0) (hor : coRB (p : Int) (q : Int) l = true) (hk : k ≤ 12) (hn : n ≤ 40) (hmm : m = 0 ∨ m = k) (hgood : coRB (p2 : Int) (q2 : Int) l2 = true) :
    Calls Try.prog 4 #[.agg #[.int .i64 (k : Int), .slice A n c], .agg #[.int .i64 (p : Int), .int .i64 (q : Int), .slice B m d], .agg #[.int .i64 (p2 : Int), .int .i64 (q2 : Int), .slice B2 m2 d2], .slice C kk ee, .int .i64 e] w fun e w' => e = .returned (.bool true) ∧ Grows w w' := by
  have hel : E.length = n := h.elen
  have hk1 : 1 ≤ k := by have := (right_in hok).1; omega
  have CL := hide (fun (W : World) => lLight20 (k : Int) A n c W)
  have CA := hide (fun (W : World) => alive33 W)
  have CB := hide (fun (W : World) (g : Grows w W) => hiBuilt k A n c E p q B m d l W (h.grows g) hok (hl.grows g) hor hk hn hmm)
  unfold GiveHB at CB
  have CR := hide (fun (W : World) (g : Grows w W) => r18Right B2 m2 d2 l2 W (hl2.grows g) (by omega))
  obtain ⟨g1, g2, g3, g4, g5⟩ := coRB_yes hgood
  rw [g5] at CR
  have CO := hide (fun (W : World) (g : Grows w W) => law33of C kk ee L W (hc.grows g) (by omega))
  have hlk := hc.clen
  have C8 := hide (fun (W : World) (g : Grows w W) => r33Apply (k : Int) A n c E C kk ee L W (h.grows g) (by omega) (hc.grows g) (by omega))
  unfold GiveA at C8
  rw [h1] at CL
  have CI := hide (fun (r vs : List Nat) (hi : InvR k r vs) => rkB_invA (p := p) (q := q) hok hk (show E.length ≤ 40 by omega) hi)
  have CM := hide (fun (r vs : List Nat) (hi : InvR k r vs) => show HgOk ((blt k p q E vs).map Sc.si) (nvI r) ((blt k p q E vs).map Sc.si).length (nvI r).length from hgOk_of hok (built_ok (hops := p) (settles := q) hok hk (show E.length ≤ 40 by omega) hi).1)
  have HGO := hide hgood
  have HL2 := hide hl2
  have hE40 : E.length ≤ 40 := by omega
  have HEL := hide hel
  have hL40 : L.length ≤ 40 := by omega
  have e2 : decide ((60 : Int) < (m : Int)) = false := decide_eq_false h2
  have e3 : decide ((60 : Int) < (m2 : Int)) = false := decide_eq_false h3
  have e4 : decide ((40 : Int) < (kk : Int)) = false := decide_eq_false h4
  have hkk : kk ≤ 40 := by omega
  have hm2 : m2 ≤ 60 := by omega
  clear h1 h hl hl2 hc hor hgood g5 h2 h3 h4 hel hlk
  go_enter Try.func4, Try.ntmps4
  go_upto_region 1 with fail
  obtain ⟨W1, hW1⟩ : ∃ W1, W1 = (((w.alloc (.cells #[.int .i64 (k : Int), .slice A n c] 44)).alloc (.cells #[.int .i64 (p : Int), .int .i64 (q : Int), .slice B m d] 37)).alloc (.cells #[.int .i64 (p2 : Int), .int .i64 (q2 : Int), .slice B2 m2 d2] 37)) := ⟨_, rfl⟩
  have a5 : Arr W1 w.heap.size 44 [.int .i64 (k : Int), .slice A n c] := by rw [hW1]; exact ((Arr.make _ _ _).grow ((Grows.refl _).new _)).grow ((Grows.refl _).new _)
  have a6 : Arr W1 (w.heap.size + 1) 37 [.int .i64 (p : Int), .int .i64 (q : Int), .slice B m d] := by
    have h1 := (Arr.make (w.alloc (.cells #[.int .i64 (k : Int), .slice A n c] 44)) [.int .i64 (p : Int), .int .i64 (q : Int), .slice B m d] 37).grow ((Grows.refl _).new (.cells #[.int .i64 (p2 : Int), .int .i64 (q2 : Int), .slice B2 m2 d2] 37))
    rw [hW1]
    simpa using h1
  have a7 : Arr W1 (w.heap.size + 1 + 1) 37 [.int .i64 (p2 : Int), .int .i64 (q2 : Int), .slice B2 m2 d2] := by
    have h1 := Arr.make ((w.alloc (.cells #[.int .i64 (k : Int), .slice A n c] 44)).alloc (.cells #[.int .i64 (p : Int), .int .i64 (q : Int), .slice B m d] 37)) [.int .i64 (p2 : Int), .int .i64 (q2 : Int), .slice B2 m2 d2] 37
    rw [hW1]
    simpa using h1
  have hgW : Grows w W1 := by rw [hW1]; exact (((Grows.refl _).new _).new _).new _
  rw [← hW1]
  clear hW1
  generalize w.heap.size + 1 + 1 = b7 at *
  generalize w.heap.size + 1 = b6 at *
  generalize w.heap.size = b5 at *
  obtain ⟨y1, rfl⟩ := hgW.later
  clear hgW
  go_upto_region 4 with (first
    | (go_at_call 10; refine (CL.out _).mono ?_; rintro e w' ⟨rfl, hg⟩; obtain ⟨x1, rfl⟩ := hg.later; clear hg)
    | (go_at_call 12; refine (CB.out _ GG).mono ?_; rintro e w' ⟨b1, r, vs, rfl, hI, _, hh, hg⟩; obtain ⟨x2, rfl⟩ := hg.later; have HI := hide hI; have HH := hide hh; clear hg hI hh))
  have hx2 : Grows w x2.now := GG
  have CI1 := hide (CI.out r vs HI.out)
  have CM1 := hide (CM.out r vs HI.out)
  rw [(CI1.out).2.1] at CM1
  generalize hS : (blt k p q E vs).map Sc.si = S at *
  clear hS CI CM CB CL HI
  have hSl := CI1.out.2.2
  have KHG := hide (fun (W : World) (g : Grows x2.now W) => chHangs b1 k E r S (nvI r) k S.length e W (HH.out.grow g) rfl hSl CM1.out)
  unfold GiveHg at KHG
  have KH := hide (fun (W : World) (g : Grows x2.now W) => hiHierarchy b1 k E r S W (HH.out.grow g) (by omega) hSl)
  unfold GiveHR at KH
  have KR := hide (fun (B9 : Option Addr) (d9 : Nat) (A9 : Option Addr) (c9 : Nat) (W : World) (h9 : Rd W A9 6 S.length (sis S)) => r33Hangs B9 k d9 A9 S.length c9 S (nvI r) k e W h9 hSl CM1.out (by omega))
  have hgl : (hgI S e S.length).length ≤ 1000000 := Nat.le_trans (hgI_len S e S.length) hSl
  have KS := hide (fun (A8 : Option Addr) (c8 : Nat) (A7 : Option Addr) (c7 : Nat) (W : World) (h8 : Rd W A8 1 (hgI S e S.length).length (nv (hgI S e S.length))) (h7 : Rd W A7 1 (hgI S e S.length).length (nv (hgI S e S.length))) => show Calls Try.prog 18 #[.slice A8 (hgI S e S.length).length c8, .slice A7 (hgI S e S.length).length c7] W fun e w' => e = .returned (.bool true) ∧ Grows W w' from by
    have := r1Same A8 _ c8 (nvI (hgI S e S.length)) A7 _ c7 (nvI (hgI S e S.length)) W (by rw [← nvI_vals]; exact h8) hgl (by rw [← nvI_vals]; exact h7) hgl
    rw [decide_eq_true rfl] at this
    exact this)
  rcases ap_cases (L := L) hok with hap | ⟨a1, a2, a3, a4, a5⟩
  · have CG := hide (fun (A1 : Option Addr) (c1 : Nat) (W : World) (g : Grows w W) (g2 : Grows x2.now W) (h5 : Rd W A1 2 L.length (csCells L)) => chAgainBad b1 k E r S A1 L.length c1 L (p2 : Int) (q2 : Int) B2 m2 d2 l2 W (HH.out.grow g2) (by omega) h5 (by omega) (HL2.out.grows g) (by omega) HGO.out hap)
    have hb : ((apF k E L) != 0) = true := by simpa using hap
    have hb0 : ((apF k E L) == 0) = false := by simpa using hap
    clear hap HGO HL2 CI1 CM1 HH
    generalize apF k E L = f4 at *
    generalize apI k E L = i4 at *
    generalize apN k E L = N4 at *
    generalize apL k E L = E4 at *
    generalize hgI S e S.length = G at *
    refine wp_region_gen (by kernel_rfl) (by kernel_rfl) ?_
    (repeat' (first | (refine gLex_val0 rfl (by kernel_rfl) (fun K hK => ?_); (go_simp; (try (simp only [↓IntWalk.iteOmega]; try go_simp)); (try simp (disch := omega) only [IntWalk.i64_in]); (try simp (disch := omega) only [IntWalk.u64_in]); first | (refine hK _ ?_; clear hK K) | (apply Exists.intro; refine ⟨fun x => ?_, hK _ ?_⟩; (first | fail); clear hK K))) | (refine gLex_undef rfl rfl rfl (by kernel_rfl) (fun K hK => ?_); go_simp; refine hK _ ?_; clear hK K) | (refine gLex_ask rfl rfl rfl ?_; first | (apply gAsk_yes; kernel_rfl; intro K hK; (go_simp; (try (simp only [↓IntWalk.iteOmega]; try go_simp)); (try simp (disch := omega) only [IntWalk.i64_in]); (try simp (disch := omega) only [IntWalk.u64_in]); first | (refine hK _ ?_; clear hK K) | (apply Exists.intro; refine ⟨fun x => ?_, hK _ ?_⟩; (first | fail); clear hK K))) | ((first | apply gAsk_no1 | apply gAsk_no2); kernel_rfl; intro K hK; simp [go_sem]; refine hK _ ?_; clear hK K))))
    refine gLex_propG (by kernel_rfl) (by kernel_rfl) rfl (by simp) (CgP L) (CgP.lasts _) (fun y => by
      go_simp
      refine (CO.out _ GG).mono ?_
      rintro e w' ⟨A1, c1, rfl, ho1, hg⟩
      exact ⟨_, rfl, hg, A1, c1, rfl, ho1.rd⟩) ?_
    (repeat' (first | (refine gLex_val0 rfl (by kernel_rfl) (fun K hK => ?_); (go_simp; (try (simp only [↓IntWalk.iteOmega]; try go_simp)); (try simp (disch := omega) only [IntWalk.i64_in]); (try simp (disch := omega) only [IntWalk.u64_in]); first | (refine hK _ ?_; clear hK K) | (apply Exists.intro; refine ⟨fun x => ?_, hK _ ?_⟩; (first | fail); clear hK K))) | (refine gLex_undef rfl rfl rfl (by kernel_rfl) (fun K hK => ?_); go_simp; refine hK _ ?_; clear hK K) | (refine gLex_ask rfl rfl rfl ?_; first | (apply gAsk_yes; kernel_rfl; intro K hK; (go_simp; (try (simp only [↓IntWalk.iteOmega]; try go_simp)); (try simp (disch := omega) only [IntWalk.i64_in]); (try simp (disch := omega) only [IntWalk.u64_in]); first | (refine hK _ ?_; clear hK K) | (apply Exists.intro; refine ⟨fun x => ?_, hK _ ?_⟩; (first | fail); clear hK K))) | ((first | apply gAsk_no1 | apply gAsk_no2); kernel_rfl; intro K hK; simp [go_sem]; refine hK _ ?_; clear hK K))))
    refine gLex_depV (t0 := 50) (by kernel_rfl) (by kernel_rfl) rfl (by simp) (.tuple #[.pointer none, .int .i64 i4, .int .i64 f4]) (fun y u1 hu1 => by
      obtain ⟨A1, c1, rfl, h1⟩ := hu1
      have CG2 := hide (CG.out A1 c1 _ (hx2.trans GG) GG h1)
      clear h1
      go_simp
      exact CG2.out) ?_
    simp only [Act.put, List.setIfInBounds_toArray, List.set_cons_zero, List.set_cons_succ]
    (repeat' (first | (refine gLex_val0 rfl (by kernel_rfl) (fun K hK => ?_); (go_simp; (try (simp only [↓IntWalk.iteOmega]; try go_simp)); (try simp (disch := omega) only [IntWalk.i64_in]); (try simp (disch := omega) only [IntWalk.u64_in]); first | (refine hK _ ?_; clear hK K) | (apply Exists.intro; refine ⟨fun x => ?_, hK _ ?_⟩; (first | fail); clear hK K))) | (refine gLex_undef rfl rfl rfl (by kernel_rfl) (fun K hK => ?_); go_simp; refine hK _ ?_; clear hK K) | (refine gLex_ask rfl rfl rfl ?_; first | (apply gAsk_yes; kernel_rfl; intro K hK; (go_simp; (try (simp only [↓IntWalk.iteOmega]; try go_simp)); (try simp (disch := omega) only [IntWalk.i64_in]); (try simp (disch := omega) only [IntWalk.u64_in]); first | (refine hK _ ?_; clear hK K) | (apply Exists.intro; refine ⟨fun x => ?_, hK _ ?_⟩; (first | fail); clear hK K))) | ((first | apply gAsk_no1 | apply gAsk_no2); kernel_rfl; intro K hK; simp [go_sem]; refine hK _ ?_; clear hK K))))
    refine gLex_endB (fun z => ?_)
    refine AtB.pop rfl (by simp) (fun z1 _ => ?_)
    refine AtB.base ?_
    simp only [Act.put, List.setIfInBounds_toArray, List.set_cons_zero, List.set_cons_succ]
    go_wp2_with (first
      | (go_at_call 15; refine (CR.out _ GG).mono ?_; rintro e w' ⟨rfl, hg⟩; obtain ⟨x5, rfl⟩ := hg.later; clear hg)
      | (go_at_call 17; refine (C8.out _ GG).mono ?_; rintro e w' ⟨A5, c5, rfl, _, hg⟩; obtain ⟨x6, rfl⟩ := hg.later; clear hg)
      | (go_at_call 16; refine (KHG.out _ GG).mono ?_; rintro e w' ⟨A6, c6, rfl, h6, hg⟩; obtain ⟨x7, rfl⟩ := hg.later; have H6 := hide h6; clear hg h6)
      | (go_at_call 20; refine (KH.out _ GG).mono ?_; rintro e w' ⟨B9, d9, A9, c9, rfl, _, h9, _, hg⟩; obtain ⟨x8, rfl⟩ := hg.later; have H9 := hide h9; clear hg h9)
      | (go_at_call 19; refine (KR.out _ _ _ _ _ (H9.out.grows GG)).mono ?_; rintro e w' ⟨A7, c7, rfl, h7, hg⟩; obtain ⟨x9, rfl⟩ := hg.later; have H7 := hide h7; clear hg h7)
      | (go_at_call 18; refine (KS.out _ _ _ _ _ (H6.out.grows GG) (H7.out.grows GG)).mono ?_; rintro e w' ⟨rfl, hg⟩; obtain ⟨x10, rfl⟩ := hg.later; clear hg)
      | (go_at_call 11; refine (CA.out _).mono ?_; rintro e w' ⟨rfl, hg⟩; obtain ⟨x11, rfl⟩ := hg.later; clear hg))
    go_ret
    exact ⟨rfl, hx2.trans GG⟩
  · have CG := hide (fun (A1 : Option Addr) (c1 : Nat) (W : World) (g : Grows w W) (g2 : Grows x2.now W) (h5 : Rd W A1 2 L.length (csCells L)) => chAgain b1 k E r S A1 L.length c1 L p2 q2 B2 m2 d2 l2 W (HH.out.grow g2) hSl hk hk1 (by omega) CI1.out.1 CI1.out.2.1 h5 (by omega) (HL2.out.grows g) (by omega) HGO.out a1 a2 a3 a4 a5)
    unfold GiveAg at CG
    rw [a1, a2, a3, a4] at C8
    have hel4 : (apE E L L.length).length = n := by rw [apE_len]; exact HEL.out
    rw [hel4] at C8
    have CBO := hide (fun (r2 vs2 : List Nat) (hi : InvR k r2 vs2) => built_ok (hops := p2) (settles := q2) a5 hk (show (apE E L L.length).length ≤ 40 by omega) hi)
    have HA5 := hide a5
    have HE4 := hide hel4
    clear a1 a2 a3 a4 a5 hel4 HGO HL2 CM1
    generalize apE E L L.length = E4 at *
    generalize hgI S e S.length = G at *
    refine wp_region_gen (by kernel_rfl) (by kernel_rfl) ?_
    (repeat' (first | (refine gLex_val0 rfl (by kernel_rfl) (fun K hK => ?_); (go_simp; (try (simp only [↓IntWalk.iteOmega]; try go_simp)); (try simp (disch := omega) only [IntWalk.i64_in]); (try simp (disch := omega) only [IntWalk.u64_in]); first | (refine hK _ ?_; clear hK K) | (apply Exists.intro; refine ⟨fun x => ?_, hK _ ?_⟩; (first | fail); clear hK K))) | (refine gLex_undef rfl rfl rfl (by kernel_rfl) (fun K hK => ?_); go_simp; refine hK _ ?_; clear hK K) | (refine gLex_ask rfl rfl rfl ?_; first | (apply gAsk_yes; kernel_rfl; intro K hK; (go_simp; (try (simp only [↓IntWalk.iteOmega]; try go_simp)); (try simp (disch := omega) only [IntWalk.i64_in]); (try simp (disch := omega) only [IntWalk.u64_in]); first | (refine hK _ ?_; clear hK K) | (apply Exists.intro; refine ⟨fun x => ?_, hK _ ?_⟩; (first | fail); clear hK K))) | ((first | apply gAsk_no1 | apply gAsk_no2); kernel_rfl; intro K hK; simp [go_sem]; refine hK _ ?_; clear hK K))))
    refine gLex_propG (by kernel_rfl) (by kernel_rfl) rfl (by simp) (CgP L) (CgP.lasts _) (fun y => by
      go_simp
      refine (CO.out _ GG).mono ?_
      rintro e w' ⟨A1, c1, rfl, ho1, hg⟩
      exact ⟨_, rfl, hg, A1, c1, rfl, ho1.rd⟩) ?_
    (repeat' (first | (refine gLex_val0 rfl (by kernel_rfl) (fun K hK => ?_); (go_simp; (try (simp only [↓IntWalk.iteOmega]; try go_simp)); (try simp (disch := omega) only [IntWalk.i64_in]); (try simp (disch := omega) only [IntWalk.u64_in]); first | (refine hK _ ?_; clear hK K) | (apply Exists.intro; refine ⟨fun x => ?_, hK _ ?_⟩; (first | fail); clear hK K))) | (refine gLex_undef rfl rfl rfl (by kernel_rfl) (fun K hK => ?_); go_simp; refine hK _ ?_; clear hK K) | (refine gLex_ask rfl rfl rfl ?_; first | (apply gAsk_yes; kernel_rfl; intro K hK; (go_simp; (try (simp only [↓IntWalk.iteOmega]; try go_simp)); (try simp (disch := omega) only [IntWalk.i64_in]); (try simp (disch := omega) only [IntWalk.u64_in]); first | (refine hK _ ?_; clear hK K) | (apply Exists.intro; refine ⟨fun x => ?_, hK _ ?_⟩; (first | fail); clear hK K))) | ((first | apply gAsk_no1 | apply gAsk_no2); kernel_rfl; intro K hK; simp [go_sem]; refine hK _ ?_; clear hK K))))
    refine gLex_dep (t0 := 50) (by kernel_rfl) (by kernel_rfl) rfl (by simp) rfl (by simp) (AgP (fun a => .tuple #[.pointer (some a), .int .i64 0, .int .i64 0]) k p2 q2 E4 r) (AgP.lasts _ _ _ _ _ _) (fun y u1 hu1 => by
      obtain ⟨A1, c1, rfl, h1⟩ := hu1
      have CG2 := hide (CG.out A1 c1 _ (hx2.trans GG) GG h1)
      clear h1
      go_simp
      refine CG2.out.mono ?_
      rintro e w' ⟨b2, r2, vs2, rfl, hI2, hr2, hh2, hg⟩
      exact ⟨_, rfl, hg, b2, r2, vs2, rfl, hI2, hr2, hh2⟩) ?_
    refine gLex_dep (t0 := 52) (by kernel_rfl) (by kernel_rfl) rfl (by simp) rfl (by simp) (AgP (fun a => .tuple #[.pointer (some a), .int .i64 0, .int .i64 0]) k p2 q2 E4 r) (AgP.lasts _ _ _ _ _ _) (fun y u1 hu1 => by
      obtain ⟨b2, r2, vs2, rfl, h1, h2, h3⟩ := hu1
      go_simp
      exact ⟨b2, r2, vs2, rfl, h1, h2, h3⟩) ?_
    refine gLex_dep (t0 := 47) (by kernel_rfl) (by kernel_rfl) rfl (by simp) rfl (by simp) (AgP (fun a => .pointer (some a)) k p2 q2 E4 r) (AgP.lasts _ _ _ _ _ _) (fun y u1 hu1 => by
      obtain ⟨b2, r2, vs2, rfl, h1, h2, h3⟩ := hu1
      go_simp
      exact ⟨b2, r2, vs2, rfl, h1, h2, h3⟩) ?_
    refine gLex_depV (t0 := 47) (by kernel_rfl) (by kernel_rfl) rfl (by simp) (.int .i64 0) (fun y u1 hu1 => by
      obtain ⟨b2, r2, vs2, rfl, h1, h2, h3⟩ := hu1
      go_simp) ?_
    refine gLex_depV (t0 := 47) (by kernel_rfl) (by kernel_rfl) rfl (by simp [Act.put]) (.int .i64 0) (fun y u1 hu1 => by
      obtain ⟨b2, r2, vs2, rfl, h1, h2, h3⟩ := hu1
      go_simp) ?_
    simp only [Act.put, List.setIfInBounds_toArray, List.set_cons_zero, List.set_cons_succ]
    refine gLex_dep (t0 := 53) (by kernel_rfl) (by kernel_rfl) rfl (by simp) rfl (by simp) (AgP (fun a => .pointer (some a)) k p2 q2 E4 r) (AgP.lasts _ _ _ _ _ _) (fun y u1 hu1 => by
      obtain ⟨b2, r2, vs2, rfl, h1, h2, h3⟩ := hu1
      go_simp
      exact ⟨b2, r2, vs2, rfl, h1, h2, h3⟩) ?_
    (repeat' (first | (refine gLex_val0 rfl (by kernel_rfl) (fun K hK => ?_); (go_simp; (try (simp only [↓IntWalk.iteOmega]; try go_simp)); (try simp (disch := omega) only [IntWalk.i64_in]); (try simp (disch := omega) only [IntWalk.u64_in]); first | (refine hK _ ?_; clear hK K) | (apply Exists.intro; refine ⟨fun x => ?_, hK _ ?_⟩; (first | fail); clear hK K))) | (refine gLex_undef rfl rfl rfl (by kernel_rfl) (fun K hK => ?_); go_simp; refine hK _ ?_; clear hK K) | (refine gLex_ask rfl rfl rfl ?_; first | (apply gAsk_yes; kernel_rfl; intro K hK; (go_simp; (try (simp only [↓IntWalk.iteOmega]; try go_simp)); (try simp (disch := omega) only [IntWalk.i64_in]); (try simp (disch := omega) only [IntWalk.u64_in]); first | (refine hK _ ?_; clear hK K) | (apply Exists.intro; refine ⟨fun x => ?_, hK _ ?_⟩; (first | fail); clear hK K))) | ((first | apply gAsk_no1 | apply gAsk_no2); kernel_rfl; intro K hK; simp [go_sem]; refine hK _ ?_; clear hK K))))
    refine gLex_endB (fun z => ?_)
    refine AtB.pop rfl (by simp) (fun z1 hz => ?_)
    refine AtB.pop rfl (by simp [Act.put]) (fun z2 _ => ?_)
    refine AtB.pop rfl (by simp [Act.put]) (fun z3 _ => ?_)
    refine AtB.pop rfl (by simp [Act.put]) (fun z4 _ => ?_)
    refine AtB.pop rfl (by simp [Act.put]) (fun z5 _ => ?_)
    refine AtB.base ?_
    obtain ⟨b2, r2, vs2, rfl, hI2, hr2, hh2⟩ := hz
    have HI2 := hide hI2
    have HR2 := hide hr2
    have HH2 := hide hh2
    clear hI2 hr2 hh2
    simp only [Act.put, List.setIfInBounds_toArray, List.set_cons_zero, List.set_cons_succ]
    go_upto_region 15 with (first
      | (go_at_call 15; refine (CR.out _ GG).mono ?_; rintro e w' ⟨rfl, hg⟩; obtain ⟨x5, rfl⟩ := hg.later; clear hg)
      | (go_at_call 17; refine (C8.out _ GG).mono ?_; rintro e w' ⟨A5, c5, rfl, h5, hg⟩; obtain ⟨x6, rfl⟩ := hg.later; have H5 := hide h5; clear hg h5)
      | (go_at_call 16; refine (KHG.out _ GG).mono ?_; rintro e w' ⟨A6, c6, rfl, h6, hg⟩; obtain ⟨x7, rfl⟩ := hg.later; have H6 := hide h6; clear hg h6)
      | (go_at_call 20; refine (KH.out _ GG).mono ?_; rintro e w' ⟨B9, d9, A9, c9, rfl, _, h9, _, hg⟩; obtain ⟨x8, rfl⟩ := hg.later; have H9 := hide h9; clear hg h9)
      | (go_at_call 19; refine (KR.out _ _ _ _ _ (H9.out.grows GG)).mono ?_; rintro e w' ⟨A7, c7, rfl, h7, hg⟩; obtain ⟨x9, rfl⟩ := hg.later; have H7 := hide h7; clear hg h7)
      | (go_at_call 18; refine (KS.out _ _ _ _ _ (H6.out.grows GG) (H7.out.grows GG)).mono ?_; rintro e w' ⟨rfl, hg⟩; obtain ⟨x10, rfl⟩ := hg.later; clear hg))
    have hgw : Grows w x10.now := hx2.trans GG
    have hgz : Grows z.now x10.now := GG
    have hg2 : Grows x2.now x10.now := GG
    have hgh : Grows x6.now x10.now := GG
    have CSZ := hide ((rkB_invA (p := p2) (q := q2) HA5.out hk (show E4.length ≤ 40 by have := HE4.out; omega) HI2.out).2.2)
    have CF := hide (fun (B6 : Option Addr) (d6 : Nat) (A6 : Option Addr) (c6 : Nat) (W : World) (g : Grows x10.now W) (h1 : Rd W B6 1 k (nv r2)) (h2 : Rd W A6 6 ((blt k p2 q2 E4 vs2).map Sc.si).length (sis ((blt k p2 q2 E4 vs2).map Sc.si))) (h3 : ((blt k p2 q2 E4 vs2).map Sc.si).length ≤ c6) => by
      obtain ⟨b1, b2, b3⟩ := CBO.out r2 vs2 HI2.out
      have hlm : ((blt k p2 q2 E4 vs2).map Sc.si).length = (blt k p2 q2 E4 vs2).length := List.length_map ..
      rw [hlm] at h2 h3
      have := r21Full k A5 c5 E4 B6 d6 r2 A6 c6 (blt k p2 q2 E4 vs2) W (by rw [HE4.out]; exact H5.out.grows (hgh.trans g)) HA5.out h1 (by rw [sis_of]; exact h2) (Nat.le_trans b3 (by omega)) h3 b1 b2
      rw [HE4.out, ← hlm] at this
      exact this)
    have KH2 := hide (fun (W : World) (g : Grows x10.now W) => hiHierarchy b2 k E4 r2 _ W (HH2.out.grow (hgz.trans g)) (by omega) CSZ.out)
    have KG2 := hide (fun (W : World) (g : Grows x10.now W) => by
      have := hiGraph b2 k E4 r2 _ W (HH2.out.grow (hgz.trans g)) (by have := HE4.out; omega)
      unfold GiveGR at this
      rw [HE4.out] at this
      exact this)
    have KH3 := hide (fun (W : World) (g : Grows x10.now W) => KH.out W (hg2.trans g))
    have KE := hide (fun (A7 : Option Addr) (c7 : Nat) (W : World) (g : Grows x10.now W) (h9 : Rd W A7 3 n (esCells E4)) => r5Same (k : Int) A7 n c7 A5 c5 E4 W h9 (H5.out.grows (hgh.trans g)) (by omega))
    have KQ := hide (fun (B6 : Option Addr) (d6 : Nat) (B7 : Option Addr) (d7 : Nat) (W : World) (h6 : Rd W B6 1 k (nv r2)) (h7 : Rd W B7 1 k (nv r)) => show Calls Try.prog 18 #[.slice B6 k d6, .slice B7 k d7] W fun e w' => e = .returned (.bool true) ∧ Grows W w' from by
      have := r1Same B6 k d6 (nvI r2) B7 k d7 (nvI r) W (by rw [← nvI_vals]; exact h6) (by omega) (by rw [← nvI_vals]; exact h7) (by omega)
      rw [decide_eq_true HR2.out] at this
      exact this)
    unfold GiveHR at KH2
    have FH := field_hQ
    clear CSZ CBO HA5 HE4 HI2 HR2 HH2 CI1 C8 CR CO CG KHG KH KR KS H5 H6 H7 H9 HH
    generalize (blt k p2 q2 E4 vs2).map Sc.si = S2 at *
    refine wp_region_gen (by kernel_rfl) (by kernel_rfl) ?_
    (repeat' (first | (refine gLex_val0 rfl (by kernel_rfl) (fun K hK => ?_); (go_simp; (try (simp only [↓IntWalk.iteOmega]; try go_simp)); (try simp (disch := omega) only [IntWalk.i64_in]); (try simp (disch := omega) only [IntWalk.u64_in]); first | (refine hK _ ?_; clear hK K) | (apply Exists.intro; refine ⟨fun x => ?_, hK _ ?_⟩; (first | fail); clear hK K))) | (refine gLex_undef rfl rfl rfl (by kernel_rfl) (fun K hK => ?_); go_simp; refine hK _ ?_; clear hK K) | (refine gLex_ask rfl rfl rfl ?_; first | (apply gAsk_yes; kernel_rfl; intro K hK; (go_simp; (try (simp only [↓IntWalk.iteOmega]; try go_simp)); (try simp (disch := omega) only [IntWalk.i64_in]); (try simp (disch := omega) only [IntWalk.u64_in]); first | (refine hK _ ?_; clear hK K) | (apply Exists.intro; refine ⟨fun x => ?_, hK _ ?_⟩; (first | fail); clear hK K))) | ((first | apply gAsk_no1 | apply gAsk_no2); kernel_rfl; intro K hK; simp [go_sem]; refine hK _ ?_; clear hK K))))
    refine gLex_propG (by kernel_rfl) (by kernel_rfl) rfl (by simp) (HcP k r2 S2) (HcP.lasts _ _ _) (fun y => by
      go_simp
      refine (KH2.out _ GG).mono ?_
      rintro e w' ⟨B6, d6, A6, c6, rfl, h1, h2, h3, hg⟩
      exact ⟨_, rfl, hg, B6, d6, A6, c6, rfl, h1, h2, h3⟩) ?_
    (repeat' (first | (refine gLex_val0 rfl (by kernel_rfl) (fun K hK => ?_); (go_simp; (try (simp only [↓IntWalk.iteOmega]; try go_simp)); (try simp (disch := omega) only [IntWalk.i64_in]); (try simp (disch := omega) only [IntWalk.u64_in]); first | (refine hK _ ?_; clear hK K) | (apply Exists.intro; refine ⟨fun x => ?_, hK _ ?_⟩; (first | fail); clear hK K))) | (refine gLex_undef rfl rfl rfl (by kernel_rfl) (fun K hK => ?_); go_simp; refine hK _ ?_; clear hK K) | (refine gLex_ask rfl rfl rfl ?_; first | (apply gAsk_yes; kernel_rfl; intro K hK; (go_simp; (try (simp only [↓IntWalk.iteOmega]; try go_simp)); (try simp (disch := omega) only [IntWalk.i64_in]); (try simp (disch := omega) only [IntWalk.u64_in]); first | (refine hK _ ?_; clear hK K) | (apply Exists.intro; refine ⟨fun x => ?_, hK _ ?_⟩; (first | fail); clear hK K))) | ((first | apply gAsk_no1 | apply gAsk_no2); kernel_rfl; intro K hK; simp [go_sem]; refine hK _ ?_; clear hK K))))
    refine gLex_depV (t0 := 137) (by kernel_rfl) (by kernel_rfl) rfl (by simp) (.bool true) (fun y u1 hu1 => by
      obtain ⟨B6, d6, A6, c6, rfl, h1, h2, h3⟩ := hu1
      have CF3 := hide (CF.out B6 d6 A6 c6 _ GG h1 h2 h3)
      clear h1 h2 h3
      go_simp
      exact CF3.out) ?_
    simp only [Act.put, List.setIfInBounds_toArray, List.set_cons_zero, List.set_cons_succ]
    (repeat' (first | (refine gLex_val0 rfl (by kernel_rfl) (fun K hK => ?_); (go_simp; (try (simp only [↓IntWalk.iteOmega]; try go_simp)); (try simp (disch := omega) only [IntWalk.i64_in]); (try simp (disch := omega) only [IntWalk.u64_in]); first | (refine hK _ ?_; clear hK K) | (apply Exists.intro; refine ⟨fun x => ?_, hK _ ?_⟩; (first | fail); clear hK K))) | (refine gLex_undef rfl rfl rfl (by kernel_rfl) (fun K hK => ?_); go_simp; refine hK _ ?_; clear hK K) | (refine gLex_ask rfl rfl rfl ?_; first | (apply gAsk_yes; kernel_rfl; intro K hK; (go_simp; (try (simp only [↓IntWalk.iteOmega]; try go_simp)); (try simp (disch := omega) only [IntWalk.i64_in]); (try simp (disch := omega) only [IntWalk.u64_in]); first | (refine hK _ ?_; clear hK K) | (apply Exists.intro; refine ⟨fun x => ?_, hK _ ?_⟩; (first | fail); clear hK K))) | ((first | apply gAsk_no1 | apply gAsk_no2); kernel_rfl; intro K hK; simp [go_sem]; refine hK _ ?_; clear hK K))))
    refine gLex_propG (by kernel_rfl) (by kernel_rfl) rfl (by simp) (GcQ k n E4) (GcQ.lasts _ _ _) (fun y => by
      go_simp
      refine (KG2.out _ GG).mono ?_
      rintro e w' ⟨A7, c7, rfl, h1, hg⟩
      exact ⟨_, rfl, hg, A7, c7, rfl, h1⟩) ?_
    (repeat' (first | (refine gLex_val0 rfl (by kernel_rfl) (fun K hK => ?_); (go_simp; (try (simp only [↓IntWalk.iteOmega]; try go_simp)); (try simp (disch := omega) only [IntWalk.i64_in]); (try simp (disch := omega) only [IntWalk.u64_in]); first | (refine hK _ ?_; clear hK K) | (apply Exists.intro; refine ⟨fun x => ?_, hK _ ?_⟩; (first | fail); clear hK K))) | (refine gLex_undef rfl rfl rfl (by kernel_rfl) (fun K hK => ?_); go_simp; refine hK _ ?_; clear hK K) | (refine gLex_ask rfl rfl rfl ?_; first | (apply gAsk_yes; kernel_rfl; intro K hK; (go_simp; (try (simp only [↓IntWalk.iteOmega]; try go_simp)); (try simp (disch := omega) only [IntWalk.i64_in]); (try simp (disch := omega) only [IntWalk.u64_in]); first | (refine hK _ ?_; clear hK K) | (apply Exists.intro; refine ⟨fun x => ?_, hK _ ?_⟩; (first | fail); clear hK K))) | ((first | apply gAsk_no1 | apply gAsk_no2); kernel_rfl; intro K hK; simp [go_sem]; refine hK _ ?_; clear hK K))))
    refine gLex_depV (t0 := 141) (by kernel_rfl) (by kernel_rfl) rfl (by simp) (.bool true) (fun y u1 hu1 => by
      obtain ⟨A7, c7, rfl, h1⟩ := hu1
      have CF3 := hide (KE.out A7 c7 _ GG h1)
      clear h1
      go_simp
      exact CF3.out) ?_
    simp only [Act.put, List.setIfInBounds_toArray, List.set_cons_zero, List.set_cons_succ]
    (repeat' (first | (refine gLex_val0 rfl (by kernel_rfl) (fun K hK => ?_); (go_simp; (try (simp only [↓IntWalk.iteOmega]; try go_simp)); (try simp (disch := omega) only [IntWalk.i64_in]); (try simp (disch := omega) only [IntWalk.u64_in]); first | (refine hK _ ?_; clear hK K) | (apply Exists.intro; refine ⟨fun x => ?_, hK _ ?_⟩; (first | fail); clear hK K))) | (refine gLex_undef rfl rfl rfl (by kernel_rfl) (fun K hK => ?_); go_simp; refine hK _ ?_; clear hK K) | (refine gLex_ask rfl rfl rfl ?_; first | (apply gAsk_yes; kernel_rfl; intro K hK; (go_simp; (try (simp only [↓IntWalk.iteOmega]; try go_simp)); (try simp (disch := omega) only [IntWalk.i64_in]); (try simp (disch := omega) only [IntWalk.u64_in]); first | (refine hK _ ?_; clear hK K) | (apply Exists.intro; refine ⟨fun x => ?_, hK _ ?_⟩; (first | fail); clear hK K))) | ((first | apply gAsk_no1 | apply gAsk_no2); kernel_rfl; intro K hK; simp [go_sem]; refine hK _ ?_; clear hK K))))
    refine gLex_propG (by kernel_rfl) (by kernel_rfl) rfl (by simp) (HcP k r2 S2) (HcP.lasts _ _ _) (fun y => by
      go_simp
      refine (KH2.out _ GG).mono ?_
      rintro e w' ⟨B6, d6, A6, c6, rfl, h1, h2, h3, hg⟩
      exact ⟨_, rfl, hg, B6, d6, A6, c6, rfl, h1, h2, h3⟩) ?_
    (repeat' (first | (refine gLex_val0 rfl (by kernel_rfl) (fun K hK => ?_); (go_simp; (try (simp only [↓IntWalk.iteOmega]; try go_simp)); (try simp (disch := omega) only [IntWalk.i64_in]); (try simp (disch := omega) only [IntWalk.u64_in]); first | (refine hK _ ?_; clear hK K) | (apply Exists.intro; refine ⟨fun x => ?_, hK _ ?_⟩; (first | fail); clear hK K))) | (refine gLex_undef rfl rfl rfl (by kernel_rfl) (fun K hK => ?_); go_simp; refine hK _ ?_; clear hK K) | (refine gLex_ask rfl rfl rfl ?_; first | (apply gAsk_yes; kernel_rfl; intro K hK; (go_simp; (try (simp only [↓IntWalk.iteOmega]; try go_simp)); (try simp (disch := omega) only [IntWalk.i64_in]); (try simp (disch := omega) only [IntWalk.u64_in]); first | (refine hK _ ?_; clear hK K) | (apply Exists.intro; refine ⟨fun x => ?_, hK _ ?_⟩; (first | fail); clear hK K))) | ((first | apply gAsk_no1 | apply gAsk_no2); kernel_rfl; intro K hK; simp [go_sem]; refine hK _ ?_; clear hK K))))
    refine gLex_dep (t0 := 147) (by kernel_rfl) (by kernel_rfl) rfl (by simp) rfl (by simp) (RowP k (nv r2)) (RowP.lasts _ _) (fun y u hu => by
      obtain ⟨B6, d6, A6, c6, rfl, h1, h2, h3⟩ := hu
      go_simp
      exact ⟨B6, d6, rfl, h1⟩) ?_
    (repeat' (first | (refine gLex_val0 rfl (by kernel_rfl) (fun K hK => ?_); (go_simp; (try (simp only [↓IntWalk.iteOmega]; try go_simp)); (try simp (disch := omega) only [IntWalk.i64_in]); (try simp (disch := omega) only [IntWalk.u64_in]); first | (refine hK _ ?_; clear hK K) | (apply Exists.intro; refine ⟨fun x => ?_, hK _ ?_⟩; (first | fail); clear hK K))) | (refine gLex_undef rfl rfl rfl (by kernel_rfl) (fun K hK => ?_); go_simp; refine hK _ ?_; clear hK K) | (refine gLex_ask rfl rfl rfl ?_; first | (apply gAsk_yes; kernel_rfl; intro K hK; (go_simp; (try (simp only [↓IntWalk.iteOmega]; try go_simp)); (try simp (disch := omega) only [IntWalk.i64_in]); (try simp (disch := omega) only [IntWalk.u64_in]); first | (refine hK _ ?_; clear hK K) | (apply Exists.intro; refine ⟨fun x => ?_, hK _ ?_⟩; (first | fail); clear hK K))) | ((first | apply gAsk_no1 | apply gAsk_no2); kernel_rfl; intro K hK; simp [go_sem]; refine hK _ ?_; clear hK K))))
    refine gLex_propG (by kernel_rfl) (by kernel_rfl) rfl (by simp) (HcP k r S) (HcP.lasts _ _ _) (fun y => by
      go_simp
      refine (KH3.out _ GG).mono ?_
      rintro e w' ⟨B6, d6, A6, c6, rfl, h1, h2, h3, hg⟩
      exact ⟨_, rfl, hg, B6, d6, A6, c6, rfl, h1, h2, h3⟩) ?_
    refine gLex_dep (t0 := 150) (by kernel_rfl) (by kernel_rfl) rfl (by simp) rfl (by simp) (RowP k (nv r)) (RowP.lasts _ _) (fun y u hu => by
      obtain ⟨B6, d6, A6, c6, rfl, h1, h2, h3⟩ := hu
      go_simp
      exact ⟨B6, d6, rfl, h1⟩) ?_
    refine gLex_depV2 (t1 := 148) (t2 := 151) (by kernel_rfl) (by kernel_rfl) rfl rfl (by simp) (by simp) (by decide) (.bool true) (fun y u1 u2 h1 h2 => by
      obtain ⟨B6, d6, rfl, h1⟩ := h1
      obtain ⟨B7, d7, rfl, h2⟩ := h2
      have CF3 := hide (KQ.out B6 d6 B7 d7 _ h1 h2)
      clear h1 h2
      go_simp
      exact CF3.out) ?_
    simp only [Act.put, List.setIfInBounds_toArray, List.set_cons_zero, List.set_cons_succ]
    (repeat' (first | (refine gLex_val0 rfl (by kernel_rfl) (fun K hK => ?_); (go_simp; (try (simp only [↓IntWalk.iteOmega]; try go_simp)); (try simp (disch := omega) only [IntWalk.i64_in]); (try simp (disch := omega) only [IntWalk.u64_in]); first | (refine hK _ ?_; clear hK K) | (apply Exists.intro; refine ⟨fun x => ?_, hK _ ?_⟩; (first | (go_at_call 11; exact CA.out _)); clear hK K))) | (refine gLex_undef rfl rfl rfl (by kernel_rfl) (fun K hK => ?_); go_simp; refine hK _ ?_; clear hK K) | (refine gLex_ask rfl rfl rfl ?_; first | (apply gAsk_yes; kernel_rfl; intro K hK; (go_simp; (try (simp only [↓IntWalk.iteOmega]; try go_simp)); (try simp (disch := omega) only [IntWalk.i64_in]); (try simp (disch := omega) only [IntWalk.u64_in]); first | (refine hK _ ?_; clear hK K) | (apply Exists.intro; refine ⟨fun x => ?_, hK _ ?_⟩; (first | (go_at_call 11; exact CA.out _)); clear hK K))) | ((first | apply gAsk_no1 | apply gAsk_no2); kernel_rfl; intro K hK; simp [go_sem]; refine hK _ ?_; clear hK K))))
    refine gLex_endB (fun x11 => ?_)
    refine AtB.pop rfl (by simp) (fun z1 _ => ?_)
    refine AtB.pop rfl (by simp [Act.put]) (fun z2 _ => ?_)
    refine AtB.pop rfl (by simp [Act.put]) (fun z3 _ => ?_)
    refine AtB.pop rfl (by simp [Act.put]) (fun z4 _ => ?_)
    refine AtB.pop rfl (by simp [Act.put]) (fun z5 _ => ?_)
    refine AtB.pop rfl (by simp [Act.put]) (fun z6 _ => ?_)
    refine AtB.base ?_
    simp only [Act.put, List.setIfInBounds_toArray, List.set_cons_zero, List.set_cons_succ]
    go_wp2_with fail
    go_ret
    exact ⟨rfl, hgw.trans GG⟩
end Go.Proofs.Ytgplpgldhoelcaa

namespace Go.Proofs.Ytgplpgldhoelcaa
open Go Go.RowKit
attribute [local go_sem] Oper.semAt_some
theorem changeAgainW (N : Int) (A : Option Addr) (n c : Nat) (E : List Edg) (hops settles : Int) (B : Option Addr) (m d : Nat) (l : List Int) (hops2 settles2 : Int) (B2 : Option Addr) (m2 d2 : Nat) (l2 : List Int) (C : Option Addr) (kk ee : Nat) (L : List Chg) (e : Int) (w : World)
    (_ : I64 N) (_ : n ≤ c) (h : Rd w A 3 n (esCells E)) (_ : ∀ k, k < n → edgOk (ge E k)) (_ : I64 hops) (_ : I64 settles) (_ : m ≤ d) (hl : Rd w B 1 m (l.map (.int .i64))) (_ : ∀ z ∈ l, (Lit.int .i64 z).wf = true) (_ : I64 hops2) (_ : I64 settles2) (_ : m2 ≤ d2) (hl2 : Rd w B2 1 m2 (l2.map (.int .i64))) (_ : ∀ z ∈ l2, (Lit.int .i64 z).wf = true) (_ : kk ≤ ee) (hc : Rd w C 2 kk (csCells L)) (_ : ∀ j, j < kk → chOk (gc L j)) (_ : I64 e) :
    Calls Try.prog 4 #[.agg #[.int .i64 N, .slice A n c], .agg #[.int .i64 hops, .int .i64 settles, .slice B m d], .agg #[.int .i64 hops2, .int .i64 settles2, .slice B2 m2 d2], .slice C kk ee, .int .i64 e] w fun e w' => e = .returned (.bool true) ∧ Grows w w' := by
  cases hlb : light20B N n with
  | false => exact againBig N A n c hops settles B m d hops2 settles2 B2 m2 d2 C kk ee e w (.inl hlb)
  | true =>
    obtain ⟨hN, hn⟩ := light20_of hlb
    by_cases h2 : (60 : Int) < m
    · exact againBig N A n c hops settles B m d hops2 settles2 B2 m2 d2 C kk ee e w (.inr (.inl ⟨hlb, h2⟩))
    by_cases h3 : (60 : Int) < m2
    · exact againBig N A n c hops settles B m d hops2 settles2 B2 m2 d2 C kk ee e w (.inr (.inr (.inl ⟨hlb, h2, h3⟩)))
    by_cases h4 : (40 : Int) < kk
    · exact againBig N A n c hops settles B m d hops2 settles2 B2 m2 d2 C kk ee e w (.inr (.inr (.inr ⟨hlb, h2, h3, h4⟩)))
    by_cases hbad : rightF N E ≠ 0 ∨ coRB hops settles l = false
    · exact againNone N A n c hops settles B m d hops2 settles2 B2 m2 d2 l2 C kk ee L e 1 w hl2 hc hlb h2 h3 h4 (by omega) (fun W g => hiBuiltBad N A n c E hops settles B m d l W (h.grows g) (by omega) (hl.grows g) (by omega) hbad)
    have hok : rightF N E = 0 := Decidable.byContradiction fun e => hbad (.inl e)
    have hor : coRB hops settles l = true := by
      cases hb : coRB hops settles l with
      | true => rfl
      | false => exact absurd (.inr hb) hbad
    by_cases hrg : 0 < m ∧ (m : Int) ≠ N
    · exact againNone N A n c hops settles B m d hops2 settles2 B2 m2 d2 l2 C kk ee L e 2 w hl2 hc hlb h2 h3 h4 (by omega) (fun W g => hiBuiltRange N A n c E hops settles B m d l W (h.grows g) (by omega) (hl.grows g) (by omega) hok hor hrg.1 hrg.2)
    obtain ⟨k, rfl⟩ : ∃ k : Nat, N = (k : Int) := ⟨N.toNat, by have := (right_in hok).1; omega⟩
    have hk : k ≤ 12 := by have := (right_in hok).2.1; omega
    have hlim := coRB_yes hor
    obtain ⟨p, rfl⟩ : ∃ p : Nat, hops = (p : Int) := ⟨hops.toNat, by omega⟩
    obtain ⟨q, rfl⟩ : ∃ q : Nat, settles = (q : Int) := ⟨settles.toNat, by omega⟩
    have hmm : m = 0 ∨ m = k := by omega
    cases hco : coRB hops2 settles2 l2 with
    | false => exact againNot k A n c E p q B m d l hops2 settles2 B2 m2 d2 l2 C kk ee L e w h hl hl2 hc hlb h2 h3 h4 hok hor hk hn hmm hco
    | true =>
      have hlim2 := coRB_yes hco
      obtain ⟨p2, rfl⟩ : ∃ p2 : Nat, hops2 = (p2 : Int) := ⟨hops2.toNat, by omega⟩
      obtain ⟨q2, rfl⟩ : ∃ q2 : Nat, settles2 = (q2 : Int) := ⟨settles2.toNat, by omega⟩
      exact againGo k A n c E p q B m d l p2 q2 B2 m2 d2 l2 C kk ee L e w h hl hl2 hc hlb h2 h3 h4 hok hor hk hn hmm hco
end Go.Proofs.Ytgplpgldhoelcaa

namespace Go.Proofs.Ytgplpgldhoelcaa.lawChangeAgain
open Go Go.ChangeShapes Go.WideShapes Go.ChangeAt Go.RowKit Go.Proofs.Ytgplpgldhoelcaa

theorem own : ownKnob Try.prog.godebug = none := by kernel_rfl
theorem laidOut : laidOutB Try.prog = true := by kernel_rfl

set_option maxRecDepth 100000 in
theorem lifted (os : Os) (started : os.Started) (H : Type) (enc : TypeId × Value → H) :
    ReturnsInHanded {} Try.checked os 4 .any (Rows.changeAgainSpec.pre6 enc Try.prog Try.f4 Rows.changeAgainRow.domain false) (Rows.changeAgainSpec.post enc Try.prog Try.f4 false true false false) := by
  refine returnsInHanded_of_change (C := Try.checked) own started (by kernel_rfl) Try.func4
    (ChangeSpec.witness6 (enc := enc) (C := Try.checked) false ⟨#[], #[.agg #[.int .i64 0, .slice none 0 0], .agg #[.int .i64 0, .int .i64 0, .slice none 0 0], .agg #[.int .i64 0, .int .i64 0, .slice none 0 0], .slice none 0 0, .int .i64 0], []⟩ 8 (by kernel_rfl) (by kernel_rfl) (by kernel_rfl) (by kernel_rfl)) ?_
  intro W base args ds gs before hval0 hW hcnd _
  have hval : ∀ (j : Nat) t v, Try.f4.params[j]? = some t → args[j]? = some v → Value.okWide Try.prog W .any base t v := hval0
  have hW' := hW
  obtain ⟨p, q, hA0, hV, rfl, hfz, hnd⟩ := hW
  have hA : DataW.TrodAll enc Try.prog W 0 (fun _ => true) true Try.f4.params.toList args.toList ds p := hA0
  rw [Try.params4] at hA hval
  obtain ⟨v0, vs0, d0, ds0, p0, q0, hargs, rfl, rfl, h0, r0⟩ := trodAll_cons hA
  obtain ⟨v1, vs1, d1, ds1, p1, q1, rfl, rfl, rfl, h1, r1⟩ := trodAll_cons r0
  obtain ⟨v2, vs2, d2, ds2, p2, q2, rfl, rfl, rfl, h2, r2⟩ := trodAll_cons r1
  obtain ⟨v3, vs3, d3, ds3, p3, q3, rfl, rfl, rfl, h3, r3⟩ := trodAll_cons r2
  obtain ⟨v4, vs4, d4, ds4, p4, q4, rfl, rfl, rfl, h4, r4⟩ := trodAll_cons r3
  obtain ⟨rfl, rfl, rfl⟩ := trodAll_nil r4
  obtain rfl : args = #[v0, v1, v2, v3, v4] := by cases args; simp_all
  obtain ⟨rfl, rfl⟩ := trodVars_none hV
  have k0 := h0
  have lt0 : ∀ x ∈ p0, x.block < W.heap.size := by obtain ⟨m, hm⟩ := k0; exact DataW.trod_lt m _ _ _ hm
  obtain ⟨a0, A0, n0, c0, z0, rfl, x0, l0, w0, u0⟩ := open_graph Try.underlying44 Try.underlying3 Try.underlying42 Try.underlying93 Try.underlying3 Try.underlying3 Try.underlying38 ⟨rfl, rfl, rfl⟩ ⟨by kernel_rfl, by kernel_rfl, by kernel_rfl⟩ (by kernel_rfl) (by kernel_rfl) (by kernel_rfl) (hval 0 44 v0 rfl rfl) h0
  have k1 := h1
  have lt1 : ∀ x ∈ p1, x.block < W.heap.size := by obtain ⟨m, hm⟩ := k1; exact DataW.trod_lt m _ _ _ hm
  obtain ⟨a1, b1, A1, n1, c1, z1, rfl, x1, y1, l1, w1, u1⟩ := open_copt Try.underlying37 Try.underlying3 Try.underlying3 Try.underlying29 Try.underlying3 (by kernel_rfl) (by kernel_rfl) (by kernel_rfl) (hval 1 37 v1 rfl rfl) h1
  have k2 := h2
  have lt2 : ∀ x ∈ p2, x.block < W.heap.size := by obtain ⟨m, hm⟩ := k2; exact DataW.trod_lt m _ _ _ hm
  obtain ⟨a2, b2, A2, n2, c2, z2, rfl, x2, y2, l2, w2, u2⟩ := open_copt Try.underlying37 Try.underlying3 Try.underlying3 Try.underlying29 Try.underlying3 (by kernel_rfl) (by kernel_rfl) (by kernel_rfl) (hval 2 37 v2 rfl rfl) h2
  have k3 := h3
  have lt3 : ∀ x ∈ p3, x.block < W.heap.size := by obtain ⟨m, hm⟩ := k3; exact DataW.trod_lt m _ _ _ hm
  obtain ⟨A3, n3, c3, z3, rfl, l3, w3, u3⟩ := open_chgs Try.underlying45 Try.underlying103 Try.underlying3 Try.underlying38 ⟨rfl, rfl⟩ ⟨by kernel_rfl, by kernel_rfl⟩ (by kernel_rfl) (hval 3 45 v3 rfl rfl) h3
  have k4 := h4
  have lt4 : ∀ x ∈ p4, x.block < W.heap.size := by obtain ⟨m, hm⟩ := k4; exact DataW.trod_lt m _ _ _ hm
  obtain ⟨a4, rfl, w4⟩ := open_i64 Try.underlying3 (hval 4 3 v4 rfl rfl) h4
  clear hA0 hval0
  refine (changeAgainW a0 A0 n0 c0 z0 a1 b1 A1 n1 c1 z1 a2 b2 A2 n2 c2 z2 A3 n3 c3 z3 a4 W x0 l0 w0 u0 x1 y1 l1 w1 u1 x2 y2 l2 w2 u2 l3 w3 u3 w4).mono fun e W' ⟨he, bel⟩ => ?_
  subst he
  exact ⟨_, rfl, _, _, _, [], _, [], hW', trodAll_mk1 (shut_bool Try.underlying4 _), (trodAll_cons_mk (Below.trod laidOut (by kernel_rfl) (of_decide_eq_true (by kernel_rfl)) k0 bel lt0) (trodAll_cons_mk (Below.trod laidOut (by kernel_rfl) (of_decide_eq_true (by kernel_rfl)) k1 bel lt1) (trodAll_cons_mk (Below.trod laidOut (by kernel_rfl) (of_decide_eq_true (by kernel_rfl)) k2 bel lt2) (trodAll_cons_mk (Below.trod laidOut (by kernel_rfl) (of_decide_eq_true (by kernel_rfl)) k3 bel lt3) (trodAll_cons_mk (Below.trod laidOut (by kernel_rfl) (of_decide_eq_true (by kernel_rfl)) k4 bel lt4) trodAll_mk0))))), rfl, Below.frame bel _, fun h => by cases h⟩

theorem over : Rows.changeAgainRow.holds Try.pinned (OpenSpec.ofChange Rows.changeAgainSpec) :=
  OpenClaim.holds_of_wide 4 Try.f4 rfl rfl rfl rfl rfl rfl rfl ⟨rfl, rfl, rfl, rfl, rfl⟩ rfl rfl rfl rfl rfl (by kernel_rfl) Try.func4 (by kernel_rfl)
    (of_decide_eq_true (by kernel_rfl)) (by unfold Func.isWrapper; first | (rw [if_pos (by decide +kernel)]; kernel_rfl) | (rw [if_neg (by decide +kernel)]; exact ⟨rfl, rfl⟩))
    (fun os started H enc _ => lifted os started H enc)

end Go.Proofs.Ytgplpgldhoelcaa.lawChangeAgain
namespace Go.Proofs.Ytgplpgldhoelcaa
theorem changeAgain_proved : Rows.ChangeAgainSaid := lawChangeAgain.over
#print axioms changeAgain_proved
end Go.Proofs.Ytgplpgldhoelcaa

