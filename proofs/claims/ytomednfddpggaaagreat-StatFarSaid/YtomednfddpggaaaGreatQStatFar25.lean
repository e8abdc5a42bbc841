/- Contract: a graph in numbers. -/
import Derived.Test.YtomednfddpggaaaGreatQStatFar22
import Derived.Test.YtomednfddpggaaaGreatQStatFar23
import Derived.Test.YtomednfddpggaaaGreatQStatFar24
import Derived.Test.YtomednfddpggaaaGreatQStatFar14
import Derived.Test.YtomednfddpggaaaGreatQStatFar01
import Derived.Test.YtomednfddpggaaaGreatQStatFar07
/- Contract: a graph in numbers. -/
namespace Go.Proofs.YtomednfddpggaaaGreat
open Go Go.RowKit
attribute [local go_sem] Oper.semAt_some
def stC (N M S W o i l : Int) (T le mo : Int) : List Value := [.int .i64 N, .int .i64 M, .int .i64 S, .int .i64 W, .int .i64 o, .int .i64 i, .int .i64 l, .int .u64 T, .int .u64 le, .int .u64 mo]
def d1 (N : Nat) (E : List Edg) : List Int := dgL (fN E) N E.length
def d2 (N : Nat) (E : List Edg) : List Int := dgL (tN E) N E.length
def stV (N : Nat) (E : List Edg) : Value := .agg #[.int .i64 (N : Int), .int .i64 (E.length : Int), .int .i64 (strongN N E : Int), .int .i64 (partsN N E : Int), .int .i64 (mxD (d1 N E) N), .int .i64 (mxD (d2 N E) N), .int .i64 ((lonL (d1 N E) (d2 N E) N).length : Int), .int .u64 (sumW E E.length), .int .u64 (leastW E E.length), .int .u64 (mostW E E.length)]
def LRow (N : Nat) (L : List Int) : Pr := fun u w => ∃ g c, u = .slice (some ⟨g, 0, none⟩) N c ∧ Rd w (some ⟨g, 0, none⟩) 1 N (L.map (.int .i64)) ∧ g < w.heap.size
theorem LRow.lasts (N : Nat) (L : List Int) : Lasts (LRow N L) := fun _ _ _ hg ⟨g, c, e, h, hl⟩ => ⟨g, c, e, h.grows hg, Nat.lt_of_lt_of_le hl hg.size⟩
def WRow (N : Nat) (E : List Edg) : Pr := fun u w => ∃ L, (fsts L N).length = partsN N E ∧ L.length = N ∧ LRow N L u w
theorem WRow.lasts (N : Nat) (E : List Edg) : Lasts (WRow N E) := fun _ _ _ hg ⟨L, h1, h2, h3⟩ => ⟨L, h1, h2, LRow.lasts N L _ _ _ hg h3⟩
theorem arr_ten {w : World} {g : Nat} {t : TypeId} {cs : List Value} (h : Arr w g t cs) (hl : cs.length = 10) (a0 a1 a2 a3 a4 a5 a6 a7 a8 a9 : Value) :
    Arr ((((((((((w.setCell ⟨g, 0, none⟩ a0).setCell ⟨g, 1, none⟩ a1).setCell ⟨g, 2, none⟩ a2).setCell ⟨g, 3, none⟩ a3).setCell ⟨g, 4, none⟩ a4).setCell ⟨g, 5, none⟩ a5).setCell ⟨g, 6, none⟩ a6).setCell ⟨g, 7, none⟩ a7).setCell ⟨g, 8, none⟩ a8).setCell ⟨g, 9, none⟩ a9) g t [a0, a1, a2, a3, a4, a5, a6, a7, a8, a9] := by
  match cs, hl, h with
  | [c0, c1, c2, c3, c4, c5, c6, c7, c8, c9], _, h =>
    have := (((((((((h.set 0 a0).set 1 a1).set 2 a2).set 3 a3).set 4 a4).set 5 a5).set 6 a6).set 7 a7).set 8 a8).set 9 a9
    simpa using this
theorem touch_ten {w w0 : World} {g : Nat} (hg : Grows w0 w) (hb : w0.heap.size ≤ g) (a0 a1 a2 a3 a4 a5 a6 a7 a8 a9 : Value) : Grows w0 ((((((((((w.setCell ⟨g, 0, none⟩ a0).setCell ⟨g, 1, none⟩ a1).setCell ⟨g, 2, none⟩ a2).setCell ⟨g, 3, none⟩ a3).setCell ⟨g, 4, none⟩ a4).setCell ⟨g, 5, none⟩ a5).setCell ⟨g, 6, none⟩ a6).setCell ⟨g, 7, none⟩ a7).setCell ⟨g, 8, none⟩ a8).setCell ⟨g, 9, none⟩ a9) :=
  (((((((((hg.set hb _).set hb _).set hb _).set hb _).set hb _).set hb _).set hb _).set hb _).set hb _).set hb _
theorem other_ten {w : World} {g g' : Nat} {t : TypeId} {cs : List Value} (h : Arr w g' t cs) (hne : g ≠ g') (a0 a1 a2 a3 a4 a5 a6 a7 a8 a9 : Value) : Arr ((((((((((w.setCell ⟨g, 0, none⟩ a0).setCell ⟨g, 1, none⟩ a1).setCell ⟨g, 2, none⟩ a2).setCell ⟨g, 3, none⟩ a3).setCell ⟨g, 4, none⟩ a4).setCell ⟨g, 5, none⟩ a5).setCell ⟨g, 6, none⟩ a6).setCell ⟨g, 7, none⟩ a7).setCell ⟨g, 8, none⟩ a8).setCell ⟨g, 9, none⟩ a9) g' t cs :=
  (((((((((h.other hne _).other hne _).other hne _).other hne _).other hne _).other hne _).other hne _).other hne _).other hne _).other hne _
def LpAt (w : World) (b1 b2 g1 g2 : Nat) (N : Int) (A : Option Addr) (n c : Nat) (L1 L2 : List Int) (cs : List Value) (wr : World) : Prop :=
  ∃ y : Later w, wr = y.now ∧ Arr y.now b1 24 [.int .i64 N, .slice A n c] ∧ Arr y.now b2 85 cs ∧ Arr y.now g1 3 (L1.map (.int .i64)) ∧ Arr y.now g2 3 (L2.map (.int .i64))
def LsAt (w : World) (b1 b2 : Nat) (N : Int) (A : Option Addr) (n c : Nat) (cs : List Value) (wr : World) : Prop :=
  ∃ y : Later w, wr = y.now ∧ Arr y.now b1 24 [.int .i64 N, .slice A n c] ∧ Arr y.now b2 85 cs
theorem rd_lt {w : World} {g n : Nat} {xs : List Value} (h : Rd w (some ⟨g, 0, none⟩) 1 n xs) (hn : 0 < n) : g < w.heap.size := by
  obtain ⟨b, off, e, hc⟩ := h.2 hn (by omega)
  cases e
  have hl : 0 < xs.length := by have := h.1; omega
  exact World.block_lt_of_cell? w _ (hc 0 xs[0] (by simp [hl]))
set_option maxRecDepth 40000 in
set_option maxHeartbeats 8000000 in
theorem stOf (N : Nat) (A : Option Addr) (c : Nat) (E : List Edg) (w : World) (h : Rd w A 3 E.length (esCells E)) (hr : rightF N E = 0) :
    Calls Tryz.prog 47 #[.agg #[.int .i64 (N : Int), .slice A E.length c]] w fun e w' => e = .returned (.tuple #[stV N E, .int .i64 0]) ∧ Grows w w' := by
  obtain ⟨r1, r2, r3, r4, r5⟩ := right_in hr
  rw [Int.toNat_natCast] at r4
  have C0 := hide (fun (W : World) (g : Grows w W) => by have := gRight N A E.length c E W (h.grows g) (by omega); rw [hr] at this; exact this)
  have CS := hide (fun (W : World) (g : Grows w W) => tjStrong N A c E W (h.grows g) hr)
  have CW := hide (fun (W : World) (g : Grows w W) => ptWeak N A c E W (h.grows g) hr)
  have CT := hide (fun (W : World) (g : Grows w W) => gTotal N A c E W (h.grows g) hr)
  have CD := hide (fun (W : World) (g : Grows w W) => gDegrees N A c E W (h.grows g) hr)
  have CC := hide (fun (L : List Int) (hL : L.length = N) (W : World) (g c : Nat) (h : Rd W (some ⟨g, 0, none⟩) 1 N (L.map (.int .i64))) (hg : g < W.heap.size) => show Calls Tryz.prog 80 #[.slice (some ⟨g, 0, none⟩) N c] W fun e w' => e = .returned (.int .i64 (((fsts L N).length : Nat) : Int)) ∧ Grows W w' from by
    subst hL
    exact paCount (some ⟨g, 0, none⟩) c L W h (fun _ p hp => by cases hp; exact hg) (by omega))
  have HSL := hide (strongL_len r4)
  have HPA := hide (fun (L : List Nat) (hL : L.length = N) (h : ∀ u v, u < N → v < N → (gn L u = gn L v ↔ Con E All1 u v)) => show (fsts (iv L) N).length = partsN N E from parts_any r4 (by rw [iv_len, hL]) (fun u v hu hv => by
    rw [iv_at (by omega), iv_at (by omega), ← h u v hu hv]
    omega))
  have HR := hide h
  have hN : N ≤ 4096 := by omega
  have hN1 : 1 ≤ N := by omega
  have hEl : E.length ≤ 16384 := r3
  clear h hr r1 r2 r3 r4
  have HVV := hide (show stV N E = .agg #[.int .i64 (N : Int), .int .i64 (E.length : Int), .int .i64 (strongN N E : Int), .int .i64 (partsN N E : Int), .int .i64 (mxD (d1 N E) N), .int .i64 (mxD (d2 N E) N), .int .i64 ((lonL (d1 N E) (d2 N E) N).length : Int), .int .u64 (sumW E E.length), .int .u64 (leastW E E.length), .int .u64 (mostW E E.length)] from rfl)
  go_enter Tryz.func47, Tryz.ntmps47
  go_upto_region 3 with (go_at_call 31; refine (C0.out _ GG).mono ?_; rintro e w' ⟨rfl, hg⟩; obtain ⟨x0, rfl⟩ := hg.later; clear hg)
  have hgw : Grows w x0.now := GG
  have z1 : Arr x0.now w.heap.size 24 [.int .i64 (N : Int), .slice A E.length c] := ((Arr.make w _ _).grow ((Grows.refl _).new _)).grow x0.grows
  have z2 : Arr x0.now (w.heap.size + 1) 85 (stC 0 0 0 0 0 0 0 0 0 0) := by
    have := (Arr.make (w.alloc (.cells #[.int .i64 (N : Int), .slice A E.length c] 24)) (stC 0 0 0 0 0 0 0 0 0 0) 85).grow x0.grows
    simpa using this
  clear C0
  generalize hb1 : w.heap.size = b1 at *
  replace hb1 := hide hb1
  generalize hb2 : b1 + 1 = b2 at *
  replace hb2 := hide hb2
  refine wp_region_tail1 14 (by kernel_rfl) (by kernel_rfl) ?_
  simp only [List.take_succ_cons, List.take_zero, List.drop_succ_cons, List.drop_zero]
  (repeat' (first | (refine gLex_val0 rfl (by kernel_rfl) (fun K hK => ?_); (go_simp; (try (simp only [↓IntWalk.iteOmega]; try go_simp)); (try simp (disch := omega) only [IntWalk.i64_in]); (try simp (disch := omega) only [IntWalk.u64_in]); first | (refine hK _ ?_; clear hK K) | (apply Exists.intro; refine ⟨fun x => ?_, hK _ ?_⟩; (first | fail); clear hK K))) | (refine gLex_undef rfl rfl rfl (by kernel_rfl) (fun K hK => ?_); go_simp; refine hK _ ?_; clear hK K) | (refine gLex_ask rfl rfl rfl ?_; first | (apply gAsk_yes; kernel_rfl; intro K hK; (go_simp; (try (simp only [↓IntWalk.iteOmega]; try go_simp)); (try simp (disch := omega) only [IntWalk.i64_in]); (try simp (disch := omega) only [IntWalk.u64_in]); first | (refine hK _ ?_; clear hK K) | (apply Exists.intro; refine ⟨fun x => ?_, hK _ ?_⟩; (first | fail); clear hK K))) | ((first | apply gAsk_no1 | apply gAsk_no2); kernel_rfl; intro K hK; simp [go_sem]; refine hK _ ?_; clear hK K))))
  refine gLex_propG (by kernel_rfl) (by kernel_rfl) rfl (by simp) (LRow N (strongL N E)) (LRow.lasts _ _) (fun y => by
    go_simp
    refine (CS.out _ (hgw.trans GG)).mono ?_
    rintro e w' ⟨g, rfl, ha, hg⟩
    exact ⟨_, rfl, hg, g, N, rfl, ha, rd_lt ha (by omega)⟩) ?_
  refine gLex_depV (t0 := 19) (by kernel_rfl) (by kernel_rfl) rfl (by simp) (.int .i64 (strongN N E : Int)) (fun y u hu => by
    obtain ⟨g, c', rfl, h1, h2⟩ := hu
    go_simp
    exact CC.out _ HSL.out _ g c' h1 h2) ?_
  simp only [Act.put, List.setIfInBounds_toArray, List.set_cons_zero, List.set_cons_succ]
  (repeat' (first | (refine gLex_val0 rfl (by kernel_rfl) (fun K hK => ?_); (go_simp; (try (simp only [↓IntWalk.iteOmega]; try go_simp)); (try simp (disch := omega) only [IntWalk.i64_in]); (try simp (disch := omega) only [IntWalk.u64_in]); first | (refine hK _ ?_; clear hK K) | (apply Exists.intro; refine ⟨fun x => ?_, hK _ ?_⟩; (first | fail); clear hK K))) | (refine gLex_undef rfl rfl rfl (by kernel_rfl) (fun K hK => ?_); go_simp; refine hK _ ?_; clear hK K) | (refine gLex_ask rfl rfl rfl ?_; first | (apply gAsk_yes; kernel_rfl; intro K hK; (go_simp; (try (simp only [↓IntWalk.iteOmega]; try go_simp)); (try simp (disch := omega) only [IntWalk.i64_in]); (try simp (disch := omega) only [IntWalk.u64_in]); first | (refine hK _ ?_; clear hK K) | (apply Exists.intro; refine ⟨fun x => ?_, hK _ ?_⟩; (first | fail); clear hK K))) | ((first | apply gAsk_no1 | apply gAsk_no2); kernel_rfl; intro K hK; simp [go_sem]; refine hK _ ?_; clear hK K))))
  refine gLex_propG (by kernel_rfl) (by kernel_rfl) rfl (by simp) (WRow N E) (WRow.lasts _ _) (fun y => by
    go_simp
    refine (CW.out _ (hgw.trans GG)).mono ?_
    rintro e w' ⟨g, c', L, rfl, hrow, hL, hcon, hg⟩
    exact ⟨_, rfl, hg, iv L, HPA.out L hL hcon, by rw [iv_len, hL], g, c', rfl, hrow.rd, hrow.lt⟩) ?_
  refine gLex_depV (t0 := 22) (by kernel_rfl) (by kernel_rfl) rfl (by simp) (.int .i64 (partsN N E : Int)) (fun y u hu => by
    obtain ⟨L, hp, hL, g, c', rfl, h1, h2⟩ := hu
    go_simp
    rw [← hp]
    exact CC.out _ hL _ g c' h1 h2) ?_
  simp only [Act.put, List.setIfInBounds_toArray, List.set_cons_zero, List.set_cons_succ]
  (repeat' (first | (refine gLex_val0 rfl (by kernel_rfl) (fun K hK => ?_); (go_simp; (try (simp only [↓IntWalk.iteOmega]; try go_simp)); (try simp (disch := omega) only [IntWalk.i64_in]); (try simp (disch := omega) only [IntWalk.u64_in]); first | (refine hK _ ?_; clear hK K) | (apply Exists.intro; refine ⟨fun x => ?_, hK _ ?_⟩; (first | (go_at_call 83; exact CT.out _ (hgw.trans GG))); clear hK K))) | (refine gLex_undef rfl rfl rfl (by kernel_rfl) (fun K hK => ?_); go_simp; refine hK _ ?_; clear hK K) | (refine gLex_ask rfl rfl rfl ?_; first | (apply gAsk_yes; kernel_rfl; intro K hK; (go_simp; (try (simp only [↓IntWalk.iteOmega]; try go_simp)); (try simp (disch := omega) only [IntWalk.i64_in]); (try simp (disch := omega) only [IntWalk.u64_in]); first | (refine hK _ ?_; clear hK K) | (apply Exists.intro; refine ⟨fun x => ?_, hK _ ?_⟩; (first | (go_at_call 83; exact CT.out _ (hgw.trans GG))); clear hK K))) | ((first | apply gAsk_no1 | apply gAsk_no2); kernel_rfl; intro K hK; simp [go_sem]; refine hK _ ?_; clear hK K))))
  refine gLex_endT2 (by decide) (by simp) (by simp) (fun x v1 v2 hv1 hv2 => ?_)
  simp only [Act.put, List.setIfInBounds_toArray, List.set_cons_zero, List.set_cons_succ]
  clear hv1 hv2 CS CW CT CC HSL HPA
  have z3 := z2.grow x.grows
  unfold stC at z3
  have m6 := z3.mine 6 rfl
  have m7 := z3.mine 7 rfl
  have m8 := z3.mine 8 rfl
  have m9 := z3.mine 9 rfl
  clear z2
  generalize strongN N E = sn at *
  generalize partsN N E = pn at *
  generalize sumW E E.length = tw at *
  go_upto_region 4 with fail
  have hnb : b2 ≠ b1 := by have := hb2.out; omega
  have hwb : w.heap.size ≤ b2 := by have := hb1.out; have := hb2.out; omega
  have HZ4 := hide (arr_ten z3 rfl (.int .i64 (N : Int)) (.int .i64 (E.length : Int)) (.int .i64 (sn : Int)) (.int .i64 (pn : Int)) (.int .i64 0) (.int .i64 0) (.int .i64 0) (.int .u64 tw) (.int .u64 0) (.int .u64 0))
  have HG4 := hide (touch_ten (show Grows w x.now from GG) hwb (.int .i64 (N : Int)) (.int .i64 (E.length : Int)) (.int .i64 (sn : Int)) (.int .i64 (pn : Int)) (.int .i64 0) (.int .i64 0) (.int .i64 0) (.int .u64 tw) (.int .u64 0) (.int .u64 0))
  have HB4 := hide (other_ten (z1.grow x.grows) hnb (.int .i64 (N : Int)) (.int .i64 (E.length : Int)) (.int .i64 (sn : Int)) (.int .i64 (pn : Int)) (.int .i64 0) (.int .i64 0) (.int .i64 0) (.int .u64 tw) (.int .u64 0) (.int .u64 0))
  generalize ((((((((((x.now.setCell ⟨b2, 0, none⟩ (.int .i64 (N : Int))).setCell ⟨b2, 1, none⟩ (.int .i64 (E.length : Int))).setCell ⟨b2, 2, none⟩ (.int .i64 (sn : Int))).setCell ⟨b2, 3, none⟩ (.int .i64 (pn : Int))).setCell ⟨b2, 4, none⟩ (.int .i64 0)).setCell ⟨b2, 5, none⟩ (.int .i64 0)).setCell ⟨b2, 6, none⟩ (.int .i64 0)).setCell ⟨b2, 7, none⟩ (.int .u64 tw)).setCell ⟨b2, 8, none⟩ (.int .u64 0)).setCell ⟨b2, 9, none⟩ (.int .u64 0)) = W4 at *
  obtain ⟨y4, rfl⟩ := HG4.out.later
  have q1 := HZ4.out
  have q2 := HB4.out
  clear m6 m7 m8 m9 z3 z1 HG4 HZ4 HB4 hgw
  go_upto_region 5 with (go_at_call 84; refine (CD.out _ GG).mono ?_; rintro e w' ⟨g1, g2, rfl, hdg⟩; have HDG := hide hdg; obtain ⟨y5, rfl, _⟩ := id hdg; clear hdg)
  have k1 := q1.grow y5.grows
  have k2 := q2.grow y5.grows
  have HK : Hid (Arr y5.now g1 3 ((d1 N E).map (.int .i64)) ∧ Arr y5.now g2 3 ((d2 N E).map (.int .i64)) ∧ (d1 N E).length = N ∧ (d2 N E).length = N) := by
    obtain ⟨y6, e6, t1, t2, t3, t4, _⟩ := HDG.out
    rw [e6]
    exact ⟨t1, t2, t3, t4⟩
  have HB := hide (show LpAt w b1 b2 g1 g2 N A E.length c (d1 N E) (d2 N E) (stC N E.length sn pn (mxD (d1 N E) 0) (mxD (d2 N E) 0) ((lonL (d1 N E) (d2 N E) 0).length : Int) tw 0 0) y5.now from
    ⟨⟨y5.now, show Grows w _ from GG⟩, rfl, k2, k1, HK.out.1, HK.out.2.1⟩)
  obtain ⟨hl1, hl2⟩ := HK.out.2.2
  clear k1 HDG HK CD q1 q2
  go_wp2_with fail
  clear k2
  have HLN := hide (fun k => lonL_next (d1 N E) (d2 N E) k)
  have HLL := hide (fun k => lonL_le (d1 N E) (d2 N E) k)
  generalize d1 N E = L1 at *
  generalize d2 N E = L2 at *
  go_loopw [34] (fun i wr => ∃ k : Nat, k ≤ N ∧ i = .int .i64 (k : Int) ∧ LpAt w b1 b2 g1 g2 N A E.length c L1 L2 (stC N E.length sn pn (mxD L1 k) (mxD L2 k) ((lonL L1 L2 k).length : Int) tw 0 0) wr) (fun i _ => N - (Go.RowKit.intOf i).toNat)
  case atStart => exact ⟨0, by omega, by go_num, HB.out⟩
  case round =>
    obtain ⟨v, hv, rfl, y, rfl, q1, q2, q3, q4⟩ := hrel
    clear HB
    unfold stC at q2
    by_cases hlt : v < N
    · have HV9 := hide hlt
      have hll := HLL.out v
      have hln := HLN.out v
      have n21 : b2 ≠ g1 := fun e => (q2.ne q3 (by decide)) e
      have n22 : b2 ≠ g2 := fun e => (q2.ne q4 (by decide)) e
      have HX1 := hide (show mxD L1 (v + 1) = max (mxD L1 v) (gi L1 v) from rfl)
      have HX2 := hide (show mxD L2 (v + 1) = max (mxD L2 v) (gi L2 v) from rfl)
      obtain ⟨mo, hmo⟩ : ∃ m, max (mxD L1 v) (gi L1 v) = m := ⟨_, rfl⟩
      obtain ⟨mi, hmi⟩ : ∃ m, max (mxD L2 v) (gi L2 v) = m := ⟨_, rfl⟩
      obtain ⟨mm, hmm⟩ : ∃ m, max (gi L1 v) (gi L2 v) = m := ⟨_, rfl⟩
      rw [hmo] at HX1
      rw [hmi] at HX2
      rw [hmm] at hln
      have HQ1 := hide q1
      have HQ2 := hide q2
      have HQ3 := hide q3
      have HQ4 := hide q4
      have HLNv := hide hln
      have m3 := q3.mine v (gi_at (L := L1) (by omega))
      have m4 := q4.mine v (gi_at (L := L2) (by omega))
      clear hln
      go_upto_region 8 with fail
      have HD1 := hide (HQ1.out.grow (Grows.refl _).drew)
      have HD2 := hide (HQ2.out.grow (Grows.refl _).drew)
      have HD3 := hide (HQ3.out.grow (Grows.refl _).drew)
      have HD4 := hide (HQ4.out.grow (Grows.refl _).drew)
      have HTD := hide (show Touch (fun k => k = b2) y.now y.now.drew from ((Grows.refl y.now).drew).touch _)
      clear q1 q2 q3 q4 m3 m4
      generalize mxD L1 v = o at *
      generalize mxD L2 v = ii at *
      refine wp_region_keep (by kernel_rfl) (by kernel_rfl) (by kernel_rfl) (by kernel_rfl) (by kernel_rfl) (fun j => ([.pointer (some ⟨b2, 4, none⟩), .int .i64 o, .slice (some ⟨g1, 0, none⟩) N N, .int .i64 (v : Int), .pointer (some ⟨g1, v, none⟩), .int .i64 (gi L1 v), .int .i64 mo, .pointer (some ⟨b2, 5, none⟩), .int .i64 ii, .slice (some ⟨g2, 0, none⟩) N N, .int .i64 (v : Int), .pointer (some ⟨g2, v, none⟩), .int .i64 (gi L2 v), .int .i64 mi, .pointer (some ⟨b2, 4, none⟩), undef, .pointer (some ⟨b2, 5, none⟩), undef] : List Value).getD j undef)
        (fun D w1 => Arr w1 b2 85 [.int .i64 N, .int .i64 E.length, .int .i64 sn, .int .i64 pn, .int .i64 (if D 15 = true then mo else o), .int .i64 (if D 17 = true then mi else ii), .int .i64 ((lonL L1 L2 v).length : Int), .int .u64 tw, .int .u64 0, .int .u64 0] ∧ Arr w1 g1 3 (L1.map (.int .i64)) ∧ Arr w1 g2 3 (L2.map (.int .i64)) ∧ Touch (fun k => k = b2) y.now w1) ⟨HD2.out, HD3.out, HD4.out, HTD.out⟩ ?hs ?he
      case hs =>
        intro a hV hO i oo ho D hcl hD hpre w1 hM
        match i, ho, hD, hpre with
          | 0, ho, hD, hpre =>
            cases (show some _ = some oo from ho)
            have e2 := ev_nfK ((hO 2 (notDstK (by kernel_rfl))).trans rfl)
            obtain ⟨q1, q2, q3, q4⟩ := hM
            have hv := HV9.out
            go_simp
            all_goals exact ⟨q1, q2, q3, q4⟩
          | 1, ho, hD, hpre =>
            cases (show some _ = some oo from ho)
            have e37 := ev_nfK (hV 0 37 rfl)
            obtain ⟨q1, q2, q3, q4⟩ := hM
            have d15 : D 15 = false := by
              cases hd : D 15 with
              | false => rfl
              | true => exact absurd (hcl 6 1 (hcl 15 6 hd (by kernel_rfl)) (by kernel_rfl)) (by rw [hD]; exact Bool.false_ne_true)
            rw [d15] at q1
            go_simp
            all_goals first | exact q1 | exact ⟨q1, q2, q3, q4⟩
          | 2, ho, hD, hpre =>
            cases (show some _ = some oo from ho)
            have e4 := ev_nfK ((hO 4 (notDstK (by kernel_rfl))).trans rfl)
            obtain ⟨q1, q2, q3, q4⟩ := hM
            have hv := HV9.out
            go_simp
            all_goals exact ⟨q1, q2, q3, q4⟩
          | 3, ho, hD, hpre =>
            cases (show some _ = some oo from ho)
            have e6 := ev_nfK ((hO 6 (notDstK (by kernel_rfl))).trans rfl)
            obtain ⟨q1, q2, q3, q4⟩ := hM
            have hv := HV9.out
            go_simp
            all_goals exact ⟨q1, q2, q3, q4⟩
          | 4, ho, hD, hpre =>
            cases (show some _ = some oo from ho)
            have e39 := ev_nfK (hV 2 39 rfl)
            have e40 := ev_nfK (hV 3 40 rfl)
            obtain ⟨q1, q2, q3, q4⟩ := hM
            have hv := HV9.out
            go_simp
            all_goals exact ⟨q1, q2, q3, q4⟩
          | 5, ho, hD, hpre =>
            cases (show some _ = some oo from ho)
            have e41 := ev_nfK (hV 4 41 rfl)
            obtain ⟨q1, q2, q3, q4⟩ := hM
            have m5 := q2.mine v (gi_at (L := L1) (by rw [hl1]; exact HV9.out))
            go_simp
            all_goals exact ⟨q1, q2, q3, q4⟩
          | 6, ho, hD, hpre =>
            cases (show some _ = some oo from ho)
            have e38 := ev_nfK (hV 1 38 rfl)
            have e42 := ev_nfK (hV 5 42 rfl)
            obtain ⟨q1, q2, q3, q4⟩ := hM
            have hv := HV9.out
            go_simp
            all_goals exact ⟨q1, q2, q3, q4⟩
          | 7, ho, hD, hpre =>
            cases (show some _ = some oo from ho)
            have e2 := ev_nfK ((hO 2 (notDstK (by kernel_rfl))).trans rfl)
            obtain ⟨q1, q2, q3, q4⟩ := hM
            have hv := HV9.out
            go_simp
            all_goals exact ⟨q1, q2, q3, q4⟩
          | 8, ho, hD, hpre =>
            cases (show some _ = some oo from ho)
            have e44 := ev_nfK (hV 7 44 rfl)
            obtain ⟨q1, q2, q3, q4⟩ := hM
            have d17 : D 17 = false := by
              cases hd : D 17 with
              | false => rfl
              | true => exact absurd (hcl 13 8 (hcl 17 13 hd (by kernel_rfl)) (by kernel_rfl)) (by rw [hD]; exact Bool.false_ne_true)
            rw [d17] at q1
            go_simp
            all_goals first | exact q1 | exact ⟨q1, q2, q3, q4⟩
          | 9, ho, hD, hpre =>
            cases (show some _ = some oo from ho)
            have e5 := ev_nfK ((hO 5 (notDstK (by kernel_rfl))).trans rfl)
            obtain ⟨q1, q2, q3, q4⟩ := hM
            have hv := HV9.out
            go_simp
            all_goals exact ⟨q1, q2, q3, q4⟩
          | 10, ho, hD, hpre =>
            cases (show some _ = some oo from ho)
            have e6 := ev_nfK ((hO 6 (notDstK (by kernel_rfl))).trans rfl)
            obtain ⟨q1, q2, q3, q4⟩ := hM
            have hv := HV9.out
            go_simp
            all_goals exact ⟨q1, q2, q3, q4⟩
          | 11, ho, hD, hpre =>
            cases (show some _ = some oo from ho)
            have e46 := ev_nfK (hV 9 46 rfl)
            have e47 := ev_nfK (hV 10 47 rfl)
            obtain ⟨q1, q2, q3, q4⟩ := hM
            have hv := HV9.out
            go_simp
            all_goals exact ⟨q1, q2, q3, q4⟩
          | 12, ho, hD, hpre =>
            cases (show some _ = some oo from ho)
            have e48 := ev_nfK (hV 11 48 rfl)
            obtain ⟨q1, q2, q3, q4⟩ := hM
            have m5 := q3.mine v (gi_at (L := L2) (by rw [hl2]; exact HV9.out))
            go_simp
            all_goals exact ⟨q1, q2, q3, q4⟩
          | 13, ho, hD, hpre =>
            cases (show some _ = some oo from ho)
            have e45 := ev_nfK (hV 8 45 rfl)
            have e49 := ev_nfK (hV 12 49 rfl)
            obtain ⟨q1, q2, q3, q4⟩ := hM
            have hv := HV9.out
            go_simp
            all_goals exact ⟨q1, q2, q3, q4⟩
          | 14, ho, hD, hpre =>
            cases (show some _ = some oo from ho)
            have e2 := ev_nfK ((hO 2 (notDstK (by kernel_rfl))).trans rfl)
            obtain ⟨q1, q2, q3, q4⟩ := hM
            have hv := HV9.out
            go_simp
            all_goals exact ⟨q1, q2, q3, q4⟩
          | 15, ho, hD, hpre =>
            cases (show some _ = some oo from ho)
            have e51 := ev_nfK (hV 14 51 rfl)
            have e43 := ev_nfK (hV 6 43 rfl)
            obtain ⟨q1, q2, q3, q4⟩ := hM
            have hS := hide (q1.set 4 (.int .i64 mo))
            have hS2 := hide (q2.other (p := ⟨b2, 4, none⟩) n21 (.int .i64 mo))
            have hS3 := hide (q3.other (p := ⟨b2, 4, none⟩) n22 (.int .i64 mo))
            have hS4 := hide (q4.set (p := ⟨b2, 4, none⟩) (.inl rfl) (.int .i64 mo))
            have m9 := q1.mine 4 rfl
            clear q2 q3 q4
            go_simp
            all_goals exact ⟨hS.out, hS2.out, hS3.out, hS4.out⟩
          | 16, ho, hD, hpre =>
            cases (show some _ = some oo from ho)
            have e2 := ev_nfK ((hO 2 (notDstK (by kernel_rfl))).trans rfl)
            obtain ⟨q1, q2, q3, q4⟩ := hM
            have hv := HV9.out
            go_simp
            all_goals exact ⟨q1, q2, q3, q4⟩
          | 17, ho, hD, hpre =>
            cases (show some _ = some oo from ho)
            have e52 := ev_nfK (hV 16 52 rfl)
            have e50 := ev_nfK (hV 13 50 rfl)
            obtain ⟨q1, q2, q3, q4⟩ := hM
            have hS := hide (q1.set 5 (.int .i64 mi))
            have hS2 := hide (q2.other (p := ⟨b2, 5, none⟩) n21 (.int .i64 mi))
            have hS3 := hide (q3.other (p := ⟨b2, 5, none⟩) n22 (.int .i64 mi))
            have hS4 := hide (q4.set (p := ⟨b2, 5, none⟩) (.inl rfl) (.int .i64 mi))
            have m9 := q1.mine 5 rfl
            clear q2 q3 q4
            go_simp
            all_goals exact ⟨hS.out, hS2.out, hS3.out, hS4.out⟩
          | n + 18, ho, hD, hpre => cases ho
      case he =>
        rintro w1 ⟨q2, q3, q4, ht⟩
        simp only [putAll, dstOf, List.length_cons, List.length_nil, Nat.reduceAdd, List.getElem?_cons_zero, List.getElem?_cons_succ, Option.bind_some, List.getD_cons_zero, List.getD_cons_succ, Act.put, List.setIfInBounds_toArray, List.set_cons_zero, List.set_cons_succ]
        replace q2 : Arr w1 b2 85 (stC N E.length sn pn mo mi ((lonL L1 L2 v).length : Int) tw 0 0) := q2
        have HG1 : Hid (Grows w w1) := ht.later y.grows (fun k hk => by rw [hk]; exact hwb)
        have q1 := HQ1.out.touch ht (fun e => hnb e.symm)
        have P2 := hide q2
        have P1 := hide q1
        have m3 := q3.mine v (gi_at (L := L1) (by omega))
        have m4 := q4.mine v (gi_at (L := L2) (by omega))
        have m6 := q2.mine 6 rfl
        clear ht HQ1 HQ2 HQ3 HQ4 HD1 HD2 HD3 HD4 HTD q2 hmo hmi
        have R3 := hide q3
        have R4 := hide q4
        clear q3 q4
        generalize (lonL L1 L2 v).length = ln at *
        by_cases hz : mm = 0
        · have hb : (mm == 0) = true := by rw [hz]; rfl
          rw [if_pos hz] at HLNv
          clear hz
          go_upto_region 9 with fail
          ((first | refine wp_region_gen (by kernel_rfl) (by kernel_rfl) ?_); (repeat' (first | (refine gLex_val0 rfl (by kernel_rfl) (fun K hK => ?_); (go_simp; (try (simp only [↓IntWalk.iteOmega]; try go_simp)); (try simp (disch := omega) only [IntWalk.i64_in]); (try simp (disch := omega) only [IntWalk.u64_in]); first | (refine hK _ ?_; clear hK K) | (apply Exists.intro; refine ⟨fun x => ?_, hK _ ?_⟩; (first | fail); clear hK K))) | (refine gLex_undef rfl rfl rfl (by kernel_rfl) (fun K hK => ?_); go_simp; refine hK _ ?_; clear hK K) | (refine gLex_ask rfl rfl rfl ?_; first | (apply gAsk_yes; kernel_rfl; intro K hK; (go_simp; (try (simp only [↓IntWalk.iteOmega]; try go_simp)); (try simp (disch := omega) only [IntWalk.i64_in]); (try simp (disch := omega) only [IntWalk.u64_in]); first | (refine hK _ ?_; clear hK K) | (apply Exists.intro; refine ⟨fun x => ?_, hK _ ?_⟩; (first | fail); clear hK K))) | ((first | apply gAsk_no1 | apply gAsk_no2); kernel_rfl; intro K hK; simp [go_sem]; refine hK _ ?_; clear hK K) | (apply gAsk_part; kernel_rfl; all_goals (intro h K hK; (try simp only [Bool.not_true] at h); (try simp only [Bool.not_false] at h); (try simp only [decide_eq_true_eq] at h); (try simp only [decide_eq_false_iff_not] at h); first | (exfalso; first | contradiction | omega) | (go_simp; (try (simp only [↓IntWalk.iteOmega]; try go_simp)); (try simp (disch := omega) only [IntWalk.i64_in]); (try simp (disch := omega) only [IntWalk.u64_in]); first | (refine hK _ ?_; clear hK K) | (apply Exists.intro; refine ⟨fun x => ?_, hK _ ?_⟩; (first | fail); clear hK K))))))); all_goals ((apply gLex_end); intro y9))
          have P2 := hide (P2.out.grow y9.grows)
          have HG9 := hide (HG1.out.trans y9.grows)
          have P1 := hide (P1.out.grow y9.grows)
          have R3 := hide (R3.out.grow y9.grows)
          have R4 := hide (R4.out.grow y9.grows)
          go_wp2_with fail
          go_roundw
          case measure => simp [Go.RowKit.intOf]; omega
          case rel =>
            refine ⟨v + 1, by omega, by go_num, ⟨_, HG9.out.set hwb _⟩, rfl, P1.out.other hnb _, ?_, R3.out.other n21 _, R4.out.other n22 _⟩
            rw [HX1.out, HX2.out, HLNv.out]
            exact P2.out.set 6 _
        · have hb : (mm == 0) = false := beq_eq_false_iff_ne.2 hz
          rw [if_neg hz] at HLNv
          clear hz
          go_upto_region 9 with fail
          ((first | refine wp_region_gen (by kernel_rfl) (by kernel_rfl) ?_); (repeat' (first | (refine gLex_val0 rfl (by kernel_rfl) (fun K hK => ?_); (go_simp; (try (simp only [↓IntWalk.iteOmega]; try go_simp)); (try simp (disch := omega) only [IntWalk.i64_in]); (try simp (disch := omega) only [IntWalk.u64_in]); first | (refine hK _ ?_; clear hK K) | (apply Exists.intro; refine ⟨fun x => ?_, hK _ ?_⟩; (first | fail); clear hK K))) | (refine gLex_undef rfl rfl rfl (by kernel_rfl) (fun K hK => ?_); go_simp; refine hK _ ?_; clear hK K) | (refine gLex_ask rfl rfl rfl ?_; first | (apply gAsk_yes; kernel_rfl; intro K hK; (go_simp; (try (simp only [↓IntWalk.iteOmega]; try go_simp)); (try simp (disch := omega) only [IntWalk.i64_in]); (try simp (disch := omega) only [IntWalk.u64_in]); first | (refine hK _ ?_; clear hK K) | (apply Exists.intro; refine ⟨fun x => ?_, hK _ ?_⟩; (first | fail); clear hK K))) | ((first | apply gAsk_no1 | apply gAsk_no2); kernel_rfl; intro K hK; simp [go_sem]; refine hK _ ?_; clear hK K) | (apply gAsk_part; kernel_rfl; all_goals (intro h K hK; (try simp only [Bool.not_true] at h); (try simp only [Bool.not_false] at h); (try simp only [decide_eq_true_eq] at h); (try simp only [decide_eq_false_iff_not] at h); first | (exfalso; first | contradiction | omega) | (go_simp; (try (simp only [↓IntWalk.iteOmega]; try go_simp)); (try simp (disch := omega) only [IntWalk.i64_in]); (try simp (disch := omega) only [IntWalk.u64_in]); first | (refine hK _ ?_; clear hK K) | (apply Exists.intro; refine ⟨fun x => ?_, hK _ ?_⟩; (first | fail); clear hK K))))))); all_goals ((apply gLex_end); intro y9))
          go_wp2_with fail
          go_roundw
          case measure => simp [Go.RowKit.intOf]; omega
          case rel =>
            refine ⟨v + 1, by omega, by go_num, ⟨y9.now, HG1.out.trans y9.grows⟩, rfl, P1.out.grow y9.grows, ?_, R3.out.grow y9.grows, R4.out.grow y9.grows⟩
            rw [HX1.out, HX2.out, HLNv.out]
            exact P2.out.grow y9.grows
    · obtain rfl : N = v := by omega
      generalize mxD L1 N = oo at *
      generalize mxD L2 N = ii at *
      generalize (lonL L1 L2 N).length = ln at *
      have HB2 := hide (show LsAt w b1 b2 N A E.length c (stC N E.length sn pn oo ii ln tw (leastW E 0) (mostW E 0)) y.now from ⟨y, rfl, q1, q2⟩)
      clear q2 q3 q4 HLN HLL hl1 hl2
      go_wp2_with fail
      go_loopw [71] (fun i wr => ∃ k : Nat, k ≤ E.length ∧ i = .int .i64 (k : Int) ∧ LsAt w b1 b2 N A E.length c (stC N E.length sn pn oo ii ln tw (leastW E k) (mostW E k)) wr) (fun i _ => E.length - (Go.RowKit.intOf i).toNat)
      case atStart => exact ⟨0, by omega, by go_num, HB2.out⟩
      case round =>
        obtain ⟨k, hk, rfl, y2, rfl, q1, q2⟩ := hrel
        clear HB2
        have Q1 := hide q1
        have Q2 := hide q2
        unfold stC at q2
        by_cases hlt : k < E.length
        · obtain ⟨b9, off9, rfl, hc9⟩ := HR.out.edgesH (by omega)
          obtain ⟨z4, z5, z6⟩ := hc9 k hlt
          have HM1 := hide (show mostW E (k + 1) = max (mostW E k) (ge E k).w from rfl)
          have HM2 := hide (show leastW E (k + 1) = min (if k = 0 then (ge E k).w else leastW E k) (ge E k).w from rfl)
          have m8 := q2.mine 8 rfl
          have m9 := q2.mine 9 rfl
          have hn1 : ¬ y2.now.heap.size = b2 := by have := q2.lt; omega
          have hn2 : ¬ b2 = y2.now.heap.size := by omega
          clear hc9 q2
          generalize (ge E k).f = ef at *
          generalize (ge E k).t = et at *
          generalize (ge E k).w = ew at *
          obtain ⟨mo, hmo⟩ : ∃ m, max (mostW E k) ew = m := ⟨_, rfl⟩
          rw [hmo] at HM1
          generalize mostW E k = om at *
          by_cases hk0 : k = 0
          · have hb : ((k : Int) == 0) = true := by rw [hk0]; rfl
            rw [if_pos hk0] at HM2
            obtain ⟨le, hle⟩ : ∃ m, min ew ew = m := ⟨_, rfl⟩
            rw [hle] at HM2
            clear hk0
            generalize leastW E k = ol at *
            go_wp2_with fail
            go_roundw
            case measure => simp [Go.RowKit.intOf]; omega
            case rel =>
              refine ⟨k + 1, by omega, by go_num, ⟨_, (((y2.grows.new _).set hwb _).set hwb _).set hwb _⟩, rfl, (((Q1.out.grow ((Grows.refl _).new _)).other hnb _).other hnb _).other hnb _, ?_⟩
              rw [HM1.out, HM2.out]
              exact (((Q2.out.grow ((Grows.refl _).new _)).set 9 (.int .u64 mo)).set 8 (.int .u64 ew)).set 8 (.int .u64 le)
          · have hb : ((k : Int) == 0) = false := beq_eq_false_iff_ne.2 (by omega)
            rw [if_neg hk0] at HM2
            obtain ⟨le, hle⟩ : ∃ m, min (leastW E k) ew = m := ⟨_, rfl⟩
            rw [hle] at HM2
            clear hk0
            generalize leastW E k = ol at *
            go_wp2_with fail
            go_roundw
            case measure => simp [Go.RowKit.intOf]; omega
            case rel =>
              refine ⟨k + 1, by omega, by go_num, ⟨_, ((y2.grows.new _).set hwb _).set hwb _⟩, rfl, ((Q1.out.grow ((Grows.refl _).new _)).other hnb _).other hnb _, ?_⟩
              rw [HM1.out, HM2.out]
              exact ((Q2.out.grow ((Grows.refl _).new _)).set 9 (.int .u64 mo)).set 8 (.int .u64 le)
        · obtain rfl : E.length = k := by omega
          generalize leastW E E.length = lw at *
          generalize mostW E E.length = mw at *
          have m6 := q2.mine 6 rfl
          have m7 := q2.mine 7 rfl
          have m8 := q2.mine 8 rfl
          have m9 := q2.mine 9 rfl
          go_wp2_with fail
          have HZ := arr_ten Q2.out rfl (.int .i64 (N : Int)) (.int .i64 (E.length : Int)) (.int .i64 (sn : Int)) (.int .i64 (pn : Int)) (.int .i64 oo) (.int .i64 ii) (.int .i64 (ln : Int)) (.int .u64 tw) (.int .u64 lw) (.int .u64 mw)
          have HG := hide (touch_ten y2.grows hwb (.int .i64 (N : Int)) (.int .i64 (E.length : Int)) (.int .i64 (sn : Int)) (.int .i64 (pn : Int)) (.int .i64 oo) (.int .i64 ii) (.int .i64 (ln : Int)) (.int .u64 tw) (.int .u64 lw) (.int .u64 mw))
          generalize ((((((((((y2.now.setCell ⟨b2, 0, none⟩ (.int .i64 (N : Int))).setCell ⟨b2, 1, none⟩ (.int .i64 (E.length : Int))).setCell ⟨b2, 2, none⟩ (.int .i64 (sn : Int))).setCell ⟨b2, 3, none⟩ (.int .i64 (pn : Int))).setCell ⟨b2, 4, none⟩ (.int .i64 oo)).setCell ⟨b2, 5, none⟩ (.int .i64 ii)).setCell ⟨b2, 6, none⟩ (.int .i64 (ln : Int))).setCell ⟨b2, 7, none⟩ (.int .u64 tw)).setCell ⟨b2, 8, none⟩ (.int .u64 lw)).setCell ⟨b2, 9, none⟩ (.int .u64 mw)) = W9 at *
          clear m6 m7 m8 m9 q1 q2 Q1 Q2
          have m6 := HZ.mine 6 rfl
          have m7 := HZ.mine 7 rfl
          have m8 := HZ.mine 8 rfl
          have m9 := HZ.mine 9 rfl
          rw [HVV.out]
          clear HVV
          refine bodyPost_ret (v := .tuple #[.agg #[.int .i64 (N : Int), .int .i64 (E.length : Int), .int .i64 (sn : Int), .int .i64 (pn : Int), .int .i64 oo, .int .i64 ii, .int .i64 (ln : Int), .int .u64 tw, .int .u64 lw, .int .u64 mw], .int .i64 0]) (by simp (maxDischargeDepth := 6) [results, Tryz.results47, go_sem, *]) rfl ⟨rfl, HG.out⟩
end Go.Proofs.YtomednfddpggaaaGreat

/- The law StatSums, walked: what all edges weigh lies between as many times the lightest and the heaviest, and there are at most as many parts as nodes. -/
namespace Go.Proofs.YtomednfddpggaaaGreat
open Go Go.RowKit
attribute [local go_sem] Oper.semAt_some
def LenP (n : Nat) : Pr := fun u _ => ∃ A c, u = .slice A n c
theorem LenP.lasts (n : Nat) : Lasts (LenP n) := fun _ _ _ _ h => h
def light38 (N : Int) (n : Nat) : Bool := lightG N n && (decide (N ≤ 30) || decide (4096 < N)) && decide (n ≤ 100)
set_option maxRecDepth 20000 in
set_option maxHeartbeats 2000000 in
theorem lLight38 (N : Int) (A : Option Addr) (n c : Nat) (w : World) : Calls Tryz.prog 19 #[.agg #[.int .i64 N, .slice A n c]] w fun e w' => e = .returned (.bool (light38 N n)) ∧ Grows w w' := by
  have C := hide (fun (W : World) => lLight N A n c W)
  have HD : Hid (light38 N n = (lightG N n && (decide (N ≤ 30) || decide (4096 < N)) && decide (n ≤ 100))) := rfl
  generalize light38 N n = r at *
  generalize lightG N n = q at *
  go_enter Tryz.func19, Tryz.ntmps19
  go_wp2_with (go_at_call 6; refine (C.out _).mono ?_; rintro e w' ⟨rfl, hg⟩; obtain ⟨x1, rfl⟩ := hg.later; clear hg)
  all_goals go_ret
  all_goals exact ⟨ret_bool (by rw [HD.out]; apply bool_ext; simp_all; try omega), GG⟩
def ex38 : List Edg := [⟨0, 1, 5⟩]
theorem st38 : stV 2 ex38 = .agg #[.int .i64 2, .int .i64 1, .int .i64 2, .int .i64 1, .int .i64 1, .int .i64 1, .int .i64 0, .int .u64 5, .int .u64 5, .int .u64 5] := by
  have h1 : strongN 2 ex38 = 2 := by decide +kernel
  have h2 : partsN 2 ex38 = 1 := by decide +kernel
  have h3 : mxD (d1 2 ex38) 2 = 1 := by decide +kernel
  have h4 : mxD (d2 2 ex38) 2 = 1 := by decide +kernel
  have h5 : (lonL (d1 2 ex38) (d2 2 ex38) 2).length = 0 := by decide +kernel
  have h6 : sumW ex38 ex38.length = 5 := by decide +kernel
  have h7 : leastW ex38 ex38.length = 5 := by decide +kernel
  have h8 : mostW ex38 ex38.length = 5 := by decide +kernel
  unfold stV
  rw [h1, h2, h3, h4, h5, h6, h7, h8]
  rfl
set_option maxRecDepth 20000 in
set_option maxHeartbeats 2000000 in
theorem alive38 (w : World) : Calls Tryz.prog 20 #[] w fun e w' => e = .returned (.bool true) ∧ Grows w w' := by
  have C := hide (fun (W : World) (A : Option Addr) (h : Rd W A 3 1 (esCells ex38)) => show Calls Tryz.prog 47 #[.agg #[.int .i64 2, .slice A 1 1]] W fun e w' => e = .returned (.tuple #[.agg #[.int .i64 2, .int .i64 1, .int .i64 2, .int .i64 1, .int .i64 1, .int .i64 1, .int .i64 0, .int .u64 5, .int .u64 5, .int .u64 5], .int .i64 0]) ∧ Grows W w' from by
    have := stOf 2 A 1 ex38 W h (by decide +kernel)
    rw [st38] at this
    exact this)
  have HR := hide (show Rd (w.alloc (.cells #[.int .i64 0, .int .i64 1, .int .u64 5] 59)) (some ⟨w.heap.size, 0, none⟩) 3 1 (esCells ex38) from Rd.made (w := w) (t := 59) (size := 3) (n := 1) (esCells ex38) rfl)
  go_enter Tryz.func20, Tryz.ntmps20
  go_wp2_with (go_at_call 47; refine (C.out _ _ (HR.out.grows GG)).mono ?_; rintro e w' ⟨rfl, hg⟩; obtain ⟨x1, rfl⟩ := hg.later; clear hg)
  go_ret
  exact ⟨rfl, GG⟩
theorem sums_law {N : Nat} {E : List Edg} (hr : rightF N E = 0) : (E.length : Int) * leastW E E.length ≤ sumW E E.length ∧ sumW E E.length ≤ (E.length : Int) * mostW E E.length ∧ (0 ≤ leastW E E.length ∧ leastW E E.length ≤ 4294967296) ∧ (0 ≤ mostW E E.length ∧ mostW E E.length ≤ 4294967296) ∧
    1 ≤ partsN N E ∧ partsN N E ≤ strongN N E ∧ strongN N E ≤ N ∧ (lonL (d1 N E) (d2 N E) N).length ≤ partsN N E ∧ mxD (d1 N E) N ≤ E.length := by
  obtain ⟨r1, r2, r3, r4, r5⟩ := right_in hr
  rw [Int.toNat_natCast] at r4
  obtain ⟨_, a2, a3, a4, a5⟩ := stat_w r5 E.length (Nat.le_refl _)
  obtain ⟨l1, l2⟩ := lonL_is r4
  obtain ⟨p1, p2, p3, p4⟩ := parts_counts r4 (by omega) _ l1 l2
  have hd := mxD_in (d := d1 N E) (m := E.length) (by omega) (fun v => (dgL_in (fun i hi => (r4.f i hi).1) v E.length (Nat.le_refl _)).2.1) N
  exact ⟨a4, a5, a3, a2, p1, p2, p3, p4, hd.2⟩
end Go.Proofs.YtomednfddpggaaaGreat

/- A row of numbers as a value that hangs on the world. -/
namespace Go.Proofs.YtomednfddpggaaaGreat
open Go Go.RowKit
def IRow (L : List Int) : Pr := fun u w => ∃ A c, u = .slice A L.length c ∧ Rd w A 1 L.length (L.map (.int .i64))
theorem IRow.lasts (L : List Int) : Lasts (IRow L) := fun _ _ _ hg ⟨A, c, e, h⟩ => ⟨A, c, e, h.grows hg⟩
end Go.Proofs.YtomednfddpggaaaGreat

/- Contract: are two rows of numbers the same? -/
namespace Go.Proofs.YtomednfddpggaaaGreat
open Go Go.RowKit
set_option maxHeartbeats 1000000 in
theorem r1Same (A : Option Addr) (n c : Nat) (l : List Int) (B : Option Addr) (m d : Nat) (l' : List Int) (w : World) (h : Rd w A 1 n (l.map (.int .i64))) (hn : n ≤ 1000000) (h' : Rd w B 1 m (l'.map (.int .i64))) (hm : m ≤ 1000000) :
    Calls Tryz.prog 13 #[.slice A n c, .slice B m d] w fun e w' => e = .returned (.bool (decide (l = l'))) ∧ Grows w w' := by
  have HL := hide (show l.length = n by simpa using h.len)
  have HM := hide (show l'.length = m by simpa using h'.len)
  have HR := hide h
  have HS := hide h'
  clear h h'
  by_cases hnm : n = m
  · subst hnm
    go_enter Tryz.func13, Tryz.ntmps13
    go_wp2
    go_loopw [5] (fun i wr => ∃ k : Nat, k ≤ n ∧ i = .int .i64 (k : Int) ∧ (∃ y : Later w, wr = y.now) ∧ ∀ j, j < k → gi l j = gi l' j) (fun i _ => n - (intOf i).toNat)
    case atStart => exact ⟨0, by omega, by go_num, ⟨⟨w, Grows.refl w⟩, rfl⟩, fun j h => by omega⟩
    case round =>
      obtain ⟨k, hk, rfl, ⟨y, rfl⟩, hall⟩ := hrel
      have HA := hide hall
      clear hall
      by_cases hend : n ≤ k
      · have HV : Hid (l = l') := by
          apply List.ext_getElem (by rw [HL.out, HM.out])
          intro j h1 h2
          have := HA.out j (by have := HL.out; omega)
          simpa [gi, h1, h2] using this
        go_wp2
        go_ret
        exact ⟨ret_bool (decide_eq_true HV.out).symm, GG⟩
      · obtain ⟨b, off, rfl, hc⟩ := HR.out.intsH (by omega)
        obtain ⟨b2, off2, rfl, hc2⟩ := HS.out.intsH (by omega)
        have c1 := hc k (by omega)
        have c2 := hc2 k (by omega)
        clear hc hc2
        by_cases he : gi l k = gi l' k
        · have HE : Hid (∀ j, j < k + 1 → gi l j = gi l' j) := fun j hj => by
            by_cases e : j = k
            · rw [e]; exact he
            · exact HA.out j (by omega)
          have hd : (gi l k == gi l' k) = true := by simpa using he
          clear he
          generalize gi l k = u at *
          generalize gi l' k = v at *
          go_wp2_with fail
          ((first | refine wp_region_gen (by kernel_rfl) (by kernel_rfl) ?_); (repeat' (first | (refine gLex_val0 rfl (by kernel_rfl) (fun K hK => ?_); (go_simp; (try (simp only [↓IntWalk.iteOmega]; try go_simp)); (try simp (disch := omega) only [IntWalk.i64_in]); (try simp (disch := omega) only [IntWalk.u64_in]); first | (refine hK _ ?_; clear hK K) | (apply Exists.intro; refine ⟨fun x => ?_, hK _ ?_⟩; (first | fail); clear hK K))) | (refine gLex_undef rfl rfl rfl (by kernel_rfl) (fun K hK => ?_); go_simp; refine hK _ ?_; clear hK K) | (refine gLex_ask rfl rfl rfl ?_; first | (apply gAsk_yes; kernel_rfl; intro K hK; (go_simp; (try (simp only [↓IntWalk.iteOmega]; try go_simp)); (try simp (disch := omega) only [IntWalk.i64_in]); (try simp (disch := omega) only [IntWalk.u64_in]); first | (refine hK _ ?_; clear hK K) | (apply Exists.intro; refine ⟨fun x => ?_, hK _ ?_⟩; (first | fail); clear hK K))) | ((first | apply gAsk_no1 | apply gAsk_no2); kernel_rfl; intro K hK; simp [go_sem]; refine hK _ ?_; clear hK K) | (apply gAsk_part; kernel_rfl; all_goals (intro h K hK; (try simp only [Bool.not_true] at h); (try simp only [Bool.not_false] at h); (try simp only [decide_eq_true_eq] at h); (try simp only [decide_eq_false_iff_not] at h); first | (exfalso; first | contradiction | omega) | (go_simp; (try (simp only [↓IntWalk.iteOmega]; try go_simp)); (try simp (disch := omega) only [IntWalk.i64_in]); (try simp (disch := omega) only [IntWalk.u64_in]); first | (refine hK _ ?_; clear hK K) | (apply Exists.intro; refine ⟨fun x => ?_, hK _ ?_⟩; (first | fail); clear hK K))))))); all_goals ((apply gLex_end); intro x))
          go_wp2
          refine ⟨⟨k + 1, by omega, by go_num, Grows.later GG, HE.out⟩, by simp [intOf]; omega⟩
        · have HV : Hid (¬ l = l') := fun e => he (by rw [e])
          have hd : (gi l k == gi l' k) = false := by simpa using he
          clear he
          go_wp2_with fail
          ((first | refine wp_region_gen (by kernel_rfl) (by kernel_rfl) ?_); (repeat' (first | (refine gLex_val0 rfl (by kernel_rfl) (fun K hK => ?_); (go_simp; (try (simp only [↓IntWalk.iteOmega]; try go_simp)); (try simp (disch := omega) only [IntWalk.i64_in]); (try simp (disch := omega) only [IntWalk.u64_in]); first | (refine hK _ ?_; clear hK K) | (apply Exists.intro; refine ⟨fun x => ?_, hK _ ?_⟩; (first | fail); clear hK K))) | (refine gLex_undef rfl rfl rfl (by kernel_rfl) (fun K hK => ?_); go_simp; refine hK _ ?_; clear hK K) | (refine gLex_ask rfl rfl rfl ?_; first | (apply gAsk_yes; kernel_rfl; intro K hK; (go_simp; (try (simp only [↓IntWalk.iteOmega]; try go_simp)); (try simp (disch := omega) only [IntWalk.i64_in]); (try simp (disch := omega) only [IntWalk.u64_in]); first | (refine hK _ ?_; clear hK K) | (apply Exists.intro; refine ⟨fun x => ?_, hK _ ?_⟩; (first | fail); clear hK K))) | ((first | apply gAsk_no1 | apply gAsk_no2); kernel_rfl; intro K hK; simp [go_sem]; refine hK _ ?_; clear hK K) | (apply gAsk_part; kernel_rfl; all_goals (intro h K hK; (try simp only [Bool.not_true] at h); (try simp only [Bool.not_false] at h); (try simp only [decide_eq_true_eq] at h); (try simp only [decide_eq_false_iff_not] at h); first | (exfalso; first | contradiction | omega) | (go_simp; (try (simp only [↓IntWalk.iteOmega]; try go_simp)); (try simp (disch := omega) only [IntWalk.i64_in]); (try simp (disch := omega) only [IntWalk.u64_in]); first | (refine hK _ ?_; clear hK K) | (apply Exists.intro; refine ⟨fun x => ?_, hK _ ?_⟩; (first | fail); clear hK K))))))); all_goals ((apply gLex_end); intro x))
          go_wp2
          go_ret
          exact ⟨ret_bool (decide_eq_false HV.out).symm, GG⟩
  · have HV : Hid (¬ l = l') := fun e => hnm (by rw [← HL.out, ← HM.out, e])
    have hd : ((n : Int) == (m : Int)) = false := beq_eq_false_iff_ne.2 (by omega)
    go_enter Tryz.func13, Tryz.ntmps13
    go_wp2
    go_ret
    exact ⟨ret_bool (decide_eq_false HV.out).symm, GG⟩
end Go.Proofs.YtomednfddpggaaaGreat
