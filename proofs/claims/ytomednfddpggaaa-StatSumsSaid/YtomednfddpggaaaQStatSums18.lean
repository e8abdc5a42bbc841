/- Contract: a graph in numbers. -/
import Derived.Test.YtomednfddpggaaaQStatSums15
import Derived.Test.YtomednfddpggaaaQStatSums16
import Derived.Test.YtomednfddpggaaaQStatSums17
import Derived.Test.YtomednfddpggaaaQStatSums01
import Derived.Test.YtomednfddpggaaaQStatSums00
import Derived.Test.YtomednfddpggaaaQStatSums02
import Derived.Deep.Strs
/- Contract: a graph in numbers. -/
namespace Go.Proofs.Ytomednfddpggaaa
open Go Go.RowKit
attribute [local go_sem] Oper.semAt_some
def stC (N M S W o i l : Int) (T le mo : Int) : List Value := [.int .i64 N, .int .i64 M, .int .i64 S, .int .i64 W, .int .i64 o, .int .i64 i, .int .i64 l, .int .u64 T, .int .u64 le, .int .u64 mo]
def d1 (N : Nat) (E : List Edg) : List Int := dgL (fN E) N E.length
def d2 (N : Nat) (E : List Edg) : List Int := dgL (tN E) N E.length
def stV (N : Nat) (E : List Edg) : Value := .agg #[.int .i64 (N : Int), .int .i64 (E.length : Int), .int .i64 (strongN N E : Int), .int .i64 (partsN N E : Int), .int .i64 (mxD (d1 N E) N), .int .i64 (mxD (d2 N E) N), .int .i64 ((lonL (d1 N E) (d2 N E) N).length : Int), .int .u64 (sumW E E.length), .int .u64 (leastW E E.length), .int .u64 (mostW E E.length)]
def LRow (N : Nat) (L : List Int) : Pr := fun u w => ∃ g c, u = .slice (some ⟨g, 0, none⟩) N c ∧ Rd w (some ⟨g, 0, none⟩) 1 N (L.map (.int .i64)) ∧ g < w.heap.size
theorem LRow.lasts (N : Nat) (L : List Int) : Lasts (LRow N L) := fun _ _ _ hg ⟨g, c, e, h, hl⟩ => ⟨g, c, e, h.grows hg, Nat.lt_of_lt_of_le hl hg.size⟩
def WRow (N : Nat) (E : List Edg) : Pr := fun u w => ∃ L, (fsts L N).length = partsN N E ∧ L.length = N ∧ LRow N L u w
theorem WRow.lasts (N : Nat) (E : List Edg) : Lasts (WRow N E) := fun _ _ _ hg ⟨L, h1, h2, h3⟩ => ⟨L, h1, h2, LRow.lasts N L _ _ _ hg h3⟩
theorem arr_ten {w : World} {g : Nat} {t : TypeId} {cs : List Value} (h : Arr w g t cs) (hl : cs.length = 10) (a0 a1 a2 a3 a4 a5 a6 a7 a8 a9 : Value) :
    Arr ((((((((((w.setCell ⟨g, 0, none⟩ a0).setCell ⟨g, 1, none⟩ a1).setCell ⟨g, 2, none⟩ a2).setCell ⟨g, 3, none⟩ a3).setCell ⟨g, 4, none⟩ a4).setCell ⟨g, 5, none⟩ a5).setCell ⟨g, 6, none⟩ a6).setCell ⟨g, 7, none⟩ a7).setCell ⟨g, 8, none⟩ a8).setCell ⟨g, 9, none⟩ a9) g t [a0, a1, a2, a3, a4, a5, a6, a7, a8, a9] := by
  match cs, hl, h with
  | [c0, c1, c2, c3, c4, c5, c6, c7, c8, c9], _, h =>
    have := (((((((((h.set 0 a0).set 1 a1).set 2 a2).set 3 a3).set 4 a4).set 5 a5).set 6 a6).set 7 a7).set 8 a8).set 9 a9
    simpa using this
theorem touch_ten {w w0 : World} {g : Nat} (hg : Grows w0 w) (hb : w0.heap.size ≤ g) (a0 a1 a2 a3 a4 a5 a6 a7 a8 a9 : Value) : Grows w0 ((((((((((w.setCell ⟨g, 0, none⟩ a0).setCell ⟨g, 1, none⟩ a1).setCell ⟨g, 2, none⟩ a2).setCell ⟨g, 3, none⟩ a3).setCell ⟨g, 4, none⟩ a4).setCell ⟨g, 5, none⟩ a5).setCell ⟨g, 6, none⟩ a6).setCell ⟨g, 7, none⟩ a7).setCell ⟨g, 8, none⟩ a8).setCell ⟨g, 9, none⟩ a9) :=
  (((((((((hg.set hb _).set hb _).set hb _).set hb _).set hb _).set hb _).set hb _).set hb _).set hb _).set hb _
theorem other_ten {w : World} {g g' : Nat} {t : TypeId} {cs : List Value} (h : Arr w g' t cs) (hne : g ≠ g') (a0 a1 a2 a3 a4 a5 a6 a7 a8 a9 : Value) : Arr ((((((((((w.setCell ⟨g, 0, none⟩ a0).setCell ⟨g, 1, none⟩ a1).setCell ⟨g, 2, none⟩ a2).setCell ⟨g, 3, none⟩ a3).setCell ⟨g, 4, none⟩ a4).setCell ⟨g, 5, none⟩ a5).setCell ⟨g, 6, none⟩ a6).setCell ⟨g, 7, none⟩ a7).setCell ⟨g, 8, none⟩ a8).setCell ⟨g, 9, none⟩ a9) g' t cs :=
  (((((((((h.other hne _).other hne _).other hne _).other hne _).other hne _).other hne _).other hne _).other hne _).other hne _).other hne _
def LpAt (w : World) (b1 b2 g1 g2 : Nat) (N : Int) (A : Option Addr) (n c : Nat) (L1 L2 : List Int) (cs : List Value) (wr : World) : Prop :=
  ∃ y : Later w, wr = y.now ∧ Arr y.now b1 24 [.int .i64 N, .slice A n c] ∧ Arr y.now b2 62 cs ∧ Arr y.now g1 3 (L1.map (.int .i64)) ∧ Arr y.now g2 3 (L2.map (.int .i64))
def LsAt (w : World) (b1 b2 : Nat) (N : Int) (A : Option Addr) (n c : Nat) (cs : List Value) (wr : World) : Prop :=
  ∃ y : Later w, wr = y.now ∧ Arr y.now b1 24 [.int .i64 N, .slice A n c] ∧ Arr y.now b2 62 cs
theorem rd_lt {w : World} {g n : Nat} {xs : List Value} (h : Rd w (some ⟨g, 0, none⟩) 1 n xs) (hn : 0 < n) : g < w.heap.size := by
  obtain ⟨b, off, e, hc⟩ := h.2 hn (by omega)
  cases e
  have hl : 0 < xs.length := by have := h.1; omega
  exact World.block_lt_of_cell? w _ (hc 0 xs[0] (by simp [hl]))
set_option maxRecDepth 40000 in
set_option maxHeartbeats 8000000 in
theorem stOf (N : Nat) (A : Option Addr) (c : Nat) (E : List Edg) (w : World) (h : Rd w A 3 E.length (esCells E)) (hr : rightF N E = 0) :
    Calls Try.prog 33 #[.agg #[.int .i64 (N : Int), .slice A E.length c]] w fun e w' => e = .returned (.tuple #[stV N E, .int .i64 0]) ∧ Grows w w' := by
  obtain ⟨r1, r2, r3, r4, r5⟩ := right_in hr
  rw [Int.toNat_natCast] at r4
  have C0 := hide (fun (W : World) (g : Grows w W) => by have := gRight N A E.length c E W (h.grows g) (by omega); rw [hr] at this; exact this)
  have CS := hide (fun (W : World) (g : Grows w W) => tjStrong N A c E W (h.grows g) hr)
  have CW := hide (fun (W : World) (g : Grows w W) => ptWeak N A c E W (h.grows g) hr)
  have CT := hide (fun (W : World) (g : Grows w W) => gTotal N A c E W (h.grows g) hr)
  have CD := hide (fun (W : World) (g : Grows w W) => gDegrees N A c E W (h.grows g) hr)
  have CC := hide (fun (L : List Int) (hL : L.length = N) (W : World) (g c : Nat) (h : Rd W (some ⟨g, 0, none⟩) 1 N (L.map (.int .i64))) (hg : g < W.heap.size) => show Calls Try.prog 68 #[.slice (some ⟨g, 0, none⟩) N c] W fun e w' => e = .returned (.int .i64 (((fsts L N).length : Nat) : Int)) ∧ Grows W w' from by
    subst hL
    exact paCount (some ⟨g, 0, none⟩) c L W h (fun _ p hp => by cases hp; exact hg) (by omega))
  have HSL := hide (strongL_len r4)
  have HPA := hide (fun (L : List Nat) (hL : L.length = N) (h : ∀ u v, u < N → v < N → (gn L u = gn L v ↔ Con E All1 u v)) => show (fsts (iv L) N).length = partsN N E from parts_any r4 (by rw [iv_len, hL]) (fun u v hu hv => by
    rw [iv_at (by omega), iv_at (by omega), ← h u v hu hv]
    omega))
  have HR := hide h
  have hN : N ≤ 4096 := by omega
  have hN1 : 1 ≤ N := by omega
  have hEl : E.length ≤ 16384 := r3
  clear h hr r1 r2 r3 r4
  have HVV := hide (show stV N E = .agg #[.int .i64 (N : Int), .int .i64 (E.length : Int), .int .i64 (strongN N E : Int), .int .i64 (partsN N E : Int), .int .i64 (mxD (d1 N E) N), .int .i64 (mxD (d2 N E) N), .int .i64 ((lonL (d1 N E) (d2 N E) N).length : Int), .int .u64 (sumW E E.length), .int .u64 (leastW E E.length), .int .u64 (mostW E E.length)] from rfl)
  go_enter Try.func33, Try.ntmps33
  go_upto_region 3 with (go_at_call 36; refine (C0.out _ GG).mono ?_; rintro e w' ⟨rfl, hg⟩; obtain ⟨x0, rfl⟩ := hg.later; clear hg)
  have hgw : Grows w x0.now := GG
  have z1 : Arr x0.now w.heap.size 24 [.int .i64 (N : Int), .slice A E.length c] := ((Arr.make w _ _).grow ((Grows.refl _).new _)).grow x0.grows
  have z2 : Arr x0.now (w.heap.size + 1) 62 (stC 0 0 0 0 0 0 0 0 0 0) := by
    have := (Arr.make (w.alloc (.cells #[.int .i64 (N : Int), .slice A E.length c] 24)) (stC 0 0 0 0 0 0 0 0 0 0) 62).grow x0.grows
    simpa using this
  clear C0
  generalize hb1 : w.heap.size = b1 at *
  replace hb1 := hide hb1
  generalize hb2 : b1 + 1 = b2 at *
  replace hb2 := hide hb2
  refine wp_region_tail1 14 (by kernel_rfl) (by kernel_rfl) ?_
  simp only [List.take_succ_cons, List.take_zero, List.drop_succ_cons, List.drop_zero]
  (repeat' (first | (refine gLex_val0 rfl (by kernel_rfl) (fun K hK => ?_); (go_simp; (try (simp only [↓IntWalk.iteOmega]; try go_simp)); (try simp (disch := omega) only [IntWalk.i64_in]); (try simp (disch := omega) only [IntWalk.u64_in]); first | (refine hK _ ?_; clear hK K) | (apply Exists.intro; refine ⟨fun x => ?_, hK _ ?_⟩; (first | fail); clear hK K))) | (refine gLex_undef rfl rfl rfl (by kernel_rfl) (fun K hK => ?_); go_simp; refine hK _ ?_; clear hK K) | (refine gLex_ask rfl rfl rfl ?_; first | (apply gAsk_yes; kernel_rfl; intro K hK; (go_simp; (try (simp only [↓IntWalk.iteOmega]; try go_simp)); (try simp (disch := omega) only [IntWalk.i64_in]); (try simp (disch := omega) only [IntWalk.u64_in]); first | (refine hK _ ?_; clear hK K) | (apply Exists.intro; refine ⟨fun x => ?_, hK _ ?_⟩; (first | fail); clear hK K))) | ((first | apply gAsk_no1 | apply gAsk_no2); kernel_rfl; intro K hK; simp [go_sem]; refine hK _ ?_; clear hK K))))
  refine gLex_propG (by kernel_rfl) (by kernel_rfl) rfl (by simp) (LRow N (strongL N E)) (LRow.lasts _ _) (fun y => by
    go_simp
    refine (CS.out _ (hgw.trans GG)).mono ?_
    rintro e w' ⟨g, rfl, ha, hg⟩
    exact ⟨_, rfl, hg, g, N, rfl, ha, rd_lt ha (by omega)⟩) ?_
  refine gLex_depV (t0 := 19) (by kernel_rfl) (by kernel_rfl) rfl (by simp) (.int .i64 (strongN N E : Int)) (fun y u hu => by
    obtain ⟨g, c', rfl, h1, h2⟩ := hu
    go_simp
    exact CC.out _ HSL.out _ g c' h1 h2) ?_
  simp only [Act.put, List.setIfInBounds_toArray, List.set_cons_zero, List.set_cons_succ]
  (repeat' (first | (refine gLex_val0 rfl (by kernel_rfl) (fun K hK => ?_); (go_simp; (try (simp only [↓IntWalk.iteOmega]; try go_simp)); (try simp (disch := omega) only [IntWalk.i64_in]); (try simp (disch := omega) only [IntWalk.u64_in]); first | (refine hK _ ?_; clear hK K) | (apply Exists.intro; refine ⟨fun x => ?_, hK _ ?_⟩; (first | fail); clear hK K))) | (refine gLex_undef rfl rfl rfl (by kernel_rfl) (fun K hK => ?_); go_simp; refine hK _ ?_; clear hK K) | (refine gLex_ask rfl rfl rfl ?_; first | (apply gAsk_yes; kernel_rfl; intro K hK; (go_simp; (try (simp only [↓IntWalk.iteOmega]; try go_simp)); (try simp (disch := omega) only [IntWalk.i64_in]); (try simp (disch := omega) only [IntWalk.u64_in]); first | (refine hK _ ?_; clear hK K) | (apply Exists.intro; refine ⟨fun x => ?_, hK _ ?_⟩; (first | fail); clear hK K))) | ((first | apply gAsk_no1 | apply gAsk_no2); kernel_rfl; intro K hK; simp [go_sem]; refine hK _ ?_; clear hK K))))
  refine gLex_propG (by kernel_rfl) (by kernel_rfl) rfl (by simp) (WRow N E) (WRow.lasts _ _) (fun y => by
    go_simp
    refine (CW.out _ (hgw.trans GG)).mono ?_
    rintro e w' ⟨g, c', L, rfl, hrow, hL, hcon, hg⟩
    exact ⟨_, rfl, hg, iv L, HPA.out L hL hcon, by rw [iv_len, hL], g, c', rfl, hrow.rd, hrow.lt⟩) ?_
  refine gLex_depV (t0 := 22) (by kernel_rfl) (by kernel_rfl) rfl (by simp) (.int .i64 (partsN N E : Int)) (fun y u hu => by
    obtain ⟨L, hp, hL, g, c', rfl, h1, h2⟩ := hu
    go_simp
    rw [← hp]
    exact CC.out _ hL _ g c' h1 h2) ?_
  simp only [Act.put, List.setIfInBounds_toArray, List.set_cons_zero, List.set_cons_succ]
  (repeat' (first | (refine gLex_val0 rfl (by kernel_rfl) (fun K hK => ?_); (go_simp; (try (simp only [↓IntWalk.iteOmega]; try go_simp)); (try simp (disch := omega) only [IntWalk.i64_in]); (try simp (disch := omega) only [IntWalk.u64_in]); first | (refine hK _ ?_; clear hK K) | (apply Exists.intro; refine ⟨fun x => ?_, hK _ ?_⟩; (first | (go_at_call 71; exact CT.out _ (hgw.trans GG))); clear hK K))) | (refine gLex_undef rfl rfl rfl (by kernel_rfl) (fun K hK => ?_); go_simp; refine hK _ ?_; clear hK K) | (refine gLex_ask rfl rfl rfl ?_; first | (apply gAsk_yes; kernel_rfl; intro K hK; (go_simp; (try (simp only [↓IntWalk.iteOmega]; try go_simp)); (try simp (disch := omega) only [IntWalk.i64_in]); (try simp (disch := omega) only [IntWalk.u64_in]); first | (refine hK _ ?_; clear hK K) | (apply Exists.intro; refine ⟨fun x => ?_, hK _ ?_⟩; (first | (go_at_call 71; exact CT.out _ (hgw.trans GG))); clear hK K))) | ((first | apply gAsk_no1 | apply gAsk_no2); kernel_rfl; intro K hK; simp [go_sem]; refine hK _ ?_; clear hK K))))
  refine gLex_endT2 (by decide) (by simp) (by simp) (fun x v1 v2 hv1 hv2 => ?_)
  simp only [Act.put, List.setIfInBounds_toArray, List.set_cons_zero, List.set_cons_succ]
  clear hv1 hv2 CS CW CT CC HSL HPA
  have z3 := z2.grow x.grows
  unfold stC at z3
  have m6 := z3.mine 6 rfl
  have m7 := z3.mine 7 rfl
  have m8 := z3.mine 8 rfl
  have m9 := z3.mine 9 rfl
  clear z2
  generalize strongN N E = sn at *
  generalize partsN N E = pn at *
  generalize sumW E E.length = tw at *
  go_upto_region 4 with fail
  have hnb : b2 ≠ b1 := by have := hb2.out; omega
  have hwb : w.heap.size ≤ b2 := by have := hb1.out; have := hb2.out; omega
  have HZ4 := hide (arr_ten z3 rfl (.int .i64 (N : Int)) (.int .i64 (E.length : Int)) (.int .i64 (sn : Int)) (.int .i64 (pn : Int)) (.int .i64 0) (.int .i64 0) (.int .i64 0) (.int .u64 tw) (.int .u64 0) (.int .u64 0))
  have HG4 := hide (touch_ten (show Grows w x.now from GG) hwb (.int .i64 (N : Int)) (.int .i64 (E.length : Int)) (.int .i64 (sn : Int)) (.int .i64 (pn : Int)) (.int .i64 0) (.int .i64 0) (.int .i64 0) (.int .u64 tw) (.int .u64 0) (.int .u64 0))
  have HB4 := hide (other_ten (z1.grow x.grows) hnb (.int .i64 (N : Int)) (.int .i64 (E.length : Int)) (.int .i64 (sn : Int)) (.int .i64 (pn : Int)) (.int .i64 0) (.int .i64 0) (.int .i64 0) (.int .u64 tw) (.int .u64 0) (.int .u64 0))
  generalize ((((((((((x.now.setCell ⟨b2, 0, none⟩ (.int .i64 (N : Int))).setCell ⟨b2, 1, none⟩ (.int .i64 (E.length : Int))).setCell ⟨b2, 2, none⟩ (.int .i64 (sn : Int))).setCell ⟨b2, 3, none⟩ (.int .i64 (pn : Int))).setCell ⟨b2, 4, none⟩ (.int .i64 0)).setCell ⟨b2, 5, none⟩ (.int .i64 0)).setCell ⟨b2, 6, none⟩ (.int .i64 0)).setCell ⟨b2, 7, none⟩ (.int .u64 tw)).setCell ⟨b2, 8, none⟩ (.int .u64 0)).setCell ⟨b2, 9, none⟩ (.int .u64 0)) = W4 at *
  obtain ⟨y4, rfl⟩ := HG4.out.later
  have q1 := HZ4.out
  have q2 := HB4.out
  clear m6 m7 m8 m9 z3 z1 HG4 HZ4 HB4 hgw
  go_upto_region 5 with (go_at_call 72; refine (CD.out _ GG).mono ?_; rintro e w' ⟨g1, g2, rfl, hdg⟩; have HDG := hide hdg; obtain ⟨y5, rfl, _⟩ := id hdg; clear hdg)
  have k1 := q1.grow y5.grows
  have k2 := q2.grow y5.grows
  have HK : Hid (Arr y5.now g1 3 ((d1 N E).map (.int .i64)) ∧ Arr y5.now g2 3 ((d2 N E).map (.int .i64)) ∧ (d1 N E).length = N ∧ (d2 N E).length = N) := by
    obtain ⟨y6, e6, t1, t2, t3, t4, _⟩ := HDG.out
    rw [e6]
    exact ⟨t1, t2, t3, t4⟩
  have HB := hide (show LpAt w b1 b2 g1 g2 N A E.length c (d1 N E) (d2 N E) (stC N E.length sn pn (mxD (d1 N E) 0) (mxD (d2 N E) 0) ((lonL (d1 N E) (d2 N E) 0).length : Int) tw 0 0) y5.now from
    ⟨⟨y5.now, show Grows w _ from GG⟩, rfl, k2, k1, HK.out.1, HK.out.2.1⟩)
  obtain ⟨hl1, hl2⟩ := HK.out.2.2
  clear k1 HDG HK CD q1 q2
  go_wp2_with fail
  clear k2
  have HLN := hide (fun k => lonL_next (d1 N E) (d2 N E) k)
  have HLL := hide (fun k => lonL_le (d1 N E) (d2 N E) k)
  generalize d1 N E = L1 at *
  generalize d2 N E = L2 at *
  go_loopw [34] (fun i wr => ∃ k : Nat, k ≤ N ∧ i = .int .i64 (k : Int) ∧ LpAt w b1 b2 g1 g2 N A E.length c L1 L2 (stC N E.length sn pn (mxD L1 k) (mxD L2 k) ((lonL L1 L2 k).length : Int) tw 0 0) wr) (fun i _ => N - (Go.RowKit.intOf i).toNat)
  case atStart => exact ⟨0, by omega, by go_num, HB.out⟩
  case round =>
    obtain ⟨v, hv, rfl, y, rfl, q1, q2, q3, q4⟩ := hrel
    clear HB
    unfold stC at q2
    by_cases hlt : v < N
    · have HV9 := hide hlt
      have hll := HLL.out v
      have hln := HLN.out v
      have n21 : b2 ≠ g1 := fun e => (q2.ne q3 (by decide)) e
      have n22 : b2 ≠ g2 := fun e => (q2.ne q4 (by decide)) e
      have HX1 := hide (show mxD L1 (v + 1) = max (mxD L1 v) (gi L1 v) from rfl)
      have HX2 := hide (show mxD L2 (v + 1) = max (mxD L2 v) (gi L2 v) from rfl)
      obtain ⟨mo, hmo⟩ : ∃ m, max (mxD L1 v) (gi L1 v) = m := ⟨_, rfl⟩
      obtain ⟨mi, hmi⟩ : ∃ m, max (mxD L2 v) (gi L2 v) = m := ⟨_, rfl⟩
      obtain ⟨mm, hmm⟩ : ∃ m, max (gi L1 v) (gi L2 v) = m := ⟨_, rfl⟩
      rw [hmo] at HX1
      rw [hmi] at HX2
      rw [hmm] at hln
      have HQ1 := hide q1
      have HQ2 := hide q2
      have HQ3 := hide q3
      have HQ4 := hide q4
      have HLNv := hide hln
      have m3 := q3.mine v (gi_at (L := L1) (by omega))
      have m4 := q4.mine v (gi_at (L := L2) (by omega))
      clear hln
      go_upto_region 8 with fail
      have HD1 := hide (HQ1.out.grow (Grows.refl _).drew)
      have HD2 := hide (HQ2.out.grow (Grows.refl _).drew)
      have HD3 := hide (HQ3.out.grow (Grows.refl _).drew)
      have HD4 := hide (HQ4.out.grow (Grows.refl _).drew)
      have HTD := hide (show Touch (fun k => k = b2) y.now y.now.drew from ((Grows.refl y.now).drew).touch _)
      clear q1 q2 q3 q4 m3 m4
      generalize mxD L1 v = o at *
      generalize mxD L2 v = ii at *
      refine wp_region_keep (by kernel_rfl) (by kernel_rfl) (by kernel_rfl) (by kernel_rfl) (by kernel_rfl) (fun j => ([.pointer (some ⟨b2, 4, none⟩), .int .i64 o, .slice (some ⟨g1, 0, none⟩) N N, .int .i64 (v : Int), .pointer (some ⟨g1, v, none⟩), .int .i64 (gi L1 v), .int .i64 mo, .pointer (some ⟨b2, 5, none⟩), .int .i64 ii, .slice (some ⟨g2, 0, none⟩) N N, .int .i64 (v : Int), .pointer (some ⟨g2, v, none⟩), .int .i64 (gi L2 v), .int .i64 mi, .pointer (some ⟨b2, 4, none⟩), undef, .pointer (some ⟨b2, 5, none⟩), undef] : List Value).getD j undef)
        (fun D w1 => Arr w1 b2 62 [.int .i64 N, .int .i64 E.length, .int .i64 sn, .int .i64 pn, .int .i64 (if D 15 = true then mo else o), .int .i64 (if D 17 = true then mi else ii), .int .i64 ((lonL L1 L2 v).length : Int), .int .u64 tw, .int .u64 0, .int .u64 0] ∧ Arr w1 g1 3 (L1.map (.int .i64)) ∧ Arr w1 g2 3 (L2.map (.int .i64)) ∧ Touch (fun k => k = b2) y.now w1) ⟨HD2.out, HD3.out, HD4.out, HTD.out⟩ ?hs ?he
      case hs =>
        intro a hV hO i oo ho D hcl hD hpre w1 hM
        match i, ho, hD, hpre with
          | 0, ho, hD, hpre =>
            cases (show some _ = some oo from ho)
            have e2 := ev_nfK ((hO 2 (notDstK (by kernel_rfl))).trans rfl)
            obtain ⟨q1, q2, q3, q4⟩ := hM
            have hv := HV9.out
            go_simp
            all_goals exact ⟨q1, q2, q3, q4⟩
          | 1, ho, hD, hpre =>
            cases (show some _ = some oo from ho)
            have e37 := ev_nfK (hV 0 37 rfl)
            obtain ⟨q1, q2, q3, q4⟩ := hM
            have d15 : D 15 = false := by
              cases hd : D 15 with
              | false => rfl
              | true => exact absurd (hcl 6 1 (hcl 15 6 hd (by kernel_rfl)) (by kernel_rfl)) (by rw [hD]; exact Bool.false_ne_true)
            rw [d15] at q1
            go_simp
            all_goals first | exact q1 | exact ⟨q1, q2, q3, q4⟩
          | 2, ho, hD, hpre =>
            cases (show some _ = some oo from ho)
            have e4 := ev_nfK ((hO 4 (notDstK (by kernel_rfl))).trans rfl)
            obtain ⟨q1, q2, q3, q4⟩ := hM
            have hv := HV9.out
            go_simp
            all_goals exact ⟨q1, q2, q3, q4⟩
          | 3, ho, hD, hpre =>
            cases (show some _ = some oo from ho)
            have e6 := ev_nfK ((hO 6 (notDstK (by kernel_rfl))).trans rfl)
            obtain ⟨q1, q2, q3, q4⟩ := hM
            have hv := HV9.out
            go_simp
            all_goals exact ⟨q1, q2, q3, q4⟩
          | 4, ho, hD, hpre =>
            cases (show some _ = some oo from ho)
            have e39 := ev_nfK (hV 2 39 rfl)
            have e40 := ev_nfK (hV 3 40 rfl)
            obtain ⟨q1, q2, q3, q4⟩ := hM
            have hv := HV9.out
            go_simp
            all_goals exact ⟨q1, q2, q3, q4⟩
          | 5, ho, hD, hpre =>
            cases (show some _ = some oo from ho)
            have e41 := ev_nfK (hV 4 41 rfl)
            obtain ⟨q1, q2, q3, q4⟩ := hM
            have m5 := q2.mine v (gi_at (L := L1) (by rw [hl1]; exact HV9.out))
            go_simp
            all_goals exact ⟨q1, q2, q3, q4⟩
          | 6, ho, hD, hpre =>
            cases (show some _ = some oo from ho)
            have e38 := ev_nfK (hV 1 38 rfl)
            have e42 := ev_nfK (hV 5 42 rfl)
            obtain ⟨q1, q2, q3, q4⟩ := hM
            have hv := HV9.out
            go_simp
            all_goals exact ⟨q1, q2, q3, q4⟩
          | 7, ho, hD, hpre =>
            cases (show some _ = some oo from ho)
            have e2 := ev_nfK ((hO 2 (notDstK (by kernel_rfl))).trans rfl)
            obtain ⟨q1, q2, q3, q4⟩ := hM
            have hv := HV9.out
            go_simp
            all_goals exact ⟨q1, q2, q3, q4⟩
          | 8, ho, hD, hpre =>
            cases (show some _ = some oo from ho)
            have e44 := ev_nfK (hV 7 44 rfl)
            obtain ⟨q1, q2, q3, q4⟩ := hM
            have d17 : D 17 = false := by
              cases hd : D 17 with
              | false => rfl
              | true => exact absurd (hcl 13 8 (hcl 17 13 hd (by kernel_rfl)) (by kernel_rfl)) (by rw [hD]; exact Bool.false_ne_true)
            rw [d17] at q1
            go_simp
            all_goals first | exact q1 | exact ⟨q1, q2, q3, q4⟩
          | 9, ho, hD, hpre =>
            cases (show some _ = some oo from ho)
            have e5 := ev_nfK ((hO 5 (notDstK (by kernel_rfl))).trans rfl)
            obtain ⟨q1, q2, q3, q4⟩ := hM
            have hv := HV9.out
            go_simp
            all_goals exact ⟨q1, q2, q3, q4⟩
          | 10, ho, hD, hpre =>
            cases (show some _ = some oo from ho)
            have e6 := ev_nfK ((hO 6 (notDstK (by kernel_rfl))).trans rfl)
            obtain ⟨q1, q2, q3, q4⟩ := hM
            have hv := HV9.out
            go_simp
            all_goals exact ⟨q1, q2, q3, q4⟩
          | 11, ho, hD, hpre =>
            cases (show some _ = some oo from ho)
            have e46 := ev_nfK (hV 9 46 rfl)
            have e47 := ev_nfK (hV 10 47 rfl)
            obtain ⟨q1, q2, q3, q4⟩ := hM
            have hv := HV9.out
            go_simp
            all_goals exact ⟨q1, q2, q3, q4⟩
          | 12, ho, hD, hpre =>
            cases (show some _ = some oo from ho)
            have e48 := ev_nfK (hV 11 48 rfl)
            obtain ⟨q1, q2, q3, q4⟩ := hM
            have m5 := q3.mine v (gi_at (L := L2) (by rw [hl2]; exact HV9.out))
            go_simp
            all_goals exact ⟨q1, q2, q3, q4⟩
          | 13, ho, hD, hpre =>
            cases (show some _ = some oo from ho)
            have e45 := ev_nfK (hV 8 45 rfl)
            have e49 := ev_nfK (hV 12 49 rfl)
            obtain ⟨q1, q2, q3, q4⟩ := hM
            have hv := HV9.out
            go_simp
            all_goals exact ⟨q1, q2, q3, q4⟩
          | 14, ho, hD, hpre =>
            cases (show some _ = some oo from ho)
            have e2 := ev_nfK ((hO 2 (notDstK (by kernel_rfl))).trans rfl)
            obtain ⟨q1, q2, q3, q4⟩ := hM
            have hv := HV9.out
            go_simp
            all_goals exact ⟨q1, q2, q3, q4⟩
          | 15, ho, hD, hpre =>
            cases (show some _ = some oo from ho)
            have e51 := ev_nfK (hV 14 51 rfl)
            have e43 := ev_nfK (hV 6 43 rfl)
            obtain ⟨q1, q2, q3, q4⟩ := hM
            have hS := hide (q1.set 4 (.int .i64 mo))
            have hS2 := hide (q2.other (p := ⟨b2, 4, none⟩) n21 (.int .i64 mo))
            have hS3 := hide (q3.other (p := ⟨b2, 4, none⟩) n22 (.int .i64 mo))
            have hS4 := hide (q4.set (p := ⟨b2, 4, none⟩) (.inl rfl) (.int .i64 mo))
            have m9 := q1.mine 4 rfl
            clear q2 q3 q4
            go_simp
            all_goals exact ⟨hS.out, hS2.out, hS3.out, hS4.out⟩
          | 16, ho, hD, hpre =>
            cases (show some _ = some oo from ho)
            have e2 := ev_nfK ((hO 2 (notDstK (by kernel_rfl))).trans rfl)
            obtain ⟨q1, q2, q3, q4⟩ := hM
            have hv := HV9.out
            go_simp
            all_goals exact ⟨q1, q2, q3, q4⟩
          | 17, ho, hD, hpre =>
            cases (show some _ = some oo from ho)
            have e52 := ev_nfK (hV 16 52 rfl)
            have e50 := ev_nfK (hV 13 50 rfl)
            obtain ⟨q1, q2, q3, q4⟩ := hM
            have hS := hide (q1.set 5 (.int .i64 mi))
            have hS2 := hide (q2.other (p := ⟨b2, 5, none⟩) n21 (.int .i64 mi))
            have hS3 := hide (q3.other (p := ⟨b2, 5, none⟩) n22 (.int .i64 mi))
            have hS4 := hide (q4.set (p := ⟨b2, 5, none⟩) (.inl rfl) (.int .i64 mi))
            have m9 := q1.mine 5 rfl
            clear q2 q3 q4
            go_simp
            all_goals exact ⟨hS.out, hS2.out, hS3.out, hS4.out⟩
          | n + 18, ho, hD, hpre => cases ho
      case he =>
        rintro w1 ⟨q2, q3, q4, ht⟩
        simp only [putAll, dstOf, List.length_cons, List.length_nil, Nat.reduceAdd, List.getElem?_cons_zero, List.getElem?_cons_succ, Option.bind_some, List.getD_cons_zero, List.getD_cons_succ, Act.put, List.setIfInBounds_toArray, List.set_cons_zero, List.set_cons_succ]
        replace q2 : Arr w1 b2 62 (stC N E.length sn pn mo mi ((lonL L1 L2 v).length : Int) tw 0 0) := q2
        have HG1 : Hid (Grows w w1) := ht.later y.grows (fun k hk => by rw [hk]; exact hwb)
        have q1 := HQ1.out.touch ht (fun e => hnb e.symm)
        have P2 := hide q2
        have P1 := hide q1
        have m3 := q3.mine v (gi_at (L := L1) (by omega))
        have m4 := q4.mine v (gi_at (L := L2) (by omega))
        have m6 := q2.mine 6 rfl
        clear ht HQ1 HQ2 HQ3 HQ4 HD1 HD2 HD3 HD4 HTD q2 hmo hmi
        have R3 := hide q3
        have R4 := hide q4
        clear q3 q4
        generalize (lonL L1 L2 v).length = ln at *
        by_cases hz : mm = 0
        · have hb : (mm == 0) = true := by rw [hz]; rfl
          rw [if_pos hz] at HLNv
          clear hz
          go_upto_region 9 with fail
          ((first | refine wp_region_gen (by kernel_rfl) (by kernel_rfl) ?_); (repeat' (first | (refine gLex_val0 rfl (by kernel_rfl) (fun K hK => ?_); (go_simp; (try (simp only [↓IntWalk.iteOmega]; try go_simp)); (try simp (disch := omega) only [IntWalk.i64_in]); (try simp (disch := omega) only [IntWalk.u64_in]); first | (refine hK _ ?_; clear hK K) | (apply Exists.intro; refine ⟨fun x => ?_, hK _ ?_⟩; (first | fail); clear hK K))) | (refine gLex_undef rfl rfl rfl (by kernel_rfl) (fun K hK => ?_); go_simp; refine hK _ ?_; clear hK K) | (refine gLex_ask rfl rfl rfl ?_; first | (apply gAsk_yes; kernel_rfl; intro K hK; (go_simp; (try (simp only [↓IntWalk.iteOmega]; try go_simp)); (try simp (disch := omega) only [IntWalk.i64_in]); (try simp (disch := omega) only [IntWalk.u64_in]); first | (refine hK _ ?_; clear hK K) | (apply Exists.intro; refine ⟨fun x => ?_, hK _ ?_⟩; (first | fail); clear hK K))) | ((first | apply gAsk_no1 | apply gAsk_no2); kernel_rfl; intro K hK; simp [go_sem]; refine hK _ ?_; clear hK K) | (apply gAsk_part; kernel_rfl; all_goals (intro h K hK; (try simp only [Bool.not_true] at h); (try simp only [Bool.not_false] at h); (try simp only [decide_eq_true_eq] at h); (try simp only [decide_eq_false_iff_not] at h); first | (exfalso; first | contradiction | omega) | (go_simp; (try (simp only [↓IntWalk.iteOmega]; try go_simp)); (try simp (disch := omega) only [IntWalk.i64_in]); (try simp (disch := omega) only [IntWalk.u64_in]); first | (refine hK _ ?_; clear hK K) | (apply Exists.intro; refine ⟨fun x => ?_, hK _ ?_⟩; (first | fail); clear hK K))))))); all_goals ((apply gLex_end); intro y9))
          have P2 := hide (P2.out.grow y9.grows)
          have HG9 := hide (HG1.out.trans y9.grows)
          have P1 := hide (P1.out.grow y9.grows)
          have R3 := hide (R3.out.grow y9.grows)
          have R4 := hide (R4.out.grow y9.grows)
          go_wp2_with fail
          go_roundw
          case measure => simp [Go.RowKit.intOf]; omega
          case rel =>
            refine ⟨v + 1, by omega, by go_num, ⟨_, HG9.out.set hwb _⟩, rfl, P1.out.other hnb _, ?_, R3.out.other n21 _, R4.out.other n22 _⟩
            rw [HX1.out, HX2.out, HLNv.out]
            exact P2.out.set 6 _
        · have hb : (mm == 0) = false := beq_eq_false_iff_ne.2 hz
          rw [if_neg hz] at HLNv
          clear hz
          go_upto_region 9 with fail
          ((first | refine wp_region_gen (by kernel_rfl) (by kernel_rfl) ?_); (repeat' (first | (refine gLex_val0 rfl (by kernel_rfl) (fun K hK => ?_); (go_simp; (try (simp only [↓IntWalk.iteOmega]; try go_simp)); (try simp (disch := omega) only [IntWalk.i64_in]); (try simp (disch := omega) only [IntWalk.u64_in]); first | (refine hK _ ?_; clear hK K) | (apply Exists.intro; refine ⟨fun x => ?_, hK _ ?_⟩; (first | fail); clear hK K))) | (refine gLex_undef rfl rfl rfl (by kernel_rfl) (fun K hK => ?_); go_simp; refine hK _ ?_; clear hK K) | (refine gLex_ask rfl rfl rfl ?_; first | (apply gAsk_yes; kernel_rfl; intro K hK; (go_simp; (try (simp only [↓IntWalk.iteOmega]; try go_simp)); (try simp (disch := omega) only [IntWalk.i64_in]); (try simp (disch := omega) only [IntWalk.u64_in]); first | (refine hK _ ?_; clear hK K) | (apply Exists.intro; refine ⟨fun x => ?_, hK _ ?_⟩; (first | fail); clear hK K))) | ((first | apply gAsk_no1 | apply gAsk_no2); kernel_rfl; intro K hK; simp [go_sem]; refine hK _ ?_; clear hK K) | (apply gAsk_part; kernel_rfl; all_goals (intro h K hK; (try simp only [Bool.not_true] at h); (try simp only [Bool.not_false] at h); (try simp only [decide_eq_true_eq] at h); (try simp only [decide_eq_false_iff_not] at h); first | (exfalso; first | contradiction | omega) | (go_simp; (try (simp only [↓IntWalk.iteOmega]; try go_simp)); (try simp (disch := omega) only [IntWalk.i64_in]); (try simp (disch := omega) only [IntWalk.u64_in]); first | (refine hK _ ?_; clear hK K) | (apply Exists.intro; refine ⟨fun x => ?_, hK _ ?_⟩; (first | fail); clear hK K))))))); all_goals ((apply gLex_end); intro y9))
          go_wp2_with fail
          go_roundw
          case measure => simp [Go.RowKit.intOf]; omega
          case rel =>
            refine ⟨v + 1, by omega, by go_num, ⟨y9.now, HG1.out.trans y9.grows⟩, rfl, P1.out.grow y9.grows, ?_, R3.out.grow y9.grows, R4.out.grow y9.grows⟩
            rw [HX1.out, HX2.out, HLNv.out]
            exact P2.out.grow y9.grows
    · obtain rfl : N = v := by omega
      generalize mxD L1 N = oo at *
      generalize mxD L2 N = ii at *
      generalize (lonL L1 L2 N).length = ln at *
      have HB2 := hide (show LsAt w b1 b2 N A E.length c (stC N E.length sn pn oo ii ln tw (leastW E 0) (mostW E 0)) y.now from ⟨y, rfl, q1, q2⟩)
      clear q2 q3 q4 HLN HLL hl1 hl2
      go_wp2_with fail
      go_loopw [71] (fun i wr => ∃ k : Nat, k ≤ E.length ∧ i = .int .i64 (k : Int) ∧ LsAt w b1 b2 N A E.length c (stC N E.length sn pn oo ii ln tw (leastW E k) (mostW E k)) wr) (fun i _ => E.length - (Go.RowKit.intOf i).toNat)
      case atStart => exact ⟨0, by omega, by go_num, HB2.out⟩
      case round =>
        obtain ⟨k, hk, rfl, y2, rfl, q1, q2⟩ := hrel
        clear HB2
        have Q1 := hide q1
        have Q2 := hide q2
        unfold stC at q2
        by_cases hlt : k < E.length
        · obtain ⟨b9, off9, rfl, hc9⟩ := HR.out.edgesH (by omega)
          obtain ⟨z4, z5, z6⟩ := hc9 k hlt
          have HM1 := hide (show mostW E (k + 1) = max (mostW E k) (ge E k).w from rfl)
          have HM2 := hide (show leastW E (k + 1) = min (if k = 0 then (ge E k).w else leastW E k) (ge E k).w from rfl)
          have m8 := q2.mine 8 rfl
          have m9 := q2.mine 9 rfl
          have hn1 : ¬ y2.now.heap.size = b2 := by have := q2.lt; omega
          have hn2 : ¬ b2 = y2.now.heap.size := by omega
          clear hc9 q2
          generalize (ge E k).f = ef at *
          generalize (ge E k).t = et at *
          generalize (ge E k).w = ew at *
          obtain ⟨mo, hmo⟩ : ∃ m, max (mostW E k) ew = m := ⟨_, rfl⟩
          rw [hmo] at HM1
          generalize mostW E k = om at *
          by_cases hk0 : k = 0
          · have hb : ((k : Int) == 0) = true := by rw [hk0]; rfl
            rw [if_pos hk0] at HM2
            obtain ⟨le, hle⟩ : ∃ m, min ew ew = m := ⟨_, rfl⟩
            rw [hle] at HM2
            clear hk0
            generalize leastW E k = ol at *
            go_wp2_with fail
            go_roundw
            case measure => simp [Go.RowKit.intOf]; omega
            case rel =>
              refine ⟨k + 1, by omega, by go_num, ⟨_, (((y2.grows.new _).set hwb _).set hwb _).set hwb _⟩, rfl, (((Q1.out.grow ((Grows.refl _).new _)).other hnb _).other hnb _).other hnb _, ?_⟩
              rw [HM1.out, HM2.out]
              exact (((Q2.out.grow ((Grows.refl _).new _)).set 9 (.int .u64 mo)).set 8 (.int .u64 ew)).set 8 (.int .u64 le)
          · have hb : ((k : Int) == 0) = false := beq_eq_false_iff_ne.2 (by omega)
            rw [if_neg hk0] at HM2
            obtain ⟨le, hle⟩ : ∃ m, min (leastW E k) ew = m := ⟨_, rfl⟩
            rw [hle] at HM2
            clear hk0
            generalize leastW E k = ol at *
            go_wp2_with fail
            go_roundw
            case measure => simp [Go.RowKit.intOf]; omega
            case rel =>
              refine ⟨k + 1, by omega, by go_num, ⟨_, ((y2.grows.new _).set hwb _).set hwb _⟩, rfl, ((Q1.out.grow ((Grows.refl _).new _)).other hnb _).other hnb _, ?_⟩
              rw [HM1.out, HM2.out]
              exact ((Q2.out.grow ((Grows.refl _).new _)).set 9 (.int .u64 mo)).set 8 (.int .u64 le)
        · obtain rfl : E.length = k := by omega
          generalize leastW E E.length = lw at *
          generalize mostW E E.length = mw at *
          have m6 := q2.mine 6 rfl
          have m7 := q2.mine 7 rfl
          have m8 := q2.mine 8 rfl
          have m9 := q2.mine 9 rfl
          go_wp2_with fail
          have HZ := arr_ten Q2.out rfl (.int .i64 (N : Int)) (.int .i64 (E.length : Int)) (.int .i64 (sn : Int)) (.int .i64 (pn : Int)) (.int .i64 oo) (.int .i64 ii) (.int .i64 (ln : Int)) (.int .u64 tw) (.int .u64 lw) (.int .u64 mw)
          have HG := hide (touch_ten y2.grows hwb (.int .i64 (N : Int)) (.int .i64 (E.length : Int)) (.int .i64 (sn : Int)) (.int .i64 (pn : Int)) (.int .i64 oo) (.int .i64 ii) (.int .i64 (ln : Int)) (.int .u64 tw) (.int .u64 lw) (.int .u64 mw))
          generalize ((((((((((y2.now.setCell ⟨b2, 0, none⟩ (.int .i64 (N : Int))).setCell ⟨b2, 1, none⟩ (.int .i64 (E.length : Int))).setCell ⟨b2, 2, none⟩ (.int .i64 (sn : Int))).setCell ⟨b2, 3, none⟩ (.int .i64 (pn : Int))).setCell ⟨b2, 4, none⟩ (.int .i64 oo)).setCell ⟨b2, 5, none⟩ (.int .i64 ii)).setCell ⟨b2, 6, none⟩ (.int .i64 (ln : Int))).setCell ⟨b2, 7, none⟩ (.int .u64 tw)).setCell ⟨b2, 8, none⟩ (.int .u64 lw)).setCell ⟨b2, 9, none⟩ (.int .u64 mw)) = W9 at *
          clear m6 m7 m8 m9 q1 q2 Q1 Q2
          have m6 := HZ.mine 6 rfl
          have m7 := HZ.mine 7 rfl
          have m8 := HZ.mine 8 rfl
          have m9 := HZ.mine 9 rfl
          rw [HVV.out]
          clear HVV
          refine bodyPost_ret (v := .tuple #[.agg #[.int .i64 (N : Int), .int .i64 (E.length : Int), .int .i64 (sn : Int), .int .i64 (pn : Int), .int .i64 oo, .int .i64 ii, .int .i64 (ln : Int), .int .u64 tw, .int .u64 lw, .int .u64 mw], .int .i64 0]) (by simp (maxDischargeDepth := 6) [results, Try.results33, go_sem, *]) rfl ⟨rfl, HG.out⟩
end Go.Proofs.Ytomednfddpggaaa

/- What an argument that can be read is: graphs, rows of rows. -/
namespace Go.Proofs.Ytomednfddpggaaa
open Go Go.ChangeShapes Go.WideShapes Go.ChangeAt Go.RowKit

theorem flat_at {F : Nat → List Value} {size : Nat} (hs : 0 < size) : ∀ n, (∀ i, i < n → (F i).length = size) → ((List.range n).flatMap F).length = n * size ∧ ∀ i j, i < n → j < size → ((List.range n).flatMap F)[i * size + j]? = (F i)[j]?
  | 0, _ => ⟨by simp, fun i j h => by omega⟩
  | n + 1, h => by
    obtain ⟨ih1, ih2⟩ := flat_at hs n fun i hi => h i (by omega)
    have e : (List.range (n + 1)).flatMap F = (List.range n).flatMap F ++ F n := by rw [List.range_succ, List.flatMap_append]; simp
    rw [e]
    refine ⟨by rw [List.length_append, ih1, h n (by omega), Nat.succ_mul], fun i j hi hj => ?_⟩
    by_cases hin : i < n
    · have : i * size + j < n * size := by
        have := Nat.mul_le_mul_right size (show i + 1 ≤ n by omega)
        rw [Nat.succ_mul] at this
        omega
      rw [List.getElem?_append_left (by omega)]
      exact ih2 i j hin hj
    · obtain rfl : i = n := by omega
      rw [List.getElem?_append_right (by omega), ih1, show i * size + j - i * size = j by omega]

theorem add_plain (b off i : Nat) : (⟨b, off, none⟩ : Addr).add i = ⟨b, off + i, none⟩ := by
  unfold Addr.add
  split
  · rename_i h0; rw [h0]; rfl
  · rfl

section
variable {H : Type} {enc : TypeId × Value → H} {P : Program} {w : World} {base b0 : Nat} {held : Bool} {r : Reach} {t : TypeId} {v : Value} {d : DataW H} {p : List MemPlace}

theorem open_elems {e : TypeId} {sz fuel : Nat} {x : DataW H × List MemPlace} {cs : List Value} (ht : P.underlying t = some (.slice e)) (hc : P.cellsOf e = sz) (hsz : 0 < sz) (h : DataW.trod enc P w base (fun _ => true) held fuel t cs = some x) :
    ∃ (A : Option Addr) (n c : Nat) (F : Nat → List Value), cs = [.slice A n c] ∧ n ≤ c ∧ c ≤ maxLen ∧ Rd w A sz n ((List.range n).flatMap F) ∧ ∀ i, i < n → (F i).length = sz ∧ ∃ m y, DataW.trod enc P w base (fun _ => true) held m e (F i) = some y := by
  rcases Deep.open_slice ht h with ⟨rfl, _⟩ | ⟨a, n, c, m, k, D, Pl, rfl, _, hl, hm, hmm, _, hx⟩
  · exact ⟨none, 0, 0, fun _ => [], rfl, Nat.le_refl _, by unfold maxLen; omega, ⟨by simp, fun h => by omega⟩, fun i hi => by omega⟩
  · simp only [if_true] at hmm
    subst hmm
    rw [hc] at hx
    obtain ⟨F, hF⟩ := Deep.choose_lt (α := List Value) (p := fun i cs' => w.cells? base (a.add (i * sz)) sz = some cs' ∧ DataW.trod enc P w base (fun _ => true) held k e cs' = some (D i, Pl i)) hx
    have hlen : ∀ i, i < m → (F i).length = sz := fun i hi => (World.cells?_some (hF i hi).1).2.1
    refine ⟨_, n, m, F, rfl, hl, hm, ?_, fun i hi => ⟨hlen i (by omega), k, _, (hF i (by omega)).2⟩⟩
    obtain ⟨fl1, fl2⟩ := flat_at hsz n fun i hi => hlen i (by omega)
    refine ⟨fl1, fun hn _ => ?_⟩
    obtain ⟨b, off, spot⟩ := a
    have hcell : ∀ i j u, i < n → (F i)[j]? = some u → w.cell? (((⟨b, off, spot⟩ : Addr).add (i * sz)).add j) = some u := fun i j u hi hu => by
      have hj : j < sz := by
        rcases Nat.lt_or_ge j sz with h | h
        · exact h
        · rw [List.getElem?_eq_none (by rw [hlen i (by omega)]; exact h)] at hu; cases hu
      have := (World.cells?_some (hF i (by omega)).1).2.2 j hj
      rw [hu] at this
      exact this
    have hs : spot = none := by
      have h0 : ∃ u, (F 0)[0]? = some u := ⟨_, List.getElem?_eq_getElem (by rw [hlen 0 (by omega)]; exact hsz)⟩
      obtain ⟨u, hu⟩ := h0
      have := spot_none (hcell 0 0 u hn hu)
      simpa [Addr.add] using this
    subst hs
    refine ⟨b, off, rfl, fun q u hu => ?_⟩
    have hq : q < n * sz := by
      rcases Nat.lt_or_ge q (n * sz) with h | h
      · exact h
      · rw [List.getElem?_eq_none (by rw [fl1]; exact h)] at hu; cases hu
    have e : q = q / sz * sz + q % sz := (Nat.div_add_mod' q sz).symm
    have hi : q / sz < n := (Nat.div_lt_iff_lt_mul hsz).2 hq
    have hj : q % sz < sz := Nat.mod_lt _ hsz
    rw [e, fl2 _ _ hi hj] at hu
    have := hcell _ _ u hi hu
    rw [add_plain, add_plain, Nat.add_assoc, ← e] at this
    exact this

def edgOk (e : Edg) : Prop := I64 e.f ∧ I64 e.t ∧ U64 e.w

theorem open_edges {te : TypeId} {f0 f1 f2 : Field} {fuel : Nat} {x : DataW H × List MemPlace} {cs : List Value} (ht : P.underlying t = some (.slice te)) (hs : P.underlying te = some (.struct #[f0, f1, f2]))
    (h0 : P.underlying f0.type = some (.int .i64)) (h1 : P.underlying f1.type = some (.int .i64)) (h2 : P.underlying f2.type = some (.int .u64)) (ho : f0.offset = 0 ∧ f1.offset = 1 ∧ f2.offset = 2)
    (hcs : P.cellsOf f0.type = 1 ∧ P.cellsOf f1.type = 1 ∧ P.cellsOf f2.type = 1) (hc : P.cellsOf te = 3) (h : DataW.trod enc P w base (fun _ => true) held fuel t cs = some x) :
    ∃ (A : Option Addr) (n c : Nat) (E : List Edg), cs = [.slice A n c] ∧ n ≤ c ∧ Rd w A 3 n (esCells E) ∧ ∀ k, k < n → edgOk (ge E k) := by
  obtain ⟨A, n, c, F, rfl, hl, _, hr, hF⟩ := open_elems ht hc (by omega) h
  have hE : ∀ i, i < n → ∃ e : Edg, F i = eCells e ∧ edgOk e := fun i hi => by
    obtain ⟨hlen, m, y, hy⟩ := hF i hi
    obtain ⟨y0, y1, y2, k, _, _, e0, e1, e2⟩ := Deep.trod_struct3 hs hy
    rw [ho.1, hcs.1] at e0
    rw [ho.2.1, hcs.2.1] at e1
    rw [ho.2.2, hcs.2.2] at e2
    obtain ⟨c0, c1, c2, hFi⟩ : ∃ c0 c1 c2, F i = [c0, c1, c2] := by
      match F i, hlen with
      | [c0, c1, c2], _ => exact ⟨c0, c1, c2, rfl⟩
    rw [hFi] at e0 e1 e2 ⊢
    obtain ⟨a, ha, _, wa⟩ := DataW.trod_int h0 e0
    obtain ⟨b, hb, _, wb⟩ := DataW.trod_int h1 e1
    obtain ⟨g, hg, _, wg⟩ := DataW.trod_int h2 e2
    simp at ha hb hg
    subst ha hb hg
    exact ⟨⟨a, b, g⟩, rfl, wf_i64 wa, wf_i64 wb, wf_u64 wg⟩
  obtain ⟨f, hf⟩ := Deep.choose_lt (α := Option Edg) (p := fun i o => ∃ e, o = some e ∧ F i = eCells e ∧ edgOk e) (fun i hi => by obtain ⟨e, h⟩ := hE i hi; exact ⟨some e, e, rfl, h⟩)
  let f' : Nat → Edg := fun i => (f i).getD ⟨0, 0, 0⟩
  have hf' : ∀ i, i < n → F i = eCells (f' i) ∧ edgOk (f' i) := fun i hi => by
    obtain ⟨e, h1, h2⟩ := hf i hi
    simp only [f', h1, Option.getD_some]
    exact h2
  refine ⟨A, n, c, (List.range n).map f', rfl, hl, ?_, fun k hk => ?_⟩
  · have e : esCells ((List.range n).map f') = (List.range n).flatMap F := by
      unfold esCells
      rw [List.flatMap_map, List.flatMap_def, List.flatMap_def]
      exact congrArg List.flatten (List.map_congr_left fun i hi => ((hf' i (List.mem_range.1 hi)).1).symm)
    rw [e]
    exact hr
  · have : ge ((List.range n).map f') k = f' k := by simp [ge, hk]
    rw [this]
    exact (hf' k hk).2

theorem open_graph {f0 f1 g0 g1 g2 : Field} {te : TypeId} (ht : P.underlying t = some (.struct #[f0, f1])) (h0 : P.underlying f0.type = some (.int .i64)) (h1 : P.underlying f1.type = some (.slice te)) (hs : P.underlying te = some (.struct #[g0, g1, g2]))
    (k0 : P.underlying g0.type = some (.int .i64)) (k1 : P.underlying g1.type = some (.int .i64)) (k2 : P.underlying g2.type = some (.int .u64)) (ho : g0.offset = 0 ∧ g1.offset = 1 ∧ g2.offset = 2)
    (hcs : P.cellsOf g0.type = 1 ∧ P.cellsOf g1.type = 1 ∧ P.cellsOf g2.type = 1) (hc : P.cellsOf te = 3) (hone : Deep.oneCellFields P #[f0, f1] = true) (hC : P.cellsOf t = 2)
    (hv : Value.okWide P w r b0 t v) (h : DataW.Trod enc P w base (fun _ => true) held t v d p) :
    ∃ (N : Int) (A : Option Addr) (n c : Nat) (E : List Edg), v = .agg #[.int .i64 N, .slice A n c] ∧ I64 N ∧ n ≤ c ∧ Rd w A 3 n (esCells E) ∧ ∀ k, k < n → edgOk (ge E k) := by
  obtain ⟨c0, c1, y0, y1, m, rfl, rfl, rfl, e0, e1⟩ := Joins.open_agg2 ht hone hC hv h
  obtain ⟨x, hx, _, wx⟩ := DataW.trod_int h0 e0
  simp at hx
  subst hx
  obtain ⟨A, n, c, E, he, hl, hr, hE⟩ := open_edges h1 hs k0 k1 k2 ho hcs hc e1
  simp at he
  subst he
  exact ⟨x, A, n, c, E, rfl, wf_i64 wx, hl, hr, hE⟩

def rowIn (w : World) (r : Row) : Prop := rowOk w r ∧ (∀ z ∈ r.xs, I64 z) ∧ (r.A = none → r.n = 0 ∧ r.c = 0)

theorem open_rows {e i : TypeId} (ht : P.underlying t = some (.slice e)) (he : P.underlying e = some (.slice i)) (hi : P.underlying i = some (.int .i64)) (hce : P.cellsOf e = 1) (hci : P.cellsOf i = 1)
    (hv : Value.okWide P w r b0 t v) (h : DataW.Trod enc P w base (fun _ => true) held t v d p) :
    ∃ (A : Option Addr) (n c : Nat) (R : List Row), v = .slice A n c ∧ n ≤ c ∧ Rd w A 1 n (R.map rowVal) ∧ ∀ k, k < n → rowIn w (gr R k) := by
  obtain ⟨A, n, c, rfl⟩ := okWide_slice ht hv
  obtain ⟨fuel, hf⟩ := h
  obtain ⟨A', n', c', F, hcs, hl, _, hr, hF⟩ := open_elems ht hce (by omega) hf
  simp [Value.cells] at hcs
  obtain ⟨rfl, rfl, rfl⟩ := hcs
  have hE : ∀ k, k < n → ∃ r : Row, F k = [rowVal r] ∧ rowIn w r := fun k hk => by
    obtain ⟨hlen, m, y, hy⟩ := hF k hk
    rcases open_ints he hi hci hy with ⟨hcs, _⟩ | ⟨x, l, c', zs, hcs, _, hl, hm, hz, _, hcell, hwz⟩
    · exact ⟨⟨none, 0, 0, []⟩, hcs, ⟨⟨rfl, fun h => absurd h (by simp)⟩, Nat.le_refl _⟩, fun z hz => (by cases hz), fun _ => ⟨rfl, rfl⟩⟩
    · obtain ⟨b, off, spot⟩ := x
      simp only [if_true] at hz
      refine ⟨⟨some ⟨b, off, spot⟩, l, c', zs.take l⟩, hcs, ⟨⟨by simp; omega, fun h1 _ => ?_⟩, hl⟩, fun z hz => wf_i64 (hwz z (List.mem_of_mem_take hz)), fun h => (by cases h)⟩
      dsimp only at h1
      have h0 := hcell 0 (by omega)
      have hs : spot = none := by simpa [Addr.add] using spot_none h0
      subst hs
      refine ⟨b, off, rfl, fun j u hu => ?_⟩
      have hj : j < l := by
        rcases Nat.lt_or_ge j l with h | h
        · exact h
        · rw [List.getElem?_eq_none (by simp; omega)] at hu; cases hu
      have hcj := hcell j (by omega)
      have hjz : j < zs.length := by omega
      have hu' : u = .int .i64 (zs.getD j 0) := by
        simp [hj, List.getElem?_eq_getElem hjz] at hu
        simp [← hu, List.getElem?_eq_getElem hjz]
      rw [hu']
      rw [add_plain] at hcj
      exact hcj
  obtain ⟨f, hf⟩ := Deep.choose_lt (α := Option Row) (p := fun i o => ∃ e, o = some e ∧ F i = [rowVal e] ∧ rowIn w e) (fun i hi => by obtain ⟨e, h⟩ := hE i hi; exact ⟨some e, e, rfl, h⟩)
  let f' : Nat → Row := fun i => (f i).getD ⟨none, 0, 0, []⟩
  have hf' : ∀ i, i < n → F i = [rowVal (f' i)] ∧ rowIn w (f' i) := fun i hi => by
    obtain ⟨e, h1, h2⟩ := hf i hi
    simp only [f', h1, Option.getD_some]
    exact h2
  refine ⟨A, n, c, (List.range n).map f', rfl, hl, ?_, fun k hk => ?_⟩
  · have e : ((List.range n).map f').map rowVal = (List.range n).flatMap F := by
      rw [List.map_map, List.flatMap_def]
      have : (List.range n).map F = (List.range n).map fun i => [rowVal (f' i)] := List.map_congr_left fun i hi => (hf' i (List.mem_range.1 hi)).1
      rw [this, ← List.flatMap_def]
      exact List.map_eq_flatMap
    rw [e]
    exact hr
  · have : gr ((List.range n).map f') k = f' k := by simp [gr, hk]
    rw [this]
    exact (hf' k hk).2
theorem open_numsC {e : TypeId} {k : IntKind} (ht : P.underlying t = some (.slice e)) (he : P.underlying e = some (.int k)) (hc : P.cellsOf e = 1)
    (hv : Value.okWide P w r b0 t v) (h : DataW.Trod enc P w base (fun _ => true) held t v d p) :
    ∃ (A : Option Addr) (n c : Nat) (zs : List Int), v = .slice A n c ∧ n ≤ c ∧ Rd w A 1 n (zs.map (.int k)) ∧ ∀ z ∈ zs, (Lit.int k z).wf = true := by
  obtain ⟨A, n, c, zs, rfl, h1, h2⟩ := open_nums ht he hc hv h
  obtain ⟨fuel, hf⟩ := h
  rcases open_ints ht he hc hf with ⟨hcs, _⟩ | ⟨x, l, c', zs', hcs, _, hl, _⟩
  · simp [Value.cells] at hcs
    obtain ⟨rfl, rfl, rfl⟩ := hcs
    exact ⟨none, 0, 0, zs, rfl, Nat.le_refl _, h1, h2⟩
  · simp [Value.cells] at hcs
    obtain ⟨rfl, rfl, rfl⟩ := hcs
    exact ⟨_, n, c, zs, rfl, hl, h1, h2⟩
theorem open_numsN {e : TypeId} {k : IntKind} (ht : P.underlying t = some (.slice e)) (he : P.underlying e = some (.int k)) (hc : P.cellsOf e = 1)
    (hv : Value.okWide P w r b0 t v) (h : DataW.Trod enc P w base (fun _ => true) held t v d p) :
    ∃ (A : Option Addr) (n c : Nat) (zs : List Int), v = .slice A n c ∧ (n ≤ c ∧ (A = none → n = 0 ∧ c = 0)) ∧ Rd w A 1 n (zs.map (.int k)) ∧ ∀ z ∈ zs, (Lit.int k z).wf = true := by
  obtain ⟨A, n, c, zs, rfl, h1, h2⟩ := open_nums ht he hc hv h
  obtain ⟨fuel, hf⟩ := h
  rcases open_ints ht he hc hf with ⟨hcs, _⟩ | ⟨x, l, c', zs', hcs, _, hl, _⟩
  · simp [Value.cells] at hcs
    obtain ⟨rfl, rfl, rfl⟩ := hcs
    exact ⟨none, 0, 0, zs, rfl, ⟨Nat.le_refl _, fun _ => ⟨rfl, rfl⟩⟩, h1, h2⟩
  · simp [Value.cells] at hcs
    obtain ⟨rfl, rfl, rfl⟩ := hcs
    exact ⟨_, n, c, zs, rfl, ⟨hl, fun h => by cases h⟩, h1, h2⟩
end

end Go.Proofs.Ytomednfddpggaaa
