/- Contracts: a number that is capped; what an edge hands over. -/
import Derived.Test.YtomednfddpggaaaGreatQDagLooks16
import Derived.Test.YtomednfddpggaaaGreatQDagLooks13
import Derived.WalkMore
import Derived.Test.YtomednfddpggaaaGreatQDagLooks07
import Derived.Test.YtomednfddpggaaaGreatQDagLooks01
import Derived.Lib.SliceRun
import Derived.Test.YtomednfddpggaaaGreatQDagLooks14
/- Contracts: a number that is capped; what an edge hands over. -/
namespace Go.Proofs.YtomednfddpggaaaGreat
open Go Go.RowKit
attribute [local go_sem] Oper.semAt_some
set_option maxHeartbeats 1000000 in
theorem numCap (a b : Int) (w : World) : Calls Tryz.prog 57 #[.int .u64 a, .int .u64 b] w fun e w' => e = .returned (.int .u64 (min a b)) ∧ Grows w w' := by
  go_enter Tryz.func57, Tryz.ntmps57
  go_wp2
  go_ret
  exact ⟨rfl, GG⟩
set_option maxRecDepth 20000 in
set_option maxHeartbeats 4000000 in
theorem dagCounts1 (bn g N v i : Nat) (E : List Edg) (n : List Nat) (w : World) (hn : Arr w bn 31 [.slice (some ⟨g, 0, none⟩) N N]) (ha : Arr w g 38 (wv n)) (hok : CtOk N n) (hv : v < N) (ht : (ge E i).t = (tN E i : Int) ∧ tN E i < N) :
    Calls Tryz.prog 95 #[.int .i64 (v : Int), eVal (ge E i), .pointer (some ⟨bn, 0, none⟩)] w fun e w' => e = .returned (.tuple #[]) ∧ Arr w' g 38 (wv (hdL E v n i)) ∧ Touch (fun k => k = g) w w' := by
  have CN := hide (fun (a b : Int) (W : World) => numCap a b W)
  have hl := hok.len
  obtain ⟨h1, h2⟩ := ht
  have e1 := ha.mine (tN E i) (wv_at (by omega))
  have e2 := ha.mine v (wv_at (by omega))
  have hb1 := hok.le (tN E i)
  have hb2 := hok.le v
  have HF := hide (show wv (hdL E v n i) = (wv n).set (tN E i) (.int .u64 ((min (gn n (tN E i) + gn n v) farV : Nat) : Int)) from by unfold hdL wv; rw [List.map_set])
  have HA := hide ha
  rw [HF.out]
  unfold eVal
  rw [h1]
  clear hok ha HF h1
  generalize tN E i = u at *
  generalize (ge E i).f = ef at *
  generalize (ge E i).w = ew at *
  obtain ⟨xa, hxa⟩ : ∃ x : Int, (gn n u : Int) = x := ⟨_, rfl⟩
  obtain ⟨xb, hxb⟩ : ∃ x : Int, (gn n v : Int) = x := ⟨_, rfl⟩
  have hm : ((min (gn n u + gn n v) farV : Nat) : Int) = min (xa + xb) 4611686018427387904 := by unfold farV; omega
  have hs : IntKind.u64.wrap (xa + xb) = xa + xb := IntWalk.u64_in _ (by unfold farV at hb1 hb2; omega)
  rw [hm]
  rw [hxa] at e1
  rw [hxb] at e2
  clear hxa hxb hm hb1 hb2
  obtain ⟨W1, hW1⟩ : ∃ W1, W1 = w.alloc (.cells #[.int .i64 ef, .int .i64 (u : Int), .int .u64 ew] 59) := ⟨_, rfl⟩
  have hg1 : Grows w W1 := by rw [hW1]; exact (Grows.refl _).new _
  have a4 : Arr W1 w.heap.size 59 [.int .i64 ef, .int .i64 (u : Int), .int .u64 ew] := by rw [hW1]; exact Arr.make _ _ _
  go_enter Tryz.func95, Tryz.ntmps95
  go_upto_region 1 with fail
  rw [← hW1]
  clear hW1
  generalize w.heap.size = b4 at *
  obtain ⟨y1, rfl⟩ := hg1.later
  have t1 := a4.mine 1 rfl
  have n0 := hn.mine 0 rfl
  (refine wp_region_tail1 15 (by kernel_rfl) (by kernel_rfl) ?_; simp only [List.take_succ_cons, List.take_zero, List.drop_succ_cons, List.drop_zero]; (repeat' (first | (refine gLex_val0 rfl (by kernel_rfl) (fun K hK => ?_); (go_simp; (try (simp only [↓IntWalk.iteOmega]; try go_simp)); (try simp (disch := omega) only [IntWalk.i64_in]); (try simp (disch := omega) only [IntWalk.u64_in]); first | (refine hK _ ?_; clear hK K) | (apply Exists.intro; refine ⟨fun x => ?_, hK _ ?_⟩; (first | (go_at_call 57; exact CN.out _ _ _)); clear hK K))) | (refine gLex_undef rfl rfl rfl (by kernel_rfl) (fun K hK => ?_); go_simp; refine hK _ ?_; clear hK K) | (refine gLex_ask rfl rfl rfl ?_; first | (apply gAsk_yes; kernel_rfl; intro K hK; (go_simp; (try (simp only [↓IntWalk.iteOmega]; try go_simp)); (try simp (disch := omega) only [IntWalk.i64_in]); (try simp (disch := omega) only [IntWalk.u64_in]); first | (refine hK _ ?_; clear hK K) | (apply Exists.intro; refine ⟨fun x => ?_, hK _ ?_⟩; (first | (go_at_call 57; exact CN.out _ _ _)); clear hK K))) | ((first | apply gAsk_no1 | apply gAsk_no2); kernel_rfl; intro K hK; simp [go_sem]; refine hK _ ?_; clear hK K)))); refine gLex_endT (fun x => ?_))
  go_wp2_with fail
  go_end0
  exact ⟨rfl, (HA.out.grow (hg1.trans x.grows)).set u _, ((hg1.trans x.grows).touch (fun k => k = g)).set (p := ⟨g, u, none⟩) (.inl rfl) _⟩
end Go.Proofs.YtomednfddpggaaaGreat

/- Contract: of each node how many shortest ways there are up to it, by the program. -/
namespace Go.Proofs.YtomednfddpggaaaGreat
open Go Go.RowKit
attribute [local go_sem] Oper.semAt_some
theorem run_store_fn16 {P : Program} {w : World} {a : Addr} {m : Mode} (fn : Fn) (first captured : Array Value) : (store a (.func fn first captured) m).run P w = stored P w a (.func fn first captured) m := run_store P w a _ m rfl
attribute [local go_sem] run_store_fn16
theorem wp_frame16 {F : Fence} {n : Nat} {P : Program} {c : Code} {Q : Exit → Act → World → Prop} {a : Act} {w : World} (h : ∀ a', a' = a → c.wpIn F n P Q a' w) : c.wpIn F n P Q a w := h a rfl
def CtO (N : Nat) (E : List Edg) (p : Nat → Bool) (vs : List Nat) (s g : Nat) (w W0 : World) (Ds : List Nat) (k : Nat) (wr : World) : Prop :=
  k ≤ vs.length ∧ (∃ y : Later w, wr = y.now) ∧ Arr wr g 38 (wv (ctL N E p (vs.take k) (ct0 N s))) ∧ Touch (fun j => j = g) W0 wr ∧ Marks Ds wr ∧ (∀ D ∈ Ds, W0.heap.size ≤ D)
def ctFr (fr : Act) (E : List Edg) (i b : Nat) : Act := { tmps := ((fr.tmps.setIfInBounds 37 (.int .i64 (i : Int))).setIfInBounds 38 (eVal (ge E i))).setIfInBounds 8 (.pointer (some ⟨b, 0, none⟩)), defers := [] }
def CtB (E : List Edg) (p : Nat → Bool) (v : Nat) (n0 : List Nat) (g : Nat) (w W3 : World) (fr : Act) (i : Nat) (a' : Act) (pre : List Nat) (M : Nat → Prop) (W : World) : Prop :=
  ∃ b, a' = ctFr fr E i b ∧ CtJ E p v n0 g w W3 pre M W ∧ Arr W b 59 [.int .i64 (ge E i).f, .int .i64 (ge E i).t, .int .u64 (ge E i).w] ∧ ¬ M b ∧ W3.heap.size ≤ b
theorem CtB.yields {E : List Edg} {p : Nat → Bool} {v : Nat} {n0 : List Nat} {g : Nat} {w W3 : World} (hw : w.heap.size ≤ W3.heap.size) (fr : Act) (i : Nat) (a' : Act) : Yields' (CtB E p v n0 g w W3 fr i a') :=
  fun pre M W M' W' ⟨b, e, h, ha, hm, hl⟩ ht hM => ⟨b, e, CtJ.yields hw pre M W M' W' h ht hM, ha.touch ht hm, fun e => by
    have := ha.lt
    rcases (hM _ e).1 with h | h
    · exact hm h
    · omega, hl⟩
set_option maxRecDepth 60000 in
set_option maxHeartbeats 8000000 in
theorem dagCounts (b N s t : Nat) (E : List Edg) (T F : List Nat) (vs : List Nat) (w : World) (h : DgAt w b N s t E T F (vs.map fun v : Nat => (v : Int))) (hr : rightF N E = 0) (hs : s < N) (ht : t < N) (hT : ∀ v, gn T v ≤ farV) (hF : ∀ v, gn F v ≤ farV) (hvs : ∀ v ∈ vs, v < N) (hvl : vs.length ≤ 1000000) :
    Calls Tryz.prog 58 #[.pointer (some ⟨b, 0, none⟩)] w fun e w' => ∃ g, e = .returned (.slice (some ⟨g, 0, none⟩) N N) ∧ Arr w' g 38 (wv (ctL N E (onP N E T F t) vs (ct0 N s))) ∧ Grows w w' := by
  obtain ⟨r1, r2, r3, r4, r5⟩ := right_in hr
  rw [Int.toNat_natCast] at r4
  have hN : N ≤ 4096 := by omega
  have hEl : E.length ≤ 16384 := r3
  have HE := hide r4
  have CO := hide (fun (i : Nat) (hi : i < E.length) (W : World) (g : Grows w W) => dagOnE b N s t i E T F _ W (h.grow g) hr hi ht hT hF)
  have HET := hide (show ∀ i, i < E.length → (ge E i).t = (tN E i : Int) ∧ tN E i < N from fun i hi => by have := r4.t i hi; unfold tN; omega)
  generalize onP N E T F t = p at *
  obtain ⟨ba, A1, c1, A2, c2, A3, c3, d1, d2, d3, _, d5⟩ := h
  have HV := hide (show ∀ k, k < vs.length → gn vs k < N from fun k hk => hvs _ (by simp [gn, hk]))
  rw [List.length_map] at d1 d5
  have HD5 := hide d5
  have HA := hide d2
  clear hr hT hF hvs d2 d3 d5 r1 r2 r3 r4 r5
  refine calls_of_marks Tryz.func58 rfl ?_
  simp only [Tryz.ntmps58, List.size_toArray, List.length_cons, List.length_nil, Nat.reduceAdd, Nat.reduceSub, Array.replicate_succ, Array.replicate_zero, List.push_toArray, List.append_toArray, List.nil_append, List.cons_append]
  have mk := fun (w : World) => run_makeU64s N (by omega) w
  go_upto_region 2 with fail
  clear mk
  generalize hWA : World.alloc _ _ = WA
  have hgA : Grows w WA := by rw [← hWA]; exact (((Grows.refl w).new _).new _).new _
  have aB : Arr WA w.heap.size 27 [.pointer (some ⟨b, 0, none⟩)] := by
    rw [← hWA]
    exact ((Arr.make w _ _).grow ((Grows.refl _).new _)).grow ((Grows.refl _).new _)
  have aG : Arr WA (w.heap.size + 1) 38 (wv (List.replicate N 0)) := by
    rw [← hWA]
    have := (Arr.make (w.alloc (.cells #[.pointer (some ⟨b, 0, none⟩)] 27)) (List.replicate N (Value.int .u64 0)) 38).grow ((Grows.refl _).new (.cells #[.slice (some ⟨w.heap.size + 1, 0, none⟩) N N] 31))
    simpa [wv] using this
  have aN : Arr WA (w.heap.size + 1 + 1) 31 [.slice (some ⟨w.heap.size + 1, 0, none⟩) N N] := by
    rw [← hWA]
    have := Arr.make ((w.alloc (.cells #[.pointer (some ⟨b, 0, none⟩)] 27)).alloc (.cells (List.replicate N (Value.int .u64 0)).toArray 38)) [.slice (some ⟨w.heap.size + 1, 0, none⟩) N N] 31
    simpa using this
  have hzA : WA.heap.size = w.heap.size + 1 + 1 + 1 := by rw [← hWA]; simp
  clear hWA
  have d1A := d1.grow hgA
  obtain ⟨bx, hbx⟩ : ∃ k, k = w.heap.size := ⟨_, rfl⟩
  rw [← hbx] at aB aG aN hzA
  rw [← hbx]
  have HBX := hide hbx
  have HZA := hide hzA
  clear hbx hzA
  obtain ⟨yA, rfl⟩ := hgA.later
  have hsz : s < (wv (List.replicate N 0)).length := by simp [wv]; exact hs
  have m0 := aG.mine s (List.getElem?_eq_getElem hsz)
  have HBL := hide (show b < bx from by rw [HBX.out]; exact d1.lt)
  clear d1
  (refine wp_region_tail1 6 (by kernel_rfl) (by kernel_rfl) ?_; simp only [List.take_succ_cons, List.take_zero, List.drop_succ_cons, List.drop_zero]; (repeat' (first | (refine gLex_val0 rfl (by kernel_rfl) (fun K hK => ?_); (go_simp; (try (simp only [↓IntWalk.iteOmega]; try go_simp)); (try simp (disch := omega) only [IntWalk.i64_in]); (try simp (disch := omega) only [IntWalk.u64_in]); first | (refine hK _ ?_; clear hK K) | (apply Exists.intro; refine ⟨fun x => ?_, hK _ ?_⟩; (first | fail); clear hK K))) | (refine gLex_undef rfl rfl rfl (by kernel_rfl) (fun K hK => ?_); go_simp; refine hK _ ?_; clear hK K) | (refine gLex_ask rfl rfl rfl ?_; first | (apply gAsk_yes; kernel_rfl; intro K hK; (go_simp; (try (simp only [↓IntWalk.iteOmega]; try go_simp)); (try simp (disch := omega) only [IntWalk.i64_in]); (try simp (disch := omega) only [IntWalk.u64_in]); first | (refine hK _ ?_; clear hK K) | (apply Exists.intro; refine ⟨fun x => ?_, hK _ ?_⟩; (first | fail); clear hK K))) | ((first | apply gAsk_no1 | apply gAsk_no2); kernel_rfl; intro K hK; simp [go_sem]; refine hK _ ?_; clear hK K)))); refine gLex_endT (fun x => ?_))
  go_upto_region 3 with fail
  have hgB : Grows w (x.now.setCell ⟨bx + 1, s, none⟩ (.int .u64 1)) := (yA.grows.trans x.grows).set (p := ⟨bx + 1, s, none⟩) (by have := HBX.out; show w.heap.size ≤ bx + 1; omega) _
  have bB : Arr (x.now.setCell ⟨bx + 1, s, none⟩ (.int .u64 1)) bx 27 [.pointer (some ⟨b, 0, none⟩)] := (aB.grow x.grows).other (p := ⟨bx + 1, s, none⟩) (by show bx + 1 ≠ bx; omega) _
  have bN : Arr (x.now.setCell ⟨bx + 1, s, none⟩ (.int .u64 1)) (bx + 1 + 1) 31 [.slice (some ⟨bx + 1, 0, none⟩) N N] := (aN.grow x.grows).other (p := ⟨bx + 1, s, none⟩) (by show bx + 1 ≠ bx + 1 + 1; omega) _
  have dB := (d1A.grow x.grows).other (p := ⟨bx + 1, s, none⟩) (by show bx + 1 ≠ b; have := HBL.out; omega) (.int .u64 1)
  have bG : Arr (x.now.setCell ⟨bx + 1, s, none⟩ (.int .u64 1)) (bx + 1) 38 (wv (ct0 N s)) := by
    have e : wv (ct0 N s) = (wv (List.replicate N 0)).set s (.int .u64 1) := by unfold ct0 wv; rw [List.map_set]; rfl
    rw [e]
    exact (aG.grow x.grows).set s _
  have HZB := hide (show bx + 1 + 1 + 1 ≤ (x.now.setCell ⟨bx + 1, s, none⟩ (.int .u64 1)).heap.size from by rw [size_setCell]; have := HZA.out; have := x.size; omega)
  clear aB aN aG d1A m0 hgA HZA
  generalize x.now.setCell ⟨bx + 1, s, none⟩ (.int .u64 1) = WB at *
  clear x yA
  obtain ⟨yB, rfl⟩ := hgB.later
  go_upto_region 4 with fail
  generalize hWC : World.alloc _ _ = WC
  have hgC : Grows yB.now WC := by rw [← hWC]; exact (Grows.refl _).new _
  have cH : Arr WC yB.now.heap.size 145 [.func (.func 95) #[] #[.pointer (some ⟨bx + 1 + 1, 0, none⟩)]] := by rw [← hWC]; exact Arr.make _ _ _
  have cB := bB.grow hgC
  have cN := bN.grow hgC
  have cG := bG.grow hgC
  have dC := dB.grow hgC
  have hlH := cH.lt
  generalize hbh : yB.now.heap.size = bh at *
  have HBH := hide (show bx + 1 + 1 + 1 ≤ bh from HZB.out)
  have hgC2 := yB.grows.trans hgC
  clear hWC hbh bB bN bG dB hgC HZB hgB
  obtain ⟨yC, rfl⟩ := hgC2.later
  have HLH := hide hlH
  clear hlH hgC2
  have H0 : Hid (CtO N E p vs s (bx + 1) w yC.now [] 0 yC.now) := hide ⟨Nat.zero_le _, ⟨yC, rfl⟩, by simpa [ctL] using cG, Touch.refl _ _, Marks.nil _, fun D hD => by cases hD⟩
  go_wp2_with fail
  refine wp_loop_m (fun m a' wr => ∃ u5 u6 u7 u8 u28 u29 u30 u31 u32 u33 u34 u35 u36 u37 u38 u39 u40 u41 u42 u43 u44 u45 u46 u47 Ds, ∃ k : Nat, a' = { tmps := #[.pointer (some ⟨b, 0, none⟩), .pointer (some ⟨bx, 0, none⟩), .slice none 0 0, .pointer (some ⟨bx + 1 + 1, 0, none⟩), .pointer (some ⟨bh, 0, none⟩), u5, u6, u7, u8, .pointer (some ⟨b, 0, none⟩), .pointer (some ⟨b, 0, none⟩), .pointer (some ⟨b, 3, none⟩), .slice A1 N c1, .int .i64 (N : Int), .slice (some ⟨bx + 1, 0, none⟩) N N, .slice (some ⟨bx + 1, 0, none⟩) N N, .pointer (some ⟨b, 0, none⟩), .pointer (some ⟨b, 0, none⟩), .pointer (some ⟨b, 1, none⟩), .int .i64 (s : Int), .pointer (some ⟨bx + 1, s, none⟩), .func (.func 95) #[] #[.pointer (some ⟨bx + 1 + 1, 0, none⟩)], .pointer (some ⟨b, 0, none⟩), .pointer (some ⟨b, 0, none⟩), .pointer (some ⟨b, 5, none⟩), .slice A3 vs.length c3, .int .i64 (vs.length : Int), .int .i64 (k : Int), u28, u29, u30, u31, u32, u33, u34, u35, u36, u37, u38, u39, u40, u41, u42, u43, u44, u45, u46, u47], defers := marks Ds } ∧ m = vs.length - k ∧ CtO N E p vs s (bx + 1) w yC.now Ds k wr) ?_ ?_
  · exact ⟨vs.length - 0, by
      (repeat apply Exists.intro)
      exact ⟨rfl, rfl, H0.out⟩⟩
  · rintro m a' wr ⟨u5, u6, u7, u8, u28, u29, u30, u31, u32, u33, u34, u35, u36, u37, u38, u39, u40, u41, u42, u43, u44, u45, u46, u47, Ds, k, rfl, rfl, hk, ⟨y, rfl⟩, hG, hT3, hM, hDl⟩
    clear H0
    have eB := cB.touch hT3 (by omega)
    have eN := cN.touch hT3 (by omega)
    have eH := cH.touch hT3 (by have := HBH.out; omega)
    have eD := dC.touch hT3 (by have := HBL.out; omega)
    have HG := hide hG
    have HT3 := hide hT3
    have HM := hide hM
    have HDL := hide hDl
    have hkb : k ≤ 1000000 := Nat.le_trans hk hvl
    clear hG hT3 hM hDl cG
    by_cases hlt : k < vs.length
    · obtain ⟨gO, oO, rfl, hcO⟩ := (HD5.out.grows y.grows).intsH (by omega)
      have k1 := hcO k hlt
      have ek : gi (vs.map (fun v : Nat => (v : Int))) k = (gn vs k : Int) := by simp [gi, gn, hlt]
      rw [ek] at k1
      have hvN := HV.out k hlt
      have hnx : Hid (ctL N E p (vs.take (k + 1)) (ct0 N s) = ctR E p (gn vs k) (rowN (nN E false) E.length (gn vs k)) (ctL N E p (vs.take k) (ct0 N s))) := hide (by
        have e : vs.take (k + 1) = vs.take k ++ [gn vs k] := by
          rw [List.take_succ_eq_append_getElem hlt]
          simp [gn, hlt]
        rw [e, ctL_snoc])
      have hok : Hid (CtOk N (ctL N E p (vs.take k) (ct0 N s))) := hide (CtOk.zero N s).all
      clear hcO ek
      generalize gn vs k = v at *
      generalize ctL N E p (vs.take k) (ct0 N s) = n0 at *
      go_upto_region 7 with fail
      have hg6 : Grows y.now (y.now.alloc (.cells #[.int .i64 (v : Int)] 3)) := (Grows.refl _).new _
      have f6 : Arr (y.now.alloc (.cells #[.int .i64 (v : Int)] 3)) y.now.heap.size 3 [.int .i64 (v : Int)] := Arr.make _ _ _
      have fB := eB.grow hg6
      have fN := eN.grow hg6
      have fH := eH.grow hg6
      have fD := eD.grow hg6
      have HG6 := hide (HG.out.grow hg6)
      have HT6 := hide (HT3.out.grows hg6)
      have HM6 := hide (HM.out.touch (S := fun _ => False) (hg6.touch _) (fun _ _ => id))
      have hgw6 := y.grows.trans hg6
      have HZ6 := hide (show yC.now.heap.size ≤ y.now.heap.size from HT3.out.size)
      generalize y.now.alloc (.cells #[.int .i64 (v : Int)] 3) = W6 at *
      generalize y.now.heap.size = b6 at *
      have HB6 := hide (show b6 < W6.heap.size from f6.lt)
      clear eB eN eH eD HG HT3 HM hg6 k1 y
      obtain ⟨y6, rfl⟩ := hgw6.later
      clear hgw6
      (refine wp_region_tail1 5 (by kernel_rfl) (by kernel_rfl) ?_; simp only [List.take_succ_cons, List.take_zero, List.drop_succ_cons, List.drop_zero]; (repeat' (first | (refine gLex_val0 rfl (by kernel_rfl) (fun K hK => ?_); (go_simp; (try (simp only [↓IntWalk.iteOmega]; try go_simp)); (try simp (disch := omega) only [IntWalk.i64_in]); (try simp (disch := omega) only [IntWalk.u64_in]); first | (refine hK _ ?_; clear hK K) | (apply Exists.intro; refine ⟨fun x => ?_, hK _ ?_⟩; (first | fail); clear hK K))) | (refine gLex_undef rfl rfl rfl (by kernel_rfl) (fun K hK => ?_); go_simp; refine hK _ ?_; clear hK K) | (refine gLex_ask rfl rfl rfl ?_; first | (apply gAsk_yes; kernel_rfl; intro K hK; (go_simp; (try (simp only [↓IntWalk.iteOmega]; try go_simp)); (try simp (disch := omega) only [IntWalk.i64_in]); (try simp (disch := omega) only [IntWalk.u64_in]); first | (refine hK _ ?_; clear hK K) | (apply Exists.intro; refine ⟨fun x => ?_, hK _ ?_⟩; (first | fail); clear hK K))) | ((first | apply gAsk_no1 | apply gAsk_no2); kernel_rfl; intro K hK; simp [go_sem]; refine hK _ ?_; clear hK K)))); refine gLex_endT (fun x => ?_))
      go_wp2_with (go_at_call 96; refine (adjEach ba v false _).mono ?_; rintro e w' ⟨b4, rfl, hb4, i1, i2, i3, hg⟩; obtain ⟨x4, rfl⟩ := hg.later)
      have hgx := x.grows.trans x4.grows
      have HA4 := hide (HA.out.grows (y6.grows.trans hgx))
      have HG4 := hide (HG6.out.grow hgx)
      have HT4 := hide (HT6.out.grows hgx)
      have HM4 := hide (HM6.out.touch (S := fun _ => False) (hgx.touch _) (fun _ _ => id))
      have g6 := f6.grow hgx
      have gB := fB.grow hgx
      have gN := fN.grow hgx
      have gH := fH.grow hgx
      have gD := fD.grow hgx
      have hgw4 := y6.grows.trans hgx
      have l3 := i3.lt
      have HB4 := hide (show b6 < b4 from by rw [← hb4]; exact Nat.lt_of_lt_of_le HB6.out x.size)
      clear f6 fB fN fH fD HG6 HT6 HM6 HB6 hb4 hg hgx
      generalize x4.now = W4 at *
      clear x4 x y6
      obtain ⟨y4, rfl⟩ := hgw4.later
      have HGB := hide (show w.heap.size ≤ bx + 1 ∧ bx + 1 < b6 from by have := HBX.out; have := HBH.out; have := HLH.out; have := HZ6.out; omega)
      have HL3 := hide l3
      have HW4 := hide y4.size
      clear l3
      refine (wpIn_wide (n := 0)).1 ?_
      refine wp_frame16 fun fr hfr => ?_
      have hIy := CtJ.yields (E := E) (p := p) (v := v) (n0 := n0) (g := bx + 1) (w := w) (W3 := y4.now) HW4.out
      have h0 : CtJ E p v n0 (bx + 1) w y4.now [] (fun _ => False) y4.now := ⟨⟨y4, rfl⟩, HG4.out, Touch.refl _ _, fun _ hk => hk.elim, HG4.out.lt⟩
      refine wp_rangeG (w0 := y4.now) (gf := 131) (by rw [hfr]; rfl) (enters_of Tryz.func131 (by kernel_rfl) rfl)
        (each_gives (fun k => k < w.heap.size) (fun k => k < w.heap.size ∨ (b4 ≤ k ∧ k ≤ b4 + 1 + 1)) (fun _ => False) ba N E v false b4 y4.now HA4.out (fun k hk => .inl (.inl hk)) HE.out hvN (by omega) (by omega) (fun k hk => hk.elim) (.inl (.inr ⟨by omega, by omega⟩)) (.inl (.inr ⟨by omega, by omega⟩)) (.inl (.inr ⟨by omega, by omega⟩)) i1 i2 i3)
        (Keeps.refl _ _ _) (fun k hk => by have := HL3.out; have := HW4.out; rcases hk with hk | hk <;> omega) (fun k hk => hk.elim) (fun _ => rfl)
        (CtJ E p v n0 (bx + 1) w y4.now) (fun _ _ _ _ => False) hIy (fun c _ _ _ _ _ h _ _ => h.elim) h0
        (CtB E p v n0 (bx + 1) w y4.now fr) ?hIb ?assign ?body ?done ?stop
      case hIb => exact fun i a' => CtB.yields HW4.out fr i a'
      case assign =>
        intro l2 pre i rest Mi W hsp hI
        have HI := hide hI
        clear hI hIy h0
        rw [hfr]
        unfold encE eVal
        gi_wp2
        have hgA : Grows W (W.alloc (.cells #[.int .i64 (ge E i).f, .int .i64 (ge E i).t, .int .u64 (ge E i).w] 59)) := (Grows.refl _).new _
        obtain ⟨⟨y, rfl⟩, a1, a2, a3, a4⟩ := HI.out
        refine ⟨⟨y.now.heap.size, ?_, ⟨⟨⟨_, y.grows.trans hgA⟩, rfl⟩, a1.grow hgA, a2.grows hgA, fun k hk => ⟨(a3 k hk).1, Nat.lt_of_lt_of_le (a3 k hk).2 hgA.size⟩, a4⟩, Arr.make _ _ _, fun e => by have := (a3 _ e).2; omega, a2.size⟩, hgA.touch _⟩
        simp only [ctFr, eVal, List.setIfInBounds_toArray, List.set_cons_zero, List.set_cons_succ]
      case body =>
        rintro l2 pre i rest Mi a' W hsp hl2 hMl hrec ⟨b8, rfl, ⟨⟨y, rfl⟩, a1, a2, a3, a4⟩, e8, hm8, hl8⟩
        have hmem : i ∈ rowN (nN E false) E.length v := by rw [hsp]; simp
        have hiE : i < E.length ∧ nN E false i = v := by simpa [rowN] using hmem
        have HOK := hide (show CtOk N (ctR E p v pre n0) from hok.out.row)
        have HSN := hide (ctR_snoc E p v pre i n0)
        have HNE := hide (show ∀ k, k = bx + 1 → ¬ ((k < w.heap.size ∨ (b4 ≤ k ∧ k ≤ b4 + 1 + 1)) ∨ Mi k) from fun k hk e => by
          have h1 := HGB.out
          have h2 := HB4.out
          rcases e with (e | e) | e
          · omega
          · omega
          · have := (a3 _ e).1; omega)
        obtain ⟨R, hR⟩ : ∃ R : World → Prop, R = fun w1 => Keeps (fun k => k < w.heap.size ∨ (b4 ≤ k ∧ k ≤ b4 + 1 + 1)) Mi y.now w1 ∧ CtJ E p v n0 (bx + 1) w y4.now (pre ++ [i]) Mi w1 := ⟨_, rfl⟩
        refine wpIn_mono (Q := fun e _ w1 => e = .normal ∧ R w1) ?_ (fun e a2 w2 h => by
          obtain ⟨rfl, h⟩ := h
          rw [hR] at h
          exact h)
        have h6 := g6.touch a2 (by have := HGB.out; omega)
        have hB := gB.touch a2 (by omega)
        have hN' := gN.touch a2 (by omega)
        have hH := gH.touch a2 (by have := HBH.out; omega)
        have hD := gD.touch a2 (by have := HBL.out; omega)
        have HGR := hide (fun (w1 : World) (hg : Grows y.now w1) (hp : p i = false) => show R w1 from by
          rw [hR]
          refine ⟨hg.touch _, ⟨⟨_, y.grows.trans hg⟩, rfl⟩, ?_, a2.grows hg, fun k hk => ⟨(a3 k hk).1, Nat.lt_of_lt_of_le (a3 k hk).2 hg.size⟩, a4⟩
          rw [HSN.out, if_neg (by rw [hp]; exact Bool.false_ne_true)]
          exact a1.grow hg)
        have HPT := hide (fun (w1 w2 : World) (hg : Grows y.now w1) (hp : p i = true) (ha : Arr w2 (bx + 1) 38 (wv (hdL E v (ctR E p v pre n0) i))) (ht : Touch (fun k => k = bx + 1) w1 w2) => show R w2 from by
          rw [hR]
          have htt : Touch (fun k => k = bx + 1) y.now w2 := (hg.touch (fun k => k = bx + 1)).trans ht
          refine ⟨htt.keeps (fun k hk => HNE.out k hk), ⟨⟨_, htt.later y.grows (fun k hk => by rw [hk]; exact HGB.out.1)⟩, rfl⟩, ?_, a2.trans2 htt (fun k hk => .inl hk), fun k hk => ⟨(a3 k hk).1, Nat.lt_of_lt_of_le (a3 k hk).2 htt.size⟩, a4⟩
          rw [HSN.out, if_pos hp]
          exact ha)
        have COi := hide (CO.out i hiE.1)
        have HEi := hide (HET.out i hiE.1)
        have HA1 := hide a1
        clear hmem hsp hl2 hMl hrec a1 a2 a3 a4 hIy h0 hm8 hl8 g6 gB gN gH gD i1 i2 i3 HA4 HG4 HT4 HM4 HSN HNE hnx hR
        simp only [ctFr, hfr, List.setIfInBounds_toArray, List.set_cons_zero, List.set_cons_succ]
        have CC := hide (fun (w1 : World) (hg : Grows y.now w1) => dagCounts1 (bx + 1 + 1) (bx + 1) N v i E (ctR E p v pre n0) w1 (hN'.grow hg) (HA1.out.grow hg) HOK.out hvN HEi.out)
        unfold eVal at COi CC
        clear HEi hN' HA1 HOK
        generalize (ge E i).f = ef at *
        generalize (ge E i).t = et at *
        generalize (ge E i).w = ew at *
        cases hd : p i with
        | false =>
          rw [hd] at COi
          have HX := hide (fun (w1 : World) (hg : Grows y.now w1) => HGR.out w1 hg hd)
          clear hd HGR HPT
          gi_wp2_with (gi_at_call 40; refine (calls_in (wideF_round l2) (COi.out _ y.grows)).mono ?_; rintro e w' ⟨rfl, hg⟩; obtain ⟨x1, rfl⟩ := hg.later; clear hg)
          exact HX.out _ x1.grows
        | true =>
          rw [hd] at COi
          have HX := hide (fun (w1 w2 : World) (hg : Grows y.now w1) => HPT.out w1 w2 hg hd)
          clear hd HGR HPT
          gi_wp2_with (first
            | (gi_at_call 40; refine (calls_in (wideF_round l2) (COi.out _ y.grows)).mono ?_; rintro e w' ⟨rfl, hg⟩; obtain ⟨x1, rfl⟩ := hg.later; clear hg)
            | (gi_at_call 95; refine (calls_in (wideF_round l2) (CC.out _ x1.grows)).mono ?_; rintro e w' ⟨rfl, ha, htt⟩; have HN2 := hide ha; have HT2 := hide htt; clear ha htt))
          exact HX.out _ _ x1.grows HN2.out HT2.out
      case done =>
        intro Dd Mi W hlD hMD hI hDW
        obtain ⟨⟨y, rfl⟩, a1, a2, a3, a4⟩ := hI
        have hz5 := a2.size
        have hDw : Dd ∉ Ds := fun e => by
          have := (Array.getElem?_eq_some_iff.1 (HM4.out.2 Dd e)).1
          omega
        have hMW : Marks Ds y.now := HM4.out.touch a2 fun D' hD' e => by
          have h1 := HM4.out.2 D' hD'
          have h2 := HG4.out.is
          rw [e, h2] at h1
          cases h1
        have HM9 := hide (hMW.cons hDW hDw)
        have HA9 := hide a1
        have HT9 := hide (HT4.out.trans a2)
        have HD9 := hide (show ∀ D' ∈ Dd :: Ds, yC.now.heap.size ≤ D' from fun D' hD' => by
          rcases List.mem_cons.1 hD' with rfl | h
          · have := HT4.out.size; omega
          · exact HDL.out D' h)
        clear a1 a2 a3 a4 hDW hMW hDw hIy h0 g6 gB gN gH gD i1 i2 i3 HA4 HG4 HT4 HM4
        rw [hfr]
        gi_wp2
        go_wp2_with fail
        refine ⟨vs.length - (k + 1), by omega, ?_⟩
        have hkk : (k : Int) + 1 = ((k + 1 : Nat) : Int) := by omega
        rw [hkk]
        have HX : CtO N E p vs s (bx + 1) w yC.now (Dd :: Ds) (k + 1) y.now := ⟨hlt, ⟨y, rfl⟩, by rw [hnx.out]; exact HA9.out, HT9.out, HM9.out, HD9.out⟩
        (repeat apply Exists.intro)
        exact ⟨rfl, rfl, HX⟩
      case stop => exact fun _ _ _ _ _ _ _ _ _ _ h => h.elim
    · obtain rfl : k = vs.length := by omega
      rw [List.take_length] at HG
      go_wp2_with fail
      have hyg := HT3.out.later (yC.grows) (fun k hk => by rw [hk]; have := HBX.out; omega)
      refine marks_end Ds rfl HM.out (fun W' htt => ⟨.slice (some ⟨bx + 1, 0, none⟩) N N, by simp (maxDischargeDepth := 6) [results, Tryz.results58, go_sem], bx + 1, rfl, HG.out.touch htt (fun e => ?_), htt.later hyg (fun k hk => ?_)⟩)
      · have := HDL.out _ e
        have := HLH.out
        have := HBH.out
        omega
      · have := HDL.out k hk
        have := yC.size
        omega
end Go.Proofs.YtomednfddpggaaaGreat

/- Contracts: slices.ContainsFunc and DeleteFunc of numbers, by a function that is known at the row's members. -/
namespace Go.Proofs.YtomednfddpggaaaGreat
open Go Go.RowKit
set_option maxRecDepth 20000 in
set_option maxHeartbeats 1000000 in
theorem indexIM (A : Option Addr) (n c : Nat) (E : List Int) (k : FuncId) (cap : Array Value) (p : Int → Bool) (w : World) (h : Rd w A 1 n (E.map (.int .i64))) (hn : n ≤ 1000000) (hk : ∀ args W, (callFunc k args).run Tryz.prog W = .ok (.enter k args) W)
    (hf : ∀ W, Grows w W → ∀ e, e ∈ E → Calls Tryz.prog k (#[.int .i64 e] ++ cap) W fun x w' => x = .returned (.bool (p e)) ∧ Grows W w') :
    Calls Tryz.prog 77 #[.slice A n c, .func (.func k) #[] cap] w fun e w' => e = .returned (.int .i64 (firstI p E)) ∧ Grows w w' := by
  have HL := hide (show E.length = n by simpa using h.len)
  have HR := hide h
  have HF := hide hf
  clear h hf
  go_enter Tryz.func77, Tryz.ntmps77
  go_wp2
  go_loopw [8] (fun i wr => ∃ k : Nat, k ≤ n ∧ i = .int .i64 (k : Int) ∧ (∃ x : Later w, wr = x.now) ∧ ∀ j, j < k → p (gi E j) = false) (fun i _ => n - (intOf i).toNat)
  case atStart => exact ⟨0, by omega, by go_num, ⟨⟨w, Grows.refl w⟩, rfl⟩, fun j h1 => by omega⟩
  case round =>
    obtain ⟨q, hq, rfl, ⟨x, rfl⟩, hall⟩ := hrel
    have HA := hide hall
    clear hall
    by_cases hend : n ≤ q
    · go_wp2
      go_ret
      refine ⟨ret_int ?_, GG⟩
      have hl := HL.out
      have hh := HA.out
      rw [firstI_none]
      intro e he
      obtain ⟨j, hj, rfl⟩ := mem_gi he
      exact hh j (by omega)
    · obtain ⟨b, off, rfl, hc⟩ := HR.out.ints (by omega)
      have hc1 := hc q (by omega)
      have HM := hide (gi_mem (l := E) (j := q) (by have := HL.out; omega))
      clear hc
      go_wp2_with fail
      refine (HF.out _ GG (gi E q) HM.out).mono ?_; rintro e w' ⟨rfl, hg⟩; obtain ⟨x1, rfl⟩ := Grows.later2 hg; clear hg
      cases hp : p (gi E q) with
      | true =>
        have HW : Hid (firstI p E = q) := firstI_at p 0 E q (by have := HL.out; omega) HA.out hp
        clear hp
        go_wp2
        go_ret
        exact ⟨ret_int HW.out.symm, GG⟩
      | false =>
        have HP := hide hp
        clear hp
        go_wp2
        go_roundw
        case measure => simp [intOf]; omega
        case rel =>
          refine ⟨q + 1, by omega, by go_num, ⟨_, rfl⟩, fun j h1 => ?_⟩
          by_cases hj : j = q
          · rw [hj]; exact HP.out
          · exact HA.out j (by omega)
set_option maxHeartbeats 1000000 in
theorem containsIM (A : Option Addr) (n c : Nat) (E : List Int) (k : FuncId) (cap : Array Value) (p : Int → Bool) (w : World) (h : Rd w A 1 n (E.map (.int .i64))) (hn : n ≤ 1000000) (hk : ∀ args W, (callFunc k args).run Tryz.prog W = .ok (.enter k args) W)
    (hf : ∀ W, Grows w W → ∀ e, e ∈ E → Calls Tryz.prog k (#[.int .i64 e] ++ cap) W fun x w' => x = .returned (.bool (p e)) ∧ Grows W w') :
    Calls Tryz.prog 45 #[.slice A n c, .func (.func k) #[] cap] w fun e w' => e = .returned (.bool (E.any p)) ∧ Grows w w' := by
  have HC := hide (indexIM A n c E k cap p w h hn hk hf)
  have HV := hide (firstI_any p E)
  clear h hf hk
  go_enter Tryz.func45, Tryz.ntmps45
  go_wp2_with (first | (go_at_call 77; refine (HC.out).mono ?_; rintro e w' ⟨rfl, hg⟩; (first | obtain ⟨x, rfl⟩ := Grows.later2 hg | obtain ⟨x, rfl⟩ := Grows.later hg); clear hg))
  all_goals go_ret
  all_goals exact ⟨ret_bool (by rw [← HV.out]), GG⟩
structure KpI (p : Int → Bool) (E L : List Int) (i j : Nat) : Prop where
  len : L.length = E.length
  lt : i < j
  le : j ≤ E.length
  num : ((E.take j).filter fun x => !p x).length = i
  low : L.take i = (E.take j).filter fun x => !p x
  high : ∀ q, j ≤ q → L[q]? = E[q]?
theorem take_gi {E : List Int} {j : Nat} (h : j < E.length) : E.take (j + 1) = E.take j ++ [gi E j] := by
  rw [List.take_succ_eq_append_getElem h]
  simp [gi, h]
theorem KpI.skip {p : Int → Bool} {E L : List Int} {i j : Nat} (h : KpI p E L i j) (hj : j < E.length) (hp : p (gi E j) = true) : KpI p E L i (j + 1) := by
  have e : (E.take (j + 1)).filter (fun x => !p x) = (E.take j).filter fun x => !p x := by rw [take_gi hj]; simp [hp]
  exact ⟨h.len, by have := h.lt; omega, hj, by rw [e]; exact h.num, by rw [e]; exact h.low, fun q hq => h.high q (by omega)⟩
theorem KpI.keep {p : Int → Bool} {E L : List Int} {i j : Nat} (h : KpI p E L i j) (hj : j < E.length) (hp : p (gi E j) = false) : KpI p E (L.set i (gi E j)) (i + 1) (j + 1) := by
  have e : (E.take (j + 1)).filter (fun x => !p x) = ((E.take j).filter fun x => !p x) ++ [gi E j] := by rw [take_gi hj]; simp [hp]
  have hl := h.len
  have hi : i < L.length := by have := h.lt; omega
  refine ⟨by simp [hl], by have := h.lt; omega, hj, by rw [e, List.length_append, h.num]; rfl, ?_, fun q hq => ?_⟩
  · rw [e, ← h.low]
    apply List.ext_getElem?
    intro q
    rw [List.getElem?_take, List.getElem?_set]
    rcases Nat.lt_trichotomy q i with h1 | h1 | h1
    · rw [if_pos (by omega), if_neg (by omega), List.getElem?_append_left (by rw [List.length_take]; omega), List.getElem?_take, if_pos h1]
    · subst h1
      rw [if_pos (by omega), if_pos rfl, if_pos hi, List.getElem?_append_right (by rw [List.length_take]; omega), List.length_take, Nat.min_eq_left (by omega), Nat.sub_self]
      rfl
    · rw [if_neg (by omega), List.getElem?_eq_none (by rw [List.length_append, List.length_take]; simp; omega)]
  · rw [List.getElem?_set, if_neg (by have := h.lt; omega)]
    exact h.high q (by omega)
theorem KpI.start {p : Int → Bool} {E : List Int} {k : Nat} (hk : k < E.length) (hp : p (gi E k) = true) (ha : ∀ j, j < k → p (gi E j) = false) : KpI p E E k (k + 1) := by
  have e0 : (E.take k).filter (fun x => !p x) = E.take k := by
    refine List.filter_eq_self.2 fun x hx => ?_
    obtain ⟨j, hj, rfl⟩ := List.mem_iff_getElem.1 hx
    rw [List.length_take] at hj
    have := ha j (by omega)
    rw [show gi E j = E[j]'(by omega) by simp [gi, show j < E.length by omega]] at this
    simp [this]
  have e : (E.take (k + 1)).filter (fun x => !p x) = E.take k := by rw [take_gi hk]; simp [hp, e0]
  exact ⟨rfl, by omega, hk, by rw [e, List.length_take]; omega, e.symm, fun _ _ => rfl⟩
theorem first_or (p : Int → Bool) (E : List Int) : ∀ n, n ≤ E.length → (∀ j, j < n → p (gi E j) = false) ∨ ∃ k, k < n ∧ p (gi E k) = true ∧ ∀ j, j < k → p (gi E j) = false
  | 0, _ => .inl fun j hj => by omega
  | n + 1, hn => by
    rcases first_or p E n (by omega) with h | ⟨k, h1, h2, h3⟩
    · cases hp : p (gi E n) with
      | true => exact .inr ⟨n, by omega, hp, h⟩
      | false =>
        refine .inl fun j hj => ?_
        by_cases e : j = n
        · rw [e]; exact hp
        · exact h j (by omega)
    · exact .inr ⟨k, by omega, h2, h3⟩
theorem growsCells {w0 : World} (b : Nat) (hb : w0.heap.size ≤ b) : ∀ (vs : List Value) (o : Nat) (w : World), Grows w0 w → Grows w0 (w.setCells b o vs)
  | [], _, _, h => h
  | v :: r, o, w, h => by
    unfold World.setCells
    exact growsCells b hb r (o + 1) _ (h.set hb v)
theorem Own.puts {B n c g : Nat} {e : TypeId} (hn : 0 < n) : ∀ (vs : List Value) (o : Nat) (w : World) (xs : List Value), Own w B e 1 (some ⟨g, 0, none⟩) n c xs → ∃ xs', Own (w.setCells g o vs) B e 1 (some ⟨g, 0, none⟩) n c xs' ∧ ∀ q, q < o → xs'[q]? = xs[q]?
  | [], _, _, xs, h => ⟨xs, h, fun _ _ => rfl⟩
  | v :: r, o, w, xs, h => by
    obtain ⟨xs', h1, h2⟩ := Own.puts hn r (o + 1) (w.setCell ⟨g, o, none⟩ v) (xs.set o v) (h.set rfl hn o v)
    unfold World.setCells
    refine ⟨xs', h1, fun q hq => ?_⟩
    rw [h2 q (by omega), List.getElem?_set, if_neg (by omega)]
set_option maxRecDepth 20000 in
set_option maxHeartbeats 4000000 in
theorem deleteFuncI (w0 w : World) (A : Option Addr) (c : Nat) (E : List Int) (k : FuncId) (cap : Array Value) (p : Int → Bool) (ho : Own w w0.heap.size 3 1 A E.length c (E.map (.int .i64))) (hg : Grows w0 w) (hn : E.length ≤ 1000000) (hk : ∀ args W, (callFunc k args).run Tryz.prog W = .ok (.enter k args) W)
    (hf : ∀ W, Grows w0 W → ∀ e, e ∈ E → Calls Tryz.prog k (#[.int .i64 e] ++ cap) W fun x w' => x = .returned (.bool (p e)) ∧ Grows W w') :
    Calls Tryz.prog 41 #[.slice A E.length c, .func (.func k) #[] cap] w fun e w' => ∃ y : Later w0, w' = y.now ∧ e = .returned (.slice A (E.filter fun x => !p x).length c) ∧ Own y.now w0.heap.size 3 1 A (E.filter fun x => !p x).length c ((E.filter fun x => !p x).map (.int .i64)) := by
  have CI := hide (indexIM A E.length c E k cap p w ho.rd hn hk (fun W g e he => hf W (hg.trans g) e he))
  rcases first_or p E E.length (Nat.le_refl _) with hall | ⟨k0, hk0, hp0, ha0⟩
  · have hmem : ∀ e ∈ E, p e = false := fun e he => by
      obtain ⟨j, hj, rfl⟩ := mem_gi he
      exact hall j hj
    have e1 : E.filter (fun x => !p x) = E := List.filter_eq_self.2 fun x hx => by simp [hmem x hx]
    rw [firstI_none p E hmem] at CI
    rw [e1]
    have HO := hide ho
    clear ho hf hk hall hmem e1
    go_enter Tryz.func41, Tryz.ntmps41
    go_wp2_with (go_at_call 77; refine (CI.out).mono ?_; rintro e w' ⟨rfl, hg2⟩; obtain ⟨x0, rfl⟩ := hg2.later; clear hg2)
    go_ret
    exact ⟨⟨_, hg.trans x0.grows⟩, rfl, rfl, HO.out.grows x0.grows⟩
  · rw [firstI_at p 0 E k0 hk0 ha0 hp0] at CI
    have HK0 := hide (KpI.start hk0 hp0 ha0)
    have HO := hide ho
    have HF := hide hf
    obtain ⟨g, hA, hB, _⟩ := ho.at (by omega)
    subst hA
    obtain ⟨m, hm⟩ : ∃ m, m = E.length := ⟨_, rfl⟩
    clear ho hf hp0 ha0
    have hne1 : ((k0 : Int) == -1) = false := beq_eq_false_iff_ne.2 (by omega)
    have hcap := hide (show E.length ≤ c from by obtain ⟨_, _, _, _, _, hc, _⟩ := HO.out.at_ (by omega); exact hc)
    rw [← hm] at hk0 hn
    have HM := hide hm
    simp only [← hm] at HO hcap CI ⊢
    clear hm
    go_enter Tryz.func41, Tryz.ntmps41
    go_wp2_with (go_at_call 77; refine (CI.out).mono ?_; rintro e w' ⟨rfl, hg2⟩; obtain ⟨x0, rfl⟩ := hg2.later; clear hg2)
    have hg0 : Grows w0 x0.now := hg.trans x0.grows
    have HO0 := hide (HO.out.grows x0.grows)
    go_loopw [5, 6] (fun s5 s6 wr => ∃ i j : Nat, s5 = .int .i64 (i : Int) ∧ s6 = .int .i64 (j : Int) ∧ ∃ y : Later w0, wr = y.now ∧ ∃ L, Hid (KpI p E L i j) ∧ Own y.now w0.heap.size 3 1 (some ⟨g, 0, none⟩) m c (L.map (.int .i64))) (fun _ s6 _ => m - (Go.RowKit.intOf s6).toNat)
    case atStart => exact ⟨k0, k0 + 1, rfl, by go_num, ⟨_, hg0⟩, rfl, E, HK0, HO0.out⟩
    case round =>
      obtain ⟨i, j, rfl, rfl, y, rfl, L, HKP, hown⟩ := hrel
      have HO2 := hide hown
      clear hown
      have hij := HKP.out.lt
      have hjm : j ≤ m := by have := HKP.out.le; have := HM.out; omega
      have hLm : L.length = m := by have := HKP.out.len; have := HM.out; omega
      have hcc := hcap.out
      by_cases hlt : j < m
      · obtain ⟨_, h1, _, hc⟩ := HO2.out.at (by omega)
        injection h1 with h1
        injection h1 with h1
        subst h1
        have eL : L[j]? = some (gi E j) := by rw [HKP.out.high j (Nat.le_refl _)]; have := HM.out; simp [gi, show j < E.length by omega]
        have cj := hc j (.int .i64 (gi E j)) (by rw [List.getElem?_map, eL]; rfl)
        obtain ⟨old, hold⟩ : ∃ v, (L.map (Value.int .i64))[i]? = some v := ⟨_, List.getElem?_eq_getElem (by simp; omega)⟩
        have ci := hc i old hold
        have HC := hide (fun (W : World) (g : Grows y.now W) => HF.out W (y.grows.trans g) (gi E j) (gi_mem (by have := HM.out; omega)))
        clear hc eL hold
        cases hq : p (gi E j) with
        | false =>
          have HKK := hide (HKP.out.keep (by have := HM.out; omega) hq)
          rw [hq] at HC
          clear hq
          generalize gi E j = u at *
          go_wp2_with (refine (HC.out _ GG).mono ?_; rintro e w' ⟨rfl, hg2⟩; obtain ⟨x1, rfl⟩ := hg2.later; clear hg2)
          obtain ⟨y2, hy2, ho2⟩ := Own.put (j := i) (HO2.out.grows x1.grows) (y.grows.trans x1.grows) (by omega) (.int .i64 u)
          go_roundw
          case measure => simp [Go.RowKit.intOf]; omega
          case rel => exact ⟨i + 1, j + 1, by go_num, by go_num, y2, hy2, _, HKK, by rw [List.map_set]; exact ho2⟩
        | true =>
          have HKK := hide (HKP.out.skip (by have := HM.out; omega) hq)
          rw [hq] at HC
          clear hq
          generalize gi E j = u at *
          go_wp2_with (refine (HC.out _ GG).mono ?_; rintro e w' ⟨rfl, hg2⟩; obtain ⟨x1, rfl⟩ := hg2.later; clear hg2)
          go_roundw
          case measure => simp [Go.RowKit.intOf]; omega
          case rel => exact ⟨i, j + 1, by go_num, by go_num, ⟨_, y.grows.trans x1.grows⟩, rfl, L, HKK, HO2.out.grows x1.grows⟩
      · obtain rfl : j = m := by omega
        have HFL := hide (show L.take i = E.filter (fun x => !p x) from by have := HKP.out.low; rw [HM.out, List.take_length] at this; exact this)
        have HFN := hide (show (E.filter (fun x => !p x)).length = i from by have := HKP.out.num; rw [HM.out, List.take_length] at this; exact this)
        have hv : ∀ w, (zeroValue 3).run Tryz.prog w = .ok (.int .i64 0) w := fun w => by kernel_rfl
        obtain ⟨_, h1, _, hc⟩ := HO2.out.at (by omega)
        injection h1 with h1
        injection h1 with h1
        subst h1
        have hcl : ∀ ty, (Builtin.clear_ #[36] ty #[.slice (some ⟨g, i, none⟩) (j - i) (c - i)]).run Tryz.prog y.now = .ok (.tuple #[]) (y.now.setCells g i (List.replicate (j - i) (.int .i64 0))) := fun ty =>
          Lib.run_clear_slice y.now _ _ ty (.int .i64 0) Tryz.underlying36 hv rfl rfl g i _ _ (by omega)
            (fun t ht => by rw [(hc (i + t) _ (List.getElem?_eq_getElem (by simp; omega))).cell]; rfl) (fun t ht => (hc (i + t) _ (List.getElem?_eq_getElem (by simp; omega))).free)
        obtain ⟨xs', ho3, hlow⟩ := Own.puts (by omega) (List.replicate (j - i) (.int .i64 0)) i _ _ HO2.out
        have HO3 := hide (show Own (y.now.setCells g i (List.replicate (j - i) (.int .i64 0))) w0.heap.size 3 1 (some ⟨g, 0, none⟩) i c ((L.take i).map (.int .i64)) from by
          have := ho3.cut (m := i) (by omega) (by omega)
          have e : xs'.take (i * 1) = (L.take i).map (.int .i64) := by
            apply List.ext_getElem?
            intro q
            rw [Nat.mul_one, List.getElem?_take, List.getElem?_map, List.getElem?_take]
            by_cases hqi : q < i
            · rw [if_pos hqi, if_pos hqi, hlow q hqi, List.getElem?_map]
            · rw [if_neg hqi, if_neg hqi]; rfl
          rwa [e] at this)
        have HG3 := hide (growsCells g hB (List.replicate (j - i) (.int .i64 0)) i _ y.grows)
        clear hc ho3 hlow hv
        go_wp2
        go_ret
        rw [HFL.out] at HO3
        rw [HFN.out]
        exact ⟨⟨_, HG3.out⟩, rfl, rfl, by rw [HFN.out] at *; exact HO3.out⟩
end Go.Proofs.YtomednfddpggaaaGreat

/- Plain law: an edge is on every shortest way, just when over its stretch no other edge of a shortest way goes. -/
namespace Go.Proofs.YtomednfddpggaaaGreat
open Go Go.RowKit
abbrev bkO : DOpt := ⟨true, [], [], [], 0⟩
theorem bk_ok {N s : Nat} {E : List Edg} (hr : rightF N E = 0) (hs : s < N) : WalkOk N s E bkO :=
  ⟨hr, hs, .inl rfl, by show 0 < _; omega, by show ([] : List Int).length ≤ _; simp, by show ([] : List Int).length ≤ _; simp⟩
theorem short_is {N s : Nat} {E : List Edg} {o : DOpt} (hok : WalkOk N s E o) (hW : o.W = []) (hn : o.nn = []) (hm : o.most = 0) {v : Nat} (hv : v < N) :
    (gn (refL (srchOf N E o) s) v < farV ∧ Way (srchOf N E o) s v (gn (refL (srchOf N E o) s) v) ∧ ∀ g, Way (srchOf N E o) s v g → gn (refL (srchOf N E o) s) v ≤ g) ∨
    (gn (refL (srchOf N E o) s) v = farV ∧ ∀ g, ¬ Way (srchOf N E o) s v g) := by
  have hr := hok.right
  obtain ⟨r1, r2, r3, r4, r5⟩ := right_in hok.right
  rw [Int.toNat_natCast] at r4
  have hb : N * 17592186044416 < farV := by
    have : N * 17592186044416 ≤ 4096 * 17592186044416 := Nat.mul_le_mul_right _ (by omega)
    unfold farV; omega
  have hw : ∀ i, i < E.length → 1 ≤ gn (wtF N E o.W) i ∧ gn (wtF N E o.W) i ≤ 17592186044416 := fun i hi => by rw [hW]; exact noO_w hr (i := i) hi
  have hnn : ¬ (s : Int) ∈ o.nn := by rw [hn]; simp
  obtain ⟨xs, h1, h2, h3⟩ := walk_is hok hw (Nat.le_refl _) hnn
  have hs2 := hok.srch
  have hin : SrchIn (srchOf N E o) 17592186044416 := ⟨fun i hi => by
    have h1 := hs2.ends.f i hi
    have h2 := hs2.ends.t i hi
    unfold toE
    split
    · exact h1.1
    · exact h2.1, fun i hi => (hw i hi).1, fun i hi => (hw i hi).2⟩
  obtain ⟨ys, h4, h5⟩ := trace_whole (x := freeX (srchOf N E o)) (s := s) (mw := 17592186044416) ⟨hin.ends, hin.low, hin.high⟩ hs2.nodes hok.node (by omega)
  have e : refL (srchOf N E o) s = outL N xs := refL_is h2 h5 hin hb hok.node (decide_eq_false hnn) (fun i hi => by
    have h1 := hs2.ends.f i hi
    have h2 := hs2.ends.t i hi
    unfold nN
    split
    · exact h2.1
    · exact h1.1)
  rw [e]
  rcases outL_cases h2 hb (v := v) hv with ⟨a, b⟩ | ⟨a, b⟩
  · exact .inl ⟨b, (h2.way _ _ a).2.1, fun g hg => by
      obtain ⟨g', h6, h7⟩ := h2.all v g hg (fun h => absurd hm (by have : 0 < o.most := h; omega))
      have e2 := outL_at h2.nodup (N := N) hv h6
      rw [e2]; exact h7⟩
  · exact .inr ⟨a, fun g hg => by
      obtain ⟨g', h6, _⟩ := h2.all v g hg (fun h => absurd hm (by have : 0 < o.most := h; omega))
      exact b g' h6⟩
abbrev fX (N : Nat) (E : List Edg) : Srch := srchOf N E (noO [])
abbrev eX (N : Nat) (E : List Edg) (i : Nat) : Srch := srchOf N E (noO [(i : Int)])
theorem fX_step {N s i f : Nat} {E : List Edg} (h : Way (fX N E) s (fN E i) f) (hi : i < E.length) : Way (fX N E) s (tN E i) (f + gn (wtF N E []) i) := Way.step (x := fX N E) h hi (by simp [cntE, srchOf])
theorem eX_step {N s i j f : Nat} {E : List Edg} (h : Way (eX N E i) s (fN E j) f) (hj : j < E.length) (hne : j ≠ i) : Way (eX N E i) s (tN E j) (f + gn (wtF N E []) j) := Way.step (x := eX N E i) h hj (by simp [cntE, srchOf]; omega)
theorem eX_fX {N s i v f : Nat} {E : List Edg} (h : Way (eX N E i) s v f) : Way (fX N E) s v f := by
  induction h with
  | here => exact .here
  | @step f j h hj hc ih => exact fX_step ih hj
theorem fX_ind {N s : Nat} {E : List Edg} {C : Nat → Nat → Prop} (h0 : C s 0) (hs : ∀ j f, j < E.length → Way (fX N E) s (fN E j) f → C (fN E j) f → C (tN E j) (f + gn (wtF N E []) j)) {v f : Nat} (h : Way (fX N E) s v f) : C v f := by
  induction h with
  | here => exact h0
  | @step f j h hj hc ih => exact hs j f hj h ih
theorem eX_ind {N s i : Nat} {E : List Edg} {C : Nat → Nat → Prop} (h0 : C s 0) (hs : ∀ j f, j < E.length → j ≠ i → Way (eX N E i) s (fN E j) f → C (fN E j) f → C (tN E j) (f + gn (wtF N E []) j)) {v f : Nat} (h : Way (eX N E i) s v f) : C v f := by
  induction h with
  | here => exact h0
  | @step f j h hj hc ih => exact hs j f hj (fun e => by subst e; simp [cntE, srchOf] at hc) h ih
def dF (N : Nat) (E : List Edg) (a b : Nat) : Nat := gn (refL (fX N E) a) b
theorem dF_is {N a b : Nat} {E : List Edg} (hr : rightF N E = 0) (ha : a < N) (hb : b < N) : (dF N E a b < farV ∧ Way (fX N E) a b (dF N E a b) ∧ ∀ g, Way (fX N E) a b g → dF N E a b ≤ g) ∨ (dF N E a b = farV ∧ ∀ g, ¬ Way (fX N E) a b g) :=
  short_is (noO_ok hr ha (by simp)) rfl rfl rfl hb
theorem dF_le {N a b g : Nat} {E : List Edg} (hr : rightF N E = 0) (ha : a < N) (hb : b < N) (h : Way (fX N E) a b g) : dF N E a b ≤ g ∧ Way (fX N E) a b (dF N E a b) ∧ dF N E a b < farV := by
  rcases dF_is hr ha hb with ⟨h1, h2, h3⟩ | ⟨_, h2⟩
  · exact ⟨h3 g h, h2, h1⟩
  · exact absurd h (h2 g)
theorem dF_way {N a b : Nat} {E : List Edg} (hr : rightF N E = 0) (ha : a < N) (hb : b < N) (h : dF N E a b < farV) : Way (fX N E) a b (dF N E a b) := by
  rcases dF_is hr ha hb with ⟨_, h2, _⟩ | ⟨h1, _⟩
  · exact h2
  · omega
theorem dF_back {N a t : Nat} {E : List Edg} (hr : rightF N E = 0) (ha : a < N) (ht : t < N) : gn (refL (srchOf N E bkO) t) a = dF N E a t := by
  have e : turnX (fX N E) = srchOf N E bkO := rfl
  have e2 : turnX (srchOf N E bkO) = fX N E := rfl
  have go : ∀ {g}, Way (fX N E) a t g → Way (srchOf N E bkO) t a g := fun {g} h => by
    have := Way.turned (x := fX N E) (fun i _ => by simp [cntE, srchOf, turnX]) h
    rwa [e] at this
  have back : ∀ {g}, Way (srchOf N E bkO) t a g → Way (fX N E) a t g := fun {g} h => by
    have := Way.turned (x := srchOf N E bkO) (fun i _ => by simp [cntE, srchOf, turnX]) h
    rwa [e2] at this
  rcases dF_is hr ha ht with ⟨h1, h2, h3⟩ | ⟨h1, h2⟩ <;> rcases short_is (bk_ok hr ht) rfl rfl rfl (v := a) ha with ⟨k1, k2, k3⟩ | ⟨k1, k2⟩
  · have := k3 _ (go h2)
    have := h3 _ (back k2)
    omega
  · exact absurd (go h2) (k2 _)
  · exact absurd (back k2) (h2 _)
  · rw [h1, k1]
def OnE (N : Nat) (E : List Edg) (s t i : Nat) : Prop := dF N E s (fN E i) + gn (wtF N E []) i + dF N E (tN E i) t = dF N E s t
section
variable {N s t i : Nat} {E : List Edg}
theorem way_ahead (hr : rightF N E = 0) (hs : s < N) (hN : ∀ j, j < E.length → fN E j < N ∧ tN E j < N) {v f : Nat} (h : Way (fX N E) s v f) : f = dF N E s v → dF N E s v < dF N E s (tN E i) → Way (eX N E i) s v f := by
  refine fX_ind (C := fun v f => f = dF N E s v → dF N E s v < dF N E s (tN E i) → Way (eX N E i) s v f) (fun _ _ => .here) (fun j f hj hw ih h1 h2 => ?_) h
  obtain ⟨n1, n2⟩ := hN j hj
  obtain ⟨k1, k2, _⟩ := dF_le hr hs n1 hw
  obtain ⟨k3, _, _⟩ := dF_le hr hs n2 (fX_step k2 hj)
  have hw1 := (noO_w hr j hj).1
  have := ih (by omega) (by omega)
  refine eX_step this hj (fun e => ?_)
  subst e
  omega
theorem way_behind (hr : rightF N E = 0) (hs : s < N) (hN : ∀ j, j < E.length → fN E j < N ∧ tN E j < N) {c : Nat} (hc : c < N) (hd : dF N E s c < farV) (hlo : dF N E s (fN E i) < dF N E s c) {v f : Nat} (h : Way (fX N E) c v f) : dF N E s c + f = dF N E s v → Way (eX N E i) c v f := by
  have hsc := dF_way hr hs hc hd
  refine fX_ind (C := fun v f => dF N E s c + f = dF N E s v → Way (eX N E i) c v f) (fun _ => .here) (fun j f hj hw ih h1 => ?_) h
  obtain ⟨n1, n2⟩ := hN j hj
  obtain ⟨k1, k2, _⟩ := dF_le hr hs n1 (hsc.trans hw)
  obtain ⟨k3, _, _⟩ := dF_le hr hs n2 (fX_step k2 hj)
  have := ih (by omega)
  refine eX_step this hj (fun e => ?_)
  subst e
  omega
theorem way_over (hr : rightF N E = 0) (hs : s < N) (hN : ∀ j, j < E.length → fN E j < N ∧ tN E j < N) (lo : Nat) {v f : Nat} (h : Way (eX N E i) s v f) : f = dF N E s v → lo < dF N E s v →
    ∃ k g, k < E.length ∧ k ≠ i ∧ dF N E s (fN E k) ≤ lo ∧ lo < dF N E s (tN E k) ∧ dF N E s (fN E k) + gn (wtF N E []) k = dF N E s (tN E k) ∧ Way (fX N E) (tN E k) v g ∧ dF N E s (tN E k) + g = dF N E s v ∧ dF N E s (fN E k) < farV := by
  refine eX_ind (C := fun v f => f = dF N E s v → lo < dF N E s v → ∃ k g, k < E.length ∧ k ≠ i ∧ dF N E s (fN E k) ≤ lo ∧ lo < dF N E s (tN E k) ∧ dF N E s (fN E k) + gn (wtF N E []) k = dF N E s (tN E k) ∧ Way (fX N E) (tN E k) v g ∧ dF N E s (tN E k) + g = dF N E s v ∧ dF N E s (fN E k) < farV)
    (fun h1 h2 => by omega) (fun j f hj hne hw ih h1 h2 => ?_) h
  obtain ⟨n1, n2⟩ := hN j hj
  obtain ⟨k1, k2, k5⟩ := dF_le hr hs n1 (eX_fX hw)
  obtain ⟨k3, _, _⟩ := dF_le hr hs n2 (fX_step k2 hj)
  by_cases hl : lo < dF N E s (fN E j)
  · obtain ⟨k, g, m1, m2, m3, m4, m5, m6, m7, m8⟩ := ih (by omega) hl
    exact ⟨k, g + gn (wtF N E []) j, m1, m2, m3, m4, m5, fX_step m6 hj, by omega, m8⟩
  · exact ⟨j, 0, hj, hne, by omega, by omega, by omega, .here, by omega, k5⟩
theorem bridge_is (hr : rightF N E = 0) (hs : s < N) (ht : t < N) (hf : dF N E s t < farV) (hi : i < E.length) (ho : OnE N E s t i) :
    dF N E s t < gn (refL (eX N E i) s) t ↔ ¬ ∃ k, k < E.length ∧ OnE N E s t k ∧ k ≠ i ∧ dF N E s (fN E k) < dF N E s (tN E i) ∧ dF N E s (fN E i) < dF N E s (tN E k) := by
  obtain ⟨r1, r2, r3, r4, r5⟩ := right_in hr
  rw [Int.toNat_natCast] at r4
  have hN : ∀ j, j < E.length → fN E j < N ∧ tN E j < N := fun j hj => by
    have h1 := r4.f j hj
    have h2 := r4.t j hj
    unfold fN tN
    omega
  have hst := dF_way hr hs ht hf
  have tri : ∀ k, k < E.length → OnE N E s t k → dF N E s (fN E k) < farV ∧ dF N E (tN E k) t < farV ∧ dF N E s (tN E k) < farV ∧ dF N E s (fN E k) + gn (wtF N E []) k = dF N E s (tN E k) ∧ dF N E s (tN E k) + dF N E (tN E k) t = dF N E s t := fun k hk hon => by
    obtain ⟨n1, n2⟩ := hN k hk
    unfold OnE at hon
    have a1 : dF N E s (fN E k) < farV := by omega
    have a2 : dF N E (tN E k) t < farV := by omega
    obtain ⟨b1, b2, b3⟩ := dF_le hr hs n2 (fX_step (dF_way hr hs n1 a1) hk)
    obtain ⟨b4, _, _⟩ := dF_le hr hs ht (b2.trans (dF_way hr n2 ht a2))
    exact ⟨a1, a2, b3, by omega, by omega⟩
  obtain ⟨i1, i2, i3, i4, i5⟩ := tri i hi ho
  have hwi := (noO_w hr i hi).1
  have sh : (gn (refL (eX N E i) s) t < farV ∧ Way (eX N E i) s t (gn (refL (eX N E i) s) t) ∧ ∀ g, Way (eX N E i) s t g → gn (refL (eX N E i) s) t ≤ g) ∨ (gn (refL (eX N E i) s) t = farV ∧ ∀ g, ¬ Way (eX N E i) s t g) := short_is (noO_ok hr hs (ne := [(i : Int)]) (by simp)) rfl rfl rfl (v := t) ht
  constructor
  · rintro hlt ⟨k, hk, hon, hne, h1, h2⟩
    obtain ⟨n1, n2⟩ := hN k hk
    obtain ⟨t1, t2, t3, t4, t5⟩ := tri k hk hon
    have p1 := way_ahead (i := i) hr hs hN (dF_way hr hs n1 t1) rfl h1
    have p2 := way_behind (i := i) hr hs hN n2 t3 h2 (dF_way hr n2 ht t2) (by omega)
    have p3 := (eX_step p1 hk hne).trans p2
    rcases sh with ⟨_, _, q⟩ | ⟨_, q⟩
    · have := q _ p3
      omega
    · exact q _ p3
  · intro hno
    rcases sh with ⟨q1, q2, _⟩ | ⟨q, _⟩
    · refine Nat.lt_of_not_le fun hle => hno ?_
      have hle2 := (dF_le hr hs ht (eX_fX q2)).1
      obtain ⟨k, g, m1, m2, m3, m4, m5, m6, m7, m8⟩ := way_over hr hs hN (dF N E s (fN E i)) q2 (by omega) (by omega)
      obtain ⟨n1, n2⟩ := hN k m1
      obtain ⟨c1, c2, c3⟩ := dF_le hr n2 ht m6
      obtain ⟨c4, _, _⟩ := dF_le hr hs ht ((dF_way hr hs n2 (by omega)).trans c2)
      exact ⟨k, m1, by unfold OnE; omega, m2, by omega, m4⟩
    · rw [q]; exact hf
end
end Go.Proofs.YtomednfddpggaaaGreat
