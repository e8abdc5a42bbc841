/- Contract: which edges many need: a node and all that come of it: the walk. -/
import Derived.Test.YtomednfddpggaaaGreatQBridgeRows24
import Derived.Test.YtomednfddpggaaaGreatQBridgeRows25
import Derived.LoopN
/- Contract: which edges many need: a node and all that come of it: the walk. -/
namespace Go.Proofs.YtomednfddpggaaaGreat
open Go Go.RowKit
attribute [local go_sem] Oper.semAt_some
def BwGive (b : BwB) (s' : BwS) (A : Option Addr) (w : World) (e : Ending) (w' : World) : Prop :=
  e = .returned (.tuple #[]) ∧ ∃ A' c', BwAt w' b A' c' s' ∧ Touch (BwOwn b A) w w' ∧ ∀ k, BwOwn b A' k → BwOwn b A k ∨ w.heap.size ≤ k
def BwI (b : BwB) (E : List Edg) (n v : Nat) (by_ : Int) (back : Bool) (s0 : BwS) (A1 : Option Addr) (W3 : World) (p : List Nat) (M : Nat → Prop) (W : World) : Prop := ∃ A c, BwC b A1 W3 A c (brP E (br E n) v by_ back p s0) M W
theorem index2 (k : Bool) (w : World) : (Instr.index 186 (.agg #[.bool false, .bool true]) (.int .i64 (if k then 1 else 0))).run Tryz.prog w = .ok (.bool k) w := by cases k <;> kernel_rfl
theorem BwI.yields (b : BwB) (E : List Edg) (n v : Nat) (by_ : Int) (back : Bool) (s0 : BwS) (A1 : Option Addr) (W3 : World) : Yields' (BwI b E n v by_ back s0 A1 W3) :=
  fun _ _ _ _ _ ⟨A, c, h⟩ ht hM => ⟨A, c, h.yield ht hM⟩
def bwFr (fr : Act) (E : List Edg) (i b9 : Nat) : Act := { tmps := ((((fr.tmps.setIfInBounds 49 (.int .i64 (i : Int))).setIfInBounds 50 (eVal (ge E i))).setIfInBounds 8 (.int .i64 (i : Int))).setIfInBounds 9 (.pointer (some ⟨b9, 0, none⟩))), defers := [] }
def BwB' (b : BwB) (E : List Edg) (n v : Nat) (by_ : Int) (back : Bool) (s0 : BwS) (A1 : Option Addr) (W3 : World) (fr : Act) (i : Nat) (a' : Act) (p : List Nat) (M : Nat → Prop) (W : World) : Prop :=
  ∃ b9 A c, a' = bwFr fr E i b9 ∧ BwC b A1 W3 A c (brP E (br E n) v by_ back p s0) M W ∧ Arr W b9 59 [.int .i64 (ge E i).f, .int .i64 (ge E i).t, .int .u64 (ge E i).w] ∧ ¬ M b9 ∧ ¬ BwOwn b A b9
theorem BwB'.yields (b : BwB) (E : List Edg) (n v : Nat) (by_ : Int) (back : Bool) (s0 : BwS) (A1 : Option Addr) (W3 : World) (fr : Act) (i : Nat) (a' : Act) : Yields' (BwB' b E n v by_ back s0 A1 W3 fr i a') :=
  fun _ _ _ _ _ ⟨b9, A, c, e, h, ha, hm, ho⟩ ht hM => ⟨b9, A, c, e, h.yield ht hM, ha.touch ht hm, fun e => by
    have := ha.lt
    rcases (hM _ e).1 with h | h
    · exact hm h
    · omega, ho⟩
set_option maxRecDepth 60000 in
set_option maxHeartbeats 16000000 in
theorem bwWalk (F : Nat → Prop) (b : BwB) (E : List Edg) (hE : InN b.N E) (hn : E.length ≤ 20000) (hN : b.N ≤ 4096) (n : Nat)
    (ih : ∀ (u : Nat) (by_ : Int) (A : Option Addr) (c : Nat) (s : BwS) (w : World), BwAt w b A c s → AdjAt F w b.ba b.N E → (∀ k, F k → k < w.heap.size ∧ ¬ BwOwn b A k) → BwOk b.N s → u < b.N → gi s.met u = 0 → s.met.count 0 ≤ n → Calls Tryz.prog 88 #[.pointer (some ⟨b.bx, 0, none⟩), .int .i64 (u : Int), .int .i64 by_] w (BwGive b (br E n u by_ s) A w))
    (v : Nat) (by_ : Int) (A : Option Addr) (c : Nat) (s : BwS) (w : World) (h : BwAt w b A c s) (hA : AdjAt F w b.ba b.N E) (hF : ∀ k, F k → k < w.heap.size ∧ ¬ BwOwn b A k) (hs : BwOk b.N s) (hv : v < b.N) (h0 : gi s.met v = 0) (hc : s.met.count 0 ≤ n + 1) :
    Calls Tryz.prog 88 #[.pointer (some ⟨b.bx, 0, none⟩), .int .i64 (v : Int), .int .i64 by_] w (BwGive b (br E (n + 1) v by_ s) A w) := by
  have IH := hide ih
  have H := hide h
  have HA := hide hA
  have HF := hide hF
  have HS := hide hs
  have H0 := hide h0
  have HC := hide hc
  have DIS := hide h.dis
  have hnow : 0 ≤ s.now ∧ s.now ≤ 4096 := by have := hs.le; omega
  have ax := h.x
  have o1 := ax.lt
  have o2 := h.m.lt
  have o3 := h.l.lt
  clear ih h hA hF hs h0 hc
  refine calls_of_marks Tryz.func88 rfl ?_
  simp only [Tryz.ntmps88, List.size_toArray, List.length_cons, List.length_nil, Nat.reduceAdd, Nat.reduceSub, Array.replicate_succ, Array.replicate_zero, List.push_toArray, List.append_toArray, List.nil_append, List.cons_append]
  go_upto_region 2 with fail
  obtain ⟨b2, hb2⟩ : ∃ b2, w.heap.size = b2 := ⟨_, rfl⟩
  obtain ⟨b3, hb3⟩ : ∃ b3, b2 + 1 = b3 := ⟨_, rfl⟩
  obtain ⟨b4, hb4⟩ : ∃ b4, b3 + 1 = b4 := ⟨_, rfl⟩
  obtain ⟨W1, hW1⟩ : ∃ W1, W1 = (((w.alloc (.cells #[.pointer (some ⟨b.bx, 0, none⟩)] 136)).alloc (.cells #[.int .i64 (v : Int)] 3)).alloc (.cells #[.int .i64 by_] 3)).setCell ⟨b.bx, 3, none⟩ (.int .i64 (s.now + 1)) := ⟨_, rfl⟩
  have hgB : Grows w (((w.alloc (.cells #[.pointer (some ⟨b.bx, 0, none⟩)] 136)).alloc (.cells #[.int .i64 (v : Int)] 3)).alloc (.cells #[.int .i64 by_] 3)) := (((Grows.refl w).new _).new _).new _
  have x2 : Arr W1 b2 136 [.pointer (some ⟨b.bx, 0, none⟩)] := by
    rw [hW1, ← hb2]
    exact Arr.other ((Arr.make _ _ _).grow (((Grows.refl _).new _).new _)) (by show b.bx ≠ _; omega) _
  have x3 : Arr W1 b3 3 [.int .i64 (v : Int)] := by
    rw [hW1, ← hb3, ← hb2, show w.heap.size + 1 = (w.alloc (.cells #[.pointer (some ⟨b.bx, 0, none⟩)] 136)).heap.size by simp]
    exact Arr.other ((Arr.make _ _ _).grow ((Grows.refl _).new _)) (by show b.bx ≠ _; simp; omega) _
  have x4 : Arr W1 b4 3 [.int .i64 by_] := by
    rw [hW1, ← hb4, ← hb3, ← hb2, show w.heap.size + 1 + 1 = ((w.alloc (.cells #[.pointer (some ⟨b.bx, 0, none⟩)] 136)).alloc (.cells #[.int .i64 (v : Int)] 3)).heap.size by simp]
    exact Arr.other (Arr.make _ _ _) (by show b.bx ≠ _; simp; omega) _
  have HY := hide (show BwAt W1 b A c { s with now := s.now + 1 } from by rw [hW1]; exact (H.out.grow hgB).setNow _)
  have HT := hide (show Touch (BwOwn b A) w W1 from by rw [hW1]; exact ((Touch.refl _ _).grows hgB).set (.inl (.inl (.inl rfl))) _)
  have hsz := hide (show W1.heap.size = b4 + 1 from by rw [hW1]; simp; omega)
  have y1 : Arr W1 b.bx 138 [.pointer (some ⟨b.ba, 0, none⟩), .slice (some ⟨b.bm, 0, none⟩) b.N b.N, .slice (some ⟨b.bl, 0, none⟩) b.N b.N, .int .i64 (s.now + 1), .slice A s.cuts.length c] := HY.out.x
  rw [hb2, hb3, hb4, ← hW1]
  clear hW1 hgB ax
  obtain ⟨⟨nm, nl⟩, hrt⟩ := HY.out.nes
  have l1 : s.met.length = b.N := HS.out.m
  have l2 : s.low.length = b.N := HS.out.l
  have FX := hide (fun D => st2_arr (D := D) (i1 := 19) (i2 := 21) (p1 := ⟨b.bm, v, none⟩) (p2 := ⟨b.bl, v, none⟩) (v1 := .int .i64 (s.now + 1)) (v2 := .int .i64 (s.now + 1)) (y1.grow (Grows.drew (Grows.refl _))) (by exact Ne.symm nm) (by exact Ne.symm nl))
  have F2 := hide (fun D => st2_arr (D := D) (i1 := 19) (i2 := 21) (p1 := ⟨b.bm, v, none⟩) (p2 := ⟨b.bl, v, none⟩) (v1 := .int .i64 (s.now + 1)) (v2 := .int .i64 (s.now + 1)) (x2.grow (Grows.drew (Grows.refl _))) (by show b.bm ≠ b2; omega) (by show b.bl ≠ b2; omega))
  have F3 := hide (fun D => st2_arr (D := D) (i1 := 19) (i2 := 21) (p1 := ⟨b.bm, v, none⟩) (p2 := ⟨b.bl, v, none⟩) (v1 := .int .i64 (s.now + 1)) (v2 := .int .i64 (s.now + 1)) (x3.grow (Grows.drew (Grows.refl _))) (by show b.bm ≠ b3; omega) (by show b.bl ≠ b3; omega))
  have FM := hide (fun D => st2_len (k1 := v) (k2 := v) (D := D) (i1 := 19) (i2 := 21) (p1 := ⟨b.bm, v, none⟩) (p2 := ⟨b.bl, v, none⟩) (v1 := .int .i64 (s.now + 1)) (v2 := .int .i64 (s.now + 1)) (HY.out.m.grow (Grows.drew (Grows.refl _))) (.inl rfl) (.inr (by exact Ne.symm DIS.out)))
  have FL := hide (fun D => st2_len (k1 := v) (k2 := v) (D := D) (i1 := 19) (i2 := 21) (p1 := ⟨b.bm, v, none⟩) (p2 := ⟨b.bl, v, none⟩) (v1 := .int .i64 (s.now + 1)) (v2 := .int .i64 (s.now + 1)) (HY.out.l.grow (Grows.drew (Grows.refl _))) (.inr (by exact DIS.out)) (.inl rfl))
  simp only [List.length_map, l1, l2] at FM FL
  clear l1 l2
  refine wp_region_know (by kernel_rfl) (by kernel_rfl) (by kernel_rfl) (by kernel_rfl) (by kernel_rfl) (fun j => ([.pointer (some ⟨b.bx, 0, none⟩), .pointer (some ⟨b.bx, 0, none⟩), .pointer (some ⟨b.bx, 1, none⟩), .slice (some ⟨b.bm, 0, none⟩) b.N b.N, .int .i64 (v : Int), .pointer (some ⟨b.bx, 0, none⟩), .pointer (some ⟨b.bx, 0, none⟩), .pointer (some ⟨b.bx, 2, none⟩), .slice (some ⟨b.bl, 0, none⟩) b.N b.N, .int .i64 (v : Int), .pointer (some ⟨b.bx, 0, none⟩), .pointer (some ⟨b.bx, 0, none⟩), .pointer (some ⟨b.bx, 3, none⟩), .int .i64 (s.now + 1), .pointer (some ⟨b.bx, 0, none⟩), .pointer (some ⟨b.bx, 0, none⟩), .pointer (some ⟨b.bx, 3, none⟩), .int .i64 (s.now + 1), .pointer (some ⟨b.bm, v, none⟩), undef, .pointer (some ⟨b.bl, v, none⟩), undef] : List Value).getD j undef) (st2 W1.drew 19 ⟨b.bm, v, none⟩ (.int .i64 (s.now + 1)) 21 ⟨b.bl, v, none⟩ (.int .i64 (s.now + 1))) (st2_start (by decide) (by decide)) ?hs ?he
  case hs =>
    intro a hV hO i o ho D hcl hD hpre
    clear hcl
    match i, ho, hD, hpre with
    | 0, ho, hD, hpre =>
      cases (show some _ = some o from ho)
      have e3 := ev_nfK ((hO 3 (notDstK (by kernel_rfl))).trans rfl)
      have x1 := FX.out D
      have x2 := F2.out D
      have x3 := F3.out D
      go_simp
      exact Eq.symm (st2_no (i := 0) (i1 := 19) (i2 := 21) (by decide) (by decide))
    | 1, ho, hD, hpre =>
      cases (show some _ = some o from ho)
      have e18 := ev_nfK (hV 0 18 rfl)
      have x1 := FX.out D
      have x2 := F2.out D
      have x3 := F3.out D
      go_simp
      exact Eq.symm (st2_no (i := 1) (i1 := 19) (i2 := 21) (by decide) (by decide))
    | 2, ho, hD, hpre =>
      cases (show some _ = some o from ho)
      have e19 := ev_nfK (hV 1 19 rfl)
      have x1 := FX.out D
      have x2 := F2.out D
      have x3 := F3.out D
      go_simp
      exact Eq.symm (st2_no (i := 2) (i1 := 19) (i2 := 21) (by decide) (by decide))
    | 3, ho, hD, hpre =>
      cases (show some _ = some o from ho)
      have e20 := ev_nfK (hV 2 20 rfl)
      have x1 := FX.out D
      have x2 := F2.out D
      have x3 := F3.out D
      go_simp
      exact Eq.symm (st2_no (i := 3) (i1 := 19) (i2 := 21) (by decide) (by decide))
    | 4, ho, hD, hpre =>
      cases (show some _ = some o from ho)
      have e4 := ev_nfK ((hO 4 (notDstK (by kernel_rfl))).trans rfl)
      have x1 := FX.out D
      have x2 := F2.out D
      have x3 := F3.out D
      go_simp
      exact Eq.symm (st2_no (i := 4) (i1 := 19) (i2 := 21) (by decide) (by decide))
    | 5, ho, hD, hpre =>
      cases (show some _ = some o from ho)
      have e3 := ev_nfK ((hO 3 (notDstK (by kernel_rfl))).trans rfl)
      have x1 := FX.out D
      have x2 := F2.out D
      have x3 := F3.out D
      go_simp
      exact Eq.symm (st2_no (i := 5) (i1 := 19) (i2 := 21) (by decide) (by decide))
    | 6, ho, hD, hpre =>
      cases (show some _ = some o from ho)
      have e23 := ev_nfK (hV 5 23 rfl)
      have x1 := FX.out D
      have x2 := F2.out D
      have x3 := F3.out D
      go_simp
      exact Eq.symm (st2_no (i := 6) (i1 := 19) (i2 := 21) (by decide) (by decide))
    | 7, ho, hD, hpre =>
      cases (show some _ = some o from ho)
      have e24 := ev_nfK (hV 6 24 rfl)
      have x1 := FX.out D
      have x2 := F2.out D
      have x3 := F3.out D
      go_simp
      exact Eq.symm (st2_no (i := 7) (i1 := 19) (i2 := 21) (by decide) (by decide))
    | 8, ho, hD, hpre =>
      cases (show some _ = some o from ho)
      have e25 := ev_nfK (hV 7 25 rfl)
      have x1 := FX.out D
      have x2 := F2.out D
      have x3 := F3.out D
      go_simp
      exact Eq.symm (st2_no (i := 8) (i1 := 19) (i2 := 21) (by decide) (by decide))
    | 9, ho, hD, hpre =>
      cases (show some _ = some o from ho)
      have e4 := ev_nfK ((hO 4 (notDstK (by kernel_rfl))).trans rfl)
      have x1 := FX.out D
      have x2 := F2.out D
      have x3 := F3.out D
      go_simp
      exact Eq.symm (st2_no (i := 9) (i1 := 19) (i2 := 21) (by decide) (by decide))
    | 10, ho, hD, hpre =>
      cases (show some _ = some o from ho)
      have e3 := ev_nfK ((hO 3 (notDstK (by kernel_rfl))).trans rfl)
      have x1 := FX.out D
      have x2 := F2.out D
      have x3 := F3.out D
      go_simp
      exact Eq.symm (st2_no (i := 10) (i1 := 19) (i2 := 21) (by decide) (by decide))
    | 11, ho, hD, hpre =>
      cases (show some _ = some o from ho)
      have e28 := ev_nfK (hV 10 28 rfl)
      have x1 := FX.out D
      have x2 := F2.out D
      have x3 := F3.out D
      go_simp
      exact Eq.symm (st2_no (i := 11) (i1 := 19) (i2 := 21) (by decide) (by decide))
    | 12, ho, hD, hpre =>
      cases (show some _ = some o from ho)
      have e29 := ev_nfK (hV 11 29 rfl)
      have x1 := FX.out D
      have x2 := F2.out D
      have x3 := F3.out D
      go_simp
      exact Eq.symm (st2_no (i := 12) (i1 := 19) (i2 := 21) (by decide) (by decide))
    | 13, ho, hD, hpre =>
      cases (show some _ = some o from ho)
      have e30 := ev_nfK (hV 12 30 rfl)
      have x1 := FX.out D
      have x2 := F2.out D
      have x3 := F3.out D
      go_simp
      exact Eq.symm (st2_no (i := 13) (i1 := 19) (i2 := 21) (by decide) (by decide))
    | 14, ho, hD, hpre =>
      cases (show some _ = some o from ho)
      have e3 := ev_nfK ((hO 3 (notDstK (by kernel_rfl))).trans rfl)
      have x1 := FX.out D
      have x2 := F2.out D
      have x3 := F3.out D
      go_simp
      exact Eq.symm (st2_no (i := 14) (i1 := 19) (i2 := 21) (by decide) (by decide))
    | 15, ho, hD, hpre =>
      cases (show some _ = some o from ho)
      have e32 := ev_nfK (hV 14 32 rfl)
      have x1 := FX.out D
      have x2 := F2.out D
      have x3 := F3.out D
      go_simp
      exact Eq.symm (st2_no (i := 15) (i1 := 19) (i2 := 21) (by decide) (by decide))
    | 16, ho, hD, hpre =>
      cases (show some _ = some o from ho)
      have e33 := ev_nfK (hV 15 33 rfl)
      have x1 := FX.out D
      have x2 := F2.out D
      have x3 := F3.out D
      go_simp
      exact Eq.symm (st2_no (i := 16) (i1 := 19) (i2 := 21) (by decide) (by decide))
    | 17, ho, hD, hpre =>
      cases (show some _ = some o from ho)
      have e34 := ev_nfK (hV 16 34 rfl)
      have x1 := FX.out D
      have x2 := F2.out D
      have x3 := F3.out D
      go_simp
      exact Eq.symm (st2_no (i := 17) (i1 := 19) (i2 := 21) (by decide) (by decide))
    | 18, ho, hD, hpre =>
      cases (show some _ = some o from ho)
      have e21 := ev_nfK (hV 3 21 rfl)
      have e22 := ev_nfK (hV 4 22 rfl)
      have x1 := FX.out D
      have x2 := F2.out D
      have x3 := F3.out D
      go_simp
      exact Eq.symm (st2_no (i := 18) (i1 := 19) (i2 := 21) (by decide) (by decide))
    | 19, ho, hD, hpre =>
      cases (show some _ = some o from ho)
      have e31 := ev_nfK (hV 13 31 rfl)
      have e36 := ev_nfK (hV 18 36 rfl)
      have x1 := FX.out D
      have x2 := F2.out D
      have x3 := F3.out D
      obtain ⟨cs, hc, hcl⟩ := FM.out D
      have mm := hc.mine v (List.getElem?_eq_getElem (by rw [hcl]; omega))
      go_simp
      exact Eq.symm (st2_a (i1 := 19) (i2 := 21) (by decide) (by exact DIS.out) hD)
    | 20, ho, hD, hpre =>
      cases (show some _ = some o from ho)
      have e26 := ev_nfK (hV 8 26 rfl)
      have e27 := ev_nfK (hV 9 27 rfl)
      have x1 := FX.out D
      have x2 := F2.out D
      have x3 := F3.out D
      go_simp
      exact Eq.symm (st2_no (i := 20) (i1 := 19) (i2 := 21) (by decide) (by decide))
    | 21, ho, hD, hpre =>
      cases (show some _ = some o from ho)
      have e35 := ev_nfK (hV 17 35 rfl)
      have e37 := ev_nfK (hV 20 37 rfl)
      have x1 := FX.out D
      have x2 := F2.out D
      have x3 := F3.out D
      obtain ⟨cs, hc, hcl⟩ := FL.out D
      have mm := hc.mine v (List.getElem?_eq_getElem (by rw [hcl]; omega))
      go_simp
      exact Eq.symm (st2_b (i1 := 19) (i2 := 21) (by decide) hD)
    | n + 22, ho, hD, hpre => cases (show none = some o from ho)
  case he =>
    simp only [putAll, dstOf, List.length_cons, List.length_nil, Nat.reduceAdd, List.getElem?_cons_zero, List.getElem?_cons_succ, Option.bind_some, List.getD_cons_zero, List.getD_cons_succ, Act.put, List.setIfInBounds_toArray, List.set_cons_zero, List.set_cons_succ, st2_all]
    have HX2 := hide (show BwAt ((W1.drew.setCell ⟨b.bm, v, none⟩ (.int .i64 (s.now + 1))).setCell ⟨b.bl, v, none⟩ (.int .i64 (s.now + 1))) b A c (s.enter v) from ((HY.out.grow (Grows.refl _).drew).setMet v _).setLow v _)
    have HT2 := hide (show Touch (BwOwn b A) w ((W1.drew.setCell ⟨b.bm, v, none⟩ (.int .i64 (s.now + 1))).setCell ⟨b.bl, v, none⟩ (.int .i64 (s.now + 1))) from ((HT.out.drew).set (.inl (.inl (.inr (.inl rfl)))) _).set (.inl (.inl (.inr (.inr rfl)))) _)
    have z2 : Arr ((W1.drew.setCell ⟨b.bm, v, none⟩ (.int .i64 (s.now + 1))).setCell ⟨b.bl, v, none⟩ (.int .i64 (s.now + 1))) b2 136 [.pointer (some ⟨b.bx, 0, none⟩)] := by
      exact ((x2.grow (Grows.refl _).drew).other (by show b.bm ≠ b2; omega) _).other (by show b.bl ≠ b2; omega) _
    have z3 : Arr ((W1.drew.setCell ⟨b.bm, v, none⟩ (.int .i64 (s.now + 1))).setCell ⟨b.bl, v, none⟩ (.int .i64 (s.now + 1))) b3 3 [.int .i64 (v : Int)] := by
      exact ((x3.grow (Grows.refl _).drew).other (by show b.bm ≠ b3; omega) _).other (by show b.bl ≠ b3; omega) _
    have z4 : Arr ((W1.drew.setCell ⟨b.bm, v, none⟩ (.int .i64 (s.now + 1))).setCell ⟨b.bl, v, none⟩ (.int .i64 (s.now + 1))) b4 3 [.int .i64 by_] := by
      exact ((x4.grow (Grows.refl _).drew).other (by show b.bm ≠ b4; omega) _).other (by show b.bl ≠ b4; omega) _
    have hs2 := hide (show ((W1.drew.setCell ⟨b.bm, v, none⟩ (.int .i64 (s.now + 1))).setCell ⟨b.bl, v, none⟩ (.int .i64 (s.now + 1))).heap.size = b4 + 1 from by simp; exact hsz.out)
    clear FX F2 F3 FM FL x2 x3 x4 HY HT hsz y1
    generalize ((W1.drew.setCell ⟨b.bm, v, none⟩ (.int .i64 (s.now + 1))).setCell ⟨b.bl, v, none⟩ (.int .i64 (s.now + 1))) = W2 at *
    clear W1
    have HCK := hide (show ∀ k, BwOwn b A k → k < b2 from fun k hk => by rw [← hb2]; exact H.out.lts k hk)
    have HN2 := hide (show ¬ BwOwn b A b2 ∧ ¬ BwOwn b A b3 ∧ ¬ BwOwn b A b4 from ⟨fun e => by have := HCK.out _ e; omega, fun e => by have := HCK.out _ e; omega, fun e => by have := HCK.out _ e; omega⟩)
    have HA2 := hide (HA.out.touch HT2.out (fun k hk => (HF.out k hk).2))
    have HF2 := hide (show ∀ k, F k → k < W2.heap.size ∧ ¬ BwOwn b A k from fun k hk => ⟨by have := (HF.out k hk).1; have := HT2.out.size; omega, (HF.out k hk).2⟩)
    obtain ⟨hok0, hcn0⟩ := HS.out.enter hv H0.out
    have HOK0 := hide hok0
    have hcn1 : Hid ((s.enter v).met.count 0 ≤ n) := by have := HC.out; show (s.enter v).met.count 0 ≤ n; omega
    have HRC := hide (br_ok hE n)
    have HEQ := hide (show br E (n + 1) v by_ s = brP E (br E n) v by_ true (rowN (nN E true) E.length v) (brP E (br E n) v by_ false (rowN (nN E false) E.length v) (s.enter v)) from rfl)
    have HST := hide (BwC.start HX2.out)
    have HM0 := hide (Marks.nil W2)
    have hgv := hide (show ∀ (A' : Option Addr) (c' : Nat) (s' : BwS) (M : Nat → Prop) (W W' : World) (Ds : List Nat), BwC b A W2 A' c' s' M W → (∀ D ∈ Ds, W2.heap.size ≤ D ∧ ¬ BwOwn b A' D) → Touch (fun k => k ∈ Ds) W W' → ∃ A' c', BwAt W' b A' c' s' ∧ Touch (BwOwn b A) w W' ∧ ∀ k, BwOwn b A' k → BwOwn b A k ∨ w.heap.size ≤ k from fun A' c' s' M W W' Ds hc hd ht => by
      have hz := HT2.out.size
      refine ⟨A', c', hc.is.touch ht (fun k hk e => (hd k e).2 hk), (HT2.out.trans2 hc.tch (fun k hk => .inl hk)).trans2 ht (fun k hk => .inr (Nat.le_trans hz (hd k hk).1)), fun k hk => ?_⟩
      rcases hc.own k hk with h | h
      · exact .inl h
      · exact .inr (Nat.le_trans hz h))
    clear hok0 hcn0 HX2 HA HF HS H0 HC H HT2 hb2 hb3 hb4 o1 o2 o3 hnow HCK DIS hrt
    generalize s.enter v = s1 at *
    have ix0 := fun (w : World) => (show (Instr.index 186 (.agg #[.bool false, .bool true]) (.int .i64 0)).run Tryz.prog w = .ok (.bool false) w from index2 false w)
    have ix1 := fun (w : World) => (show (Instr.index 186 (.agg #[.bool false, .bool true]) (.int .i64 1)).run Tryz.prog w = .ok (.bool true) w from index2 true w)
    go_wp2_with fail
    refine wp_loop_rounds 3 ?_
    show Code.wp _ _ _ _ _
    have HD0 := hide (show ∀ D ∈ ([] : List Nat), W2.heap.size ≤ D ∧ ¬ BwOwn b A D from fun D hD => by cases hD)
    -- ROUND false
    have x1 : Arr W2 b.bx 138 [.pointer (some ⟨b.ba, 0, none⟩), .slice (some ⟨b.bm, 0, none⟩) b.N b.N, .slice (some ⟨b.bl, 0, none⟩) b.N b.N, .int .i64 s1.now, .slice A s1.cuts.length c] := HST.out.is.x
    have t2 : Arr W2 b2 136 _ := HST.out.arr z2 HN2.out.1
    have t3 : Arr W2 b3 3 _ := HST.out.arr z3 HN2.out.2.1
    have t4 : Arr W2 b4 3 _ := HST.out.arr z4 HN2.out.2.2
    go_wp2_with fail
    refine wp_region_gen (by kernel_rfl) (by kernel_rfl) ?_
    (repeat' (first | (refine gLex_val0 rfl (by kernel_rfl) (fun K hK => ?_); (go_simp; (try (simp only [↓IntWalk.iteOmega]; try go_simp)); (try simp (disch := omega) only [IntWalk.i64_in]); (try simp (disch := omega) only [IntWalk.u64_in]); first | (refine hK _ ?_; clear hK K) | (apply Exists.intro; refine ⟨fun x => ?_, hK _ ?_⟩; (first | fail); clear hK K))) | (refine gLex_undef rfl rfl rfl (by kernel_rfl) (fun K hK => ?_); go_simp; refine hK _ ?_; clear hK K) | (refine gLex_ask rfl rfl rfl ?_; first | (apply gAsk_yes; kernel_rfl; intro K hK; (go_simp; (try (simp only [↓IntWalk.iteOmega]; try go_simp)); (try simp (disch := omega) only [IntWalk.i64_in]); (try simp (disch := omega) only [IntWalk.u64_in]); first | (refine hK _ ?_; clear hK K) | (apply Exists.intro; refine ⟨fun x => ?_, hK _ ?_⟩; (first | fail); clear hK K))) | ((first | apply gAsk_no1 | apply gAsk_no2); kernel_rfl; intro K hK; simp [go_sem]; refine hK _ ?_; clear hK K))))
    refine gLex_prop rfl (by kernel_rfl) rfl (by simp) (EachP b.ba v false W2.heap.size) (EachP.lasts _ _ _ _) (fun y => by
      go_simp
      refine (adjEach b.ba v false _).mono ?_
      rintro e w' ⟨b1, rfl, hb1, i1, i2, i3, hg⟩
      exact ⟨_, rfl, hg, b1, rfl, by have := y.size; omega, i1, i2, i3⟩) ?_
    refine gLex_endQ1 (by simp) (fun y3 vv hv => ?_)
    obtain ⟨b1, rfl, hb1, i1, i2, i3⟩ := hv
    simp only [Act.put, List.setIfInBounds_toArray, List.set_cons_zero, List.set_cons_succ]
    have hg3 : Grows W2 y3.now := y3.grows
    generalize y3.now = W3 at *
    have hi3 := i3.lt
    go_wp2_with fail
    have HW := hide (HST.out.grow hg3)
    have j2 : Arr W3 b2 136 _ := t2.grow hg3
    have j3 : Arr W3 b3 3 _ := t3.grow hg3
    have j4 : Arr W3 b4 3 _ := t4.grow hg3
    have HA3 := hide (HA2.out.touch HW.out.tch (fun k hk => (HF2.out k hk).2))
    have hzW : Hid (W2.heap.size ≤ W2.heap.size ∧ W2.heap.size ≤ W3.heap.size) := ⟨HST.out.tch.size, hg3.size⟩
    have hFlo : Hid (∀ k, F k → k < W2.heap.size ∧ ¬ BwOwn b A k) := fun k hk => ⟨(HF2.out k hk).1, fun e => by
      rcases HST.out.own k e with h | h
      · exact (HF2.out k hk).2 h
      · have := (HF2.out k hk).1; omega⟩
    have hn2 : Hid (¬ BwOwn b A b2 ∧ ¬ BwOwn b A b3 ∧ ¬ BwOwn b A b4) := by
      have q2 := z2.lt
      have q3 := z3.lt
      have q4 := z4.lt
      refine ⟨fun e => ?_, fun e => ?_, fun e => ?_⟩
      · rcases HST.out.own _ e with h | h
        · exact HN2.out.1 h
        · omega
      · rcases HST.out.own _ e with h | h
        · exact HN2.out.2.1 h
        · omega
      · rcases HST.out.own _ e with h | h
        · exact HN2.out.2.2 h
        · omega
    have hB3 : Hid (∀ k, (F k ∨ (b1 ≤ k ∧ k ≤ b1 + 1 + 1)) → k < W3.heap.size ∧ ¬ BwOwn b A k) := fun k hk => by
      have h1 := hzW.out
      rcases hk with hk | hk
      · exact ⟨by have := (hFlo.out k hk).1; omega, (hFlo.out k hk).2⟩
      · exact ⟨by omega, fun e => by have := HST.out.is.lts k e; omega⟩
    have HM3 := hide (HM0.out.touch (S := fun _ => False) (hg3.touch _) (fun _ _ => id))
    have HFO := hide (fun (p : List Nat) (hp : ∀ i ∈ p, i < E.length) => brP_ok hE HRC.out v by_ false p s1 hp HOK0.out hcn1.out)
    clear x1 t2 t3 t4 y3
    refine (wpIn_wide (n := 0)).1 ?_
    refine wp_frame fun fr hfr => ?_
    refine wp_rangeG (w0 := W3) (gf := 131) (by rw [hfr]; rfl) (enters_of Tryz.func131 (by kernel_rfl) rfl)
      (each_gives F (fun k => F k ∨ (b1 ≤ k ∧ k ≤ b1 + 1 + 1)) (fun _ => False) b.ba b.N E v false b1 W3 HA3.out (fun k hk => .inl (.inl hk)) hE hv (by omega) (by omega) (fun k hk => hk.elim) (.inl (.inr ⟨by omega, by omega⟩)) (.inl (.inr ⟨by omega, by omega⟩)) (.inl (.inr ⟨by omega, by omega⟩)) i1 i2 i3)
      (Keeps.refl _ _ _) (fun k hk => (hB3.out k hk).1) (fun k hk => hk.elim) (fun _ => rfl)
      (BwI b E n v by_ false s1 A W3) (fun _ _ _ _ => False) (BwI.yields b E n v by_ false s1 A W3) (fun c _ _ _ _ _ h _ _ => h.elim) ⟨A, c, BwC.start HW.out.is⟩
      (BwB' b E n v by_ false s1 A W3 fr) ?hIb ?assign ?body ?done ?stop
    case hIb => exact fun i a' => BwB'.yields b E n v by_ false s1 A W3 fr i a'
    case assign =>
      intro l2 p i rest Mi W hsp hI
      have HI := hide hI
      clear hI
      rw [hfr]
      unfold encE eVal
      gi_wp2
      have hgA : Grows W (W.alloc (.cells #[.int .i64 (ge E i).f, .int .i64 (ge E i).t, .int .u64 (ge E i).w] 59)) := (Grows.refl _).new _
      obtain ⟨A4, c4, hc4⟩ := HI.out
      refine ⟨⟨W.heap.size, A4, c4, ?_, hc4.grow hgA, Arr.make _ _ _, fun e => by have := (hc4.ms _ e).2.1; omega, fun e => by have := hc4.is.lts _ e; omega⟩, hgA.touch _⟩
      simp only [bwFr, eVal, List.setIfInBounds_toArray, List.set_cons_zero, List.set_cons_succ]
    case body =>
      rintro l2 p i rest Mi a' W hsp hl2 hMl hrec ⟨b9, A4, c4, rfl, hc, hb9, hm9, hn9⟩
      have hmem : ∀ j ∈ p ++ i :: rest, j < E.length ∧ nN E false j = v := fun j hj => by rw [← hsp] at hj; simpa [rowN] using hj
      have hiE := hmem i (by simp)
      have hef := hE.f i hiE.1
      have het := hE.t i hiE.1
      have hu := oN_lt (back := false) hE hiE.1
      have hto : ((fN E i : Nat) : Int) + (tN E i : Int) - (v : Int) = (oN E false i : Int) := by
        have h2 := hiE.2
        simp [nN, oN] at h2 ⊢
        omega
      obtain ⟨hok, hx⟩ := HFO.out p (fun j hj => (hmem j (by simp [hj])).1)
      have hcnt := Nat.le_trans hx.cnt hcn1.out
      have hstep := brP_snoc E (br E n) v by_ false p i s1
      obtain ⟨R, hR⟩ : ∃ R : World → Prop, R = fun w1 => Keeps (fun k => F k ∨ (b1 ≤ k ∧ k ≤ b1 + 1 + 1)) Mi W w1 ∧ BwI b E n v by_ false s1 A W3 (p ++ [i]) Mi w1 := ⟨_, rfl⟩
      refine wpIn_mono (Q := fun e _ w1 => e = .normal ∧ R w1) ?_ (fun e a2 w2 h => by
        obtain ⟨rfl, h⟩ := h
        rw [hR] at h
        exact h)
      have CR := hide (fun (A' : Option Addr) (c' : Nat) (s' : BwS) (w1 : World) (hs : s' = brP E (br E n) v by_ false (p ++ [i]) s1) (hk : Touch (BwOwn b A4) W w1) (h : BwC b A W3 A' c' s' Mi w1) => show R w1 from by
        rw [hR]
        exact ⟨hc.keeps hB3.out hk, A', c', by rw [← hs]; exact h⟩)
      rw [hstep] at CR
      have hiL : i ≤ 20000 := by have := hiE.1; omega
      clear hR hstep hmem hsp hx hiE
      rw [hef.2, het.2] at hb9
      have hfx := hef.1
      have hty := het.1
      have HAW := hide (HA3.out.touch hc.tch (fun k hk => (hFlo.out k hk).2))
      generalize (ge E i).w = ew at *
      generalize brP E (br E n) v by_ false p s1 = sp at *
      generalize tN E i = ty at *
      generalize fN E i = fx at *
      generalize oN E false i = u at *
      rw [hfr]
      simp only [bwFr, List.setIfInBounds_toArray, List.set_cons_zero, List.set_cons_succ]
      have y1 : Arr W b.bx 138 [.pointer (some ⟨b.ba, 0, none⟩), .slice (some ⟨b.bm, 0, none⟩) b.N b.N, .slice (some ⟨b.bl, 0, none⟩) b.N b.N, .int .i64 sp.now, .slice A4 sp.cuts.length c4] := hc.is.x
      have y2 := hc.arr j2 hn2.out.1
      have y3 := hc.arr j3 hn2.out.2.1
      have y4 := hc.arr j4 hn2.out.2.2
      have m0 : sp.met.length = b.N := hok.m
      have hmu : Holds W ⟨b.bm, u, none⟩ (.int .i64 (gi sp.met u)) := ⟨by rw [hc.is.m.cell]; simp [gi, show u < sp.met.length by omega]⟩
      have HCC := hide hc
      have HPOS := hide (hok.pos u)
      have hz23 : Hid (W2.heap.size ≤ W.heap.size) := Nat.le_trans hzW.out.1 (Nat.le_trans hzW.out.2 hc.tch.size)
      have IH2 := hide (fun (h0 : gi sp.met u = 0) => IH.out u i A4 c4 sp W hc.is HAW.out (fun k hk => ⟨Nat.lt_of_lt_of_le (hFlo.out k hk).1 hz23.out, fun e => by
        rcases hc.own k e with h | h
        · exact (hFlo.out k hk).2 h
        · have := (hFlo.out k hk).1; have := hzW.out; omega⟩) hok hu h0 hcnt)
      have HK5 := hide (fun (h0 : gi sp.met u = 0) => HRC.out u i sp hok hu h0 hcnt)
      have hlow : sp.low.length = b.N := hok.l
      have HOKP := hide hok
      have hb23 : Hid (∀ A', (∀ k, BwOwn b A' k → BwOwn b A4 k ∨ W.heap.size ≤ k) → ¬ BwOwn b A' b2 ∧ ¬ BwOwn b A' b3 ∧ ¬ BwOwn b A' b4) := fun A' ho => by
        have l2 := y2.lt
        have l3 := y3.lt
        have l4 := y4.lt
        have q2 := j2.lt
        have q3 := j3.lt
        have q4 := j4.lt
        refine ⟨fun e => ?_, fun e => ?_, fun e => ?_⟩
        · rcases ho _ e with h | h
          · rcases hc.own _ h with h | h
            · exact hn2.out.1 h
            · omega
          · omega
        · rcases ho _ e with h | h
          · rcases hc.own _ h with h | h
            · exact hn2.out.2.1 h
            · omega
          · omega
        · rcases ho _ e with h | h
          · rcases hc.own _ h with h | h
            · exact hn2.out.2.2 h
            · omega
          · omega
      clear hc hok hcnt m0 hfr hl2 hMl hrec hm9 hn9 het hef HAW IH HFO hB3 hn2 hFlo HA3 j2 j3 j4 HW hi3 hg3 i1 i2 i3 hb1 HM3 hzW hz23 hgv HN2 HA2 HF2 HEQ z2 z3 z4 hs2
      by_cases hby : (i : Int) = by_
      · have HE := hide (show BwS.edge (br E n) v by_ i u sp = sp from if_pos hby)
        have FIN := hide (CR.out A4 c4 _ _ HE.out.symm (Touch.refl _ _) HCC.out)
        have hbB : ((i : Int) == by_) = true := by simpa using hby
        clear hby IH2 HK5 HE CR HCC hb23 hlow HOKP
        generalize gi sp.met u = mu at *
        gi_wp2
        exact FIN.out
      · have hbB : ((i : Int) == by_) = false := by simpa using hby
        by_cases hpos : 0 < gi sp.met u
        · have HE := hide (show BwS.edge (br E n) v by_ i u sp = sp.lower v (gi sp.met u) from by unfold BwS.edge; rw [if_neg hby, if_pos hpos])
          have FIN := hide (CR.out A4 c4 _ _ HE.out.symm (((Touch.refl _ W).drew).set (.inl (.inl (.inr (.inr rfl)))) _) ((HCC.out.grow (Grows.refl _).drew).lower v (gi sp.met u)))
          have hlv : Holds W ⟨b.bl, v, none⟩ (.int .i64 (gi sp.low v)) := ⟨by rw [HCC.out.is.l.cell]; simp [gi, show v < sp.low.length by omega]⟩
          have hmv : Mine W ⟨b.bl, v, none⟩ (.int .i64 (gi sp.low v)) := HCC.out.is.l.mine v (by simp [gi, show v < sp.low.length by omega])
          have n1 : b.bl ≠ b.bx := Ne.symm nl
          have n2 : b.bl ≠ b2 := fun e => (hb23.out A4 (fun k hk => .inl hk)).1 (.inl (.inr (.inr e.symm)))
          have n3 : b.bl ≠ b3 := fun e => (hb23.out A4 (fun k hk => .inl hk)).2.1 (.inl (.inr (.inr e.symm)))
          clear hby IH2 HK5 HE CR HCC hlow HOKP HPOS
          generalize gi sp.met u = mu at *
          generalize gi sp.low v = lv at *
          have hlu := hmu
          gi_wp2_with fail
          have FX := hide (fun D => st1_arr (D := D) (i := 21) (p := ⟨b.bl, v, none⟩) (v := .int .i64 (min lv mu)) (y1.grow (Grows.refl _).drew) (by exact n1))
          have F2 := hide (fun D => st1_arr (D := D) (i := 21) (p := ⟨b.bl, v, none⟩) (v := .int .i64 (min lv mu)) (y2.grow (Grows.refl _).drew) (by exact n2))
          have F3 := hide (fun D => st1_arr (D := D) (i := 21) (p := ⟨b.bl, v, none⟩) (v := .int .i64 (min lv mu)) (y3.grow (Grows.refl _).drew) (by exact n3))
          clear y1 y2 y3 y4 hb23 hmu hb9
          refine wpIn_region_know (by kernel_rfl) (wideF_round l2) (by kernel_rfl) (by kernel_rfl) (by kernel_rfl) (by kernel_rfl) (by kernel_rfl) (fun j => ([.pointer (some ⟨b.bx, 0, none⟩), .pointer (some ⟨b.bx, 0, none⟩), .pointer (some ⟨b.bx, 2, none⟩), .slice (some ⟨b.bl, 0, none⟩) b.N b.N, .int .i64 (v : Int), .pointer (some ⟨b.bx, 0, none⟩), .pointer (some ⟨b.bx, 0, none⟩), .pointer (some ⟨b.bx, 2, none⟩), .slice (some ⟨b.bl, 0, none⟩) b.N b.N, .int .i64 (v : Int), .pointer (some ⟨b.bl, v, none⟩), .int .i64 lv, .pointer (some ⟨b.bx, 0, none⟩), .pointer (some ⟨b.bx, 0, none⟩), .pointer (some ⟨b.bx, 1, none⟩), .slice (some ⟨b.bm, 0, none⟩) b.N b.N, .int .i64 (u : Int), .pointer (some ⟨b.bm, u, none⟩), .int .i64 mu, .int .i64 (min lv mu), .pointer (some ⟨b.bl, v, none⟩), undef] : List Value).getD j undef) (st1 W.drew 21 ⟨b.bl, v, none⟩ (.int .i64 (min lv mu))) (st1_start (by decide)) ?hs16 ?he16
          case hs16 =>
            intro a hV hO i o ho D hcl hD hpre
            match i, ho, hD, hpre with
            | 0, ho, hD, hpre =>
              cases (show some _ = some o from ho)
              have e3 := ev_nfK ((hO 3 (notDstK (by kernel_rfl))).trans rfl)
              have x1 := FX.out D
              have x2 := F2.out D
              have x3 := F3.out D
              go_simp
              exact (st1_no (i := 21) (k := 0) (by decide)).symm
            | 1, ho, hD, hpre =>
              cases (show some _ = some o from ho)
              have e121 := ev_nfK (hV 0 121 rfl)
              have x1 := FX.out D
              have x2 := F2.out D
              have x3 := F3.out D
              go_simp
              exact (st1_no (i := 21) (k := 1) (by decide)).symm
            | 2, ho, hD, hpre =>
              cases (show some _ = some o from ho)
              have e122 := ev_nfK (hV 1 122 rfl)
              have x1 := FX.out D
              have x2 := F2.out D
              have x3 := F3.out D
              go_simp
              exact (st1_no (i := 21) (k := 2) (by decide)).symm
            | 3, ho, hD, hpre =>
              cases (show some _ = some o from ho)
              have e123 := ev_nfK (hV 2 123 rfl)
              have x1 := FX.out D
              have x2 := F2.out D
              have x3 := F3.out D
              go_simp
              exact (st1_no (i := 21) (k := 3) (by decide)).symm
            | 4, ho, hD, hpre =>
              cases (show some _ = some o from ho)
              have e4 := ev_nfK ((hO 4 (notDstK (by kernel_rfl))).trans rfl)
              have x1 := FX.out D
              have x2 := F2.out D
              have x3 := F3.out D
              go_simp
              exact (st1_no (i := 21) (k := 4) (by decide)).symm
            | 5, ho, hD, hpre =>
              cases (show some _ = some o from ho)
              have e3 := ev_nfK ((hO 3 (notDstK (by kernel_rfl))).trans rfl)
              have x1 := FX.out D
              have x2 := F2.out D
              have x3 := F3.out D
              go_simp
              exact (st1_no (i := 21) (k := 5) (by decide)).symm
            | 6, ho, hD, hpre =>
              cases (show some _ = some o from ho)
              have e126 := ev_nfK (hV 5 126 rfl)
              have x1 := FX.out D
              have x2 := F2.out D
              have x3 := F3.out D
              go_simp
              exact (st1_no (i := 21) (k := 6) (by decide)).symm
            | 7, ho, hD, hpre =>
              cases (show some _ = some o from ho)
              have e127 := ev_nfK (hV 6 127 rfl)
              have x1 := FX.out D
              have x2 := F2.out D
              have x3 := F3.out D
              go_simp
              exact (st1_no (i := 21) (k := 7) (by decide)).symm
            | 8, ho, hD, hpre =>
              cases (show some _ = some o from ho)
              have e128 := ev_nfK (hV 7 128 rfl)
              have x1 := FX.out D
              have x2 := F2.out D
              have x3 := F3.out D
              go_simp
              exact (st1_no (i := 21) (k := 8) (by decide)).symm
            | 9, ho, hD, hpre =>
              cases (show some _ = some o from ho)
              have e4 := ev_nfK ((hO 4 (notDstK (by kernel_rfl))).trans rfl)
              have x1 := FX.out D
              have x2 := F2.out D
              have x3 := F3.out D
              go_simp
              exact (st1_no (i := 21) (k := 9) (by decide)).symm
            | 10, ho, hD, hpre =>
              cases (show some _ = some o from ho)
              have e129 := ev_nfK (hV 8 129 rfl)
              have e130 := ev_nfK (hV 9 130 rfl)
              have x1 := FX.out D
              have x2 := F2.out D
              have x3 := F3.out D
              go_simp
              exact (st1_no (i := 21) (k := 10) (by decide)).symm
            | 11, ho, hD, hpre =>
              cases (show some _ = some o from ho)
              have e131 := ev_nfK (hV 10 131 rfl)
              have f21 : D 21 = false := by
                cases hh : D 21 with
                | false => rfl
                | true => have h1 := hcl 21 19 hh (by kernel_rfl); have h2 := hcl 19 11 h1 (by kernel_rfl); simp_all
              have hl := hlv
              rw [st1_off f21]
              go_simp
              exact ((st1_no (i := 21) (k := 11) (by decide)).trans (st1_off f21)).symm
            | 12, ho, hD, hpre =>
              cases (show some _ = some o from ho)
              have e3 := ev_nfK ((hO 3 (notDstK (by kernel_rfl))).trans rfl)
              have x1 := FX.out D
              have x2 := F2.out D
              have x3 := F3.out D
              go_simp
              exact (st1_no (i := 21) (k := 12) (by decide)).symm
            | 13, ho, hD, hpre =>
              cases (show some _ = some o from ho)
              have e133 := ev_nfK (hV 12 133 rfl)
              have x1 := FX.out D
              have x2 := F2.out D
              have x3 := F3.out D
              go_simp
              exact (st1_no (i := 21) (k := 13) (by decide)).symm
            | 14, ho, hD, hpre =>
              cases (show some _ = some o from ho)
              have e134 := ev_nfK (hV 13 134 rfl)
              have x1 := FX.out D
              have x2 := F2.out D
              have x3 := F3.out D
              go_simp
              exact (st1_no (i := 21) (k := 14) (by decide)).symm
            | 15, ho, hD, hpre =>
              cases (show some _ = some o from ho)
              have e135 := ev_nfK (hV 14 135 rfl)
              have x1 := FX.out D
              have x2 := F2.out D
              have x3 := F3.out D
              go_simp
              exact (st1_no (i := 21) (k := 15) (by decide)).symm
            | 16, ho, hD, hpre =>
              cases (show some _ = some o from ho)
              have e10 := ev_nfK ((hO 10 (notDstK (by kernel_rfl))).trans rfl)
              have x1 := FX.out D
              have x2 := F2.out D
              have x3 := F3.out D
              go_simp
              exact (st1_no (i := 21) (k := 16) (by decide)).symm
            | 17, ho, hD, hpre =>
              cases (show some _ = some o from ho)
              have e136 := ev_nfK (hV 15 136 rfl)
              have e137 := ev_nfK (hV 16 137 rfl)
              have x1 := FX.out D
              have x2 := F2.out D
              have x3 := F3.out D
              go_simp
              exact (st1_no (i := 21) (k := 17) (by decide)).symm
            | 18, ho, hD, hpre =>
              cases (show some _ = some o from ho)
              have e138 := ev_nfK (hV 17 138 rfl)
              have f21 : D 21 = false := by
                cases hh : D 21 with
                | false => rfl
                | true => have h1 := hcl 21 19 hh (by kernel_rfl); have h2 := hcl 19 18 h1 (by kernel_rfl); simp_all
              have hl := hlu
              rw [st1_off f21]
              go_simp
              exact ((st1_no (i := 21) (k := 18) (by decide)).trans (st1_off f21)).symm
            | 19, ho, hD, hpre =>
              cases (show some _ = some o from ho)
              have e132 := ev_nfK (hV 11 132 rfl)
              have e139 := ev_nfK (hV 18 139 rfl)
              have x1 := FX.out D
              have x2 := F2.out D
              have x3 := F3.out D
              go_simp
              exact (st1_no (i := 21) (k := 19) (by decide)).symm
            | 20, ho, hD, hpre =>
              cases (show some _ = some o from ho)
              have e124 := ev_nfK (hV 3 124 rfl)
              have e125 := ev_nfK (hV 4 125 rfl)
              have x1 := FX.out D
              have x2 := F2.out D
              have x3 := F3.out D
              go_simp
              exact (st1_no (i := 21) (k := 20) (by decide)).symm
            | 21, ho, hD, hpre =>
              cases (show some _ = some o from ho)
              have e140 := ev_nfK (hV 19 140 rfl)
              have e141 := ev_nfK (hV 20 141 rfl)
              have mm := hmv
              rw [st1_off hD]
              go_simp
              simp [st1]
              rfl
            | n + 22, ho, hD, hpre => cases (show none = some o from ho)
          case he16 => exact ⟨rfl, FIN.out⟩
        · have h0 : gi sp.met u = 0 := by have := HPOS.out; omega
          have I3 := hide (IH2.out h0)
          have HK6 := hide (HK5.out h0)
          have HE := hide (show BwS.edge (br E n) v by_ i u sp = ((br E n u i sp).lower v (gi (br E n u i sp).low u)).back v i u from by unfold BwS.edge; rw [if_neg hby, if_neg hpos])
          have hmz : Holds W ⟨b.bm, u, none⟩ (.int .i64 0) := by rw [← h0]; exact hmu
          have hpB : ¬ (0 : Int) < 0 := by omega
          clear hby hpos h0 IH2 HK5 HPOS hmu
          gi_wp2_with (gi_at_call 88; refine (calls_in (wideF_round l2) I3.out).mono ?_; rintro e w5 ⟨rfl, A5, c5, h5, t5, o5⟩; have H5 := hide h5; have T5 := hide t5; have O5 := hide o5; clear h5 t5 o5)
          obtain ⟨sq, hsq⟩ : ∃ sq, sq = br E n u i sp := ⟨_, rfl⟩
          rw [← hsq] at H5 HE HK6
          clear hsq I3
          have hok5 := HK6.out.1
          have hl5 : sq.low.length = b.N := hok5.l
          have hm5 : sq.met.length = b.N := hok5.m
          have z1 : Arr w5 b.bx 138 [.pointer (some ⟨b.ba, 0, none⟩), .slice (some ⟨b.bm, 0, none⟩) b.N b.N, .slice (some ⟨b.bl, 0, none⟩) b.N b.N, .int .i64 sq.now, .slice A5 sq.cuts.length c5] := H5.out.x
          have z2 := y2.touch T5.out (hb23.out A4 (fun k hk => .inl hk)).1
          have z3 := y3.touch T5.out (hb23.out A4 (fun k hk => .inl hk)).2.1
          have hlv : Holds w5 ⟨b.bl, v, none⟩ (.int .i64 (gi sq.low v)) := ⟨by rw [H5.out.l.cell]; simp [gi, show v < sq.low.length by omega]⟩
          have hlu : Holds w5 ⟨b.bl, u, none⟩ (.int .i64 (gi sq.low u)) := ⟨by rw [H5.out.l.cell]; simp [gi, show u < sq.low.length by omega]⟩
          have hmv : Mine w5 ⟨b.bl, v, none⟩ (.int .i64 (gi sq.low v)) := H5.out.l.mine v (by simp [gi, show v < sq.low.length by omega])
          have n1 : b.bl ≠ b.bx := Ne.symm nl
          have n2 : b.bl ≠ b2 := fun e => (hb23.out A4 (fun k hk => .inl hk)).1 (.inl (.inr (.inr e.symm)))
          have n3 : b.bl ≠ b3 := fun e => (hb23.out A4 (fun k hk => .inl hk)).2.1 (.inl (.inr (.inr e.symm)))
          have HX5 := hide (show BwC b A W3 A5 c5 (sq.lower v (gi sq.low u)) Mi (w5.drew.setCell ⟨b.bl, v, none⟩ (.int .i64 (min (gi sq.low v) (gi sq.low u)))) from ((HCC.out.call H5.out T5.out O5.out).grow (Grows.refl _).drew).lower v (gi sq.low u))
          have TX5 := hide (show Touch (BwOwn b A4) W (w5.drew.setCell ⟨b.bl, v, none⟩ (.int .i64 (min (gi sq.low v) (gi sq.low u)))) from (T5.out.drew).set (.inl (.inl (.inr (.inr rfl)))) _)
          have OA5 := hide O5.out
          have O5' := hide (show ¬ BwOwn b A5 b2 ∧ ¬ BwOwn b A5 b3 from ⟨(hb23.out A5 O5.out).1, (hb23.out A5 O5.out).2.1⟩)
          have hcl : sq.cuts.length ≤ 4096 := by have h1 := hok5.cl; have h2 := hok5.le; omega
          have HZ2 := hide ((z2.grow (Grows.refl _).drew).other (p := ⟨b.bl, v, none⟩) (by exact n2) (.int .i64 (min (gi sq.low v) (gi sq.low u))))
          have HZ3 := hide ((z3.grow (Grows.refl _).drew).other (p := ⟨b.bl, v, none⟩) (by exact n3) (.int .i64 (min (gi sq.low v) (gi sq.low u))))
          clear H5 T5 O5 HK6 hok5 HCC y1 y2 y3 y4 hmz hb9 hlow HOKP hb23
          obtain ⟨s5, hs5⟩ : ∃ s5, s5 = sq.lower v (gi sq.low u) := ⟨_, rfl⟩
          rw [← hs5] at HX5 HE
          have hc5 : s5.cuts.length ≤ 4096 := by rw [hs5]; exact hcl
          have hm6 : s5.met.length = b.N := by rw [hs5]; exact hm5
          have hl6 : s5.low.length = b.N := by rw [hs5]; simpa [BwS.lower] using hl5
          clear hs5 hcl hm5 hl5
          generalize gi sq.low v = lv at *
          generalize gi sq.low u = lu at *
          generalize sq.cuts.length = ns at *
          generalize sq.now = nw at *
          have FX := hide (fun D => st1_arr (D := D) (i := 21) (p := ⟨b.bl, v, none⟩) (v := .int .i64 (min lv lu)) (z1.grow (Grows.refl _).drew) (by exact n1))
          have F2 := hide (fun D => st1_arr (D := D) (i := 21) (p := ⟨b.bl, v, none⟩) (v := .int .i64 (min lv lu)) (z2.grow (Grows.refl _).drew) (by exact n2))
          have F3 := hide (fun D => st1_arr (D := D) (i := 21) (p := ⟨b.bl, v, none⟩) (v := .int .i64 (min lv lu)) (z3.grow (Grows.refl _).drew) (by exact n3))
          clear z1 z2 z3 sq
          refine wpIn_region_know (by kernel_rfl) (wideF_round l2) (by kernel_rfl) (by kernel_rfl) (by kernel_rfl) (by kernel_rfl) (by kernel_rfl) (fun j => ([.pointer (some ⟨b.bx, 0, none⟩), .pointer (some ⟨b.bx, 0, none⟩), .pointer (some ⟨b.bx, 2, none⟩), .slice (some ⟨b.bl, 0, none⟩) b.N b.N, .int .i64 (v : Int), .pointer (some ⟨b.bx, 0, none⟩), .pointer (some ⟨b.bx, 0, none⟩), .pointer (some ⟨b.bx, 2, none⟩), .slice (some ⟨b.bl, 0, none⟩) b.N b.N, .int .i64 (v : Int), .pointer (some ⟨b.bl, v, none⟩), .int .i64 lv, .pointer (some ⟨b.bx, 0, none⟩), .pointer (some ⟨b.bx, 0, none⟩), .pointer (some ⟨b.bx, 2, none⟩), .slice (some ⟨b.bl, 0, none⟩) b.N b.N, .int .i64 (u : Int), .pointer (some ⟨b.bl, u, none⟩), .int .i64 lu, .int .i64 (min lv lu), .pointer (some ⟨b.bl, v, none⟩), undef] : List Value).getD j undef) (st1 w5.drew 21 ⟨b.bl, v, none⟩ (.int .i64 (min lv lu))) (st1_start (by decide)) ?hs11 ?he11
          case hs11 =>
            intro a hV hO i o ho D hcl hD hpre
            match i, ho, hD, hpre with
            | 0, ho, hD, hpre =>
              cases (show some _ = some o from ho)
              have e3 := ev_nfK ((hO 3 (notDstK (by kernel_rfl))).trans rfl)
              have x1 := FX.out D
              have x2 := F2.out D
              have x3 := F3.out D
              go_simp
              exact (st1_no (i := 21) (k := 0) (by decide)).symm
            | 1, ho, hD, hpre =>
              cases (show some _ = some o from ho)
              have e62 := ev_nfK (hV 0 62 rfl)
              have x1 := FX.out D
              have x2 := F2.out D
              have x3 := F3.out D
              go_simp
              exact (st1_no (i := 21) (k := 1) (by decide)).symm
            | 2, ho, hD, hpre =>
              cases (show some _ = some o from ho)
              have e63 := ev_nfK (hV 1 63 rfl)
              have x1 := FX.out D
              have x2 := F2.out D
              have x3 := F3.out D
              go_simp
              exact (st1_no (i := 21) (k := 2) (by decide)).symm
            | 3, ho, hD, hpre =>
              cases (show some _ = some o from ho)
              have e64 := ev_nfK (hV 2 64 rfl)
              have x1 := FX.out D
              have x2 := F2.out D
              have x3 := F3.out D
              go_simp
              exact (st1_no (i := 21) (k := 3) (by decide)).symm
            | 4, ho, hD, hpre =>
              cases (show some _ = some o from ho)
              have e4 := ev_nfK ((hO 4 (notDstK (by kernel_rfl))).trans rfl)
              have x1 := FX.out D
              have x2 := F2.out D
              have x3 := F3.out D
              go_simp
              exact (st1_no (i := 21) (k := 4) (by decide)).symm
            | 5, ho, hD, hpre =>
              cases (show some _ = some o from ho)
              have e3 := ev_nfK ((hO 3 (notDstK (by kernel_rfl))).trans rfl)
              have x1 := FX.out D
              have x2 := F2.out D
              have x3 := F3.out D
              go_simp
              exact (st1_no (i := 21) (k := 5) (by decide)).symm
            | 6, ho, hD, hpre =>
              cases (show some _ = some o from ho)
              have e67 := ev_nfK (hV 5 67 rfl)
              have x1 := FX.out D
              have x2 := F2.out D
              have x3 := F3.out D
              go_simp
              exact (st1_no (i := 21) (k := 6) (by decide)).symm
            | 7, ho, hD, hpre =>
              cases (show some _ = some o from ho)
              have e68 := ev_nfK (hV 6 68 rfl)
              have x1 := FX.out D
              have x2 := F2.out D
              have x3 := F3.out D
              go_simp
              exact (st1_no (i := 21) (k := 7) (by decide)).symm
            | 8, ho, hD, hpre =>
              cases (show some _ = some o from ho)
              have e69 := ev_nfK (hV 7 69 rfl)
              have x1 := FX.out D
              have x2 := F2.out D
              have x3 := F3.out D
              go_simp
              exact (st1_no (i := 21) (k := 8) (by decide)).symm
            | 9, ho, hD, hpre =>
              cases (show some _ = some o from ho)
              have e4 := ev_nfK ((hO 4 (notDstK (by kernel_rfl))).trans rfl)
              have x1 := FX.out D
              have x2 := F2.out D
              have x3 := F3.out D
              go_simp
              exact (st1_no (i := 21) (k := 9) (by decide)).symm
            | 10, ho, hD, hpre =>
              cases (show some _ = some o from ho)
              have e70 := ev_nfK (hV 8 70 rfl)
              have e71 := ev_nfK (hV 9 71 rfl)
              have x1 := FX.out D
              have x2 := F2.out D
              have x3 := F3.out D
              go_simp
              exact (st1_no (i := 21) (k := 10) (by decide)).symm
            | 11, ho, hD, hpre =>
              cases (show some _ = some o from ho)
              have e72 := ev_nfK (hV 10 72 rfl)
              have f21 : D 21 = false := by
                cases hh : D 21 with
                | false => rfl
                | true => have h1 := hcl 21 19 hh (by kernel_rfl); have h2 := hcl 19 11 h1 (by kernel_rfl); simp_all
              have hl := hlv
              rw [st1_off f21]
              go_simp
              exact ((st1_no (i := 21) (k := 11) (by decide)).trans (st1_off f21)).symm
            | 12, ho, hD, hpre =>
              cases (show some _ = some o from ho)
              have e3 := ev_nfK ((hO 3 (notDstK (by kernel_rfl))).trans rfl)
              have x1 := FX.out D
              have x2 := F2.out D
              have x3 := F3.out D
              go_simp
              exact (st1_no (i := 21) (k := 12) (by decide)).symm
            | 13, ho, hD, hpre =>
              cases (show some _ = some o from ho)
              have e74 := ev_nfK (hV 12 74 rfl)
              have x1 := FX.out D
              have x2 := F2.out D
              have x3 := F3.out D
              go_simp
              exact (st1_no (i := 21) (k := 13) (by decide)).symm
            | 14, ho, hD, hpre =>
              cases (show some _ = some o from ho)
              have e75 := ev_nfK (hV 13 75 rfl)
              have x1 := FX.out D
              have x2 := F2.out D
              have x3 := F3.out D
              go_simp
              exact (st1_no (i := 21) (k := 14) (by decide)).symm
            | 15, ho, hD, hpre =>
              cases (show some _ = some o from ho)
              have e76 := ev_nfK (hV 14 76 rfl)
              have x1 := FX.out D
              have x2 := F2.out D
              have x3 := F3.out D
              go_simp
              exact (st1_no (i := 21) (k := 15) (by decide)).symm
            | 16, ho, hD, hpre =>
              cases (show some _ = some o from ho)
              have e10 := ev_nfK ((hO 10 (notDstK (by kernel_rfl))).trans rfl)
              have x1 := FX.out D
              have x2 := F2.out D
              have x3 := F3.out D
              go_simp
              exact (st1_no (i := 21) (k := 16) (by decide)).symm
            | 17, ho, hD, hpre =>
              cases (show some _ = some o from ho)
              have e77 := ev_nfK (hV 15 77 rfl)
              have e78 := ev_nfK (hV 16 78 rfl)
              have x1 := FX.out D
              have x2 := F2.out D
              have x3 := F3.out D
              go_simp
              exact (st1_no (i := 21) (k := 17) (by decide)).symm
            | 18, ho, hD, hpre =>
              cases (show some _ = some o from ho)
              have e79 := ev_nfK (hV 17 79 rfl)
              have f21 : D 21 = false := by
                cases hh : D 21 with
                | false => rfl
                | true => have h1 := hcl 21 19 hh (by kernel_rfl); have h2 := hcl 19 18 h1 (by kernel_rfl); simp_all
              have hl := hlu
              rw [st1_off f21]
              go_simp
              exact ((st1_no (i := 21) (k := 18) (by decide)).trans (st1_off f21)).symm
            | 19, ho, hD, hpre =>
              cases (show some _ = some o from ho)
              have e73 := ev_nfK (hV 11 73 rfl)
              have e80 := ev_nfK (hV 18 80 rfl)
              have x1 := FX.out D
              have x2 := F2.out D
              have x3 := F3.out D
              go_simp
              exact (st1_no (i := 21) (k := 19) (by decide)).symm
            | 20, ho, hD, hpre =>
              cases (show some _ = some o from ho)
              have e65 := ev_nfK (hV 3 65 rfl)
              have e66 := ev_nfK (hV 4 66 rfl)
              have x1 := FX.out D
              have x2 := F2.out D
              have x3 := F3.out D
              go_simp
              exact (st1_no (i := 21) (k := 20) (by decide)).symm
            | 21, ho, hD, hpre =>
              cases (show some _ = some o from ho)
              have e81 := ev_nfK (hV 19 81 rfl)
              have e82 := ev_nfK (hV 20 82 rfl)
              have mm := hmv
              rw [st1_off hD]
              go_simp
              simp [st1]
              rfl
            | n + 22, ho, hD, hpre => cases (show none = some o from ho)
          case he11 =>
            simp only [putAll, dstOf, List.length_cons, List.length_nil, Nat.reduceAdd, List.getElem?_cons_zero, List.getElem?_cons_succ, Option.bind_some, List.getD_cons_zero, List.getD_cons_succ, Act.put, List.setIfInBounds_toArray, List.set_cons_zero, List.set_cons_succ]
            have e6 : st1 w5.drew 21 ⟨b.bl, v, none⟩ (.int .i64 (min lv lu)) (fun _ => true) = w5.drew.setCell ⟨b.bl, v, none⟩ (.int .i64 (min lv lu)) := rfl
            rw [e6]
            clear e6 FX F2 F3 hlv hlu hmv
            have q2 := HZ2.out
            have q3 := HZ3.out
            clear HZ2 HZ3
            generalize w5.drew.setCell ⟨b.bl, v, none⟩ (.int .i64 (min lv lu)) = w6 at *
            have q1 : Arr w6 b.bx 138 [.pointer (some ⟨b.ba, 0, none⟩), .slice (some ⟨b.bm, 0, none⟩) b.N b.N, .slice (some ⟨b.bl, 0, none⟩) b.N b.N, .int .i64 s5.now, .slice A5 s5.cuts.length c5] := HX5.out.is.x
            have c1 : Holds w6 ⟨b.bl, u, none⟩ (.int .i64 (gi s5.low u)) := ⟨by rw [HX5.out.is.l.cell]; simp [gi, show u < s5.low.length by omega]⟩
            have c2 : Holds w6 ⟨b.bm, v, none⟩ (.int .i64 (gi s5.met v)) := ⟨by rw [HX5.out.is.m.cell]; simp [gi, show v < s5.met.length by omega]⟩
            by_cases hct : gi s5.met v < gi s5.low u
            · have HE2 := hide (show s5.back v i u = { s5 with cuts := s5.cuts ++ [i] } from if_pos hct)
              have hctB : decide (gi s5.met v < gi s5.low u) = true := decide_eq_true hct
              clear hct
              generalize gi s5.low u = lo at *
              generalize gi s5.met v = me at *
              gi_wp2_with fail
              refine wpIn_region_from (wideF_round l2) (by kernel_rfl) (by kernel_rfl) (by kernel_rfl) (Grows.refl _) ?_
              (repeat' (first | (refine gLex_val0 rfl (by kernel_rfl) (fun K hK => ?_); (go_simp; (try (simp only [↓IntWalk.iteOmega]; try go_simp)); (try simp (disch := omega) only [IntWalk.i64_in]); (try simp (disch := omega) only [IntWalk.u64_in]); first | (refine hK _ ?_; clear hK K) | (apply Exists.intro; refine ⟨fun x => ?_, hK _ ?_⟩; (first | fail); clear hK K))) | (refine gLex_undef rfl rfl rfl (by kernel_rfl) (fun K hK => ?_); go_simp; refine hK _ ?_; clear hK K) | (refine gLex_ask rfl rfl rfl ?_; first | (apply gAsk_yes; kernel_rfl; intro K hK; (go_simp; (try (simp only [↓IntWalk.iteOmega]; try go_simp)); (try simp (disch := omega) only [IntWalk.i64_in]); (try simp (disch := omega) only [IntWalk.u64_in]); first | (refine hK _ ?_; clear hK K) | (apply Exists.intro; refine ⟨fun x => ?_, hK _ ?_⟩; (first | fail); clear hK K))) | ((first | apply gAsk_no1 | apply gAsk_no2); kernel_rfl; intro K hK; simp [go_sem]; refine hK _ ?_; clear hK K))))
              refine gLex_end (fun y => ?_)
              have HX7 := hide (HX5.out.grow y.grows)
              have HX6 := hide HX7.out.is
              have TX7 := hide (TX5.out.grows y.grows)
              have FB := hide (fun (w1 : World) (ht : Touch (fun k => k = b.bx ∨ ∃ p, A5 = some p ∧ p.block = k) y.now w1) => (q2.grow y.grows).touch ht (fun e => by
                rcases e with e | ⟨p, hp, e⟩
                · exact O5'.out.1 (.inl (.inl e))
                · exact O5'.out.1 (.inr ⟨p, hp, e⟩)))
              clear q1 q2 q3 c1 c2 TX5 hctB HX5
              generalize y.now = w7 at *
              gi_wp2_with fail
              obtain ⟨V, hV⟩ : ∃ V : Nat → Option Value, V = (fun j => ([some (.pointer (some ⟨b.bx, 0, none⟩)), some (.pointer (some ⟨b.bx, 0, none⟩)), some (.pointer (some ⟨b.bx, 0, none⟩)), some (.pointer (some ⟨b.bx, 4, none⟩)), some (.slice A5 s5.cuts.length c5), some (.int .i64 (i : Int)), none, none, some (.pointer (some ⟨b.bx, 0, none⟩)), some (.pointer (some ⟨b.bx, 4, none⟩)), none] : List (Option Value)).getD j none) := ⟨_, rfl⟩
              refine wpIn_region_tab (by kernel_rfl) (wideF_round l2) (by kernel_rfl) (by kernel_rfl) (by kernel_rfl) (BwR b A5 c5 s5 i w7 V) ?h013 ?hs13 ?he13
              case h013 =>
                refine ⟨fun j u hu hD => ?_, (Touch.refl _ w7).drew, fun h => absurd h (by decide), fun _ => HX6.out.o.grows (Grows.refl w7).drew, fun h => absurd h (by decide), HX6.out.x.grow (Grows.refl w7).drew⟩
                have h9 : V j = none := by rw [hV]; show List.getD _ j none = none; rw [List.getD_eq_getElem?_getD, List.getElem?_eq_none (by simpa using hD)]; rfl
                rw [h9] at hu; cases hu
              case hs13 =>
                intro D g a w1 ht hj hcl i' o ho hD hpre K hK
                match i', ho, hD, hpre, hK with
                | 0, ho, hD, hpre, hK =>
                  cases (show some _ = some o from ho)
                  rw [if_pos (by rfl)]
                  refine wpIn_of_runs (q := fun u w' => K (a.put _ u) w') (wideF_round l2) (by kernel_rfl) ?_ (fun u w' h => h)
                  have e3 := ev_nfK ((ht.out 3 (notDstK (by kernel_rfl))).trans rfl)
                  have x2 := FB.out w1 hj.touch
                  go_simp
                  exact hK _ _ (hj.plain (Grows.refl w1) (by decide) (fun u hu => by rw [hV] at hu; exact Option.some.inj (show some _ = some u from hu)))
                | 1, ho, hD, hpre, hK =>
                  cases (show some _ = some o from ho)
                  rw [if_pos (by rfl)]
                  refine wpIn_of_runs (q := fun u w' => K (a.put _ u) w') (wideF_round l2) (by kernel_rfl) ?_ (fun u w' h => h)
                  have e3 := ev_nfK ((ht.out 3 (notDstK (by kernel_rfl))).trans rfl)
                  have x2 := FB.out w1 hj.touch
                  go_simp
                  exact hK _ _ (hj.plain (Grows.refl w1) (by decide) (fun u hu => by rw [hV] at hu; exact Option.some.inj (show some _ = some u from hu)))
                | 2, ho, hD, hpre, hK =>
                  cases (show some _ = some o from ho)
                  rw [if_pos (by rfl)]
                  refine wpIn_of_runs (q := fun u w' => K (a.put _ u) w') (wideF_round l2) (by kernel_rfl) ?_ (fun u w' h => h)
                  have e99 := ev_nfK ((ht.at_ 1 99 rfl (hpre 1 (by kernel_rfl))).trans (hj.cs 1 _ (by rw [hV]; rfl) (hpre 1 (by kernel_rfl))))
                  go_simp
                  exact hK _ _ (hj.plain (Grows.refl w1) (by decide) (fun u hu => by rw [hV] at hu; exact Option.some.inj (show some _ = some u from hu)))
                | 3, ho, hD, hpre, hK =>
                  cases (show some _ = some o from ho)
                  rw [if_pos (by rfl)]
                  refine wpIn_of_runs (q := fun u w' => K (a.put _ u) w') (wideF_round l2) (by kernel_rfl) ?_ (fun u w' h => h)
                  have e100 := ev_nfK ((ht.at_ 2 100 rfl (hpre 2 (by kernel_rfl))).trans (hj.cs 2 _ (by rw [hV]; rfl) (hpre 2 (by kernel_rfl))))
                  have x1 := hj.x
                  go_simp
                  exact hK _ _ (hj.plain (Grows.refl w1) (by decide) (fun u hu => by rw [hV] at hu; exact Option.some.inj (show some _ = some u from hu)))
                | 4, ho, hD, hpre, hK =>
                  cases (show some _ = some o from ho)
                  rw [if_pos (by rfl)]
                  refine wpIn_of_runs (q := fun u w' => K (a.put _ u) w') (wideF_round l2) (by kernel_rfl) ?_ (fun u w' h => h)
                  have e101 := ev_nfK ((ht.at_ 3 101 rfl (hpre 3 (by kernel_rfl))).trans (hj.cs 3 _ (by rw [hV]; rfl) (hpre 3 (by kernel_rfl))))
                  have f7 : D 7 = false := by
                    cases hh : D 7 with
                    | false => rfl
                    | true => have := hcl 7 4 hh (by kernel_rfl); simp_all
                  have f10 : D 10 = false := by
                    cases hh : D 10 with
                    | false => rfl
                    | true => have := hcl 10 7 hh (by kernel_rfl); simp_all
                  have x1 := hj.x
                  rw [f10] at x1
                  simp only [Bool.false_eq_true, if_false] at x1
                  go_simp
                  exact hK _ _ (hj.plain (Grows.refl w1) (by decide) (fun u hu => by rw [hV] at hu; exact Option.some.inj (show some _ = some u from hu)))
                | 5, ho, hD, hpre, hK =>
                  cases (show some _ = some o from ho)
                  rw [if_pos (by rfl)]
                  refine wpIn_of_runs (q := fun u w' => K (a.put _ u) w') (wideF_round l2) (by kernel_rfl) ?_ (fun u w' h => h)
                  have e8 := ev_nfK ((ht.out 8 (notDstK (by kernel_rfl))).trans rfl)
                  go_simp
                  exact hK _ _ (hj.plain (Grows.refl w1) (by decide) (fun u hu => by rw [hV] at hu; exact Option.some.inj (show some _ = some u from hu)))
                | 6, ho, hD, hpre, hK =>
                  cases (show some _ = some o from ho)
                  rw [if_pos (by rfl)]
                  refine wpIn_of_runs (q := fun u w' => K (a.put _ u) w') (wideF_round l2) (by kernel_rfl) ?_ (fun u w' h => h)
                  have e103 := ev_nfK ((ht.at_ 5 103 rfl (hpre 5 (by kernel_rfl))).trans (hj.cs 5 _ (by rw [hV]; rfl) (hpre 5 (by kernel_rfl))))
                  go_simp
                  exact hK _ _ (hj.litS (by rw [hV]; rfl))
                | 7, ho, hD, hpre, hK =>
                  cases (show some _ = some o from ho)
                  have f10 : D 10 = false := by
                    cases hh : D 10 with
                    | false => rfl
                    | true => have := hcl 10 7 hh (by kernel_rfl); simp_all
                  have e102 := (ht.at_ 4 102 rfl (hpre 4 (by kernel_rfl))).trans (hj.cs 4 _ (by rw [hV]; rfl) (hpre 4 (by kernel_rfl)))
                  obtain ⟨q, eq, hq, hqW⟩ := hj.lit (hpre 6 (by kernel_rfl)) hD
                  have e104 := (ht.at_ 6 104 rfl (hpre 6 (by kernel_rfl))).trans eq
                  exact step_appIn (wideF_round l2) elemInt rfl (.tmp 102) (.tmp 104) rfl _ c5 A5 (nv s5.cuts) e102 (hj.old hD) q 1 (.int .i64 (i : Int)) e104 hq rfl (by omega) (fun A2 c2 w2 ho2 ht2 hA2 => hK _ _ (hj.appS HX6.out (by rw [hV]; rfl) f10 ho2 ht2 hA2))
                | 8, ho, hD, hpre, hK =>
                  cases (show some _ = some o from ho)
                  rw [if_pos (by rfl)]
                  refine wpIn_of_runs (q := fun u w' => K (a.put _ u) w') (wideF_round l2) (by kernel_rfl) ?_ (fun u w' h => h)
                  have e98 := ev_nfK ((ht.at_ 0 98 rfl (hpre 0 (by kernel_rfl))).trans (hj.cs 0 _ (by rw [hV]; rfl) (hpre 0 (by kernel_rfl))))
                  go_simp
                  exact hK _ _ (hj.plain (Grows.refl w1) (by decide) (fun u hu => by rw [hV] at hu; exact Option.some.inj (show some _ = some u from hu)))
                | 9, ho, hD, hpre, hK =>
                  cases (show some _ = some o from ho)
                  rw [if_pos (by rfl)]
                  refine wpIn_of_runs (q := fun u w' => K (a.put _ u) w') (wideF_round l2) (by kernel_rfl) ?_ (fun u w' h => h)
                  have e106 := ev_nfK ((ht.at_ 8 106 rfl (hpre 8 (by kernel_rfl))).trans (hj.cs 8 _ (by rw [hV]; rfl) (hpre 8 (by kernel_rfl))))
                  go_simp
                  exact hK _ _ (hj.plain (Grows.refl w1) (by decide) (fun u hu => by rw [hV] at hu; exact Option.some.inj (show some _ = some u from hu)))
                | 10, ho, hD, hpre, hK =>
                  cases (show some _ = some o from ho)
                  rw [if_pos (by rfl)]
                  refine wpIn_of_runs (q := fun u w' => K (a.put _ u) w') (wideF_round l2) (by kernel_rfl) ?_ (fun u w' h => h)
                  have e107 := ev_nfK ((ht.at_ 9 107 rfl (hpre 9 (by kernel_rfl))).trans (hj.cs 9 _ (by rw [hV]; rfl) (hpre 9 (by kernel_rfl))))
                  obtain ⟨A2, c2, e7, _⟩ := hj.new (hpre 7 (by kernel_rfl))
                  have e105 := ev_nfK ((ht.at_ 7 105 rfl (hpre 7 (by kernel_rfl))).trans e7)
                  have hh := hj.stS (u := undef) (by rw [hV]; rfl) (hpre 7 (by kernel_rfl))
                  rw [e7] at hh
                  have m4 := hj.x.mine 4 rfl
                  clear e7
                  go_simp
                  exact hK _ _ hh
                | n + 11, ho, hD, hpre, hK => cases (show none = some o from ho)
              case he13 =>
                intro D g w8 hj hD
                obtain ⟨A8, c8, hfin, htf, hown⟩ := hj.fin HX6.out hD
                have HF8 := hide (HX7.out.call hfin htf hown)
                have HT8 := hide (TX7.out.trans2 htf (fun k hk => OA5.out k hk))
                rw [HE2.out] at HE
                exact ⟨rfl, CR.out A8 c8 _ w8 HE.out.symm HT8.out HF8.out⟩
            · have HE2 := hide (show s5.back v i u = s5 from if_neg hct)
              have hctB : decide (gi s5.met v < gi s5.low u) = false := decide_eq_false hct
              rw [HE2.out] at HE
              clear hct HE2
              generalize gi s5.low u = lo at *
              generalize gi s5.met v = me at *
              gi_wp2_with fail
              refine wpIn_region_from (wideF_round l2) (by kernel_rfl) (by kernel_rfl) (by kernel_rfl) (Grows.refl _) ?_
              (repeat' (first | (refine gLex_val0 rfl (by kernel_rfl) (fun K hK => ?_); (go_simp; (try (simp only [↓IntWalk.iteOmega]; try go_simp)); (try simp (disch := omega) only [IntWalk.i64_in]); (try simp (disch := omega) only [IntWalk.u64_in]); first | (refine hK _ ?_; clear hK K) | (apply Exists.intro; refine ⟨fun x => ?_, hK _ ?_⟩; (first | fail); clear hK K))) | (refine gLex_undef rfl rfl rfl (by kernel_rfl) (fun K hK => ?_); go_simp; refine hK _ ?_; clear hK K) | (refine gLex_ask rfl rfl rfl ?_; first | (apply gAsk_yes; kernel_rfl; intro K hK; (go_simp; (try (simp only [↓IntWalk.iteOmega]; try go_simp)); (try simp (disch := omega) only [IntWalk.i64_in]); (try simp (disch := omega) only [IntWalk.u64_in]); first | (refine hK _ ?_; clear hK K) | (apply Exists.intro; refine ⟨fun x => ?_, hK _ ?_⟩; (first | fail); clear hK K))) | ((first | apply gAsk_no1 | apply gAsk_no2); kernel_rfl; intro K hK; simp [go_sem]; refine hK _ ?_; clear hK K))))
              refine gLex_end (fun y => ?_)
              have FIN := hide (CR.out A5 c5 _ y.now HE.out.symm (TX5.out.grows y.grows) (HX5.out.grow y.grows))
              clear q1 q2 q3 c1 c2 TX5 HX5
              generalize y.now = w7 at *
              gi_wp2
              exact FIN.out
    case stop => exact fun _ _ _ _ _ _ _ _ _ _ h => h.elim
    case done =>
      intro Dd6 Mi Wd6 hlD hMD hI hDW
      obtain ⟨A6, c6, hc⟩ := hI
      have hmem : ∀ i ∈ rowN (nN E false) E.length v, i < E.length := fun i hi => by simp [rowN] at hi; exact hi.1
      obtain ⟨hok, hx⟩ := HFO.out _ hmem
      have HOK6 := hide hok
      have hcn6 : Hid ((brP E (br E n) v by_ false (rowN (nN E false) E.length v) s1).met.count 0 ≤ n) := Nat.le_trans hx.cnt hcn1.out
      have HC6 := hide (HW.out.over hc)
      have hD3 : ∀ D ∈ ([] : List Nat), D < W3.heap.size := fun D hD => (Array.getElem?_eq_some_iff.1 (HM3.out.2 D hD)).1
      have HM6 := hide ((HM3.out.touch hc.tch (fun D hD => (HD0.out D hD).2)).cons hDW (fun e => by have := hD3 _ e; omega))
      have HD6 := hide (show ∀ D ∈ Dd6 :: ([] : List Nat), W2.heap.size ≤ D ∧ ¬ BwOwn b A6 D from fun D hD => by
        have h1 := hzW.out
        rcases List.mem_cons.1 hD with rfl | h
        · exact ⟨by omega, (hc.ms _ hMD).2.2⟩
        · refine ⟨(HD0.out D h).1, fun e => ?_⟩
          rcases hc.own D e with h2 | h2
          · exact (HD0.out D h).2 h2
          · have := hD3 D h; omega)
      clear hok hx hmem hc hD3 hlD hMD hDW HFO HM3 hB3 hn2 hFlo hzW HA3 j2 j3 j4 HW hi3 hg3 i1 i2 i3 hb1
      rw [hfr]
      clear hfr fr
      gi_wp2
      go_wp2_with fail
      generalize brP E (br E n) v by_ false (rowN (nN E false) E.length v) s1 = s2 at *
      show Code.wp _ _ _ _ _
      -- ROUND true
      have x1 : Arr Wd6 b.bx 138 [.pointer (some ⟨b.ba, 0, none⟩), .slice (some ⟨b.bm, 0, none⟩) b.N b.N, .slice (some ⟨b.bl, 0, none⟩) b.N b.N, .int .i64 s2.now, .slice A6 s2.cuts.length c6] := HC6.out.is.x
      have t2 : Arr Wd6 b2 136 _ := HC6.out.arr z2 HN2.out.1
      have t3 : Arr Wd6 b3 3 _ := HC6.out.arr z3 HN2.out.2.1
      have t4 : Arr Wd6 b4 3 _ := HC6.out.arr z4 HN2.out.2.2
      go_wp2_with fail
      refine wp_region_gen (by kernel_rfl) (by kernel_rfl) ?_
      (repeat' (first | (refine gLex_val0 rfl (by kernel_rfl) (fun K hK => ?_); (go_simp; (try (simp only [↓IntWalk.iteOmega]; try go_simp)); (try simp (disch := omega) only [IntWalk.i64_in]); (try simp (disch := omega) only [IntWalk.u64_in]); first | (refine hK _ ?_; clear hK K) | (apply Exists.intro; refine ⟨fun x => ?_, hK _ ?_⟩; (first | fail); clear hK K))) | (refine gLex_undef rfl rfl rfl (by kernel_rfl) (fun K hK => ?_); go_simp; refine hK _ ?_; clear hK K) | (refine gLex_ask rfl rfl rfl ?_; first | (apply gAsk_yes; kernel_rfl; intro K hK; (go_simp; (try (simp only [↓IntWalk.iteOmega]; try go_simp)); (try simp (disch := omega) only [IntWalk.i64_in]); (try simp (disch := omega) only [IntWalk.u64_in]); first | (refine hK _ ?_; clear hK K) | (apply Exists.intro; refine ⟨fun x => ?_, hK _ ?_⟩; (first | fail); clear hK K))) | ((first | apply gAsk_no1 | apply gAsk_no2); kernel_rfl; intro K hK; simp [go_sem]; refine hK _ ?_; clear hK K))))
      refine gLex_prop rfl (by kernel_rfl) rfl (by simp) (EachP b.ba v true Wd6.heap.size) (EachP.lasts _ _ _ _) (fun y => by
        go_simp
        refine (adjEach b.ba v true _).mono ?_
        rintro e w' ⟨b1, rfl, hb1, i1, i2, i3, hg⟩
        exact ⟨_, rfl, hg, b1, rfl, by have := y.size; omega, i1, i2, i3⟩) ?_
      refine gLex_endQ1 (by simp) (fun y3 vv hv => ?_)
      obtain ⟨b1, rfl, hb1, i1, i2, i3⟩ := hv
      simp only [Act.put, List.setIfInBounds_toArray, List.set_cons_zero, List.set_cons_succ]
      have hg3 : Grows Wd6 y3.now := y3.grows
      generalize y3.now = W3 at *
      have hi3 := i3.lt
      go_wp2_with fail
      have HW := hide (HC6.out.grow hg3)
      have j2 : Arr W3 b2 136 _ := t2.grow hg3
      have j3 : Arr W3 b3 3 _ := t3.grow hg3
      have j4 : Arr W3 b4 3 _ := t4.grow hg3
      have HA3 := hide (HA2.out.touch HW.out.tch (fun k hk => (HF2.out k hk).2))
      have hzW : Hid (W2.heap.size ≤ Wd6.heap.size ∧ Wd6.heap.size ≤ W3.heap.size) := ⟨HC6.out.tch.size, hg3.size⟩
      have hFlo : Hid (∀ k, F k → k < W2.heap.size ∧ ¬ BwOwn b A6 k) := fun k hk => ⟨(HF2.out k hk).1, fun e => by
        rcases HC6.out.own k e with h | h
        · exact (HF2.out k hk).2 h
        · have := (HF2.out k hk).1; omega⟩
      have hn2 : Hid (¬ BwOwn b A6 b2 ∧ ¬ BwOwn b A6 b3 ∧ ¬ BwOwn b A6 b4) := by
        have q2 := z2.lt
        have q3 := z3.lt
        have q4 := z4.lt
        refine ⟨fun e => ?_, fun e => ?_, fun e => ?_⟩
        · rcases HC6.out.own _ e with h | h
          · exact HN2.out.1 h
          · omega
        · rcases HC6.out.own _ e with h | h
          · exact HN2.out.2.1 h
          · omega
        · rcases HC6.out.own _ e with h | h
          · exact HN2.out.2.2 h
          · omega
      have hB3 : Hid (∀ k, (F k ∨ (b1 ≤ k ∧ k ≤ b1 + 1 + 1)) → k < W3.heap.size ∧ ¬ BwOwn b A6 k) := fun k hk => by
        have h1 := hzW.out
        rcases hk with hk | hk
        · exact ⟨by have := (hFlo.out k hk).1; omega, (hFlo.out k hk).2⟩
        · exact ⟨by omega, fun e => by have := HC6.out.is.lts k e; omega⟩
      have HM3 := hide (HM6.out.touch (S := fun _ => False) (hg3.touch _) (fun _ _ => id))
      have HFO := hide (fun (p : List Nat) (hp : ∀ i ∈ p, i < E.length) => brP_ok hE HRC.out v by_ true p s2 hp HOK6.out hcn6.out)
      clear x1 t2 t3 t4 y3
      refine (wpIn_wide (n := 0)).1 ?_
      refine wp_frame fun fr hfr => ?_
      refine wp_rangeG (w0 := W3) (gf := 131) (by rw [hfr]; rfl) (enters_of Tryz.func131 (by kernel_rfl) rfl)
        (each_gives F (fun k => F k ∨ (b1 ≤ k ∧ k ≤ b1 + 1 + 1)) (fun _ => False) b.ba b.N E v true b1 W3 HA3.out (fun k hk => .inl (.inl hk)) hE hv (by omega) (by omega) (fun k hk => hk.elim) (.inl (.inr ⟨by omega, by omega⟩)) (.inl (.inr ⟨by omega, by omega⟩)) (.inl (.inr ⟨by omega, by omega⟩)) i1 i2 i3)
        (Keeps.refl _ _ _) (fun k hk => (hB3.out k hk).1) (fun k hk => hk.elim) (fun _ => rfl)
        (BwI b E n v by_ true s2 A6 W3) (fun _ _ _ _ => False) (BwI.yields b E n v by_ true s2 A6 W3) (fun c _ _ _ _ _ h _ _ => h.elim) ⟨A6, c6, BwC.start HW.out.is⟩
        (BwB' b E n v by_ true s2 A6 W3 fr) ?hIb ?assign ?body ?done ?stop
      case hIb => exact fun i a' => BwB'.yields b E n v by_ true s2 A6 W3 fr i a'
      case assign =>
        intro l2 p i rest Mi W hsp hI
        have HI := hide hI
        clear hI
        rw [hfr]
        unfold encE eVal
        gi_wp2
        have hgA : Grows W (W.alloc (.cells #[.int .i64 (ge E i).f, .int .i64 (ge E i).t, .int .u64 (ge E i).w] 59)) := (Grows.refl _).new _
        obtain ⟨A4, c4, hc4⟩ := HI.out
        refine ⟨⟨W.heap.size, A4, c4, ?_, hc4.grow hgA, Arr.make _ _ _, fun e => by have := (hc4.ms _ e).2.1; omega, fun e => by have := hc4.is.lts _ e; omega⟩, hgA.touch _⟩
        simp only [bwFr, eVal, List.setIfInBounds_toArray, List.set_cons_zero, List.set_cons_succ]
      case body =>
        rintro l2 p i rest Mi a' W hsp hl2 hMl hrec ⟨b9, A4, c4, rfl, hc, hb9, hm9, hn9⟩
        have hmem : ∀ j ∈ p ++ i :: rest, j < E.length ∧ nN E true j = v := fun j hj => by rw [← hsp] at hj; simpa [rowN] using hj
        have hiE := hmem i (by simp)
        have hef := hE.f i hiE.1
        have het := hE.t i hiE.1
        have hu := oN_lt (back := true) hE hiE.1
        have hto : ((fN E i : Nat) : Int) + (tN E i : Int) - (v : Int) = (oN E true i : Int) := by
          have h2 := hiE.2
          simp [nN, oN] at h2 ⊢
          omega
        obtain ⟨hok, hx⟩ := HFO.out p (fun j hj => (hmem j (by simp [hj])).1)
        have hcnt := Nat.le_trans hx.cnt hcn6.out
        have hstep := brP_snoc E (br E n) v by_ true p i s2
        obtain ⟨R, hR⟩ : ∃ R : World → Prop, R = fun w1 => Keeps (fun k => F k ∨ (b1 ≤ k ∧ k ≤ b1 + 1 + 1)) Mi W w1 ∧ BwI b E n v by_ true s2 A6 W3 (p ++ [i]) Mi w1 := ⟨_, rfl⟩
        refine wpIn_mono (Q := fun e _ w1 => e = .normal ∧ R w1) ?_ (fun e a2 w2 h => by
          obtain ⟨rfl, h⟩ := h
          rw [hR] at h
          exact h)
        have CR := hide (fun (A' : Option Addr) (c' : Nat) (s' : BwS) (w1 : World) (hs : s' = brP E (br E n) v by_ true (p ++ [i]) s2) (hk : Touch (BwOwn b A4) W w1) (h : BwC b A6 W3 A' c' s' Mi w1) => show R w1 from by
          rw [hR]
          exact ⟨hc.keeps hB3.out hk, A', c', by rw [← hs]; exact h⟩)
        rw [hstep] at CR
        have hiL : i ≤ 20000 := by have := hiE.1; omega
        clear hR hstep hmem hsp hx hiE
        rw [hef.2, het.2] at hb9
        have hfx := hef.1
        have hty := het.1
        have HAW := hide (HA3.out.touch hc.tch (fun k hk => (hFlo.out k hk).2))
        generalize (ge E i).w = ew at *
        generalize brP E (br E n) v by_ true p s2 = sp at *
        generalize tN E i = ty at *
        generalize fN E i = fx at *
        generalize oN E true i = u at *
        rw [hfr]
        simp only [bwFr, List.setIfInBounds_toArray, List.set_cons_zero, List.set_cons_succ]
        have y1 : Arr W b.bx 138 [.pointer (some ⟨b.ba, 0, none⟩), .slice (some ⟨b.bm, 0, none⟩) b.N b.N, .slice (some ⟨b.bl, 0, none⟩) b.N b.N, .int .i64 sp.now, .slice A4 sp.cuts.length c4] := hc.is.x
        have y2 := hc.arr j2 hn2.out.1
        have y3 := hc.arr j3 hn2.out.2.1
        have y4 := hc.arr j4 hn2.out.2.2
        have m0 : sp.met.length = b.N := hok.m
        have hmu : Holds W ⟨b.bm, u, none⟩ (.int .i64 (gi sp.met u)) := ⟨by rw [hc.is.m.cell]; simp [gi, show u < sp.met.length by omega]⟩
        have HCC := hide hc
        have HPOS := hide (hok.pos u)
        have hz23 : Hid (W2.heap.size ≤ W.heap.size) := Nat.le_trans hzW.out.1 (Nat.le_trans hzW.out.2 hc.tch.size)
        have IH2 := hide (fun (h0 : gi sp.met u = 0) => IH.out u i A4 c4 sp W hc.is HAW.out (fun k hk => ⟨Nat.lt_of_lt_of_le (hFlo.out k hk).1 hz23.out, fun e => by
          rcases hc.own k e with h | h
          · exact (hFlo.out k hk).2 h
          · have := (hFlo.out k hk).1; have := hzW.out; omega⟩) hok hu h0 hcnt)
        have HK5 := hide (fun (h0 : gi sp.met u = 0) => HRC.out u i sp hok hu h0 hcnt)
        have hlow : sp.low.length = b.N := hok.l
        have HOKP := hide hok
        have hb23 : Hid (∀ A', (∀ k, BwOwn b A' k → BwOwn b A4 k ∨ W.heap.size ≤ k) → ¬ BwOwn b A' b2 ∧ ¬ BwOwn b A' b3 ∧ ¬ BwOwn b A' b4) := fun A' ho => by
          have l2 := y2.lt
          have l3 := y3.lt
          have l4 := y4.lt
          have q2 := j2.lt
          have q3 := j3.lt
          have q4 := j4.lt
          refine ⟨fun e => ?_, fun e => ?_, fun e => ?_⟩
          · rcases ho _ e with h | h
            · rcases hc.own _ h with h | h
              · exact hn2.out.1 h
              · omega
            · omega
          · rcases ho _ e with h | h
            · rcases hc.own _ h with h | h
              · exact hn2.out.2.1 h
              · omega
            · omega
          · rcases ho _ e with h | h
            · rcases hc.own _ h with h | h
              · exact hn2.out.2.2 h
              · omega
            · omega
        clear hc hok hcnt m0 hfr hl2 hMl hrec hm9 hn9 het hef HAW IH HFO hB3 hn2 hFlo HA3 j2 j3 j4 HW hi3 hg3 i1 i2 i3 hb1 HM3 hzW hz23 hgv HN2 HA2 HF2 HEQ z2 z3 z4 hs2
        by_cases hby : (i : Int) = by_
        · have HE := hide (show BwS.edge (br E n) v by_ i u sp = sp from if_pos hby)
          have FIN := hide (CR.out A4 c4 _ _ HE.out.symm (Touch.refl _ _) HCC.out)
          have hbB : ((i : Int) == by_) = true := by simpa using hby
          clear hby IH2 HK5 HE CR HCC hb23 hlow HOKP
          generalize gi sp.met u = mu at *
          gi_wp2
          exact FIN.out
        · have hbB : ((i : Int) == by_) = false := by simpa using hby
          by_cases hpos : 0 < gi sp.met u
          · have HE := hide (show BwS.edge (br E n) v by_ i u sp = sp.lower v (gi sp.met u) from by unfold BwS.edge; rw [if_neg hby, if_pos hpos])
            have FIN := hide (CR.out A4 c4 _ _ HE.out.symm (((Touch.refl _ W).drew).set (.inl (.inl (.inr (.inr rfl)))) _) ((HCC.out.grow (Grows.refl _).drew).lower v (gi sp.met u)))
            have hlv : Holds W ⟨b.bl, v, none⟩ (.int .i64 (gi sp.low v)) := ⟨by rw [HCC.out.is.l.cell]; simp [gi, show v < sp.low.length by omega]⟩
            have hmv : Mine W ⟨b.bl, v, none⟩ (.int .i64 (gi sp.low v)) := HCC.out.is.l.mine v (by simp [gi, show v < sp.low.length by omega])
            have n1 : b.bl ≠ b.bx := Ne.symm nl
            have n2 : b.bl ≠ b2 := fun e => (hb23.out A4 (fun k hk => .inl hk)).1 (.inl (.inr (.inr e.symm)))
            have n3 : b.bl ≠ b3 := fun e => (hb23.out A4 (fun k hk => .inl hk)).2.1 (.inl (.inr (.inr e.symm)))
            clear hby IH2 HK5 HE CR HCC hlow HOKP HPOS
            generalize gi sp.met u = mu at *
            generalize gi sp.low v = lv at *
            have hlu := hmu
            gi_wp2_with fail
            have FX := hide (fun D => st1_arr (D := D) (i := 21) (p := ⟨b.bl, v, none⟩) (v := .int .i64 (min lv mu)) (y1.grow (Grows.refl _).drew) (by exact n1))
            have F2 := hide (fun D => st1_arr (D := D) (i := 21) (p := ⟨b.bl, v, none⟩) (v := .int .i64 (min lv mu)) (y2.grow (Grows.refl _).drew) (by exact n2))
            have F3 := hide (fun D => st1_arr (D := D) (i := 21) (p := ⟨b.bl, v, none⟩) (v := .int .i64 (min lv mu)) (y3.grow (Grows.refl _).drew) (by exact n3))
            clear y1 y2 y3 y4 hb23 hmu hb9
            refine wpIn_region_know (by kernel_rfl) (wideF_round l2) (by kernel_rfl) (by kernel_rfl) (by kernel_rfl) (by kernel_rfl) (by kernel_rfl) (fun j => ([.pointer (some ⟨b.bx, 0, none⟩), .pointer (some ⟨b.bx, 0, none⟩), .pointer (some ⟨b.bx, 2, none⟩), .slice (some ⟨b.bl, 0, none⟩) b.N b.N, .int .i64 (v : Int), .pointer (some ⟨b.bx, 0, none⟩), .pointer (some ⟨b.bx, 0, none⟩), .pointer (some ⟨b.bx, 2, none⟩), .slice (some ⟨b.bl, 0, none⟩) b.N b.N, .int .i64 (v : Int), .pointer (some ⟨b.bl, v, none⟩), .int .i64 lv, .pointer (some ⟨b.bx, 0, none⟩), .pointer (some ⟨b.bx, 0, none⟩), .pointer (some ⟨b.bx, 1, none⟩), .slice (some ⟨b.bm, 0, none⟩) b.N b.N, .int .i64 (u : Int), .pointer (some ⟨b.bm, u, none⟩), .int .i64 mu, .int .i64 (min lv mu), .pointer (some ⟨b.bl, v, none⟩), undef] : List Value).getD j undef) (st1 W.drew 21 ⟨b.bl, v, none⟩ (.int .i64 (min lv mu))) (st1_start (by decide)) ?hs16 ?he16
            case hs16 =>
              intro a hV hO i o ho D hcl hD hpre
              match i, ho, hD, hpre with
              | 0, ho, hD, hpre =>
                cases (show some _ = some o from ho)
                have e3 := ev_nfK ((hO 3 (notDstK (by kernel_rfl))).trans rfl)
                have x1 := FX.out D
                have x2 := F2.out D
                have x3 := F3.out D
                go_simp
                exact (st1_no (i := 21) (k := 0) (by decide)).symm
              | 1, ho, hD, hpre =>
                cases (show some _ = some o from ho)
                have e121 := ev_nfK (hV 0 121 rfl)
                have x1 := FX.out D
                have x2 := F2.out D
                have x3 := F3.out D
                go_simp
                exact (st1_no (i := 21) (k := 1) (by decide)).symm
              | 2, ho, hD, hpre =>
                cases (show some _ = some o from ho)
                have e122 := ev_nfK (hV 1 122 rfl)
                have x1 := FX.out D
                have x2 := F2.out D
                have x3 := F3.out D
                go_simp
                exact (st1_no (i := 21) (k := 2) (by decide)).symm
              | 3, ho, hD, hpre =>
                cases (show some _ = some o from ho)
                have e123 := ev_nfK (hV 2 123 rfl)
                have x1 := FX.out D
                have x2 := F2.out D
                have x3 := F3.out D
                go_simp
                exact (st1_no (i := 21) (k := 3) (by decide)).symm
              | 4, ho, hD, hpre =>
                cases (show some _ = some o from ho)
                have e4 := ev_nfK ((hO 4 (notDstK (by kernel_rfl))).trans rfl)
                have x1 := FX.out D
                have x2 := F2.out D
                have x3 := F3.out D
                go_simp
                exact (st1_no (i := 21) (k := 4) (by decide)).symm
              | 5, ho, hD, hpre =>
                cases (show some _ = some o from ho)
                have e3 := ev_nfK ((hO 3 (notDstK (by kernel_rfl))).trans rfl)
                have x1 := FX.out D
                have x2 := F2.out D
                have x3 := F3.out D
                go_simp
                exact (st1_no (i := 21) (k := 5) (by decide)).symm
              | 6, ho, hD, hpre =>
                cases (show some _ = some o from ho)
                have e126 := ev_nfK (hV 5 126 rfl)
                have x1 := FX.out D
                have x2 := F2.out D
                have x3 := F3.out D
                go_simp
                exact (st1_no (i := 21) (k := 6) (by decide)).symm
              | 7, ho, hD, hpre =>
                cases (show some _ = some o from ho)
                have e127 := ev_nfK (hV 6 127 rfl)
                have x1 := FX.out D
                have x2 := F2.out D
                have x3 := F3.out D
                go_simp
                exact (st1_no (i := 21) (k := 7) (by decide)).symm
              | 8, ho, hD, hpre =>
                cases (show some _ = some o from ho)
                have e128 := ev_nfK (hV 7 128 rfl)
                have x1 := FX.out D
                have x2 := F2.out D
                have x3 := F3.out D
                go_simp
                exact (st1_no (i := 21) (k := 8) (by decide)).symm
              | 9, ho, hD, hpre =>
                cases (show some _ = some o from ho)
                have e4 := ev_nfK ((hO 4 (notDstK (by kernel_rfl))).trans rfl)
                have x1 := FX.out D
                have x2 := F2.out D
                have x3 := F3.out D
                go_simp
                exact (st1_no (i := 21) (k := 9) (by decide)).symm
              | 10, ho, hD, hpre =>
                cases (show some _ = some o from ho)
                have e129 := ev_nfK (hV 8 129 rfl)
                have e130 := ev_nfK (hV 9 130 rfl)
                have x1 := FX.out D
                have x2 := F2.out D
                have x3 := F3.out D
                go_simp
                exact (st1_no (i := 21) (k := 10) (by decide)).symm
              | 11, ho, hD, hpre =>
                cases (show some _ = some o from ho)
                have e131 := ev_nfK (hV 10 131 rfl)
                have f21 : D 21 = false := by
                  cases hh : D 21 with
                  | false => rfl
                  | true => have h1 := hcl 21 19 hh (by kernel_rfl); have h2 := hcl 19 11 h1 (by kernel_rfl); simp_all
                have hl := hlv
                rw [st1_off f21]
                go_simp
                exact ((st1_no (i := 21) (k := 11) (by decide)).trans (st1_off f21)).symm
              | 12, ho, hD, hpre =>
                cases (show some _ = some o from ho)
                have e3 := ev_nfK ((hO 3 (notDstK (by kernel_rfl))).trans rfl)
                have x1 := FX.out D
                have x2 := F2.out D
                have x3 := F3.out D
                go_simp
                exact (st1_no (i := 21) (k := 12) (by decide)).symm
              | 13, ho, hD, hpre =>
                cases (show some _ = some o from ho)
                have e133 := ev_nfK (hV 12 133 rfl)
                have x1 := FX.out D
                have x2 := F2.out D
                have x3 := F3.out D
                go_simp
                exact (st1_no (i := 21) (k := 13) (by decide)).symm
              | 14, ho, hD, hpre =>
                cases (show some _ = some o from ho)
                have e134 := ev_nfK (hV 13 134 rfl)
                have x1 := FX.out D
                have x2 := F2.out D
                have x3 := F3.out D
                go_simp
                exact (st1_no (i := 21) (k := 14) (by decide)).symm
              | 15, ho, hD, hpre =>
                cases (show some _ = some o from ho)
                have e135 := ev_nfK (hV 14 135 rfl)
                have x1 := FX.out D
                have x2 := F2.out D
                have x3 := F3.out D
                go_simp
                exact (st1_no (i := 21) (k := 15) (by decide)).symm
              | 16, ho, hD, hpre =>
                cases (show some _ = some o from ho)
                have e10 := ev_nfK ((hO 10 (notDstK (by kernel_rfl))).trans rfl)
                have x1 := FX.out D
                have x2 := F2.out D
                have x3 := F3.out D
                go_simp
                exact (st1_no (i := 21) (k := 16) (by decide)).symm
              | 17, ho, hD, hpre =>
                cases (show some _ = some o from ho)
                have e136 := ev_nfK (hV 15 136 rfl)
                have e137 := ev_nfK (hV 16 137 rfl)
                have x1 := FX.out D
                have x2 := F2.out D
                have x3 := F3.out D
                go_simp
                exact (st1_no (i := 21) (k := 17) (by decide)).symm
              | 18, ho, hD, hpre =>
                cases (show some _ = some o from ho)
                have e138 := ev_nfK (hV 17 138 rfl)
                have f21 : D 21 = false := by
                  cases hh : D 21 with
                  | false => rfl
                  | true => have h1 := hcl 21 19 hh (by kernel_rfl); have h2 := hcl 19 18 h1 (by kernel_rfl); simp_all
                have hl := hlu
                rw [st1_off f21]
                go_simp
                exact ((st1_no (i := 21) (k := 18) (by decide)).trans (st1_off f21)).symm
              | 19, ho, hD, hpre =>
                cases (show some _ = some o from ho)
                have e132 := ev_nfK (hV 11 132 rfl)
                have e139 := ev_nfK (hV 18 139 rfl)
                have x1 := FX.out D
                have x2 := F2.out D
                have x3 := F3.out D
                go_simp
                exact (st1_no (i := 21) (k := 19) (by decide)).symm
              | 20, ho, hD, hpre =>
                cases (show some _ = some o from ho)
                have e124 := ev_nfK (hV 3 124 rfl)
                have e125 := ev_nfK (hV 4 125 rfl)
                have x1 := FX.out D
                have x2 := F2.out D
                have x3 := F3.out D
                go_simp
                exact (st1_no (i := 21) (k := 20) (by decide)).symm
              | 21, ho, hD, hpre =>
                cases (show some _ = some o from ho)
                have e140 := ev_nfK (hV 19 140 rfl)
                have e141 := ev_nfK (hV 20 141 rfl)
                have mm := hmv
                rw [st1_off hD]
                go_simp
                simp [st1]
                rfl
              | n + 22, ho, hD, hpre => cases (show none = some o from ho)
            case he16 => exact ⟨rfl, FIN.out⟩
          · have h0 : gi sp.met u = 0 := by have := HPOS.out; omega
            have I3 := hide (IH2.out h0)
            have HK6 := hide (HK5.out h0)
            have HE := hide (show BwS.edge (br E n) v by_ i u sp = ((br E n u i sp).lower v (gi (br E n u i sp).low u)).back v i u from by unfold BwS.edge; rw [if_neg hby, if_neg hpos])
            have hmz : Holds W ⟨b.bm, u, none⟩ (.int .i64 0) := by rw [← h0]; exact hmu
            have hpB : ¬ (0 : Int) < 0 := by omega
            clear hby hpos h0 IH2 HK5 HPOS hmu
            gi_wp2_with (gi_at_call 88; refine (calls_in (wideF_round l2) I3.out).mono ?_; rintro e w5 ⟨rfl, A5, c5, h5, t5, o5⟩; have H5 := hide h5; have T5 := hide t5; have O5 := hide o5; clear h5 t5 o5)
            obtain ⟨sq, hsq⟩ : ∃ sq, sq = br E n u i sp := ⟨_, rfl⟩
            rw [← hsq] at H5 HE HK6
            clear hsq I3
            have hok5 := HK6.out.1
            have hl5 : sq.low.length = b.N := hok5.l
            have hm5 : sq.met.length = b.N := hok5.m
            have z1 : Arr w5 b.bx 138 [.pointer (some ⟨b.ba, 0, none⟩), .slice (some ⟨b.bm, 0, none⟩) b.N b.N, .slice (some ⟨b.bl, 0, none⟩) b.N b.N, .int .i64 sq.now, .slice A5 sq.cuts.length c5] := H5.out.x
            have z2 := y2.touch T5.out (hb23.out A4 (fun k hk => .inl hk)).1
            have z3 := y3.touch T5.out (hb23.out A4 (fun k hk => .inl hk)).2.1
            have hlv : Holds w5 ⟨b.bl, v, none⟩ (.int .i64 (gi sq.low v)) := ⟨by rw [H5.out.l.cell]; simp [gi, show v < sq.low.length by omega]⟩
            have hlu : Holds w5 ⟨b.bl, u, none⟩ (.int .i64 (gi sq.low u)) := ⟨by rw [H5.out.l.cell]; simp [gi, show u < sq.low.length by omega]⟩
            have hmv : Mine w5 ⟨b.bl, v, none⟩ (.int .i64 (gi sq.low v)) := H5.out.l.mine v (by simp [gi, show v < sq.low.length by omega])
            have n1 : b.bl ≠ b.bx := Ne.symm nl
            have n2 : b.bl ≠ b2 := fun e => (hb23.out A4 (fun k hk => .inl hk)).1 (.inl (.inr (.inr e.symm)))
            have n3 : b.bl ≠ b3 := fun e => (hb23.out A4 (fun k hk => .inl hk)).2.1 (.inl (.inr (.inr e.symm)))
            have HX5 := hide (show BwC b A6 W3 A5 c5 (sq.lower v (gi sq.low u)) Mi (w5.drew.setCell ⟨b.bl, v, none⟩ (.int .i64 (min (gi sq.low v) (gi sq.low u)))) from ((HCC.out.call H5.out T5.out O5.out).grow (Grows.refl _).drew).lower v (gi sq.low u))
            have TX5 := hide (show Touch (BwOwn b A4) W (w5.drew.setCell ⟨b.bl, v, none⟩ (.int .i64 (min (gi sq.low v) (gi sq.low u)))) from (T5.out.drew).set (.inl (.inl (.inr (.inr rfl)))) _)
            have OA5 := hide O5.out
            have O5' := hide (show ¬ BwOwn b A5 b2 ∧ ¬ BwOwn b A5 b3 from ⟨(hb23.out A5 O5.out).1, (hb23.out A5 O5.out).2.1⟩)
            have hcl : sq.cuts.length ≤ 4096 := by have h1 := hok5.cl; have h2 := hok5.le; omega
            have HZ2 := hide ((z2.grow (Grows.refl _).drew).other (p := ⟨b.bl, v, none⟩) (by exact n2) (.int .i64 (min (gi sq.low v) (gi sq.low u))))
            have HZ3 := hide ((z3.grow (Grows.refl _).drew).other (p := ⟨b.bl, v, none⟩) (by exact n3) (.int .i64 (min (gi sq.low v) (gi sq.low u))))
            clear H5 T5 O5 HK6 hok5 HCC y1 y2 y3 y4 hmz hb9 hlow HOKP hb23
            obtain ⟨s5, hs5⟩ : ∃ s5, s5 = sq.lower v (gi sq.low u) := ⟨_, rfl⟩
            rw [← hs5] at HX5 HE
            have hc5 : s5.cuts.length ≤ 4096 := by rw [hs5]; exact hcl
            have hm6 : s5.met.length = b.N := by rw [hs5]; exact hm5
            have hl6 : s5.low.length = b.N := by rw [hs5]; simpa [BwS.lower] using hl5
            clear hs5 hcl hm5 hl5
            generalize gi sq.low v = lv at *
            generalize gi sq.low u = lu at *
            generalize sq.cuts.length = ns at *
            generalize sq.now = nw at *
            have FX := hide (fun D => st1_arr (D := D) (i := 21) (p := ⟨b.bl, v, none⟩) (v := .int .i64 (min lv lu)) (z1.grow (Grows.refl _).drew) (by exact n1))
            have F2 := hide (fun D => st1_arr (D := D) (i := 21) (p := ⟨b.bl, v, none⟩) (v := .int .i64 (min lv lu)) (z2.grow (Grows.refl _).drew) (by exact n2))
            have F3 := hide (fun D => st1_arr (D := D) (i := 21) (p := ⟨b.bl, v, none⟩) (v := .int .i64 (min lv lu)) (z3.grow (Grows.refl _).drew) (by exact n3))
            clear z1 z2 z3 sq
            refine wpIn_region_know (by kernel_rfl) (wideF_round l2) (by kernel_rfl) (by kernel_rfl) (by kernel_rfl) (by kernel_rfl) (by kernel_rfl) (fun j => ([.pointer (some ⟨b.bx, 0, none⟩), .pointer (some ⟨b.bx, 0, none⟩), .pointer (some ⟨b.bx, 2, none⟩), .slice (some ⟨b.bl, 0, none⟩) b.N b.N, .int .i64 (v : Int), .pointer (some ⟨b.bx, 0, none⟩), .pointer (some ⟨b.bx, 0, none⟩), .pointer (some ⟨b.bx, 2, none⟩), .slice (some ⟨b.bl, 0, none⟩) b.N b.N, .int .i64 (v : Int), .pointer (some ⟨b.bl, v, none⟩), .int .i64 lv, .pointer (some ⟨b.bx, 0, none⟩), .pointer (some ⟨b.bx, 0, none⟩), .pointer (some ⟨b.bx, 2, none⟩), .slice (some ⟨b.bl, 0, none⟩) b.N b.N, .int .i64 (u : Int), .pointer (some ⟨b.bl, u, none⟩), .int .i64 lu, .int .i64 (min lv lu), .pointer (some ⟨b.bl, v, none⟩), undef] : List Value).getD j undef) (st1 w5.drew 21 ⟨b.bl, v, none⟩ (.int .i64 (min lv lu))) (st1_start (by decide)) ?hs11 ?he11
            case hs11 =>
              intro a hV hO i o ho D hcl hD hpre
              match i, ho, hD, hpre with
              | 0, ho, hD, hpre =>
                cases (show some _ = some o from ho)
                have e3 := ev_nfK ((hO 3 (notDstK (by kernel_rfl))).trans rfl)
                have x1 := FX.out D
                have x2 := F2.out D
                have x3 := F3.out D
                go_simp
                exact (st1_no (i := 21) (k := 0) (by decide)).symm
              | 1, ho, hD, hpre =>
                cases (show some _ = some o from ho)
                have e62 := ev_nfK (hV 0 62 rfl)
                have x1 := FX.out D
                have x2 := F2.out D
                have x3 := F3.out D
                go_simp
                exact (st1_no (i := 21) (k := 1) (by decide)).symm
              | 2, ho, hD, hpre =>
                cases (show some _ = some o from ho)
                have e63 := ev_nfK (hV 1 63 rfl)
                have x1 := FX.out D
                have x2 := F2.out D
                have x3 := F3.out D
                go_simp
                exact (st1_no (i := 21) (k := 2) (by decide)).symm
              | 3, ho, hD, hpre =>
                cases (show some _ = some o from ho)
                have e64 := ev_nfK (hV 2 64 rfl)
                have x1 := FX.out D
                have x2 := F2.out D
                have x3 := F3.out D
                go_simp
                exact (st1_no (i := 21) (k := 3) (by decide)).symm
              | 4, ho, hD, hpre =>
                cases (show some _ = some o from ho)
                have e4 := ev_nfK ((hO 4 (notDstK (by kernel_rfl))).trans rfl)
                have x1 := FX.out D
                have x2 := F2.out D
                have x3 := F3.out D
                go_simp
                exact (st1_no (i := 21) (k := 4) (by decide)).symm
              | 5, ho, hD, hpre =>
                cases (show some _ = some o from ho)
                have e3 := ev_nfK ((hO 3 (notDstK (by kernel_rfl))).trans rfl)
                have x1 := FX.out D
                have x2 := F2.out D
                have x3 := F3.out D
                go_simp
                exact (st1_no (i := 21) (k := 5) (by decide)).symm
              | 6, ho, hD, hpre =>
                cases (show some _ = some o from ho)
                have e67 := ev_nfK (hV 5 67 rfl)
                have x1 := FX.out D
                have x2 := F2.out D
                have x3 := F3.out D
                go_simp
                exact (st1_no (i := 21) (k := 6) (by decide)).symm
              | 7, ho, hD, hpre =>
                cases (show some _ = some o from ho)
                have e68 := ev_nfK (hV 6 68 rfl)
                have x1 := FX.out D
                have x2 := F2.out D
                have x3 := F3.out D
                go_simp
                exact (st1_no (i := 21) (k := 7) (by decide)).symm
              | 8, ho, hD, hpre =>
                cases (show some _ = some o from ho)
                have e69 := ev_nfK (hV 7 69 rfl)
                have x1 := FX.out D
                have x2 := F2.out D
                have x3 := F3.out D
                go_simp
                exact (st1_no (i := 21) (k := 8) (by decide)).symm
              | 9, ho, hD, hpre =>
                cases (show some _ = some o from ho)
                have e4 := ev_nfK ((hO 4 (notDstK (by kernel_rfl))).trans rfl)
                have x1 := FX.out D
                have x2 := F2.out D
                have x3 := F3.out D
                go_simp
                exact (st1_no (i := 21) (k := 9) (by decide)).symm
              | 10, ho, hD, hpre =>
                cases (show some _ = some o from ho)
                have e70 := ev_nfK (hV 8 70 rfl)
                have e71 := ev_nfK (hV 9 71 rfl)
                have x1 := FX.out D
                have x2 := F2.out D
                have x3 := F3.out D
                go_simp
                exact (st1_no (i := 21) (k := 10) (by decide)).symm
              | 11, ho, hD, hpre =>
                cases (show some _ = some o from ho)
                have e72 := ev_nfK (hV 10 72 rfl)
                have f21 : D 21 = false := by
                  cases hh : D 21 with
                  | false => rfl
                  | true => have h1 := hcl 21 19 hh (by kernel_rfl); have h2 := hcl 19 11 h1 (by kernel_rfl); simp_all
                have hl := hlv
                rw [st1_off f21]
                go_simp
                exact ((st1_no (i := 21) (k := 11) (by decide)).trans (st1_off f21)).symm
              | 12, ho, hD, hpre =>
                cases (show some _ = some o from ho)
                have e3 := ev_nfK ((hO 3 (notDstK (by kernel_rfl))).trans rfl)
                have x1 := FX.out D
                have x2 := F2.out D
                have x3 := F3.out D
                go_simp
                exact (st1_no (i := 21) (k := 12) (by decide)).symm
              | 13, ho, hD, hpre =>
                cases (show some _ = some o from ho)
                have e74 := ev_nfK (hV 12 74 rfl)
                have x1 := FX.out D
                have x2 := F2.out D
                have x3 := F3.out D
                go_simp
                exact (st1_no (i := 21) (k := 13) (by decide)).symm
              | 14, ho, hD, hpre =>
                cases (show some _ = some o from ho)
                have e75 := ev_nfK (hV 13 75 rfl)
                have x1 := FX.out D
                have x2 := F2.out D
                have x3 := F3.out D
                go_simp
                exact (st1_no (i := 21) (k := 14) (by decide)).symm
              | 15, ho, hD, hpre =>
                cases (show some _ = some o from ho)
                have e76 := ev_nfK (hV 14 76 rfl)
                have x1 := FX.out D
                have x2 := F2.out D
                have x3 := F3.out D
                go_simp
                exact (st1_no (i := 21) (k := 15) (by decide)).symm
              | 16, ho, hD, hpre =>
                cases (show some _ = some o from ho)
                have e10 := ev_nfK ((hO 10 (notDstK (by kernel_rfl))).trans rfl)
                have x1 := FX.out D
                have x2 := F2.out D
                have x3 := F3.out D
                go_simp
                exact (st1_no (i := 21) (k := 16) (by decide)).symm
              | 17, ho, hD, hpre =>
                cases (show some _ = some o from ho)
                have e77 := ev_nfK (hV 15 77 rfl)
                have e78 := ev_nfK (hV 16 78 rfl)
                have x1 := FX.out D
                have x2 := F2.out D
                have x3 := F3.out D
                go_simp
                exact (st1_no (i := 21) (k := 17) (by decide)).symm
              | 18, ho, hD, hpre =>
                cases (show some _ = some o from ho)
                have e79 := ev_nfK (hV 17 79 rfl)
                have f21 : D 21 = false := by
                  cases hh : D 21 with
                  | false => rfl
                  | true => have h1 := hcl 21 19 hh (by kernel_rfl); have h2 := hcl 19 18 h1 (by kernel_rfl); simp_all
                have hl := hlu
                rw [st1_off f21]
                go_simp
                exact ((st1_no (i := 21) (k := 18) (by decide)).trans (st1_off f21)).symm
              | 19, ho, hD, hpre =>
                cases (show some _ = some o from ho)
                have e73 := ev_nfK (hV 11 73 rfl)
                have e80 := ev_nfK (hV 18 80 rfl)
                have x1 := FX.out D
                have x2 := F2.out D
                have x3 := F3.out D
                go_simp
                exact (st1_no (i := 21) (k := 19) (by decide)).symm
              | 20, ho, hD, hpre =>
                cases (show some _ = some o from ho)
                have e65 := ev_nfK (hV 3 65 rfl)
                have e66 := ev_nfK (hV 4 66 rfl)
                have x1 := FX.out D
                have x2 := F2.out D
                have x3 := F3.out D
                go_simp
                exact (st1_no (i := 21) (k := 20) (by decide)).symm
              | 21, ho, hD, hpre =>
                cases (show some _ = some o from ho)
                have e81 := ev_nfK (hV 19 81 rfl)
                have e82 := ev_nfK (hV 20 82 rfl)
                have mm := hmv
                rw [st1_off hD]
                go_simp
                simp [st1]
                rfl
              | n + 22, ho, hD, hpre => cases (show none = some o from ho)
            case he11 =>
              simp only [putAll, dstOf, List.length_cons, List.length_nil, Nat.reduceAdd, List.getElem?_cons_zero, List.getElem?_cons_succ, Option.bind_some, List.getD_cons_zero, List.getD_cons_succ, Act.put, List.setIfInBounds_toArray, List.set_cons_zero, List.set_cons_succ]
              have e6 : st1 w5.drew 21 ⟨b.bl, v, none⟩ (.int .i64 (min lv lu)) (fun _ => true) = w5.drew.setCell ⟨b.bl, v, none⟩ (.int .i64 (min lv lu)) := rfl
              rw [e6]
              clear e6 FX F2 F3 hlv hlu hmv
              have q2 := HZ2.out
              have q3 := HZ3.out
              clear HZ2 HZ3
              generalize w5.drew.setCell ⟨b.bl, v, none⟩ (.int .i64 (min lv lu)) = w6 at *
              have q1 : Arr w6 b.bx 138 [.pointer (some ⟨b.ba, 0, none⟩), .slice (some ⟨b.bm, 0, none⟩) b.N b.N, .slice (some ⟨b.bl, 0, none⟩) b.N b.N, .int .i64 s5.now, .slice A5 s5.cuts.length c5] := HX5.out.is.x
              have c1 : Holds w6 ⟨b.bl, u, none⟩ (.int .i64 (gi s5.low u)) := ⟨by rw [HX5.out.is.l.cell]; simp [gi, show u < s5.low.length by omega]⟩
              have c2 : Holds w6 ⟨b.bm, v, none⟩ (.int .i64 (gi s5.met v)) := ⟨by rw [HX5.out.is.m.cell]; simp [gi, show v < s5.met.length by omega]⟩
              by_cases hct : gi s5.met v < gi s5.low u
              · have HE2 := hide (show s5.back v i u = { s5 with cuts := s5.cuts ++ [i] } from if_pos hct)
                have hctB : decide (gi s5.met v < gi s5.low u) = true := decide_eq_true hct
                clear hct
                generalize gi s5.low u = lo at *
                generalize gi s5.met v = me at *
                gi_wp2_with fail
                refine wpIn_region_from (wideF_round l2) (by kernel_rfl) (by kernel_rfl) (by kernel_rfl) (Grows.refl _) ?_
                (repeat' (first | (refine gLex_val0 rfl (by kernel_rfl) (fun K hK => ?_); (go_simp; (try (simp only [↓IntWalk.iteOmega]; try go_simp)); (try simp (disch := omega) only [IntWalk.i64_in]); (try simp (disch := omega) only [IntWalk.u64_in]); first | (refine hK _ ?_; clear hK K) | (apply Exists.intro; refine ⟨fun x => ?_, hK _ ?_⟩; (first | fail); clear hK K))) | (refine gLex_undef rfl rfl rfl (by kernel_rfl) (fun K hK => ?_); go_simp; refine hK _ ?_; clear hK K) | (refine gLex_ask rfl rfl rfl ?_; first | (apply gAsk_yes; kernel_rfl; intro K hK; (go_simp; (try (simp only [↓IntWalk.iteOmega]; try go_simp)); (try simp (disch := omega) only [IntWalk.i64_in]); (try simp (disch := omega) only [IntWalk.u64_in]); first | (refine hK _ ?_; clear hK K) | (apply Exists.intro; refine ⟨fun x => ?_, hK _ ?_⟩; (first | fail); clear hK K))) | ((first | apply gAsk_no1 | apply gAsk_no2); kernel_rfl; intro K hK; simp [go_sem]; refine hK _ ?_; clear hK K))))
                refine gLex_end (fun y => ?_)
                have HX7 := hide (HX5.out.grow y.grows)
                have HX6 := hide HX7.out.is
                have TX7 := hide (TX5.out.grows y.grows)
                have FB := hide (fun (w1 : World) (ht : Touch (fun k => k = b.bx ∨ ∃ p, A5 = some p ∧ p.block = k) y.now w1) => (q2.grow y.grows).touch ht (fun e => by
                  rcases e with e | ⟨p, hp, e⟩
                  · exact O5'.out.1 (.inl (.inl e))
                  · exact O5'.out.1 (.inr ⟨p, hp, e⟩)))
                clear q1 q2 q3 c1 c2 TX5 hctB HX5
                generalize y.now = w7 at *
                gi_wp2_with fail
                obtain ⟨V, hV⟩ : ∃ V : Nat → Option Value, V = (fun j => ([some (.pointer (some ⟨b.bx, 0, none⟩)), some (.pointer (some ⟨b.bx, 0, none⟩)), some (.pointer (some ⟨b.bx, 0, none⟩)), some (.pointer (some ⟨b.bx, 4, none⟩)), some (.slice A5 s5.cuts.length c5), some (.int .i64 (i : Int)), none, none, some (.pointer (some ⟨b.bx, 0, none⟩)), some (.pointer (some ⟨b.bx, 4, none⟩)), none] : List (Option Value)).getD j none) := ⟨_, rfl⟩
                refine wpIn_region_tab (by kernel_rfl) (wideF_round l2) (by kernel_rfl) (by kernel_rfl) (by kernel_rfl) (BwR b A5 c5 s5 i w7 V) ?h013 ?hs13 ?he13
                case h013 =>
                  refine ⟨fun j u hu hD => ?_, (Touch.refl _ w7).drew, fun h => absurd h (by decide), fun _ => HX6.out.o.grows (Grows.refl w7).drew, fun h => absurd h (by decide), HX6.out.x.grow (Grows.refl w7).drew⟩
                  have h9 : V j = none := by rw [hV]; show List.getD _ j none = none; rw [List.getD_eq_getElem?_getD, List.getElem?_eq_none (by simpa using hD)]; rfl
                  rw [h9] at hu; cases hu
                case hs13 =>
                  intro D g a w1 ht hj hcl i' o ho hD hpre K hK
                  match i', ho, hD, hpre, hK with
                  | 0, ho, hD, hpre, hK =>
                    cases (show some _ = some o from ho)
                    rw [if_pos (by rfl)]
                    refine wpIn_of_runs (q := fun u w' => K (a.put _ u) w') (wideF_round l2) (by kernel_rfl) ?_ (fun u w' h => h)
                    have e3 := ev_nfK ((ht.out 3 (notDstK (by kernel_rfl))).trans rfl)
                    have x2 := FB.out w1 hj.touch
                    go_simp
                    exact hK _ _ (hj.plain (Grows.refl w1) (by decide) (fun u hu => by rw [hV] at hu; exact Option.some.inj (show some _ = some u from hu)))
                  | 1, ho, hD, hpre, hK =>
                    cases (show some _ = some o from ho)
                    rw [if_pos (by rfl)]
                    refine wpIn_of_runs (q := fun u w' => K (a.put _ u) w') (wideF_round l2) (by kernel_rfl) ?_ (fun u w' h => h)
                    have e3 := ev_nfK ((ht.out 3 (notDstK (by kernel_rfl))).trans rfl)
                    have x2 := FB.out w1 hj.touch
                    go_simp
                    exact hK _ _ (hj.plain (Grows.refl w1) (by decide) (fun u hu => by rw [hV] at hu; exact Option.some.inj (show some _ = some u from hu)))
                  | 2, ho, hD, hpre, hK =>
                    cases (show some _ = some o from ho)
                    rw [if_pos (by rfl)]
                    refine wpIn_of_runs (q := fun u w' => K (a.put _ u) w') (wideF_round l2) (by kernel_rfl) ?_ (fun u w' h => h)
                    have e99 := ev_nfK ((ht.at_ 1 99 rfl (hpre 1 (by kernel_rfl))).trans (hj.cs 1 _ (by rw [hV]; rfl) (hpre 1 (by kernel_rfl))))
                    go_simp
                    exact hK _ _ (hj.plain (Grows.refl w1) (by decide) (fun u hu => by rw [hV] at hu; exact Option.some.inj (show some _ = some u from hu)))
                  | 3, ho, hD, hpre, hK =>
                    cases (show some _ = some o from ho)
                    rw [if_pos (by rfl)]
                    refine wpIn_of_runs (q := fun u w' => K (a.put _ u) w') (wideF_round l2) (by kernel_rfl) ?_ (fun u w' h => h)
                    have e100 := ev_nfK ((ht.at_ 2 100 rfl (hpre 2 (by kernel_rfl))).trans (hj.cs 2 _ (by rw [hV]; rfl) (hpre 2 (by kernel_rfl))))
                    have x1 := hj.x
                    go_simp
                    exact hK _ _ (hj.plain (Grows.refl w1) (by decide) (fun u hu => by rw [hV] at hu; exact Option.some.inj (show some _ = some u from hu)))
                  | 4, ho, hD, hpre, hK =>
                    cases (show some _ = some o from ho)
                    rw [if_pos (by rfl)]
                    refine wpIn_of_runs (q := fun u w' => K (a.put _ u) w') (wideF_round l2) (by kernel_rfl) ?_ (fun u w' h => h)
                    have e101 := ev_nfK ((ht.at_ 3 101 rfl (hpre 3 (by kernel_rfl))).trans (hj.cs 3 _ (by rw [hV]; rfl) (hpre 3 (by kernel_rfl))))
                    have f7 : D 7 = false := by
                      cases hh : D 7 with
                      | false => rfl
                      | true => have := hcl 7 4 hh (by kernel_rfl); simp_all
                    have f10 : D 10 = false := by
                      cases hh : D 10 with
                      | false => rfl
                      | true => have := hcl 10 7 hh (by kernel_rfl); simp_all
                    have x1 := hj.x
                    rw [f10] at x1
                    simp only [Bool.false_eq_true, if_false] at x1
                    go_simp
                    exact hK _ _ (hj.plain (Grows.refl w1) (by decide) (fun u hu => by rw [hV] at hu; exact Option.some.inj (show some _ = some u from hu)))
                  | 5, ho, hD, hpre, hK =>
                    cases (show some _ = some o from ho)
                    rw [if_pos (by rfl)]
                    refine wpIn_of_runs (q := fun u w' => K (a.put _ u) w') (wideF_round l2) (by kernel_rfl) ?_ (fun u w' h => h)
                    have e8 := ev_nfK ((ht.out 8 (notDstK (by kernel_rfl))).trans rfl)
                    go_simp
                    exact hK _ _ (hj.plain (Grows.refl w1) (by decide) (fun u hu => by rw [hV] at hu; exact Option.some.inj (show some _ = some u from hu)))
                  | 6, ho, hD, hpre, hK =>
                    cases (show some _ = some o from ho)
                    rw [if_pos (by rfl)]
                    refine wpIn_of_runs (q := fun u w' => K (a.put _ u) w') (wideF_round l2) (by kernel_rfl) ?_ (fun u w' h => h)
                    have e103 := ev_nfK ((ht.at_ 5 103 rfl (hpre 5 (by kernel_rfl))).trans (hj.cs 5 _ (by rw [hV]; rfl) (hpre 5 (by kernel_rfl))))
                    go_simp
                    exact hK _ _ (hj.litS (by rw [hV]; rfl))
                  | 7, ho, hD, hpre, hK =>
                    cases (show some _ = some o from ho)
                    have f10 : D 10 = false := by
                      cases hh : D 10 with
                      | false => rfl
                      | true => have := hcl 10 7 hh (by kernel_rfl); simp_all
                    have e102 := (ht.at_ 4 102 rfl (hpre 4 (by kernel_rfl))).trans (hj.cs 4 _ (by rw [hV]; rfl) (hpre 4 (by kernel_rfl)))
                    obtain ⟨q, eq, hq, hqW⟩ := hj.lit (hpre 6 (by kernel_rfl)) hD
                    have e104 := (ht.at_ 6 104 rfl (hpre 6 (by kernel_rfl))).trans eq
                    exact step_appIn (wideF_round l2) elemInt rfl (.tmp 102) (.tmp 104) rfl _ c5 A5 (nv s5.cuts) e102 (hj.old hD) q 1 (.int .i64 (i : Int)) e104 hq rfl (by omega) (fun A2 c2 w2 ho2 ht2 hA2 => hK _ _ (hj.appS HX6.out (by rw [hV]; rfl) f10 ho2 ht2 hA2))
                  | 8, ho, hD, hpre, hK =>
                    cases (show some _ = some o from ho)
                    rw [if_pos (by rfl)]
                    refine wpIn_of_runs (q := fun u w' => K (a.put _ u) w') (wideF_round l2) (by kernel_rfl) ?_ (fun u w' h => h)
                    have e98 := ev_nfK ((ht.at_ 0 98 rfl (hpre 0 (by kernel_rfl))).trans (hj.cs 0 _ (by rw [hV]; rfl) (hpre 0 (by kernel_rfl))))
                    go_simp
                    exact hK _ _ (hj.plain (Grows.refl w1) (by decide) (fun u hu => by rw [hV] at hu; exact Option.some.inj (show some _ = some u from hu)))
                  | 9, ho, hD, hpre, hK =>
                    cases (show some _ = some o from ho)
                    rw [if_pos (by rfl)]
                    refine wpIn_of_runs (q := fun u w' => K (a.put _ u) w') (wideF_round l2) (by kernel_rfl) ?_ (fun u w' h => h)
                    have e106 := ev_nfK ((ht.at_ 8 106 rfl (hpre 8 (by kernel_rfl))).trans (hj.cs 8 _ (by rw [hV]; rfl) (hpre 8 (by kernel_rfl))))
                    go_simp
                    exact hK _ _ (hj.plain (Grows.refl w1) (by decide) (fun u hu => by rw [hV] at hu; exact Option.some.inj (show some _ = some u from hu)))
                  | 10, ho, hD, hpre, hK =>
                    cases (show some _ = some o from ho)
                    rw [if_pos (by rfl)]
                    refine wpIn_of_runs (q := fun u w' => K (a.put _ u) w') (wideF_round l2) (by kernel_rfl) ?_ (fun u w' h => h)
                    have e107 := ev_nfK ((ht.at_ 9 107 rfl (hpre 9 (by kernel_rfl))).trans (hj.cs 9 _ (by rw [hV]; rfl) (hpre 9 (by kernel_rfl))))
                    obtain ⟨A2, c2, e7, _⟩ := hj.new (hpre 7 (by kernel_rfl))
                    have e105 := ev_nfK ((ht.at_ 7 105 rfl (hpre 7 (by kernel_rfl))).trans e7)
                    have hh := hj.stS (u := undef) (by rw [hV]; rfl) (hpre 7 (by kernel_rfl))
                    rw [e7] at hh
                    have m4 := hj.x.mine 4 rfl
                    clear e7
                    go_simp
                    exact hK _ _ hh
                  | n + 11, ho, hD, hpre, hK => cases (show none = some o from ho)
                case he13 =>
                  intro D g w8 hj hD
                  obtain ⟨A8, c8, hfin, htf, hown⟩ := hj.fin HX6.out hD
                  have HF8 := hide (HX7.out.call hfin htf hown)
                  have HT8 := hide (TX7.out.trans2 htf (fun k hk => OA5.out k hk))
                  rw [HE2.out] at HE
                  exact ⟨rfl, CR.out A8 c8 _ w8 HE.out.symm HT8.out HF8.out⟩
              · have HE2 := hide (show s5.back v i u = s5 from if_neg hct)
                have hctB : decide (gi s5.met v < gi s5.low u) = false := decide_eq_false hct
                rw [HE2.out] at HE
                clear hct HE2
                generalize gi s5.low u = lo at *
                generalize gi s5.met v = me at *
                gi_wp2_with fail
                refine wpIn_region_from (wideF_round l2) (by kernel_rfl) (by kernel_rfl) (by kernel_rfl) (Grows.refl _) ?_
                (repeat' (first | (refine gLex_val0 rfl (by kernel_rfl) (fun K hK => ?_); (go_simp; (try (simp only [↓IntWalk.iteOmega]; try go_simp)); (try simp (disch := omega) only [IntWalk.i64_in]); (try simp (disch := omega) only [IntWalk.u64_in]); first | (refine hK _ ?_; clear hK K) | (apply Exists.intro; refine ⟨fun x => ?_, hK _ ?_⟩; (first | fail); clear hK K))) | (refine gLex_undef rfl rfl rfl (by kernel_rfl) (fun K hK => ?_); go_simp; refine hK _ ?_; clear hK K) | (refine gLex_ask rfl rfl rfl ?_; first | (apply gAsk_yes; kernel_rfl; intro K hK; (go_simp; (try (simp only [↓IntWalk.iteOmega]; try go_simp)); (try simp (disch := omega) only [IntWalk.i64_in]); (try simp (disch := omega) only [IntWalk.u64_in]); first | (refine hK _ ?_; clear hK K) | (apply Exists.intro; refine ⟨fun x => ?_, hK _ ?_⟩; (first | fail); clear hK K))) | ((first | apply gAsk_no1 | apply gAsk_no2); kernel_rfl; intro K hK; simp [go_sem]; refine hK _ ?_; clear hK K))))
                refine gLex_end (fun y => ?_)
                have FIN := hide (CR.out A5 c5 _ y.now HE.out.symm (TX5.out.grows y.grows) (HX5.out.grow y.grows))
                clear q1 q2 q3 c1 c2 TX5 HX5
                generalize y.now = w7 at *
                gi_wp2
                exact FIN.out
      case stop => exact fun _ _ _ _ _ _ _ _ _ _ h => h.elim
      case done =>
        intro Dd7 Mi Wd7 hlD hMD hI hDW
        obtain ⟨A7, c7, hc⟩ := hI
        have hmem : ∀ i ∈ rowN (nN E true) E.length v, i < E.length := fun i hi => by simp [rowN] at hi; exact hi.1
        obtain ⟨hok, hx⟩ := HFO.out _ hmem
        have HOK7 := hide hok
        have hcn7 : Hid ((brP E (br E n) v by_ true (rowN (nN E true) E.length v) s2).met.count 0 ≤ n) := Nat.le_trans hx.cnt hcn6.out
        have HC7 := hide (HW.out.over hc)
        have hD3 : ∀ D ∈ [Dd6], D < W3.heap.size := fun D hD => (Array.getElem?_eq_some_iff.1 (HM3.out.2 D hD)).1
        have HM7 := hide ((HM3.out.touch hc.tch (fun D hD => (HD6.out D hD).2)).cons hDW (fun e => by have := hD3 _ e; omega))
        have HD7 := hide (show ∀ D ∈ Dd7 :: [Dd6], W2.heap.size ≤ D ∧ ¬ BwOwn b A7 D from fun D hD => by
          have h1 := hzW.out
          rcases List.mem_cons.1 hD with rfl | h
          · exact ⟨by omega, (hc.ms _ hMD).2.2⟩
          · refine ⟨(HD6.out D h).1, fun e => ?_⟩
            rcases hc.own D e with h2 | h2
            · exact (HD6.out D h).2 h2
            · have := hD3 D h; omega)
        clear hok hx hmem hc hD3 hlD hMD hDW HFO HM3 hB3 hn2 hFlo hzW HA3 j2 j3 j4 HW hi3 hg3 i1 i2 i3 hb1
        rw [hfr]
        clear hfr fr
        gi_wp2
        go_wp2_with fail
        show Code.wp _ _ _ _ _
        go_wp2_with fail
        refine marks_end [Dd7, Dd6] rfl HM7.out (fun W' htt => ⟨_, results_none rfl _ _ _, rfl, ?_⟩)
        rw [HEQ.out]
        exact hgv.out A7 c7 _ _ Wd7 W' [Dd7, Dd6] HC7.out HD7.out htt
end Go.Proofs.YtomednfddpggaaaGreat
