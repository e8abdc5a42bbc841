/- Contract: a node and all that come of it (Tarjan): the walk. -/
import Derived.Test.YtomednfddpggaaaGreatQBridgeRows24
import Derived.Test.YtomednfddpggaaaGreatQBridgeRows10
import Derived.Test.YtomednfddpggaaaGreatQBridgeRows04
/- Contract: a node and all that come of it (Tarjan): the walk. -/
namespace Go.Proofs.YtomednfddpggaaaGreat
open Go Go.RowKit
attribute [local go_sem] Oper.semAt_some
def tjRow (E : List Edg) (v : Nat) : List Nat := (rowN (fN E) E.length v).map (tN E)
def TjGive (b : TjB) (s' : TjS) (A : Option Addr) (w : World) (e : Ending) (w' : World) : Prop :=
  e = .returned (.tuple #[]) ∧ ∃ A' c', TjAt w' b A' c' s' ∧ Touch (TjOwn b A) w w' ∧ ∀ k, TjOwn b A' k → TjOwn b A k ∨ w.heap.size ≤ k
theorem wp_frame {F : Fence} {n : Nat} {P : Program} {c : Code} {Q : Exit → Act → World → Prop} {a : Act} {w : World} (h : ∀ a', a' = a → c.wpIn F n P Q a' w) : c.wpIn F n P Q a w := h a rfl
def tjF (E : List Edg) (n v : Nat) (s0 : TjS) (p : List Nat) : TjS := (p.map (tN E)).foldl (fun s u => s.edge (tj (tjRow E) n) v u) s0
theorem tjF_snoc (E : List Edg) (n v : Nat) (s0 : TjS) (p : List Nat) (i : Nat) : tjF E n v s0 (p ++ [i]) = (tjF E n v s0 p).edge (tj (tjRow E) n) v (tN E i) := by simp [tjF]
def TjI (b : TjB) (E : List Edg) (n v : Nat) (s0 : TjS) (A1 : Option Addr) (W3 : World) (p : List Nat) (M : Nat → Prop) (W : World) : Prop := ∃ A c, TjC b A1 W3 A c (tjF E n v s0 p) M W
theorem TjI.yields (b : TjB) (E : List Edg) (n v : Nat) (s0 : TjS) (A1 : Option Addr) (W3 : World) : Yields' (TjI b E n v s0 A1 W3) :=
  fun _ _ _ _ _ ⟨A, c, h⟩ ht hM => ⟨A, c, h.yield ht hM⟩
def tjFr (fr : Act) (E : List Edg) (i b5 : Nat) : Act := { tmps := ((fr.tmps.setIfInBounds 61 (.int .i64 (i : Int))).setIfInBounds 62 (eVal (ge E i))).setIfInBounds 5 (.pointer (some ⟨b5, 0, none⟩)), defers := [] }
def TjB' (b : TjB) (E : List Edg) (n v : Nat) (s0 : TjS) (A1 : Option Addr) (W3 : World) (fr : Act) (i : Nat) (a' : Act) (p : List Nat) (M : Nat → Prop) (W : World) : Prop :=
  ∃ b5 A c, a' = tjFr fr E i b5 ∧ TjC b A1 W3 A c (tjF E n v s0 p) M W ∧ Arr W b5 59 [.int .i64 (ge E i).f, .int .i64 (ge E i).t, .int .u64 (ge E i).w] ∧ ¬ M b5 ∧ ¬ TjOwn b A b5
theorem TjB'.yields (b : TjB) (E : List Edg) (n v : Nat) (s0 : TjS) (A1 : Option Addr) (W3 : World) (fr : Act) (i : Nat) (a' : Act) : Yields' (TjB' b E n v s0 A1 W3 fr i a') :=
  fun _ _ _ _ _ ⟨b5, A, c, e, h, ha, hm, ho⟩ ht hM => ⟨b5, A, c, e, h.yield ht hM, ha.touch ht hm, fun e => by
    have := ha.lt
    rcases (hM _ e).1 with h | h
    · exact hm h
    · omega, ho⟩
theorem Rd.dropN {W : World} {g n : Nat} {l : List Nat} (h : Rd W (some ⟨g, 0, none⟩) 1 n (nv l)) (a : Nat) (ha : a ≤ n) : Rd W (some ⟨g, a, none⟩) 1 (l.drop a).length (nv (l.drop a)) := by
  have hl : l.length = n := by have := h.len; simpa [nv] using this
  refine ⟨by simp [nv], fun h1 h2 => ?_⟩
  rw [List.length_drop] at h1
  obtain ⟨b', off', e', hc⟩ := h.at_ (by omega)
  injection e' with e'
  injection e' with e1 e2
  subst e1 e2
  refine ⟨g, a, rfl, fun i u hu => ?_⟩
  have e : nv (l.drop a) = (nv l).drop a := by simp [nv, List.map_drop]
  rw [e, List.getElem?_drop] at hu
  have := hc (a + i) u hu
  simpa using this
theorem setAll_succ {α : Type} (p : List α) (l : List Nat) (x : α) {k : Nat} (hk : k < l.length) : setAll p (l.take (k + 1)) x = (setAll p (l.take k) x).set (gn l k) x := by
  rw [List.take_succ_eq_append_getElem hk]
  unfold setAll
  rw [List.foldl_append]
  simp [gn, hk]
theorem gn_drop (l : List Nat) (a k : Nat) : gn (l.drop a) k = gn l (a + k) := by simp [gn, List.getElem?_drop]
theorem TjAt.setStk {w : World} {b : TjB} {A : Option Addr} {c : Nat} {s : TjS} (h : TjAt w b A c s) {i : Nat} (hi : i ≤ s.stk.length) (hn : 0 < s.stk.length) : TjAt (w.setCell ⟨b.bx, 4, none⟩ (.slice A i c)) b A c { s with stk := s.stk.take i } := by
  obtain ⟨⟨n1, n2, n3, n4⟩, ⟨n5, n6, n7⟩, n8⟩ := h.nes
  have e1 : (s.stk.take i).length = i := by rw [List.length_take]; omega
  have e2 : nv (s.stk.take i) = (nv s.stk).take (i * 1) := by simp [nv, List.map_take]
  refine ⟨?_, h.m.other n1 _, h.l.other n2 _, h.p.other n3 _, h.u.other n4 _, ?_, h.dis, h.disA⟩
  · have := h.x.set 4 (.slice A i c)
    show Arr _ _ _ [_, _, _, _, .slice A (s.stk.take i).length c, _, _]
    rw [e1]
    exact this
  · show Own _ _ _ _ _ (s.stk.take i).length _ (nv (s.stk.take i))
    rw [e1, e2]
    exact (h.o.cut hi hn).othr (fun p hp => (n8 p hp).1) _
set_option maxRecDepth 60000 in
set_option maxHeartbeats 8000000 in
theorem tjWalk (F : Nat → Prop) (b : TjB) (E : List Edg) (hE : InN b.N E) (hn : E.length ≤ 20000) (hN : b.N ≤ 4096) (n : Nat)
    (ih : ∀ (u : Nat) (A : Option Addr) (c : Nat) (s : TjS) (w : World), TjAt w b A c s → AdjAt F w b.ba b.N E → (∀ k, F k → k < w.heap.size ∧ ¬ TjOwn b A k) → TjOk b.N s → u < b.N → gi s.met u = 0 → s.met.count 0 ≤ n → Calls Tryz.prog 124 #[.pointer (some ⟨b.bx, 0, none⟩), .int .i64 (u : Int)] w (TjGive b (tj (tjRow E) n u s) A w))
    (v : Nat) (A : Option Addr) (c : Nat) (s : TjS) (w : World) (h : TjAt w b A c s) (hA : AdjAt F w b.ba b.N E) (hF : ∀ k, F k → k < w.heap.size ∧ ¬ TjOwn b A k) (hs : TjOk b.N s) (hv : v < b.N) (h0 : gi s.met v = 0) (hc : s.met.count 0 ≤ n + 1) :
    Calls Tryz.prog 124 #[.pointer (some ⟨b.bx, 0, none⟩), .int .i64 (v : Int)] w (TjGive b (tj (tjRow E) (n + 1) v s) A w) := by
  have IH := hide ih
  have H := hide h
  have HA := hide hA
  have HF := hide hF
  have HS := hide hs
  have H0 := hide h0
  have HC := hide hc
  have DIS := hide h.dis
  have hnow : 0 ≤ s.now ∧ s.now ≤ 4096 := by have := hs.le; omega
  have ax := h.x
  have o1 := ax.lt
  have o2 := h.m.lt
  have o3 := h.l.lt
  have o4 := h.u.lt
  clear ih h hA hF hs h0 hc
  refine calls_of_marks Tryz.func124 rfl ?_
  simp only [Tryz.ntmps124, List.size_toArray, List.length_cons, List.length_nil, Nat.reduceAdd, Nat.reduceSub, Array.replicate_succ, Array.replicate_zero, List.push_toArray, List.append_toArray, List.nil_append, List.cons_append]
  go_upto_region 2 with fail
  obtain ⟨b2, hb2⟩ : ∃ b2, w.heap.size = b2 := ⟨_, rfl⟩
  obtain ⟨b3, hb3⟩ : ∃ b3, b2 + 1 = b3 := ⟨_, rfl⟩
  obtain ⟨W1, hW1⟩ : ∃ W1, W1 = ((w.setCell ⟨b.bx, 5, none⟩ (.int .i64 (s.now + 1))).alloc (.cells #[.pointer (some ⟨b.bx, 0, none⟩)] 180)).alloc (.cells #[.int .i64 (v : Int)] 3) := ⟨_, rfl⟩
  have hgA : Grows (w.setCell ⟨b.bx, 5, none⟩ (.int .i64 (s.now + 1))) W1 := by rw [hW1]; exact GG
  have hz0 : (w.setCell ⟨b.bx, 5, none⟩ (.int .i64 (s.now + 1))).heap.size = b2 := by simp; exact hb2
  have x2 : Arr W1 b2 180 [.pointer (some ⟨b.bx, 0, none⟩)] := by
    rw [hW1, ← hz0]
    exact (Arr.make _ _ _).grow ((Grows.refl _).new _)
  have x3 : Arr W1 b3 3 [.int .i64 (v : Int)] := by
    rw [hW1, ← hb3, ← hz0, show (w.setCell ⟨b.bx, 5, none⟩ (.int .i64 (s.now + 1))).heap.size + 1 = ((w.setCell ⟨b.bx, 5, none⟩ (.int .i64 (s.now + 1))).alloc (.cells #[.pointer (some ⟨b.bx, 0, none⟩)] 180)).heap.size by simp]
    exact Arr.make _ _ _
  have HY := hide (show TjAt W1 b A c { s with now := s.now + 1 } from (H.out.setNow _).grow hgA)
  have HT := hide (show Touch (TjOwn b A) w W1 from ((Touch.refl _ _).set (.inl (.inl (.inl rfl))) _).grows hgA)
  have hsz := hide (show W1.heap.size = b3 + 1 from by rw [hW1]; simp; omega)
  have y1 : Arr W1 b.bx 182 [.pointer (some ⟨b.ba, 0, none⟩), .slice (some ⟨b.bm, 0, none⟩) b.N b.N, .slice (some ⟨b.bl, 0, none⟩) b.N b.N, .slice (some ⟨b.bp, 0, none⟩) b.N b.N, .slice A s.stk.length c, .int .i64 (s.now + 1), .slice (some ⟨b.bu, 0, none⟩) b.N b.N] := HY.out.x
  rw [hb2, hb3, ← hW1]
  clear hW1 hgA ax
  obtain ⟨⟨nm, nl, np, nu⟩, hrt⟩ := HY.out.nes
  have l1 : s.met.length = b.N := HS.out.m
  have l2 : s.low.length = b.N := HS.out.l
  have FX := hide (fun D => st2_arr (D := D) (i1 := 19) (i2 := 21) (p1 := ⟨b.bm, v, none⟩) (p2 := ⟨b.bl, v, none⟩) (v1 := .int .i64 (s.now + 1)) (v2 := .int .i64 (s.now + 1)) (y1.grow (Grows.drew (Grows.refl _))) (by exact Ne.symm nm) (by exact Ne.symm nl))
  have F2 := hide (fun D => st2_arr (D := D) (i1 := 19) (i2 := 21) (p1 := ⟨b.bm, v, none⟩) (p2 := ⟨b.bl, v, none⟩) (v1 := .int .i64 (s.now + 1)) (v2 := .int .i64 (s.now + 1)) (x2.grow (Grows.drew (Grows.refl _))) (by show b.bm ≠ b2; omega) (by show b.bl ≠ b2; omega))
  have F3 := hide (fun D => st2_arr (D := D) (i1 := 19) (i2 := 21) (p1 := ⟨b.bm, v, none⟩) (p2 := ⟨b.bl, v, none⟩) (v1 := .int .i64 (s.now + 1)) (v2 := .int .i64 (s.now + 1)) (x3.grow (Grows.drew (Grows.refl _))) (by show b.bm ≠ b3; omega) (by show b.bl ≠ b3; omega))
  have FM := hide (fun D => st2_len (k1 := v) (k2 := v) (D := D) (i1 := 19) (i2 := 21) (p1 := ⟨b.bm, v, none⟩) (p2 := ⟨b.bl, v, none⟩) (v1 := .int .i64 (s.now + 1)) (v2 := .int .i64 (s.now + 1)) (HY.out.m.grow (Grows.drew (Grows.refl _))) (.inl rfl) (.inr (by exact Ne.symm DIS.out.1)))
  have FL := hide (fun D => st2_len (k1 := v) (k2 := v) (D := D) (i1 := 19) (i2 := 21) (p1 := ⟨b.bm, v, none⟩) (p2 := ⟨b.bl, v, none⟩) (v1 := .int .i64 (s.now + 1)) (v2 := .int .i64 (s.now + 1)) (HY.out.l.grow (Grows.drew (Grows.refl _))) (.inr (by exact DIS.out.1)) (.inl rfl))
  simp only [List.length_map, l1, l2] at FM FL
  clear l1 l2
  refine wp_region_know (by kernel_rfl) (by kernel_rfl) (by kernel_rfl) (by kernel_rfl) (by kernel_rfl) (fun j => ([.pointer (some ⟨b.bx, 0, none⟩), .pointer (some ⟨b.bx, 0, none⟩), .pointer (some ⟨b.bx, 1, none⟩), .slice (some ⟨b.bm, 0, none⟩) b.N b.N, .int .i64 (v : Int), .pointer (some ⟨b.bx, 0, none⟩), .pointer (some ⟨b.bx, 0, none⟩), .pointer (some ⟨b.bx, 2, none⟩), .slice (some ⟨b.bl, 0, none⟩) b.N b.N, .int .i64 (v : Int), .pointer (some ⟨b.bx, 0, none⟩), .pointer (some ⟨b.bx, 0, none⟩), .pointer (some ⟨b.bx, 5, none⟩), .int .i64 (s.now + 1), .pointer (some ⟨b.bx, 0, none⟩), .pointer (some ⟨b.bx, 0, none⟩), .pointer (some ⟨b.bx, 5, none⟩), .int .i64 (s.now + 1), .pointer (some ⟨b.bm, v, none⟩), undef, .pointer (some ⟨b.bl, v, none⟩), undef] : List Value).getD j undef) (st2 W1.drew 19 ⟨b.bm, v, none⟩ (.int .i64 (s.now + 1)) 21 ⟨b.bl, v, none⟩ (.int .i64 (s.now + 1))) (st2_start (by decide) (by decide)) ?hs ?he
  case hs =>
    intro a hV hO i o ho D hcl hD hpre
    clear hcl
    match i, ho, hD, hpre with
    | 0, ho, hD, hpre =>
      cases (show some _ = some o from ho)
      have e2 := ev_nfK ((hO 2 (notDstK (by kernel_rfl))).trans rfl)
      have x1 := FX.out D
      have x2 := F2.out D
      have x3 := F3.out D
      go_simp
      exact Eq.symm (st2_no (i := 0) (i1 := 19) (i2 := 21) (by decide) (by decide))
    | 1, ho, hD, hpre =>
      cases (show some _ = some o from ho)
      have e19 := ev_nfK (hV 0 19 rfl)
      have x1 := FX.out D
      have x2 := F2.out D
      have x3 := F3.out D
      go_simp
      exact Eq.symm (st2_no (i := 1) (i1 := 19) (i2 := 21) (by decide) (by decide))
    | 2, ho, hD, hpre =>
      cases (show some _ = some o from ho)
      have e20 := ev_nfK (hV 1 20 rfl)
      have x1 := FX.out D
      have x2 := F2.out D
      have x3 := F3.out D
      go_simp
      exact Eq.symm (st2_no (i := 2) (i1 := 19) (i2 := 21) (by decide) (by decide))
    | 3, ho, hD, hpre =>
      cases (show some _ = some o from ho)
      have e21 := ev_nfK (hV 2 21 rfl)
      have x1 := FX.out D
      have x2 := F2.out D
      have x3 := F3.out D
      go_simp
      exact Eq.symm (st2_no (i := 3) (i1 := 19) (i2 := 21) (by decide) (by decide))
    | 4, ho, hD, hpre =>
      cases (show some _ = some o from ho)
      have e3 := ev_nfK ((hO 3 (notDstK (by kernel_rfl))).trans rfl)
      have x1 := FX.out D
      have x2 := F2.out D
      have x3 := F3.out D
      go_simp
      exact Eq.symm (st2_no (i := 4) (i1 := 19) (i2 := 21) (by decide) (by decide))
    | 5, ho, hD, hpre =>
      cases (show some _ = some o from ho)
      have e2 := ev_nfK ((hO 2 (notDstK (by kernel_rfl))).trans rfl)
      have x1 := FX.out D
      have x2 := F2.out D
      have x3 := F3.out D
      go_simp
      exact Eq.symm (st2_no (i := 5) (i1 := 19) (i2 := 21) (by decide) (by decide))
    | 6, ho, hD, hpre =>
      cases (show some _ = some o from ho)
      have e24 := ev_nfK (hV 5 24 rfl)
      have x1 := FX.out D
      have x2 := F2.out D
      have x3 := F3.out D
      go_simp
      exact Eq.symm (st2_no (i := 6) (i1 := 19) (i2 := 21) (by decide) (by decide))
    | 7, ho, hD, hpre =>
      cases (show some _ = some o from ho)
      have e25 := ev_nfK (hV 6 25 rfl)
      have x1 := FX.out D
      have x2 := F2.out D
      have x3 := F3.out D
      go_simp
      exact Eq.symm (st2_no (i := 7) (i1 := 19) (i2 := 21) (by decide) (by decide))
    | 8, ho, hD, hpre =>
      cases (show some _ = some o from ho)
      have e26 := ev_nfK (hV 7 26 rfl)
      have x1 := FX.out D
      have x2 := F2.out D
      have x3 := F3.out D
      go_simp
      exact Eq.symm (st2_no (i := 8) (i1 := 19) (i2 := 21) (by decide) (by decide))
    | 9, ho, hD, hpre =>
      cases (show some _ = some o from ho)
      have e3 := ev_nfK ((hO 3 (notDstK (by kernel_rfl))).trans rfl)
      have x1 := FX.out D
      have x2 := F2.out D
      have x3 := F3.out D
      go_simp
      exact Eq.symm (st2_no (i := 9) (i1 := 19) (i2 := 21) (by decide) (by decide))
    | 10, ho, hD, hpre =>
      cases (show some _ = some o from ho)
      have e2 := ev_nfK ((hO 2 (notDstK (by kernel_rfl))).trans rfl)
      have x1 := FX.out D
      have x2 := F2.out D
      have x3 := F3.out D
      go_simp
      exact Eq.symm (st2_no (i := 10) (i1 := 19) (i2 := 21) (by decide) (by decide))
    | 11, ho, hD, hpre =>
      cases (show some _ = some o from ho)
      have e29 := ev_nfK (hV 10 29 rfl)
      have x1 := FX.out D
      have x2 := F2.out D
      have x3 := F3.out D
      go_simp
      exact Eq.symm (st2_no (i := 11) (i1 := 19) (i2 := 21) (by decide) (by decide))
    | 12, ho, hD, hpre =>
      cases (show some _ = some o from ho)
      have e30 := ev_nfK (hV 11 30 rfl)
      have x1 := FX.out D
      have x2 := F2.out D
      have x3 := F3.out D
      go_simp
      exact Eq.symm (st2_no (i := 12) (i1 := 19) (i2 := 21) (by decide) (by decide))
    | 13, ho, hD, hpre =>
      cases (show some _ = some o from ho)
      have e31 := ev_nfK (hV 12 31 rfl)
      have x1 := FX.out D
      have x2 := F2.out D
      have x3 := F3.out D
      go_simp
      exact Eq.symm (st2_no (i := 13) (i1 := 19) (i2 := 21) (by decide) (by decide))
    | 14, ho, hD, hpre =>
      cases (show some _ = some o from ho)
      have e2 := ev_nfK ((hO 2 (notDstK (by kernel_rfl))).trans rfl)
      have x1 := FX.out D
      have x2 := F2.out D
      have x3 := F3.out D
      go_simp
      exact Eq.symm (st2_no (i := 14) (i1 := 19) (i2 := 21) (by decide) (by decide))
    | 15, ho, hD, hpre =>
      cases (show some _ = some o from ho)
      have e33 := ev_nfK (hV 14 33 rfl)
      have x1 := FX.out D
      have x2 := F2.out D
      have x3 := F3.out D
      go_simp
      exact Eq.symm (st2_no (i := 15) (i1 := 19) (i2 := 21) (by decide) (by decide))
    | 16, ho, hD, hpre =>
      cases (show some _ = some o from ho)
      have e34 := ev_nfK (hV 15 34 rfl)
      have x1 := FX.out D
      have x2 := F2.out D
      have x3 := F3.out D
      go_simp
      exact Eq.symm (st2_no (i := 16) (i1 := 19) (i2 := 21) (by decide) (by decide))
    | 17, ho, hD, hpre =>
      cases (show some _ = some o from ho)
      have e35 := ev_nfK (hV 16 35 rfl)
      have x1 := FX.out D
      have x2 := F2.out D
      have x3 := F3.out D
      go_simp
      exact Eq.symm (st2_no (i := 17) (i1 := 19) (i2 := 21) (by decide) (by decide))
    | 18, ho, hD, hpre =>
      cases (show some _ = some o from ho)
      have e22 := ev_nfK (hV 3 22 rfl)
      have e23 := ev_nfK (hV 4 23 rfl)
      have x1 := FX.out D
      have x2 := F2.out D
      have x3 := F3.out D
      go_simp
      exact Eq.symm (st2_no (i := 18) (i1 := 19) (i2 := 21) (by decide) (by decide))
    | 19, ho, hD, hpre =>
      cases (show some _ = some o from ho)
      have e32 := ev_nfK (hV 13 32 rfl)
      have e37 := ev_nfK (hV 18 37 rfl)
      have x1 := FX.out D
      have x2 := F2.out D
      have x3 := F3.out D
      obtain ⟨cs, hc, hcl⟩ := FM.out D
      have mm := hc.mine v (List.getElem?_eq_getElem (by rw [hcl]; omega))
      go_simp
      exact Eq.symm (st2_a (i1 := 19) (i2 := 21) (by decide) (by exact DIS.out.1) hD)
    | 20, ho, hD, hpre =>
      cases (show some _ = some o from ho)
      have e27 := ev_nfK (hV 8 27 rfl)
      have e28 := ev_nfK (hV 9 28 rfl)
      have x1 := FX.out D
      have x2 := F2.out D
      have x3 := F3.out D
      go_simp
      exact Eq.symm (st2_no (i := 20) (i1 := 19) (i2 := 21) (by decide) (by decide))
    | 21, ho, hD, hpre =>
      cases (show some _ = some o from ho)
      have e36 := ev_nfK (hV 17 36 rfl)
      have e38 := ev_nfK (hV 20 38 rfl)
      have x1 := FX.out D
      have x2 := F2.out D
      have x3 := F3.out D
      obtain ⟨cs, hc, hcl⟩ := FL.out D
      have mm := hc.mine v (List.getElem?_eq_getElem (by rw [hcl]; omega))
      go_simp
      exact Eq.symm (st2_b (i1 := 19) (i2 := 21) (by decide) hD)
    | n + 22, ho, hD, hpre => cases (show none = some o from ho)
  case he =>
    simp only [putAll, dstOf, List.length_cons, List.length_nil, Nat.reduceAdd, List.getElem?_cons_zero, List.getElem?_cons_succ, Option.bind_some, List.getD_cons_zero, List.getD_cons_succ, Act.put, List.setIfInBounds_toArray, List.set_cons_zero, List.set_cons_succ, st2_all]
    have HX2 := hide (show TjAt ((W1.drew.setCell ⟨b.bm, v, none⟩ (.int .i64 (s.now + 1))).setCell ⟨b.bl, v, none⟩ (.int .i64 (s.now + 1))) b A c (s.mark v) from ((HY.out.grow (Grows.refl _).drew).setMet v _).setLow v _)
    have HT2 := hide (show Touch (TjOwn b A) w ((W1.drew.setCell ⟨b.bm, v, none⟩ (.int .i64 (s.now + 1))).setCell ⟨b.bl, v, none⟩ (.int .i64 (s.now + 1))) from ((HT.out.drew).set (.inl (.inl (.inr (.inl rfl)))) _).set (.inl (.inl (.inr (.inr (.inl rfl))))) _)
    have z2 : Arr ((W1.drew.setCell ⟨b.bm, v, none⟩ (.int .i64 (s.now + 1))).setCell ⟨b.bl, v, none⟩ (.int .i64 (s.now + 1))) b2 180 [.pointer (some ⟨b.bx, 0, none⟩)] := by
      exact ((x2.grow (Grows.refl _).drew).other (by show b.bm ≠ b2; omega) _).other (by show b.bl ≠ b2; omega) _
    have z3 : Arr ((W1.drew.setCell ⟨b.bm, v, none⟩ (.int .i64 (s.now + 1))).setCell ⟨b.bl, v, none⟩ (.int .i64 (s.now + 1))) b3 3 [.int .i64 (v : Int)] := by
      exact ((x3.grow (Grows.refl _).drew).other (by show b.bm ≠ b3; omega) _).other (by show b.bl ≠ b3; omega) _
    have hs2 := hide (show ((W1.drew.setCell ⟨b.bm, v, none⟩ (.int .i64 (s.now + 1))).setCell ⟨b.bl, v, none⟩ (.int .i64 (s.now + 1))).heap.size = b3 + 1 from by simp; exact hsz.out)
    clear FX F2 F3 FM FL x2 x3 HY HT hsz y1 hz0
    generalize (W1.drew.setCell ⟨b.bm, v, none⟩ (.int .i64 (s.now + 1))).setCell ⟨b.bl, v, none⟩ (.int .i64 (s.now + 1)) = W2 at *
    clear W1
    have ax : Arr W2 b.bx 182 [.pointer (some ⟨b.ba, 0, none⟩), .slice (some ⟨b.bm, 0, none⟩) b.N b.N, .slice (some ⟨b.bl, 0, none⟩) b.N b.N, .slice (some ⟨b.bp, 0, none⟩) b.N b.N, .slice A s.stk.length c, .int .i64 (s.now + 1), .slice (some ⟨b.bu, 0, none⟩) b.N b.N] := HX2.out.x
    have au : Arr W2 b.bu 4 (s.und.map .bool) := HX2.out.u
    have mu : Mine W2 ⟨b.bu, v, none⟩ (.bool (s.und.getD v false)) := au.mine v (by have : s.und.length = b.N := HS.out.u; simp [show v < s.und.length by omega])
    have hst : s.stk.length ≤ 4096 := by have := HS.out.len; omega
    have HS2 := hide (show s.stk.length ≤ 4096 from hst)
    clear ax au mu hst
    have FB := hide (fun (w1 : World) (ht : Touch (fun k => (k = b.bx ∨ k = b.bu) ∨ ∃ p, A = some p ∧ p.block = k) W2 w1) => (⟨z2.touch ht (by rintro ((e | e) | ⟨p, hp, e⟩); omega; omega; have := H.out.lts _ (.inr ⟨p, hp, rfl⟩); omega), z3.touch ht (by rintro ((e | e) | ⟨p, hp, e⟩); omega; omega; have := H.out.lts _ (.inr ⟨p, hp, rfl⟩); omega)⟩ : Arr w1 b2 _ _ ∧ Arr w1 b3 _ _))
    have hul : Hid (v < s.und.length) := by have : s.und.length = b.N := HS.out.u; show v < s.und.length; omega
    go_upto_region 3 with fail
    obtain ⟨V, hV⟩ : ∃ V : Nat → Option Value, V = (fun j => ([some (.pointer (some ⟨b.bx, 0, none⟩)), some (.pointer (some ⟨b.bx, 0, none⟩)), some (.pointer (some ⟨b.bx, 0, none⟩)), some (.pointer (some ⟨b.bx, 6, none⟩)), some (.slice (some ⟨b.bu, 0, none⟩) b.N b.N), some (.int .i64 (v : Int)), some (.pointer (some ⟨b.bx, 0, none⟩)), some (.pointer (some ⟨b.bx, 0, none⟩)), some (.pointer (some ⟨b.bx, 4, none⟩)), some (.slice A s.stk.length c), some (.int .i64 (v : Int)), none, none, some (.pointer (some ⟨b.bx, 0, none⟩)), some (.pointer (some ⟨b.bx, 4, none⟩)), none, some (.pointer (some ⟨b.bu, v, none⟩)), none] : List (Option Value)).getD j none) := ⟨_, rfl⟩
    refine wp_region_tab (by kernel_rfl) (by kernel_rfl) (by kernel_rfl) (by kernel_rfl) (TjR b A c (s.mark v) v W2 V) ?h03 ?hs3 ?he3
    case h03 =>
      refine ⟨fun j u hu hD => ?_, (Touch.refl _ W2).drew, fun h => absurd h (by decide), fun _ => HX2.out.o.grows (Grows.refl W2).drew, fun h => absurd h (by decide), HX2.out.x.grow (Grows.refl W2).drew, HX2.out.u.grow (Grows.refl W2).drew⟩
      have h9 : V j = none := by rw [hV]; show List.getD _ j none = none; rw [List.getD_eq_getElem?_getD, List.getElem?_eq_none (by simpa using hD)]; rfl
      rw [h9] at hu; cases hu
    case hs3 =>
      intro D g a w1 ht hj hcl i o ho hD hpre K hK
      match i, ho, hD, hpre, hK with
      | 0, ho, hD, hpre, hK =>
        cases (show some _ = some o from ho)
        rw [if_pos (by rfl)]
        have e2 := ev_nfK ((ht.out 2 (notDstK (by kernel_rfl))).trans rfl)
        have x2 := (FB.out w1 hj.touch).1
        go_simp
        exact hK _ _ (hj.plain (Grows.refl w1) (by decide) (fun u hu => by rw [hV] at hu; exact Option.some.inj (show some _ = some u from hu)))
      | 1, ho, hD, hpre, hK =>
        cases (show some _ = some o from ho)
        rw [if_pos (by rfl)]
        have e2 := ev_nfK ((ht.out 2 (notDstK (by kernel_rfl))).trans rfl)
        have x2 := (FB.out w1 hj.touch).1
        go_simp
        exact hK _ _ (hj.plain (Grows.refl w1) (by decide) (fun u hu => by rw [hV] at hu; exact Option.some.inj (show some _ = some u from hu)))
      | 2, ho, hD, hpre, hK =>
        cases (show some _ = some o from ho)
        rw [if_pos (by rfl)]
        have e40 := ev_nfK ((ht.at_ 1 40 rfl (hpre 1 (by kernel_rfl))).trans (hj.cs 1 _ (by rw [hV]; rfl) (hpre 1 (by kernel_rfl))))
        go_simp
        exact hK _ _ (hj.plain (Grows.refl w1) (by decide) (fun u hu => by rw [hV] at hu; exact Option.some.inj (show some _ = some u from hu)))
      | 3, ho, hD, hpre, hK =>
        cases (show some _ = some o from ho)
        rw [if_pos (by rfl)]
        have e41 := ev_nfK ((ht.at_ 2 41 rfl (hpre 2 (by kernel_rfl))).trans (hj.cs 2 _ (by rw [hV]; rfl) (hpre 2 (by kernel_rfl))))
        go_simp
        exact hK _ _ (hj.plain (Grows.refl w1) (by decide) (fun u hu => by rw [hV] at hu; exact Option.some.inj (show some _ = some u from hu)))
      | 4, ho, hD, hpre, hK =>
        cases (show some _ = some o from ho)
        rw [if_pos (by rfl)]
        have e42 := ev_nfK ((ht.at_ 3 42 rfl (hpre 3 (by kernel_rfl))).trans (hj.cs 3 _ (by rw [hV]; rfl) (hpre 3 (by kernel_rfl))))
        have x1 := hj.x
        go_simp
        exact hK _ _ (hj.plain (Grows.refl w1) (by decide) (fun u hu => by rw [hV] at hu; exact Option.some.inj (show some _ = some u from hu)))
      | 5, ho, hD, hpre, hK =>
        cases (show some _ = some o from ho)
        rw [if_pos (by rfl)]
        have e3 := ev_nfK ((ht.out 3 (notDstK (by kernel_rfl))).trans rfl)
        have x3 := (FB.out w1 hj.touch).2
        go_simp
        exact hK _ _ (hj.plain (Grows.refl w1) (by decide) (fun u hu => by rw [hV] at hu; exact Option.some.inj (show some _ = some u from hu)))
      | 6, ho, hD, hpre, hK =>
        cases (show some _ = some o from ho)
        rw [if_pos (by rfl)]
        have e2 := ev_nfK ((ht.out 2 (notDstK (by kernel_rfl))).trans rfl)
        have x2 := (FB.out w1 hj.touch).1
        go_simp
        exact hK _ _ (hj.plain (Grows.refl w1) (by decide) (fun u hu => by rw [hV] at hu; exact Option.some.inj (show some _ = some u from hu)))
      | 7, ho, hD, hpre, hK =>
        cases (show some _ = some o from ho)
        rw [if_pos (by rfl)]
        have e45 := ev_nfK ((ht.at_ 6 45 rfl (hpre 6 (by kernel_rfl))).trans (hj.cs 6 _ (by rw [hV]; rfl) (hpre 6 (by kernel_rfl))))
        go_simp
        exact hK _ _ (hj.plain (Grows.refl w1) (by decide) (fun u hu => by rw [hV] at hu; exact Option.some.inj (show some _ = some u from hu)))
      | 8, ho, hD, hpre, hK =>
        cases (show some _ = some o from ho)
        rw [if_pos (by rfl)]
        have e46 := ev_nfK ((ht.at_ 7 46 rfl (hpre 7 (by kernel_rfl))).trans (hj.cs 7 _ (by rw [hV]; rfl) (hpre 7 (by kernel_rfl))))
        go_simp
        exact hK _ _ (hj.plain (Grows.refl w1) (by decide) (fun u hu => by rw [hV] at hu; exact Option.some.inj (show some _ = some u from hu)))
      | 9, ho, hD, hpre, hK =>
        cases (show some _ = some o from ho)
        rw [if_pos (by rfl)]
        have e47 := ev_nfK ((ht.at_ 8 47 rfl (hpre 8 (by kernel_rfl))).trans (hj.cs 8 _ (by rw [hV]; rfl) (hpre 8 (by kernel_rfl))))
        have f12 : D 12 = false := by
          cases hh : D 12 with
          | false => rfl
          | true => have := hcl 12 9 hh (by kernel_rfl); simp_all
        have f15 : D 15 = false := by
          cases hh : D 15 with
          | false => rfl
          | true => have := hcl 15 12 hh (by kernel_rfl); simp_all
        have x1 := hj.x
        rw [f15] at x1
        simp only [Bool.false_eq_true, if_false] at x1
        go_simp
        exact hK _ _ (hj.plain (Grows.refl w1) (by decide) (fun u hu => by rw [hV] at hu; exact Option.some.inj (show some _ = some u from hu)))
      | 10, ho, hD, hpre, hK =>
        cases (show some _ = some o from ho)
        rw [if_pos (by rfl)]
        have e3 := ev_nfK ((ht.out 3 (notDstK (by kernel_rfl))).trans rfl)
        have x3 := (FB.out w1 hj.touch).2
        go_simp
        exact hK _ _ (hj.plain (Grows.refl w1) (by decide) (fun u hu => by rw [hV] at hu; exact Option.some.inj (show some _ = some u from hu)))
      | 11, ho, hD, hpre, hK =>
        cases (show some _ = some o from ho)
        rw [if_pos (by rfl)]
        have e49 := ev_nfK ((ht.at_ 10 49 rfl (hpre 10 (by kernel_rfl))).trans (hj.cs 10 _ (by rw [hV]; rfl) (hpre 10 (by kernel_rfl))))
        go_simp
        exact hK _ _ (hj.litS (by rw [hV]; rfl))
      | 12, ho, hD, hpre, hK =>
        cases (show some _ = some o from ho)
        have f15 : D 15 = false := by
          cases hh : D 15 with
          | false => rfl
          | true => have := hcl 15 12 hh (by kernel_rfl); simp_all
        have e48 := (ht.at_ 9 48 rfl (hpre 9 (by kernel_rfl))).trans (hj.cs 9 _ (by rw [hV]; rfl) (hpre 9 (by kernel_rfl)))
        obtain ⟨q, eq, hq, hqW⟩ := hj.lit (hpre 11 (by kernel_rfl)) hD
        have e50 := (ht.at_ 11 50 rfl (hpre 11 (by kernel_rfl))).trans eq
        exact step_appT elemInt rfl (.tmp 48) (.tmp 50) rfl (fun k => ∃ p, A = some p ∧ p.block = k) _ c A (nv s.stk) e48 (hj.old hD) (fun p hp => ⟨p, hp, rfl⟩) q 1 [.int .i64 (v : Int)] e50 rfl (fun j u hu => by match j, hu with | 0, hu => simp at hu; subst hu; exact hq.cell) (fun u hu => by simp at hu; subst hu; rfl) (by have := HS2.out; omega) (fun A2 c2 w2 ho2 ht2 hA2 => hK _ _ (hj.appS HX2.out (by rw [hV]; rfl) f15 ho2 ht2 hA2))
      | 13, ho, hD, hpre, hK =>
        cases (show some _ = some o from ho)
        rw [if_pos (by rfl)]
        have e39 := ev_nfK ((ht.at_ 0 39 rfl (hpre 0 (by kernel_rfl))).trans (hj.cs 0 _ (by rw [hV]; rfl) (hpre 0 (by kernel_rfl))))
        go_simp
        exact hK _ _ (hj.plain (Grows.refl w1) (by decide) (fun u hu => by rw [hV] at hu; exact Option.some.inj (show some _ = some u from hu)))
      | 14, ho, hD, hpre, hK =>
        cases (show some _ = some o from ho)
        rw [if_pos (by rfl)]
        have e52 := ev_nfK ((ht.at_ 13 52 rfl (hpre 13 (by kernel_rfl))).trans (hj.cs 13 _ (by rw [hV]; rfl) (hpre 13 (by kernel_rfl))))
        go_simp
        exact hK _ _ (hj.plain (Grows.refl w1) (by decide) (fun u hu => by rw [hV] at hu; exact Option.some.inj (show some _ = some u from hu)))
      | 15, ho, hD, hpre, hK =>
        cases (show some _ = some o from ho)
        rw [if_pos (by rfl)]
        have e53 := ev_nfK ((ht.at_ 14 53 rfl (hpre 14 (by kernel_rfl))).trans (hj.cs 14 _ (by rw [hV]; rfl) (hpre 14 (by kernel_rfl))))
        obtain ⟨A2, c2, e12, _⟩ := hj.new (hpre 12 (by kernel_rfl))
        have e51 := ev_nfK ((ht.at_ 12 51 rfl (hpre 12 (by kernel_rfl))).trans e12)
        have hh := hj.stS (u := undef) (by rw [hV]; rfl) (hpre 12 (by kernel_rfl))
        rw [e12] at hh
        have m4 := hj.x.mine 4 rfl
        clear e12
        go_simp
        exact hK _ _ hh
      | 16, ho, hD, hpre, hK =>
        cases (show some _ = some o from ho)
        rw [if_pos (by rfl)]
        have e43 := ev_nfK ((ht.at_ 4 43 rfl (hpre 4 (by kernel_rfl))).trans (hj.cs 4 _ (by rw [hV]; rfl) (hpre 4 (by kernel_rfl))))
        have e44 := ev_nfK ((ht.at_ 5 44 rfl (hpre 5 (by kernel_rfl))).trans (hj.cs 5 _ (by rw [hV]; rfl) (hpre 5 (by kernel_rfl))))
        go_simp
        exact hK _ _ (hj.plain (Grows.refl w1) (by decide) (fun u hu => by rw [hV] at hu; exact Option.some.inj (show some _ = some u from hu)))
      | 17, ho, hD, hpre, hK =>
        cases (show some _ = some o from ho)
        rw [if_pos (by rfl)]
        have e54 := ev_nfK ((ht.at_ 16 54 rfl (hpre 16 (by kernel_rfl))).trans (hj.cs 16 _ (by rw [hV]; rfl) (hpre 16 (by kernel_rfl))))
        have mu := hj.u.mine v (List.getElem?_eq_getElem (by rw [hD]; simpa [TjS.mark] using hul.out))
        go_simp
        exact hK _ _ (hj.suS (u := undef) (Nat.lt_of_lt_of_le o4 (by rw [hs2.out]; omega)) (by rw [hV]; rfl) hD)
      | n + 18, ho, hD, hpre, hK => cases (show none = some o from ho)
    case he3 =>
      intro D g w3 hj hD
      obtain ⟨x2, x3⟩ := FB.out w3 hj.touch
      obtain ⟨A3, c3, hfin, htf, hown⟩ := hj.fin HX2.out hD
      have HE3 := hide (show TjAt w3 b A3 c3 (s.enter v) from hfin)
      have HT3 := hide (HT2.out.trans2 htf (fun k hk => .inl hk))
      have hsz3 : Hid (b3 < w3.heap.size) := Nat.lt_of_lt_of_le (by rw [hs2.out]; omega) htf.size
      have HO3 := hide (show ∀ k, TjOwn b A3 k → TjOwn b A k ∨ b3 < k from fun k hk => by
        rcases hown k hk with h | h
        · exact .inl h
        · rw [hs2.out] at h; exact .inr (by omega))
      have x1 : Arr w3 b.bx 182 [.pointer (some ⟨b.ba, 0, none⟩), .slice (some ⟨b.bm, 0, none⟩) b.N b.N, .slice (some ⟨b.bl, 0, none⟩) b.N b.N, .slice (some ⟨b.bp, 0, none⟩) b.N b.N, .slice A3 (s.stk ++ [v]).length c3, .int .i64 (s.now + 1), .slice (some ⟨b.bu, 0, none⟩) b.N b.N] := hfin.x
      simp only [putAll, dstOf, List.length_cons, List.length_nil, Nat.reduceAdd, List.getElem?_cons_zero, List.getElem?_cons_succ, Option.bind_some, Act.put, List.setIfInBounds_toArray, List.set_cons_zero, List.set_cons_succ]
      clear hj hD hfin htf hown FB HS2 hul HX2 HT2 z2 z3 hV
      generalize g 0 = g0, g 1 = g1, g 2 = g2, g 3 = g3, g 4 = g4, g 5 = g5, g 6 = g6, g 7 = g7, g 8 = g8, g 9 = g9, g 10 = g10, g 11 = g11, g 12 = g12, g 13 = g13, g 14 = g14, g 16 = g16
      go_wp2_with fail
      refine wp_region_gen (by kernel_rfl) (by kernel_rfl) ?_
      (repeat' (first | (refine gLex_val0 rfl (by kernel_rfl) (fun K hK => ?_); (go_simp; (try (simp only [↓IntWalk.iteOmega]; try go_simp)); (try simp (disch := omega) only [IntWalk.i64_in]); (try simp (disch := omega) only [IntWalk.u64_in]); first | (refine hK _ ?_; clear hK K) | (apply Exists.intro; refine ⟨fun x => ?_, hK _ ?_⟩; (first | fail); clear hK K))) | (refine gLex_undef rfl rfl rfl (by kernel_rfl) (fun K hK => ?_); go_simp; refine hK _ ?_; clear hK K) | (refine gLex_ask rfl rfl rfl ?_; first | (apply gAsk_yes; kernel_rfl; intro K hK; (go_simp; (try (simp only [↓IntWalk.iteOmega]; try go_simp)); (try simp (disch := omega) only [IntWalk.i64_in]); (try simp (disch := omega) only [IntWalk.u64_in]); first | (refine hK _ ?_; clear hK K) | (apply Exists.intro; refine ⟨fun x => ?_, hK _ ?_⟩; (first | fail); clear hK K))) | ((first | apply gAsk_no1 | apply gAsk_no2); kernel_rfl; intro K hK; simp [go_sem]; refine hK _ ?_; clear hK K))))
      refine gLex_prop rfl (by kernel_rfl) rfl (by simp) (EachP b.ba v false w3.heap.size) (EachP.lasts _ _ _ _) (fun y => by
        go_simp
        refine (adjEach b.ba v false _).mono ?_
        rintro e w' ⟨b1, rfl, hb1, i1, i2, i3, hg⟩
        exact ⟨_, rfl, hg, b1, rfl, by have := y.size; omega, i1, i2, i3⟩) ?_
      refine gLex_endQ1 (by simp) (fun y3 vv hv => ?_)
      obtain ⟨b1, rfl, hb1, i1, i2, i3⟩ := hv
      simp only [Act.put, List.setIfInBounds_toArray, List.set_cons_zero, List.set_cons_succ]
      have hg3 : Grows w3 y3.now := y3.grows
      generalize y3.now = W3 at *
      have hi3 := i3.lt
      go_wp2_with fail
      have HW := hide (HE3.out.grow hg3)
      have hmet := hide (show ∀ k, TjOwn b A3 k → k < w3.heap.size from HE3.out.lts)
      have j2 : Arr W3 b2 180 _ := x2.grow hg3
      have j3 : Arr W3 b3 3 _ := x3.grow hg3
      have HT4 := hide (HT3.out.grows hg3)
      have HA3 := hide (show AdjAt F W3 b.ba b.N E from HA.out.touch HT4.out (fun k hk => (HF.out k hk).2))
      have hFlo : Hid (∀ k, F k → k < w.heap.size ∧ ¬ TjOwn b A3 k) := fun k hk => ⟨(HF.out k hk).1, fun e => by
        rcases HO3.out k e with h | h
        · exact (HF.out k hk).2 h
        · have := (HF.out k hk).1; omega⟩
      have hn2 : Hid (¬ TjOwn b A3 b2 ∧ ¬ TjOwn b A3 b3) := by
        refine ⟨fun e => ?_, fun e => ?_⟩
        · rcases HO3.out _ e with h | h
          · have := H.out.lts _ h; omega
          · omega
        · rcases HO3.out _ e with h | h
          · have := H.out.lts _ h; omega
          · omega
      have hB3 : Hid (∀ k, (F k ∨ (b1 ≤ k ∧ k ≤ b1 + 1 + 1)) → k < W3.heap.size ∧ ¬ TjOwn b A3 k) := fun k hk => by
        have hz := hg3.size
        have hw3 := HT3.out.size
        rcases hk with hk | hk
        · exact ⟨by have := (hFlo.out k hk).1; omega, (hFlo.out k hk).2⟩
        · exact ⟨by omega, fun e => by have := hmet.out k e; omega⟩
      have hrow : Hid (∀ v, ∀ u ∈ tjRow E v, u < b.N) := fun v u hu => by
        unfold tjRow at hu
        rw [List.mem_map] at hu
        obtain ⟨i, hi, rfl⟩ := hu
        exact (hE.t i (by simp [rowN] at hi; exact hi.1)).1
      obtain ⟨hok0, hcn0⟩ := HS.out.enter hv H0.out
      have hcn1 : (s.enter v).met.count 0 ≤ n := by have := HC.out; omega
      have HFO := hide (fun (p : List Nat) (hp : ∀ u ∈ p, u < b.N) => fold_ok (v := v) (n := n) (fun u s h hu h0 hc => tj_ok hrow.out n u s h hu h0 hc) p (s.enter v) hp hok0 hcn1)
      clear hok0 hcn0
      clear x1 x2 x3 HE3 y3
      refine (wpIn_wide (n := 0)).1 ?_
      refine wp_frame fun fr hfr => ?_
      refine wp_rangeG (w0 := W3) (gf := 131) (by rw [hfr]; rfl) (enters_of Tryz.func131 (by kernel_rfl) rfl)
        (each_gives F (fun k => F k ∨ (b1 ≤ k ∧ k ≤ b1 + 1 + 1)) (fun _ => False) b.ba b.N E v false b1 W3 HA3.out (fun k hk => .inl (.inl hk)) hE hv (by omega) (by omega) (fun k hk => hk.elim) (.inl (.inr ⟨by omega, by omega⟩)) (.inl (.inr ⟨by omega, by omega⟩)) (.inl (.inr ⟨by omega, by omega⟩)) i1 i2 i3)
        (Keeps.refl _ _ _) (fun k hk => (hB3.out k hk).1) (fun k hk => hk.elim) (fun _ => rfl)
        (TjI b E n v (s.enter v) A3 W3) (fun _ _ _ _ => False) (TjI.yields b E n v (s.enter v) A3 W3) (fun c _ _ _ _ _ h _ _ => h.elim) ⟨A3, c3, TjC.start HW.out⟩
        (TjB' b E n v (s.enter v) A3 W3 fr) ?hIb ?assign ?body ?done ?stop
      case hIb => exact fun i a' => TjB'.yields b E n v (s.enter v) A3 W3 fr i a'
      case assign =>
        intro l2 p i rest Mi W hsp hI
        have HI := hide hI
        clear hI
        rw [hfr]
        unfold encE eVal
        gi_wp2
        have hgA : Grows W (W.alloc (.cells #[.int .i64 (ge E i).f, .int .i64 (ge E i).t, .int .u64 (ge E i).w] 59)) := (Grows.refl _).new _
        obtain ⟨A4, c4, hc4⟩ := HI.out
        refine ⟨⟨W.heap.size, A4, c4, ?_, hc4.grow hgA, Arr.make _ _ _, fun e => by have := (hc4.ms _ e).2.1; omega, fun e => by have := hc4.is.lts _ e; omega⟩, hgA.touch _⟩
        simp only [tjFr, eVal, List.setIfInBounds_toArray, List.set_cons_zero, List.set_cons_succ]
      case body =>
        rintro l2 p i rest Mi a' W hsp hl2 hMl hrec ⟨b5, A4, c4, rfl, hc, hb5, hm5, hn5⟩
        have hmem : ∀ j ∈ p ++ i :: rest, j < E.length := fun j hj => by rw [← hsp] at hj; simp [rowN] at hj; exact hj.1
        have het := hE.t i (hmem i (by simp))
        obtain ⟨hok, htx⟩ := HFO.out (p.map (tN E)) (fun u hu => by
          rw [List.mem_map] at hu
          obtain ⟨j, hj, rfl⟩ := hu
          exact (hE.t j (hmem j (by simp [hj]))).1)
        have hcnt := Nat.le_trans htx.cnt hcn1
        change TjOk b.N (tjF E n v (s.enter v) p) at hok
        change (tjF E n v (s.enter v) p).met.count 0 ≤ n at hcnt
        have hstep := tjF_snoc E n v (s.enter v) p i
        obtain ⟨R, hR⟩ : ∃ R : World → Prop, R = fun w1 => Keeps (fun k => F k ∨ (b1 ≤ k ∧ k ≤ b1 + 1 + 1)) Mi W w1 ∧ TjI b E n v (s.enter v) A3 W3 (p ++ [i]) Mi w1 := ⟨_, rfl⟩
        refine wpIn_mono (Q := fun e _ w1 => e = .normal ∧ R w1) ?_ (fun e a2 w2 h => by
          obtain ⟨rfl, h⟩ := h
          rw [hR] at h
          exact h)
        have CR := hide (fun (A' : Option Addr) (c' : Nat) (s' : TjS) (w1 : World) (hs : s' = tjF E n v (s.enter v) (p ++ [i])) (hk : Touch (TjOwn b A4) W w1) (h : TjC b A3 W3 A' c' s' Mi w1) => show R w1 from by
          rw [hR]
          exact ⟨hc.keeps hB3.out hk, A', c', by rw [← hs]; exact h⟩)
        rw [hstep] at CR
        clear hR hstep htx hmem hsp
        rw [het.2] at hb5
        have hu := het.1
        generalize tN E i = u at *
        have HAW := hide (HA3.out.touch hc.tch (fun k hk => (hFlo.out k hk).2))
        generalize tjF E n v (s.enter v) p = sp at *
        rw [hfr]
        simp only [tjFr, List.setIfInBounds_toArray, List.set_cons_zero, List.set_cons_succ]
        have y1 : Arr W b.bx 182 [.pointer (some ⟨b.ba, 0, none⟩), .slice (some ⟨b.bm, 0, none⟩) b.N b.N, .slice (some ⟨b.bl, 0, none⟩) b.N b.N, .slice (some ⟨b.bp, 0, none⟩) b.N b.N, .slice A4 sp.stk.length c4, .int .i64 sp.now, .slice (some ⟨b.bu, 0, none⟩) b.N b.N] := hc.is.x
        have y2 := hc.arr j2 hn2.out.1
        have y3 := hc.arr j3 hn2.out.2
        have m0 : sp.met.length = b.N := hok.m
        have m2 : sp.und.length = b.N := hok.u
        have hmu : Holds W ⟨b.bm, u, none⟩ (.int .i64 (gi sp.met u)) := ⟨by rw [hc.is.m.cell]; simp [gi, show u < sp.met.length by omega]⟩
        have hun : Holds W ⟨b.bu, u, none⟩ (.bool (gbo sp.und u)) := ⟨by rw [hc.is.u.cell]; simp [gbo, show u < sp.und.length by omega]⟩
        have HCC := hide hc
        have HOK := hide hok
        have HCN := hide hcnt
        have IH2 := hide (fun (h0 : gi sp.met u = 0) => IH.out u A4 c4 sp W hc.is HAW.out (fun k hk => ⟨Nat.lt_of_lt_of_le (hFlo.out k hk).1 (Nat.le_trans HT4.out.size hc.tch.size), fun e => by
          rcases hc.own k e with h | h
          · exact (hFlo.out k hk).2 h
          · have := (hFlo.out k hk).1; have := HT4.out.size; omega⟩) hok hu h0 hcnt)
        have HK5 := hide (fun (h0 : gi sp.met u = 0) => tj_ok hrow.out n u sp hok hu h0 hcnt)
        have hlow : sp.low.length = b.N := hok.l
        have hne := hc.is.nes
        have hdis := hc.is.dis
        have hb23 : Hid (∀ A', (∀ k, TjOwn b A' k → TjOwn b A4 k ∨ W.heap.size ≤ k) → ¬ TjOwn b A' b2 ∧ ¬ TjOwn b A' b3) := fun A' ho => by
          have l2 := y2.lt
          have l3 := y3.lt
          have k2 := (HW.out.x).lt
          have q2 := j2.lt
          have q3 := j3.lt
          refine ⟨fun e => ?_, fun e => ?_⟩
          · rcases ho _ e with h | h
            · rcases hc.own _ h with h | h
              · exact hn2.out.1 h
              · omega
            · omega
          · rcases ho _ e with h | h
            · rcases hc.own _ h with h | h
              · exact hn2.out.2 h
              · omega
            · omega
        clear hc hok hcnt m0 m2 hfr hl2 hMl hrec hm5 hn5 het HAW IH HFO hrow hcn1 hB3 hn2 hFlo HA3 HT4 j2 j3 hmet HW hi3 hg3 i1 i2 i3 hb1 HO3 hsz3 HT3 hs2 hrt hb2 hb3 o1 o2 o3 o4 hnow DIS HC H0 HS HF HA H V D g
        by_cases h0 : gi sp.met u = 0
        · have I3 := hide (IH2.out h0)
          have HK6 := hide (HK5.out h0)
          have HE := hide (show TjS.edge (tj (tjRow E) n) v u sp = (tj (tjRow E) n u sp).lower v (gi (tj (tjRow E) n u sp).low u) from if_pos h0)
          have hbz : (gi sp.met u == 0) = true := by simpa using h0
          clear h0 IH2 HK5
          generalize gi sp.met u = mu at *
          generalize gbo sp.und u = uu at *
          gi_wp2_with (gi_at_call 124; refine (calls_in (wideF_round l2) I3.out).mono ?_; rintro e w5 ⟨rfl, A5, c5, h5, t5, o5⟩; have H5 := hide h5; have T5 := hide t5; have O5 := hide o5; clear h5 t5 o5)
          have z1 : Arr w5 b.bx 182 [.pointer (some ⟨b.ba, 0, none⟩), .slice (some ⟨b.bm, 0, none⟩) b.N b.N, .slice (some ⟨b.bl, 0, none⟩) b.N b.N, .slice (some ⟨b.bp, 0, none⟩) b.N b.N, .slice A5 (tj (tjRow E) n u sp).stk.length c5, .int .i64 (tj (tjRow E) n u sp).now, .slice (some ⟨b.bu, 0, none⟩) b.N b.N] := H5.out.x
          have z2 := y2.touch T5.out (hb23.out A4 (fun k hk => .inl hk)).1
          have z3 := y3.touch T5.out (hb23.out A4 (fun k hk => .inl hk)).2
          have FIN := hide (CR.out A5 c5 _ _ HE.out.symm ((T5.out.drew).set (.inl (.inl (.inr (.inr (.inl rfl))))) _) (((HCC.out.call H5.out T5.out O5.out).grow (Grows.refl _).drew).lower v (gi (tj (tjRow E) n u sp).low u)))
          have hl5 : (tj (tjRow E) n u sp).low.length = b.N := HK6.out.1.l
          have hlv : Holds w5 ⟨b.bl, v, none⟩ (.int .i64 (gi (tj (tjRow E) n u sp).low v)) := ⟨by rw [H5.out.l.cell]; simp [gi, show v < (tj (tjRow E) n u sp).low.length by omega]⟩
          have hlu : Holds w5 ⟨b.bl, u, none⟩ (.int .i64 (gi (tj (tjRow E) n u sp).low u)) := ⟨by rw [H5.out.l.cell]; simp [gi, show u < (tj (tjRow E) n u sp).low.length by omega]⟩
          have hmv : Mine w5 ⟨b.bl, v, none⟩ (.int .i64 (gi (tj (tjRow E) n u sp).low v)) := H5.out.l.mine v (by simp [gi, show v < (tj (tjRow E) n u sp).low.length by omega])
          clear H5 T5 O5 I3 HE HOK HCN HK6 hl5 CR HCC y1 y2 y3 hmu hun hb5 hlow
          generalize gi (tj (tjRow E) n u sp).low v = lv at *
          generalize gi (tj (tjRow E) n u sp).low u = lu at *
          generalize (tj (tjRow E) n u sp).stk.length = ns at *
          generalize (tj (tjRow E) n u sp).now = nw at *
          have n1 : b.bl ≠ b.bx := Ne.symm nl
          have n2 : b.bl ≠ b2 := fun e => (hb23.out A4 (fun k hk => .inl hk)).1 (.inl (.inr (.inr (.inl e.symm))))
          have n3 : b.bl ≠ b3 := fun e => (hb23.out A4 (fun k hk => .inl hk)).2 (.inl (.inr (.inr (.inl e.symm))))
          have FX := hide (fun D => st1_arr (D := D) (i := 21) (p := ⟨b.bl, v, none⟩) (v := .int .i64 (min lv lu)) (z1.grow (Grows.refl _).drew) (by exact n1))
          have F2 := hide (fun D => st1_arr (D := D) (i := 21) (p := ⟨b.bl, v, none⟩) (v := .int .i64 (min lv lu)) (z2.grow (Grows.refl _).drew) (by exact n2))
          have F3 := hide (fun D => st1_arr (D := D) (i := 21) (p := ⟨b.bl, v, none⟩) (v := .int .i64 (min lv lu)) (z3.grow (Grows.refl _).drew) (by exact n3))
          clear z1 z2 z3 hb23 hne hdis
          refine wpIn_region_know (by kernel_rfl) (wideF_round l2) (by kernel_rfl) (by kernel_rfl) (by kernel_rfl) (by kernel_rfl) (by kernel_rfl) (fun j => ([.pointer (some ⟨b.bx, 0, none⟩), .pointer (some ⟨b.bx, 0, none⟩), .pointer (some ⟨b.bx, 2, none⟩), .slice (some ⟨b.bl, 0, none⟩) b.N b.N, .int .i64 (v : Int), .pointer (some ⟨b.bx, 0, none⟩), .pointer (some ⟨b.bx, 0, none⟩), .pointer (some ⟨b.bx, 2, none⟩), .slice (some ⟨b.bl, 0, none⟩) b.N b.N, .int .i64 (v : Int), .pointer (some ⟨b.bl, v, none⟩), .int .i64 lv, .pointer (some ⟨b.bx, 0, none⟩), .pointer (some ⟨b.bx, 0, none⟩), .pointer (some ⟨b.bx, 2, none⟩), .slice (some ⟨b.bl, 0, none⟩) b.N b.N, .int .i64 (u : Int), .pointer (some ⟨b.bl, u, none⟩), .int .i64 lu, .int .i64 (min lv lu), .pointer (some ⟨b.bl, v, none⟩), undef] : List Value).getD j undef) (st1 w5.drew 21 ⟨b.bl, v, none⟩ (.int .i64 (min lv lu))) (st1_start (by decide)) ?hs9 ?he9
          case hs9 =>
            intro a hV hO i o ho D hcl hD hpre
            match i, ho, hD, hpre with
            | 0, ho, hD, hpre =>
              cases (show some _ = some o from ho)
              have e2 := ev_nfK ((hO 2 (notDstK (by kernel_rfl))).trans rfl)
              have x1 := FX.out D
              have x2 := F2.out D
              have x3 := F3.out D
              go_simp
              exact (st1_no (i := 21) (k := 0) (by decide)).symm
            | 1, ho, hD, hpre =>
              cases (show some _ = some o from ho)
              have e77 := ev_nfK (hV 0 77 rfl)
              have x1 := FX.out D
              have x2 := F2.out D
              have x3 := F3.out D
              go_simp
              exact (st1_no (i := 21) (k := 1) (by decide)).symm
            | 2, ho, hD, hpre =>
              cases (show some _ = some o from ho)
              have e78 := ev_nfK (hV 1 78 rfl)
              have x1 := FX.out D
              have x2 := F2.out D
              have x3 := F3.out D
              go_simp
              exact (st1_no (i := 21) (k := 2) (by decide)).symm
            | 3, ho, hD, hpre =>
              cases (show some _ = some o from ho)
              have e79 := ev_nfK (hV 2 79 rfl)
              have x1 := FX.out D
              have x2 := F2.out D
              have x3 := F3.out D
              go_simp
              exact (st1_no (i := 21) (k := 3) (by decide)).symm
            | 4, ho, hD, hpre =>
              cases (show some _ = some o from ho)
              have e3 := ev_nfK ((hO 3 (notDstK (by kernel_rfl))).trans rfl)
              have x1 := FX.out D
              have x2 := F2.out D
              have x3 := F3.out D
              go_simp
              exact (st1_no (i := 21) (k := 4) (by decide)).symm
            | 5, ho, hD, hpre =>
              cases (show some _ = some o from ho)
              have e2 := ev_nfK ((hO 2 (notDstK (by kernel_rfl))).trans rfl)
              have x1 := FX.out D
              have x2 := F2.out D
              have x3 := F3.out D
              go_simp
              exact (st1_no (i := 21) (k := 5) (by decide)).symm
            | 6, ho, hD, hpre =>
              cases (show some _ = some o from ho)
              have e82 := ev_nfK (hV 5 82 rfl)
              have x1 := FX.out D
              have x2 := F2.out D
              have x3 := F3.out D
              go_simp
              exact (st1_no (i := 21) (k := 6) (by decide)).symm
            | 7, ho, hD, hpre =>
              cases (show some _ = some o from ho)
              have e83 := ev_nfK (hV 6 83 rfl)
              have x1 := FX.out D
              have x2 := F2.out D
              have x3 := F3.out D
              go_simp
              exact (st1_no (i := 21) (k := 7) (by decide)).symm
            | 8, ho, hD, hpre =>
              cases (show some _ = some o from ho)
              have e84 := ev_nfK (hV 7 84 rfl)
              have x1 := FX.out D
              have x2 := F2.out D
              have x3 := F3.out D
              go_simp
              exact (st1_no (i := 21) (k := 8) (by decide)).symm
            | 9, ho, hD, hpre =>
              cases (show some _ = some o from ho)
              have e3 := ev_nfK ((hO 3 (notDstK (by kernel_rfl))).trans rfl)
              have x1 := FX.out D
              have x2 := F2.out D
              have x3 := F3.out D
              go_simp
              exact (st1_no (i := 21) (k := 9) (by decide)).symm
            | 10, ho, hD, hpre =>
              cases (show some _ = some o from ho)
              have e85 := ev_nfK (hV 8 85 rfl)
              have e86 := ev_nfK (hV 9 86 rfl)
              have x1 := FX.out D
              have x2 := F2.out D
              have x3 := F3.out D
              go_simp
              exact (st1_no (i := 21) (k := 10) (by decide)).symm
            | 11, ho, hD, hpre =>
              cases (show some _ = some o from ho)
              have e87 := ev_nfK (hV 10 87 rfl)
              have f21 : D 21 = false := by
                cases hh : D 21 with
                | false => rfl
                | true => have h1 := hcl 21 19 hh (by kernel_rfl); have h2 := hcl 19 11 h1 (by kernel_rfl); simp_all
              have hl := hlv
              rw [st1_off f21]
              go_simp
              exact ((st1_no (i := 21) (k := 11) (by decide)).trans (st1_off f21)).symm
            | 12, ho, hD, hpre =>
              cases (show some _ = some o from ho)
              have e2 := ev_nfK ((hO 2 (notDstK (by kernel_rfl))).trans rfl)
              have x1 := FX.out D
              have x2 := F2.out D
              have x3 := F3.out D
              go_simp
              exact (st1_no (i := 21) (k := 12) (by decide)).symm
            | 13, ho, hD, hpre =>
              cases (show some _ = some o from ho)
              have e89 := ev_nfK (hV 12 89 rfl)
              have x1 := FX.out D
              have x2 := F2.out D
              have x3 := F3.out D
              go_simp
              exact (st1_no (i := 21) (k := 13) (by decide)).symm
            | 14, ho, hD, hpre =>
              cases (show some _ = some o from ho)
              have e90 := ev_nfK (hV 13 90 rfl)
              have x1 := FX.out D
              have x2 := F2.out D
              have x3 := F3.out D
              go_simp
              exact (st1_no (i := 21) (k := 14) (by decide)).symm
            | 15, ho, hD, hpre =>
              cases (show some _ = some o from ho)
              have e91 := ev_nfK (hV 14 91 rfl)
              have x1 := FX.out D
              have x2 := F2.out D
              have x3 := F3.out D
              go_simp
              exact (st1_no (i := 21) (k := 15) (by decide)).symm
            | 16, ho, hD, hpre =>
              cases (show some _ = some o from ho)
              have e6 := ev_nfK ((hO 6 (notDstK (by kernel_rfl))).trans rfl)
              have x1 := FX.out D
              have x2 := F2.out D
              have x3 := F3.out D
              go_simp
              exact (st1_no (i := 21) (k := 16) (by decide)).symm
            | 17, ho, hD, hpre =>
              cases (show some _ = some o from ho)
              have e92 := ev_nfK (hV 15 92 rfl)
              have e93 := ev_nfK (hV 16 93 rfl)
              have x1 := FX.out D
              have x2 := F2.out D
              have x3 := F3.out D
              go_simp
              exact (st1_no (i := 21) (k := 17) (by decide)).symm
            | 18, ho, hD, hpre =>
              cases (show some _ = some o from ho)
              have e94 := ev_nfK (hV 17 94 rfl)
              have f21 : D 21 = false := by
                cases hh : D 21 with
                | false => rfl
                | true => have h1 := hcl 21 19 hh (by kernel_rfl); have h2 := hcl 19 18 h1 (by kernel_rfl); simp_all
              have hl := hlu
              rw [st1_off f21]
              go_simp
              exact ((st1_no (i := 21) (k := 18) (by decide)).trans (st1_off f21)).symm
            | 19, ho, hD, hpre =>
              cases (show some _ = some o from ho)
              have e88 := ev_nfK (hV 11 88 rfl)
              have e95 := ev_nfK (hV 18 95 rfl)
              have x1 := FX.out D
              have x2 := F2.out D
              have x3 := F3.out D
              go_simp
              exact (st1_no (i := 21) (k := 19) (by decide)).symm
            | 20, ho, hD, hpre =>
              cases (show some _ = some o from ho)
              have e80 := ev_nfK (hV 3 80 rfl)
              have e81 := ev_nfK (hV 4 81 rfl)
              have x1 := FX.out D
              have x2 := F2.out D
              have x3 := F3.out D
              go_simp
              exact (st1_no (i := 21) (k := 20) (by decide)).symm
            | 21, ho, hD, hpre =>
              cases (show some _ = some o from ho)
              have e96 := ev_nfK (hV 19 96 rfl)
              have e97 := ev_nfK (hV 20 97 rfl)
              have mm := hmv
              rw [st1_off hD]
              go_simp
              simp [st1]
              rfl
            | n + 22, ho, hD, hpre => cases (show none = some o from ho)
          case he9 =>
            exact ⟨rfl, FIN.out⟩
        · have hbz : (gi sp.met u == 0) = false := by simpa using h0
          cases hbu : gbo sp.und u with
          | false =>
            rw [hbu] at hun
            have HE := hide (show TjS.edge (tj (tjRow E) n) v u sp = sp from by unfold TjS.edge; rw [if_neg h0, hbu, if_neg Bool.false_ne_true])
            have FIN := hide (CR.out A4 c4 _ _ HE.out.symm (Touch.refl _ _) HCC.out)
            clear h0 IH2 HK5 hbu HE CR HCC HOK HCN hb23 hne hdis hlow
            generalize gi sp.met u = mu at *
            gi_wp2
            exact FIN.out
          | true =>
            rw [hbu] at hun
            have HE := hide (show TjS.edge (tj (tjRow E) n) v u sp = sp.lower v (gi sp.met u) from by unfold TjS.edge; rw [if_neg h0, hbu, if_pos rfl])
            have FIN := hide (CR.out A4 c4 _ _ HE.out.symm (((Touch.refl _ W).drew).set (.inl (.inl (.inr (.inr (.inl rfl))))) _) ((HCC.out.grow (Grows.refl _).drew).lower v (gi sp.met u)))
            have hlv : Holds W ⟨b.bl, v, none⟩ (.int .i64 (gi sp.low v)) := ⟨by rw [HCC.out.is.l.cell]; simp [gi, show v < sp.low.length by omega]⟩
            have hmv : Mine W ⟨b.bl, v, none⟩ (.int .i64 (gi sp.low v)) := HCC.out.is.l.mine v (by simp [gi, show v < sp.low.length by omega])
            clear h0 IH2 HK5 hbu HE CR HCC HOK HCN hne hlow
            generalize gi sp.met u = mu at *
            generalize gi sp.low v = lv at *
            have n1 : b.bl ≠ b.bx := Ne.symm nl
            have n2 : b.bl ≠ b2 := fun e => (hb23.out A4 (fun k hk => .inl hk)).1 (.inl (.inr (.inr (.inl e.symm))))
            have n3 : b.bl ≠ b3 := fun e => (hb23.out A4 (fun k hk => .inl hk)).2 (.inl (.inr (.inr (.inl e.symm))))
            have hlu := hmu
            gi_wp2_with fail
            have FX := hide (fun D => st1_arr (D := D) (i := 21) (p := ⟨b.bl, v, none⟩) (v := .int .i64 (min lv mu)) (y1.grow (Grows.refl _).drew) (by exact n1))
            have F2 := hide (fun D => st1_arr (D := D) (i := 21) (p := ⟨b.bl, v, none⟩) (v := .int .i64 (min lv mu)) (y2.grow (Grows.refl _).drew) (by exact n2))
            have F3 := hide (fun D => st1_arr (D := D) (i := 21) (p := ⟨b.bl, v, none⟩) (v := .int .i64 (min lv mu)) (y3.grow (Grows.refl _).drew) (by exact n3))
            clear y1 y2 y3 hb23 hdis hun hmu hb5
            refine wpIn_region_know (by kernel_rfl) (wideF_round l2) (by kernel_rfl) (by kernel_rfl) (by kernel_rfl) (by kernel_rfl) (by kernel_rfl) (fun j => ([.pointer (some ⟨b.bx, 0, none⟩), .pointer (some ⟨b.bx, 0, none⟩), .pointer (some ⟨b.bx, 2, none⟩), .slice (some ⟨b.bl, 0, none⟩) b.N b.N, .int .i64 (v : Int), .pointer (some ⟨b.bx, 0, none⟩), .pointer (some ⟨b.bx, 0, none⟩), .pointer (some ⟨b.bx, 2, none⟩), .slice (some ⟨b.bl, 0, none⟩) b.N b.N, .int .i64 (v : Int), .pointer (some ⟨b.bl, v, none⟩), .int .i64 lv, .pointer (some ⟨b.bx, 0, none⟩), .pointer (some ⟨b.bx, 0, none⟩), .pointer (some ⟨b.bx, 1, none⟩), .slice (some ⟨b.bm, 0, none⟩) b.N b.N, .int .i64 (u : Int), .pointer (some ⟨b.bm, u, none⟩), .int .i64 mu, .int .i64 (min lv mu), .pointer (some ⟨b.bl, v, none⟩), undef] : List Value).getD j undef) (st1 W.drew 21 ⟨b.bl, v, none⟩ (.int .i64 (min lv mu))) (st1_start (by decide)) ?hs11 ?he11
            case hs11 =>
              intro a hV hO i o ho D hcl hD hpre
              match i, ho, hD, hpre with
              | 0, ho, hD, hpre =>
                cases (show some _ = some o from ho)
                have e2 := ev_nfK ((hO 2 (notDstK (by kernel_rfl))).trans rfl)
                have x1 := FX.out D
                have x2 := F2.out D
                have x3 := F3.out D
                go_simp
                exact (st1_no (i := 21) (k := 0) (by decide)).symm
              | 1, ho, hD, hpre =>
                cases (show some _ = some o from ho)
                have e106 := ev_nfK (hV 0 106 rfl)
                have x1 := FX.out D
                have x2 := F2.out D
                have x3 := F3.out D
                go_simp
                exact (st1_no (i := 21) (k := 1) (by decide)).symm
              | 2, ho, hD, hpre =>
                cases (show some _ = some o from ho)
                have e107 := ev_nfK (hV 1 107 rfl)
                have x1 := FX.out D
                have x2 := F2.out D
                have x3 := F3.out D
                go_simp
                exact (st1_no (i := 21) (k := 2) (by decide)).symm
              | 3, ho, hD, hpre =>
                cases (show some _ = some o from ho)
                have e108 := ev_nfK (hV 2 108 rfl)
                have x1 := FX.out D
                have x2 := F2.out D
                have x3 := F3.out D
                go_simp
                exact (st1_no (i := 21) (k := 3) (by decide)).symm
              | 4, ho, hD, hpre =>
                cases (show some _ = some o from ho)
                have e3 := ev_nfK ((hO 3 (notDstK (by kernel_rfl))).trans rfl)
                have x1 := FX.out D
                have x2 := F2.out D
                have x3 := F3.out D
                go_simp
                exact (st1_no (i := 21) (k := 4) (by decide)).symm
              | 5, ho, hD, hpre =>
                cases (show some _ = some o from ho)
                have e2 := ev_nfK ((hO 2 (notDstK (by kernel_rfl))).trans rfl)
                have x1 := FX.out D
                have x2 := F2.out D
                have x3 := F3.out D
                go_simp
                exact (st1_no (i := 21) (k := 5) (by decide)).symm
              | 6, ho, hD, hpre =>
                cases (show some _ = some o from ho)
                have e111 := ev_nfK (hV 5 111 rfl)
                have x1 := FX.out D
                have x2 := F2.out D
                have x3 := F3.out D
                go_simp
                exact (st1_no (i := 21) (k := 6) (by decide)).symm
              | 7, ho, hD, hpre =>
                cases (show some _ = some o from ho)
                have e112 := ev_nfK (hV 6 112 rfl)
                have x1 := FX.out D
                have x2 := F2.out D
                have x3 := F3.out D
                go_simp
                exact (st1_no (i := 21) (k := 7) (by decide)).symm
              | 8, ho, hD, hpre =>
                cases (show some _ = some o from ho)
                have e113 := ev_nfK (hV 7 113 rfl)
                have x1 := FX.out D
                have x2 := F2.out D
                have x3 := F3.out D
                go_simp
                exact (st1_no (i := 21) (k := 8) (by decide)).symm
              | 9, ho, hD, hpre =>
                cases (show some _ = some o from ho)
                have e3 := ev_nfK ((hO 3 (notDstK (by kernel_rfl))).trans rfl)
                have x1 := FX.out D
                have x2 := F2.out D
                have x3 := F3.out D
                go_simp
                exact (st1_no (i := 21) (k := 9) (by decide)).symm
              | 10, ho, hD, hpre =>
                cases (show some _ = some o from ho)
                have e114 := ev_nfK (hV 8 114 rfl)
                have e115 := ev_nfK (hV 9 115 rfl)
                have x1 := FX.out D
                have x2 := F2.out D
                have x3 := F3.out D
                go_simp
                exact (st1_no (i := 21) (k := 10) (by decide)).symm
              | 11, ho, hD, hpre =>
                cases (show some _ = some o from ho)
                have e116 := ev_nfK (hV 10 116 rfl)
                have f21 : D 21 = false := by
                  cases hh : D 21 with
                  | false => rfl
                  | true => have h1 := hcl 21 19 hh (by kernel_rfl); have h2 := hcl 19 11 h1 (by kernel_rfl); simp_all
                have hl := hlv
                rw [st1_off f21]
                go_simp
                exact ((st1_no (i := 21) (k := 11) (by decide)).trans (st1_off f21)).symm
              | 12, ho, hD, hpre =>
                cases (show some _ = some o from ho)
                have e2 := ev_nfK ((hO 2 (notDstK (by kernel_rfl))).trans rfl)
                have x1 := FX.out D
                have x2 := F2.out D
                have x3 := F3.out D
                go_simp
                exact (st1_no (i := 21) (k := 12) (by decide)).symm
              | 13, ho, hD, hpre =>
                cases (show some _ = some o from ho)
                have e118 := ev_nfK (hV 12 118 rfl)
                have x1 := FX.out D
                have x2 := F2.out D
                have x3 := F3.out D
                go_simp
                exact (st1_no (i := 21) (k := 13) (by decide)).symm
              | 14, ho, hD, hpre =>
                cases (show some _ = some o from ho)
                have e119 := ev_nfK (hV 13 119 rfl)
                have x1 := FX.out D
                have x2 := F2.out D
                have x3 := F3.out D
                go_simp
                exact (st1_no (i := 21) (k := 14) (by decide)).symm
              | 15, ho, hD, hpre =>
                cases (show some _ = some o from ho)
                have e120 := ev_nfK (hV 14 120 rfl)
                have x1 := FX.out D
                have x2 := F2.out D
                have x3 := F3.out D
                go_simp
                exact (st1_no (i := 21) (k := 15) (by decide)).symm
              | 16, ho, hD, hpre =>
                cases (show some _ = some o from ho)
                have e6 := ev_nfK ((hO 6 (notDstK (by kernel_rfl))).trans rfl)
                have x1 := FX.out D
                have x2 := F2.out D
                have x3 := F3.out D
                go_simp
                exact (st1_no (i := 21) (k := 16) (by decide)).symm
              | 17, ho, hD, hpre =>
                cases (show some _ = some o from ho)
                have e121 := ev_nfK (hV 15 121 rfl)
                have e122 := ev_nfK (hV 16 122 rfl)
                have x1 := FX.out D
                have x2 := F2.out D
                have x3 := F3.out D
                go_simp
                exact (st1_no (i := 21) (k := 17) (by decide)).symm
              | 18, ho, hD, hpre =>
                cases (show some _ = some o from ho)
                have e123 := ev_nfK (hV 17 123 rfl)
                have f21 : D 21 = false := by
                  cases hh : D 21 with
                  | false => rfl
                  | true => have h1 := hcl 21 19 hh (by kernel_rfl); have h2 := hcl 19 18 h1 (by kernel_rfl); simp_all
                have hl := hlu
                rw [st1_off f21]
                go_simp
                exact ((st1_no (i := 21) (k := 18) (by decide)).trans (st1_off f21)).symm
              | 19, ho, hD, hpre =>
                cases (show some _ = some o from ho)
                have e117 := ev_nfK (hV 11 117 rfl)
                have e124 := ev_nfK (hV 18 124 rfl)
                have x1 := FX.out D
                have x2 := F2.out D
                have x3 := F3.out D
                go_simp
                exact (st1_no (i := 21) (k := 19) (by decide)).symm
              | 20, ho, hD, hpre =>
                cases (show some _ = some o from ho)
                have e109 := ev_nfK (hV 3 109 rfl)
                have e110 := ev_nfK (hV 4 110 rfl)
                have x1 := FX.out D
                have x2 := F2.out D
                have x3 := F3.out D
                go_simp
                exact (st1_no (i := 21) (k := 20) (by decide)).symm
              | 21, ho, hD, hpre =>
                cases (show some _ = some o from ho)
                have e125 := ev_nfK (hV 19 125 rfl)
                have e126 := ev_nfK (hV 20 126 rfl)
                have mm := hmv
                rw [st1_off hD]
                go_simp
                simp [st1]
                rfl
              | n + 22, ho, hD, hpre => cases (show none = some o from ho)
            case he11 => exact ⟨rfl, FIN.out⟩
      case done =>
        intro Dd Mi W hlD hMD hI hDW
        obtain ⟨A4, c4, hc⟩ := hI
        obtain ⟨hok, htx⟩ := HFO.out (tjRow E v) (hrow.out v)
        change TjOk b.N (tjF E n v (s.enter v) (rowN (nN E false) E.length v)) at hok
        change TjX (s.enter v) (tjF E n v (s.enter v) (rowN (nN E false) E.length v)) at htx
        have hcl : tj (tjRow E) (n + 1) v s = (tjF E n v (s.enter v) (rowN (nN E false) E.length v)).close v := rfl
        generalize tjF E n v (s.enter v) (rowN (nN E false) E.length v) = sp at *
        have hin : v ∈ sp.stk := htx.stk.subset (by simp [TjS.enter])
        have HCL := hide hcl
        have y1 : Arr W b.bx 182 [.pointer (some ⟨b.ba, 0, none⟩), .slice (some ⟨b.bm, 0, none⟩) b.N b.N, .slice (some ⟨b.bl, 0, none⟩) b.N b.N, .slice (some ⟨b.bp, 0, none⟩) b.N b.N, .slice A4 sp.stk.length c4, .int .i64 sp.now, .slice (some ⟨b.bu, 0, none⟩) b.N b.N] := hc.is.x
        have y2 := hc.arr j2 hn2.out.1
        have y3 := hc.arr j3 hn2.out.2
        have m0 : sp.met.length = b.N := hok.m
        have m1 : sp.low.length = b.N := hok.l
        have hmv : Holds W ⟨b.bm, v, none⟩ (.int .i64 (gi sp.met v)) := ⟨by rw [hc.is.m.cell]; simp [gi, show v < sp.met.length by omega]⟩
        have hlv : Holds W ⟨b.bl, v, none⟩ (.int .i64 (gi sp.low v)) := ⟨by rw [hc.is.l.cell]; simp [gi, show v < sp.low.length by omega]⟩
        have HMD := hide (show ¬ TjOwn b A4 Dd ∧ W3.heap.size ≤ Dd from ⟨(hc.ms Dd hMD).2.2, hlD⟩)
        have HGV := hide (fun (A' : Option Addr) (c' : Nat) (s' : TjS) (w1 w2 : World) (h1 : TjAt w1 b A' c' s') (h2 : Touch (TjOwn b A4) W w1) (ho : ∀ k, TjOwn b A' k → TjOwn b A4 k) (ht : Touch (fun k => k ∈ [Dd]) w1 w2) => show ∃ A' c', TjAt w2 b A' c' s' ∧ Touch (TjOwn b A) w w2 ∧ ∀ k, TjOwn b A' k → TjOwn b A k ∨ w.heap.size ≤ k from by
          have hz3 := HT4.out.size
          refine ⟨A', c', h1.touch ht (fun k hk e => by rw [List.mem_singleton.1 e] at hk; exact HMD.out.1 (ho _ hk)), ?_, fun k hk => ?_⟩
          · refine ((HT4.out.trans2 hc.tch (fun k hk => ?_)).trans2 h2 (fun k hk => ?_)).trans2 ht (fun k hk => .inr (by rw [List.mem_singleton.1 hk]; exact Nat.le_trans hz3 HMD.out.2))
            · rcases HO3.out k hk with h | h
              · exact .inl h
              · exact .inr (by omega)
            · rcases hc.own k hk with h | h
              · rcases HO3.out k h with h | h
                · exact .inl h
                · exact .inr (by omega)
              · exact .inr (by omega)
          · rcases hc.own k (ho k hk) with h | h
            · rcases HO3.out k h with h | h
              · exact .inl h
              · exact .inr (by omega)
            · exact .inr (by omega))
        have HAT := hide hc.is
        have HDW := hide hDW
        have HOK := hide hok
        have HIN := hide hin
        have hb23 := hide (show (¬ TjOwn b A4 b2 ∧ ¬ TjOwn b A4 b3) ∧ b2 < W3.heap.size ∧ b3 < W3.heap.size from ⟨⟨fun e => by
          rcases hc.own _ e with h | h
          · exact hn2.out.1 h
          · have := j2.lt; omega, fun e => by
          rcases hc.own _ e with h | h
          · exact hn2.out.2 h
          · have := j3.lt; omega⟩, j2.lt, j3.lt⟩)
        have hN1 : sp.stk.length ≤ 4096 := by have h1 := hok.len; have h2 := hok.le; omega
        have hne := hc.is.nes
        have hdis := hc.is.dis
        clear hc hok htx hcl hin hDW m0 m1 hlD hMD IH HFO hrow hcn1 hB3 hn2 hFlo HA3 HT4 j2 j3 hmet HW hi3 hg3 i1 i2 i3 hb1 HO3 hsz3 HT3 hs2 hrt hb2 hb3 o1 o2 o3 o4 hnow DIS HC H0 HS HF HA H V D g
        rw [hfr]
        clear hfr fr
        gi_wp2
        go_wp2_with fail
        by_cases hlt : gi sp.low v < gi sp.met v
        · have HE1 := hide (show sp.close v = sp from if_pos hlt)
          have hlt2 : decide (gi sp.low v < gi sp.met v) = true := decide_eq_true hlt
          generalize gi sp.low v = lv at *
          generalize gi sp.met v = mv at *
          ((first | refine wp_region_gen (by kernel_rfl) (by kernel_rfl) ?_); (repeat' (first | (refine gLex_val0 rfl (by kernel_rfl) (fun K hK => ?_); (go_simp; (try (simp only [↓IntWalk.iteOmega]; try go_simp)); (try simp (disch := omega) only [IntWalk.i64_in]); (try simp (disch := omega) only [IntWalk.u64_in]); first | (refine hK _ ?_; clear hK K) | (apply Exists.intro; refine ⟨fun x => ?_, hK _ ?_⟩; (first | fail); clear hK K))) | (refine gLex_undef rfl rfl rfl (by kernel_rfl) (fun K hK => ?_); go_simp; refine hK _ ?_; clear hK K) | (refine gLex_ask rfl rfl rfl ?_; first | (apply gAsk_yes; kernel_rfl; intro K hK; (go_simp; (try (simp only [↓IntWalk.iteOmega]; try go_simp)); (try simp (disch := omega) only [IntWalk.i64_in]); (try simp (disch := omega) only [IntWalk.u64_in]); first | (refine hK _ ?_; clear hK K) | (apply Exists.intro; refine ⟨fun x => ?_, hK _ ?_⟩; (first | fail); clear hK K))) | ((first | apply gAsk_no1 | apply gAsk_no2); kernel_rfl; intro K hK; simp [go_sem]; refine hK _ ?_; clear hK K) | (apply gAsk_part; kernel_rfl; all_goals (intro h K hK; (try simp only [Bool.not_true] at h); (try simp only [Bool.not_false] at h); (try simp only [decide_eq_true_eq] at h); (try simp only [decide_eq_false_iff_not] at h); first | (exfalso; first | contradiction | omega) | (go_simp; (try (simp only [↓IntWalk.iteOmega]; try go_simp)); (try simp (disch := omega) only [IntWalk.i64_in]); (try simp (disch := omega) only [IntWalk.u64_in]); first | (refine hK _ ?_; clear hK K) | (apply Exists.intro; refine ⟨fun x => ?_, hK _ ?_⟩; (first | fail); clear hK K))))))); all_goals ((apply gLex_end); intro y))
          go_wp2_with fail
          refine marks_ret [Dd] rfl ((Marks.nil _).cons ((y.grows.touch (fun _ => False)).at id HDW.out) (by simp)) (fun W' htt => ?_)
          refine ⟨_, results_none rfl _ _ _, rfl, ?_⟩
          rw [HCL.out, HE1.out]
          exact HGV.out A4 c4 sp y.now W' (HAT.out.grow y.grows) (y.grows.touch _) (fun _ h => h) htt
        · have HE1 := hide (show sp.close v = sp.cut v from if_neg hlt)
          have hlt2 : decide (gi sp.low v < gi sp.met v) = false := decide_eq_false hlt
          generalize gi sp.low v = lv at *
          generalize gi sp.met v = mv at *
          clear hlt
          have hi0 := ixOf_lt HIN.out
          have CI := hide (fun (W1 : World) (hg : Grows W W1) => slIndexE A4 c4 sp.stk v W1 (HAT.out.o.rd.grows hg) (by omega) HIN.out)
          obtain ⟨gs, cur, hA4, _, _, hnc, _⟩ := HAT.out.o.at_ (by omega)
          have CM := hide (fun (W1 : World) (hg : Grows W W1) (cc : Nat) => slMin (some ⟨gs, ixOf sp.stk v, none⟩) cc (sp.stk.drop (ixOf sp.stk v)) W1 (by have := (Rd.dropN (by rw [← hA4]; exact HAT.out.o.rd.grows hg) (ixOf sp.stk v) (by omega)); simpa using this) (by rw [List.length_drop]; omega) (by rw [List.length_drop]; omega))
          have hst : Hid (∀ k, k < sp.stk.length → Holds W ⟨gs, k, none⟩ (.int .i64 (gn sp.stk k : Int))) := fun k hk => by
            obtain ⟨b', off', e', h'⟩ := Rd.nats HAT.out.o.rd (by omega)
            rw [hA4] at e'
            cases e'
            simpa using h' k hk
          have HCUT := hide (show sp.cut v = { sp with part := setAll sp.part (sp.stk.drop (ixOf sp.stk v)) (minT (sp.stk.drop (ixOf sp.stk v)) (sp.stk.drop (ixOf sp.stk v)).length : Int), und := setAll sp.und (sp.stk.drop (ixOf sp.stk v)) false, stk := sp.stk.take (ixOf sp.stk v) } from rfl)
          have hln : (sp.stk.drop (ixOf sp.stk v)).length = sp.stk.length - ixOf sp.stk v := List.length_drop
          rw [hln] at CM HCUT
          clear hln
          generalize minT (sp.stk.drop (ixOf sp.stk v)) (sp.stk.length - ixOf sp.stk v) = least at *
          generalize ixOf sp.stk v = i0 at *
          subst hA4
          ((first | refine wp_region_gen (by kernel_rfl) (by kernel_rfl) ?_); (repeat' (first | (refine gLex_val0 rfl (by kernel_rfl) (fun K hK => ?_); (go_simp; (try (simp only [↓IntWalk.iteOmega]; try go_simp)); (try simp (disch := omega) only [IntWalk.i64_in]); (try simp (disch := omega) only [IntWalk.u64_in]); first | (refine hK _ ?_; clear hK K) | (apply Exists.intro; refine ⟨fun x => ?_, hK _ ?_⟩; (first | fail); clear hK K))) | (refine gLex_undef rfl rfl rfl (by kernel_rfl) (fun K hK => ?_); go_simp; refine hK _ ?_; clear hK K) | (refine gLex_ask rfl rfl rfl ?_; first | (apply gAsk_yes; kernel_rfl; intro K hK; (go_simp; (try (simp only [↓IntWalk.iteOmega]; try go_simp)); (try simp (disch := omega) only [IntWalk.i64_in]); (try simp (disch := omega) only [IntWalk.u64_in]); first | (refine hK _ ?_; clear hK K) | (apply Exists.intro; refine ⟨fun x => ?_, hK _ ?_⟩; (first | fail); clear hK K))) | ((first | apply gAsk_no1 | apply gAsk_no2); kernel_rfl; intro K hK; simp [go_sem]; refine hK _ ?_; clear hK K) | (apply gAsk_part; kernel_rfl; all_goals (intro h K hK; (try simp only [Bool.not_true] at h); (try simp only [Bool.not_false] at h); (try simp only [decide_eq_true_eq] at h); (try simp only [decide_eq_false_iff_not] at h); first | (exfalso; first | contradiction | omega) | (go_simp; (try (simp only [↓IntWalk.iteOmega]; try go_simp)); (try simp (disch := omega) only [IntWalk.i64_in]); (try simp (disch := omega) only [IntWalk.u64_in]); first | (refine hK _ ?_; clear hK K) | (apply Exists.intro; refine ⟨fun x => ?_, hK _ ?_⟩; (first | fail); clear hK K))))))); all_goals ((apply gLex_end); intro y))
          go_wp2_with fail
          ((first | refine wp_region_gen (by kernel_rfl) (by kernel_rfl) ?_); (repeat' (first | (refine gLex_val0 rfl (by kernel_rfl) (fun K hK => ?_); (go_simp; (try (simp only [↓IntWalk.iteOmega]; try go_simp)); (try simp (disch := omega) only [IntWalk.i64_in]); (try simp (disch := omega) only [IntWalk.u64_in]); first | (refine hK _ ?_; clear hK K) | (apply Exists.intro; refine ⟨fun x => ?_, hK _ ?_⟩; (first | (go_at_call 151; exact calls_same (CI.out _ GG))); clear hK K))) | (refine gLex_undef rfl rfl rfl (by kernel_rfl) (fun K hK => ?_); go_simp; refine hK _ ?_; clear hK K) | (refine gLex_ask rfl rfl rfl ?_; first | (apply gAsk_yes; kernel_rfl; intro K hK; (go_simp; (try (simp only [↓IntWalk.iteOmega]; try go_simp)); (try simp (disch := omega) only [IntWalk.i64_in]); (try simp (disch := omega) only [IntWalk.u64_in]); first | (refine hK _ ?_; clear hK K) | (apply Exists.intro; refine ⟨fun x => ?_, hK _ ?_⟩; (first | (go_at_call 151; exact calls_same (CI.out _ GG))); clear hK K))) | ((first | apply gAsk_no1 | apply gAsk_no2); kernel_rfl; intro K hK; simp [go_sem]; refine hK _ ?_; clear hK K) | (apply gAsk_part; kernel_rfl; all_goals (intro h K hK; (try simp only [Bool.not_true] at h); (try simp only [Bool.not_false] at h); (try simp only [decide_eq_true_eq] at h); (try simp only [decide_eq_false_iff_not] at h); first | (exfalso; first | contradiction | omega) | (go_simp; (try (simp only [↓IntWalk.iteOmega]; try go_simp)); (try simp (disch := omega) only [IntWalk.i64_in]); (try simp (disch := omega) only [IntWalk.u64_in]); first | (refine hK _ ?_; clear hK K) | (apply Exists.intro; refine ⟨fun x => ?_, hK _ ?_⟩; (first | (go_at_call 151; exact calls_same (CI.out _ GG))); clear hK K))))))); all_goals ((apply gLex_end); intro y4))
          go_wp2_with (go_at_call 152; refine (CM.out _ GG _).mono ?_; rintro e w' ⟨rfl, rfl⟩)
          have hyg : Grows W y4.now := y.grows.trans y4.grows
          have HAT4 := hide (HAT.out.grow hyg)
          have HT4 := hide (hyg.touch (TjOwn b (some ⟨gs, 0, none⟩)))
          have HS0 := hide (fun k (hk : i0 + k < sp.stk.length) => (HOK.out.stk (gn sp.stk (i0 + k)) (by simp [gn, hk])).1)
          have hlen : Hid (sp.part.length = b.N ∧ sp.und.length = b.N) := ⟨HOK.out.p, HOK.out.u⟩
          have FY2 := hide (fun (wr : World) (ht : Touch (TjOwn b (some ⟨gs, 0, none⟩)) W wr) => y2.touch ht hb23.out.1.1)
          clear CI CM hst y1 y2 y3 hlv hmv hlt2 HIN HAT
          generalize y4.now = W5 at *
          clear hyg y4
          obtain ⟨stK, hK⟩ : ∃ stK : Nat → TjS, stK = fun k => { sp with part := setAll sp.part ((sp.stk.drop i0).take k) (least : Int), und := setAll sp.und ((sp.stk.drop i0).take k) false } := ⟨_, rfl⟩
          have HKS := hide (show ∀ k, i0 + k < sp.stk.length → stK (k + 1) = { stK k with part := (stK k).part.set (gn sp.stk (i0 + k)) (least : Int), und := (stK k).und.set (gn sp.stk (i0 + k)) false } from fun k hk => by
            rw [hK]
            simp only [setAll_succ _ _ _ (show k < (sp.stk.drop i0).length by rw [List.length_drop]; omega), gn_drop])
          have HK0 := hide (show stK 0 = sp from by rw [hK]; rfl)
          have HKN := hide (show { stK (sp.stk.length - i0) with stk := sp.stk.take i0 } = sp.cut v from by
            rw [hK, HCUT.out]
            simp only [List.take_of_length_le (show (sp.stk.drop i0).length ≤ sp.stk.length - i0 by rw [List.length_drop]; omega)])
          have HKL := hide (show ∀ k, (stK k).stk = sp.stk ∧ (stK k).part.length = b.N ∧ (stK k).und.length = b.N ∧ (stK k).now = sp.now from fun k => by
            rw [hK]
            exact ⟨rfl, (setAll_len _ _ _).trans hlen.out.1, (setAll_len _ _ _).trans hlen.out.2, rfl⟩)
          rw [← HK0.out] at HAT4
          clear hK HK0 hlen HCUT
          go_loopw [158] (fun q wr => ∃ k : Nat, k ≤ sp.stk.length - i0 ∧ q = .int .i64 (k : Int) ∧ TjAt wr b (some ⟨gs, 0, none⟩) c4 (stK k) ∧ Touch (TjOwn b (some ⟨gs, 0, none⟩)) W wr) (fun q _ => sp.stk.length - (Go.RowKit.intOf q).toNat)
          case atStart => exact ⟨0, by omega, by go_num, HAT4.out, HT4.out⟩
          case round =>
            obtain ⟨k, hk, rfl, hat, htw⟩ := hrel
            have H1 := hide hat
            have H2 := hide htw
            have hx1 := hat.x
            have hx2 := FY2.out _ htw
            obtain ⟨k1, k2, k3, k4⟩ := HKL.out k
            rw [k1, k4] at hx1
            clear hat htw HAT4 HT4
            by_cases hlt : k < sp.stk.length - i0
            · have hu := HS0.out k (by omega)
              have hh : Holds wr ⟨gs, i0 + k, none⟩ (.int .i64 (gn sp.stk (i0 + k) : Int)) := by
                have ho := H1.out.o
                rw [k1] at ho
                obtain ⟨b', off', e', h'⟩ := Rd.nats ho.rd (by omega)
                cases e'
                simpa using h' (i0 + k) (by omega)
              have HN := hide (HKS.out k (by omega))
              generalize gn sp.stk (i0 + k) = u at *
              go_wp2_with fail
              have n1 : b.bp ≠ b.bx := Ne.symm np
              have n2 : b.bu ≠ b.bx := Ne.symm nu
              have n3 : b.bp ≠ b2 := fun e => hb23.out.1.1 (.inl (.inr (.inr (.inr (.inl e.symm)))))
              have n4 : b.bu ≠ b2 := fun e => hb23.out.1.1 (.inl (.inr (.inr (.inr (.inr e.symm)))))
              have n5 : b.bu ≠ b.bp := hne.2.1.2.2
              have FX := hide (fun D => st2_arr (D := D) (i1 := 12) (i2 := 14) (p1 := ⟨b.bp, u, none⟩) (p2 := ⟨b.bu, u, none⟩) (v1 := .int .i64 (least : Int)) (v2 := .bool false) (hx1.grow (Grows.refl _).drew) (by exact n1) (by exact n2))
              have F2 := hide (fun D => st2_arr (D := D) (i1 := 12) (i2 := 14) (p1 := ⟨b.bp, u, none⟩) (p2 := ⟨b.bu, u, none⟩) (v1 := .int .i64 (least : Int)) (v2 := .bool false) (hx2.grow (Grows.refl _).drew) (by exact n3) (by exact n4))
              have FM := hide (fun D => st2_len (k1 := u) (k2 := u) (D := D) (i1 := 12) (i2 := 14) (p1 := ⟨b.bp, u, none⟩) (p2 := ⟨b.bu, u, none⟩) (v1 := .int .i64 (least : Int)) (v2 := .bool false) (H1.out.p.grow (Grows.drew (Grows.refl _))) (.inl rfl) (.inr (by exact n5)))
              have FL := hide (fun D => st2_len (k1 := u) (k2 := u) (D := D) (i1 := 12) (i2 := 14) (p1 := ⟨b.bp, u, none⟩) (p2 := ⟨b.bu, u, none⟩) (v1 := .int .i64 (least : Int)) (v2 := .bool false) (H1.out.u.grow (Grows.drew (Grows.refl _))) (.inr (by exact Ne.symm n5)) (.inl rfl))
              simp only [List.length_map, k2, k3] at FM FL
              clear hx1 hx2 hh hne hdis n1 n2 n3 n4
              refine wp_region_know (by kernel_rfl) (by kernel_rfl) (by kernel_rfl) (by kernel_rfl) (by kernel_rfl) (fun j => ([.pointer (some ⟨b.bx, 0, none⟩), .pointer (some ⟨b.bx, 0, none⟩), .pointer (some ⟨b.bx, 3, none⟩), .slice (some ⟨b.bp, 0, none⟩) b.N b.N, .int .i64 (u : Int), .pointer (some ⟨b.bx, 0, none⟩), .pointer (some ⟨b.bx, 0, none⟩), .pointer (some ⟨b.bx, 6, none⟩), .slice (some ⟨b.bu, 0, none⟩) b.N b.N, .int .i64 (u : Int), .int .i64 (least : Int), .pointer (some ⟨b.bp, u, none⟩), undef, .pointer (some ⟨b.bu, u, none⟩), undef] : List Value).getD j undef) (st2 wr.drew 12 ⟨b.bp, u, none⟩ (.int .i64 (least : Int)) 14 ⟨b.bu, u, none⟩ (.bool false)) (st2_start (by decide) (by decide)) ?hs19 ?he19
              case hs19 =>
                intro a hV hO i o ho D hcl hD hpre
                clear hcl
                match i, ho, hD, hpre with
                | 0, ho, hD, hpre =>
                  cases (show some _ = some o from ho)
                  have e2 := ev_nfK ((hO 2 (notDstK (by kernel_rfl))).trans rfl)
                  have x1 := FX.out D
                  have x2 := F2.out D
                  go_simp
                  exact Eq.symm (st2_no (i := 0) (i1 := 12) (i2 := 14) (by decide) (by decide))
                | 1, ho, hD, hpre =>
                  cases (show some _ = some o from ho)
                  have e162 := ev_nfK (hV 0 162 rfl)
                  have x1 := FX.out D
                  have x2 := F2.out D
                  go_simp
                  exact Eq.symm (st2_no (i := 1) (i1 := 12) (i2 := 14) (by decide) (by decide))
                | 2, ho, hD, hpre =>
                  cases (show some _ = some o from ho)
                  have e163 := ev_nfK (hV 1 163 rfl)
                  have x1 := FX.out D
                  have x2 := F2.out D
                  go_simp
                  exact Eq.symm (st2_no (i := 2) (i1 := 12) (i2 := 14) (by decide) (by decide))
                | 3, ho, hD, hpre =>
                  cases (show some _ = some o from ho)
                  have e164 := ev_nfK (hV 2 164 rfl)
                  have x1 := FX.out D
                  have x2 := F2.out D
                  go_simp
                  exact Eq.symm (st2_no (i := 3) (i1 := 12) (i2 := 14) (by decide) (by decide))
                | 4, ho, hD, hpre =>
                  cases (show some _ = some o from ho)
                  have e11 := ev_nfK ((hO 11 (notDstK (by kernel_rfl))).trans rfl)
                  have x1 := FX.out D
                  have x2 := F2.out D
                  go_simp
                  exact Eq.symm (st2_no (i := 4) (i1 := 12) (i2 := 14) (by decide) (by decide))
                | 5, ho, hD, hpre =>
                  cases (show some _ = some o from ho)
                  have e2 := ev_nfK ((hO 2 (notDstK (by kernel_rfl))).trans rfl)
                  have x1 := FX.out D
                  have x2 := F2.out D
                  go_simp
                  exact Eq.symm (st2_no (i := 5) (i1 := 12) (i2 := 14) (by decide) (by decide))
                | 6, ho, hD, hpre =>
                  cases (show some _ = some o from ho)
                  have e167 := ev_nfK (hV 5 167 rfl)
                  have x1 := FX.out D
                  have x2 := F2.out D
                  go_simp
                  exact Eq.symm (st2_no (i := 6) (i1 := 12) (i2 := 14) (by decide) (by decide))
                | 7, ho, hD, hpre =>
                  cases (show some _ = some o from ho)
                  have e168 := ev_nfK (hV 6 168 rfl)
                  have x1 := FX.out D
                  have x2 := F2.out D
                  go_simp
                  exact Eq.symm (st2_no (i := 7) (i1 := 12) (i2 := 14) (by decide) (by decide))
                | 8, ho, hD, hpre =>
                  cases (show some _ = some o from ho)
                  have e169 := ev_nfK (hV 7 169 rfl)
                  have x1 := FX.out D
                  have x2 := F2.out D
                  go_simp
                  exact Eq.symm (st2_no (i := 8) (i1 := 12) (i2 := 14) (by decide) (by decide))
                | 9, ho, hD, hpre =>
                  cases (show some _ = some o from ho)
                  have e11 := ev_nfK ((hO 11 (notDstK (by kernel_rfl))).trans rfl)
                  have x1 := FX.out D
                  have x2 := F2.out D
                  go_simp
                  exact Eq.symm (st2_no (i := 9) (i1 := 12) (i2 := 14) (by decide) (by decide))
                | 10, ho, hD, hpre =>
                  cases (show some _ = some o from ho)
                  have e9 := ev_nfK ((hO 9 (notDstK (by kernel_rfl))).trans rfl)
                  have x1 := FX.out D
                  have x2 := F2.out D
                  go_simp
                  exact Eq.symm (st2_no (i := 10) (i1 := 12) (i2 := 14) (by decide) (by decide))
                | 11, ho, hD, hpre =>
                  cases (show some _ = some o from ho)
                  have e165 := ev_nfK (hV 3 165 rfl)
                  have e166 := ev_nfK (hV 4 166 rfl)
                  have x1 := FX.out D
                  have x2 := F2.out D
                  go_simp
                  exact Eq.symm (st2_no (i := 11) (i1 := 12) (i2 := 14) (by decide) (by decide))
                | 12, ho, hD, hpre =>
                  cases (show some _ = some o from ho)
                  have e172 := ev_nfK (hV 10 172 rfl)
                  have e173 := ev_nfK (hV 11 173 rfl)
                  have x1 := FX.out D
                  have x2 := F2.out D
                  obtain ⟨cs, hc, hcl⟩ := FM.out D
                  have mm := hc.mine u (List.getElem?_eq_getElem (by rw [hcl]; omega))
                  go_simp
                  exact Eq.symm (st2_a (i1 := 12) (i2 := 14) (by decide) (by exact Ne.symm n5) hD)
                | 13, ho, hD, hpre =>
                  cases (show some _ = some o from ho)
                  have e170 := ev_nfK (hV 8 170 rfl)
                  have e171 := ev_nfK (hV 9 171 rfl)
                  have x1 := FX.out D
                  have x2 := F2.out D
                  go_simp
                  exact Eq.symm (st2_no (i := 13) (i1 := 12) (i2 := 14) (by decide) (by decide))
                | 14, ho, hD, hpre =>
                  cases (show some _ = some o from ho)
                  have e174 := ev_nfK (hV 13 174 rfl)
                  have x1 := FX.out D
                  have x2 := F2.out D
                  obtain ⟨cs, hc, hcl⟩ := FL.out D
                  have mm := hc.mine u (List.getElem?_eq_getElem (by rw [hcl]; omega))
                  go_simp
                  exact Eq.symm (st2_b (i1 := 12) (i2 := 14) (by decide) hD)
                | n + 15, ho, hD, hpre => cases (show none = some o from ho)
              case he19 =>
                simp only [putAll, dstOf, List.length_cons, List.length_nil, Nat.reduceAdd, List.getElem?_cons_zero, List.getElem?_cons_succ, Option.bind_some, List.getD_cons_zero, List.getD_cons_succ, Act.put, List.setIfInBounds_toArray, List.set_cons_zero, List.set_cons_succ, st2_all]
                have G1 := hide (show TjAt ((wr.drew.setCell ⟨b.bp, u, none⟩ (.int .i64 (least : Int))).setCell ⟨b.bu, u, none⟩ (.bool false)) b (some ⟨gs, 0, none⟩) c4 (stK (k + 1)) from by rw [HN.out]; exact ((H1.out.grow (Grows.refl _).drew).setPart u _).setUnd u false)
                have G2 := hide (show Touch (TjOwn b (some ⟨gs, 0, none⟩)) W ((wr.drew.setCell ⟨b.bp, u, none⟩ (.int .i64 (least : Int))).setCell ⟨b.bu, u, none⟩ (.bool false)) from ((H2.out.drew).set (.inl (.inl (.inr (.inr (.inr (.inl rfl)))))) _).set (.inl (.inl (.inr (.inr (.inr (.inr rfl)))))) _)
                clear FX F2 FM FL HN H1 H2
                generalize (wr.drew.setCell ⟨b.bp, u, none⟩ (.int .i64 (least : Int))).setCell ⟨b.bu, u, none⟩ (.bool false) = w6 at *
                go_wp2_with fail
                go_roundw
                case measure => simp [Go.RowKit.intOf]; omega
                case rel => exact ⟨k + 1, by omega, by go_num, G1.out, G2.out⟩
            · obtain rfl : k = sp.stk.length - i0 := by omega
              go_wp2_with fail
              have hx4 := hx1.mine 4 rfl
              have hic : i0 ≤ c4 := by omega
              have n1 : b.bx ≠ b2 := fun e => hb23.out.1.1 (.inl (.inl e.symm))
              have F2 := hide (fun D => st1_arr (D := D) (i := 9) (p := ⟨b.bx, 4, none⟩) (v := .slice (some ⟨gs, 0, none⟩) i0 c4) (hx2.grow (Grows.refl _).drew) (by exact n1))
              refine wp_region_know (by kernel_rfl) (by kernel_rfl) (by kernel_rfl) (by kernel_rfl) (by kernel_rfl) (fun j => ([.pointer (some ⟨b.bx, 0, none⟩), .pointer (some ⟨b.bx, 0, none⟩), .pointer (some ⟨b.bx, 0, none⟩), .pointer (some ⟨b.bx, 4, none⟩), .slice (some ⟨gs, 0, none⟩) sp.stk.length c4, .int .i64 (i0 : Int), .slice (some ⟨gs, 0, none⟩) i0 c4, .pointer (some ⟨b.bx, 0, none⟩), .pointer (some ⟨b.bx, 4, none⟩), undef] : List Value).getD j undef) (st1 wr.drew 9 ⟨b.bx, 4, none⟩ (.slice (some ⟨gs, 0, none⟩) i0 c4)) (st1_start (by decide)) ?hs21 ?he21
              case hs21 =>
                intro a hV hO i o ho D hcl hD hpre
                match i, ho, hD, hpre with
                | 0, ho, hD, hpre =>
                  cases (show some _ = some o from ho)
                  have e2 := ev_nfK ((hO 2 (notDstK (by kernel_rfl))).trans rfl)
                  have x2 := F2.out D
                  go_simp
                  exact (st1_no (i := 9) (k := 0) (by decide)).symm
                | 1, ho, hD, hpre =>
                  cases (show some _ = some o from ho)
                  have e2 := ev_nfK ((hO 2 (notDstK (by kernel_rfl))).trans rfl)
                  have x2 := F2.out D
                  go_simp
                  exact (st1_no (i := 9) (k := 1) (by decide)).symm
                | 2, ho, hD, hpre =>
                  cases (show some _ = some o from ho)
                  have e177 := ev_nfK (hV 1 177 rfl)
                  have x2 := F2.out D
                  go_simp
                  exact (st1_no (i := 9) (k := 2) (by decide)).symm
                | 3, ho, hD, hpre =>
                  cases (show some _ = some o from ho)
                  have e178 := ev_nfK (hV 2 178 rfl)
                  have x2 := F2.out D
                  go_simp
                  exact (st1_no (i := 9) (k := 3) (by decide)).symm
                | 4, ho, hD, hpre =>
                  cases (show some _ = some o from ho)
                  have e179 := ev_nfK (hV 3 179 rfl)
                  have f9 : D 9 = false := by
                    cases hh : D 9 with
                    | false => rfl
                    | true => have h1 := hcl 9 6 hh (by kernel_rfl); have h2 := hcl 6 4 h1 (by kernel_rfl); simp_all
                  rw [st1_off f9]
                  go_simp
                  exact ((st1_no (i := 9) (k := 4) (by decide)).trans (st1_off f9)).symm
                | 5, ho, hD, hpre =>
                  cases (show some _ = some o from ho)
                  have e7 := ev_nfK ((hO 7 (notDstK (by kernel_rfl))).trans rfl)
                  have x2 := F2.out D
                  go_simp
                  exact (st1_no (i := 9) (k := 5) (by decide)).symm
                | 6, ho, hD, hpre =>
                  cases (show some _ = some o from ho)
                  have e180 := ev_nfK (hV 4 180 rfl)
                  have e181 := ev_nfK (hV 5 181 rfl)
                  have x2 := F2.out D
                  go_simp
                  exact (st1_no (i := 9) (k := 6) (by decide)).symm
                | 7, ho, hD, hpre =>
                  cases (show some _ = some o from ho)
                  have e176 := ev_nfK (hV 0 176 rfl)
                  have x2 := F2.out D
                  go_simp
                  exact (st1_no (i := 9) (k := 7) (by decide)).symm
                | 8, ho, hD, hpre =>
                  cases (show some _ = some o from ho)
                  have e183 := ev_nfK (hV 7 183 rfl)
                  have x2 := F2.out D
                  go_simp
                  exact (st1_no (i := 9) (k := 8) (by decide)).symm
                | 9, ho, hD, hpre =>
                  cases (show some _ = some o from ho)
                  have e182 := ev_nfK (hV 6 182 rfl)
                  have e184 := ev_nfK (hV 8 184 rfl)
                  rw [st1_off hD]
                  go_simp
                  simp [st1]
                  rfl
                | n + 10, ho, hD, hpre => cases (show none = some o from ho)
              case he21 =>
                go_wp2_with fail
                have G1 := hide (show TjAt (wr.drew.setCell ⟨b.bx, 4, none⟩ (.slice (some ⟨gs, 0, none⟩) i0 c4)) b (some ⟨gs, 0, none⟩) c4 (sp.cut v) from by
                  have e := (H1.out.grow (Grows.refl _).drew).setStk (i := i0) (by rw [k1]; omega) (by rw [k1]; omega)
                  rw [k1] at e
                  rw [← HKN.out]
                  exact e)
                have G2 := hide (show Touch (TjOwn b (some ⟨gs, 0, none⟩)) W (wr.drew.setCell ⟨b.bx, 4, none⟩ (.slice (some ⟨gs, 0, none⟩) i0 c4)) from (H2.out.drew).set (.inl (.inl (.inl rfl))) _)
                refine marks_end [Dd] rfl ((Marks.nil _).cons (G2.out.at HMD.out.1 HDW.out) (by simp)) (fun W' htt => ?_)
                refine ⟨_, results_none rfl _ _ _, rfl, ?_⟩
                rw [HCL.out, HE1.out]
                exact HGV.out _ c4 (sp.cut v) _ W' G1.out G2.out (fun _ h => h) htt
      case stop => exact fun _ _ _ _ _ _ _ _ _ _ h => h.elim
theorem tjWalkN (F : Nat → Prop) (b : TjB) (E : List Edg) (hE : InN b.N E) (hn : E.length ≤ 20000) (hN : b.N ≤ 4096) : ∀ (n v : Nat) (A : Option Addr) (c : Nat) (s : TjS) (w : World), TjAt w b A c s → AdjAt F w b.ba b.N E → (∀ k, F k → k < w.heap.size ∧ ¬ TjOwn b A k) → TjOk b.N s → v < b.N → gi s.met v = 0 → s.met.count 0 ≤ n →
    Calls Tryz.prog 124 #[.pointer (some ⟨b.bx, 0, none⟩), .int .i64 (v : Int)] w (TjGive b (tj (tjRow E) n v s) A w)
  | 0, v, A, c, s, w, _, _, _, h, hv, h0, hc => by
    exfalso
    have hvl : v < s.met.length := by rw [h.m]; exact hv
    have e0 : s.met[v] = 0 := by simpa [gi, hvl] using h0
    have hpos : 0 < s.met.count 0 := List.count_pos_iff.2 (by rw [← e0]; exact List.getElem_mem _)
    omega
  | n + 1, v, A, c, s, w, h, hA, hF, hs, hv, h0, hc => tjWalk F b E hE hn hN n (fun u A c s w => tjWalkN F b E hE hn hN n u A c s w) v A c s w h hA hF hs hv h0 hc
end Go.Proofs.YtomednfddpggaaaGreat
