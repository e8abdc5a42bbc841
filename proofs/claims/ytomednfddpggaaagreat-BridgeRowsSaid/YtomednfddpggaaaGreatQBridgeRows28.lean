/- Contract: to which nodes there is a way from one, and from which there is one to it, by the program. -/
import Derived.Test.YtomednfddpggaaaGreatQBridgeRows27
import Derived.Test.YtomednfddpggaaaGreatQBridgeRows08
import Derived.Test.YtomednfddpggaaaGreatQBridgeRows04
import Derived.Test.YtomednfddpggaaaGreatQBridgeRows25
import Derived.WalkMore
import Derived.Test.YtomednfddpggaaaGreatQBridgeRows01
import Derived.Test.YtomednfddpggaaaGreatQBridgeRows07
import Derived.Test.YtomednfddpggaaaGreatQBridgeRows22
import Derived.Test.YtomednfddpggaaaGreatQBridgeRows11
/- Contract: to which nodes there is a way from one, and from which there is one to it, by the program. -/
namespace Go.Proofs.YtomednfddpggaaaGreat
open Go Go.RowKit
attribute [local go_sem] Oper.semAt_some
structure RqC (bw bd g1 : Nat) (W3 : World) (g off c : Nat) (d : List Bool × List Nat) (M : Nat → Prop) (W : World) : Prop where
  q : QAt W g off d.2.length c d.2
  w : Arr W bw 36 [.slice (some ⟨g, off, none⟩) d.2.length c]
  d : Arr W bd 4 (d.1.map .bool)
  tch : Touch (fun k => k = bw ∨ k = bd ∨ k = g1) W3 W
  ms : ∀ k, M k → W3.heap.size ≤ k ∧ k < W.heap.size ∧ k ≠ g
  own : g = g1 ∨ W3.heap.size ≤ g
  lts : bw < W3.heap.size ∧ bd < W3.heap.size
section
variable {bw bd g1 g off c : Nat} {W3 W W' : World} {d : List Bool × List Nat} {M : Nat → Prop}
theorem RqC.yield (h : RqC bw bd g1 W3 g off c d M W) (ht : Touch M W W') {M' : Nat → Prop} (hM : ∀ k, M' k → (M k ∨ W.heap.size ≤ k) ∧ k < W'.heap.size) : RqC bw bd g1 W3 g off c d M' W' := by
  refine ⟨h.q.touch ht (fun e => (h.ms _ e).2.2 rfl), h.w.touch ht (fun e => by have := (h.ms _ e).1; have := h.lts; omega), h.d.touch ht (fun e => by have := (h.ms _ e).1; have := h.lts; omega), h.tch.trans2 ht fun k hk => .inr (h.ms k hk).1, fun k hk => ?_, h.own, h.lts⟩
  obtain ⟨h1, h2⟩ := hM k hk
  rcases h1 with h1 | h1
  · exact ⟨(h.ms k h1).1, h2, (h.ms k h1).2.2⟩
  · exact ⟨Nat.le_trans h.tch.size h1, h2, fun e => by have := h.q.lt; omega⟩
theorem RqC.grow (h : RqC bw bd g1 W3 g off c d M W) (hg : Grows W W') : RqC bw bd g1 W3 g off c d M W' :=
  ⟨h.q.grow hg, h.w.grow hg, h.d.grow hg, h.tch.grows hg, fun k hk => ⟨(h.ms k hk).1, Nat.lt_of_lt_of_le (h.ms k hk).2.1 hg.size, (h.ms k hk).2.2⟩, h.own, h.lts⟩
theorem RqC.start (h : RqC bw bd g1 W3 g off c d M W) : RqC bw bd g W g off c d (fun _ => False) W :=
  ⟨h.q, h.w, h.d, Touch.refl _ _, fun _ hk => hk.elim, .inl rfl, ⟨h.w.lt, h.d.lt⟩⟩
theorem RqC.over (h : RqC bw bd g1 W3 g off c d M W) {g' off' c' : Nat} {d' : List Bool × List Nat} {M' : Nat → Prop} (k : RqC bw bd g W g' off' c' d' M' W') : RqC bw bd g1 W3 g' off' c' d' (fun _ => False) W' := by
  refine ⟨k.q, k.w, k.d, h.tch.trans2 k.tch fun j hj => ?_, fun _ hk => hk.elim, ?_, h.lts⟩
  · rcases hj with rfl | rfl | rfl
    · exact .inl (.inl rfl)
    · exact .inl (.inr (.inl rfl))
    · rcases h.own with e | e
      · exact .inl (.inr (.inr e))
      · exact .inr e
  · rcases k.own with e | e
    · rw [e]; exact h.own
    · exact .inr (Nat.le_trans h.tch.size e)
theorem RqC.put (h : RqC bw bd g1 W3 g off c d M W) (hgb : bw ≠ g ∧ bd ≠ g ∧ bw ≠ bd) {u g' off' c' : Nat} {w1 w2 : World} (hg : Grows (W.setCell ⟨bd, u, none⟩ (.bool true)) w1) (hq : QAt w2 g' off' (d.2.length + 1) c' (d.2 ++ [u])) (ht : Touch (fun k => k = g) w1 w2) (hn : g' = g ∨ New w1 w2 g') :
    RqC bw bd g1 W3 g' off' c' (d.1.set u true, d.2 ++ [u]) M (w2.setCell ⟨bw, 0, none⟩ (.slice (some ⟨g', off', none⟩) (d.2.length + 1) c')) ∧ Touch (fun k => k = bw ∨ k = bd ∨ k = g) W (w2.setCell ⟨bw, 0, none⟩ (.slice (some ⟨g', off', none⟩) (d.2.length + 1) c')) := by
  obtain ⟨n1, n2, n3⟩ := hgb
  have hlw := h.w.lt
  have hld := h.d.lt
  have hs1 : W.heap.size ≤ w1.heap.size := by have := hg.size; rw [size_setCell] at this; exact this
  have hs2 := ht.size
  have t1 : Touch (fun k => k = bw ∨ k = bd ∨ k = g) W w1 := ((Touch.refl _ W).set (.inl (.inr (.inl rfl))) _).grows hg
  have t2 : Touch (fun k => k = bw ∨ k = bd ∨ k = g) W w2 := t1.trans (ht.mono fun k hk => .inr (.inr hk))
  have t3 := t2.set (p := ⟨bw, 0, none⟩) (.inl (.inl rfl)) (.slice (some ⟨g', off', none⟩) (d.2.length + 1) c')
  have hd1 : Arr (W.setCell ⟨bd, u, none⟩ (.bool true)) bd 4 ((d.1.set u true).map .bool) := by rw [List.map_set]; exact h.d.set u _
  have hd2 := (hd1.grow hg).touch ht n2
  have hw2 : Arr w2 bw 36 _ := ((h.w.other (p := ⟨bd, u, none⟩) (Ne.symm n3) _).grow hg).touch ht n1
  have hgw : g' ≠ bw := by
    rcases hn with e | e
    · rw [e]; exact Ne.symm n1
    · have := e.1; omega
  refine ⟨⟨?_, ?_, hd2.other (Ne.symm (Ne.symm n3)) _, h.tch.trans2 t3 fun k hk => ?_, fun k hk => ⟨(h.ms k hk).1, Nat.lt_of_lt_of_le (h.ms k hk).2.1 t3.size, fun e => ?_⟩, ?_, h.lts⟩, t3⟩
  · show QAt _ g' off' (d.2 ++ [u]).length c' _
    rw [List.length_append, List.length_singleton]
    exact hq.other (Ne.symm hgw) _
  · show Arr _ bw _ [.slice _ (d.2 ++ [u]).length c']
    rw [List.length_append, List.length_singleton]
    exact hw2.set 0 _
  · rcases hk with rfl | rfl | rfl
    · exact .inl (.inl rfl)
    · exact .inl (.inr (.inl rfl))
    · rcases h.own with e | e
      · exact .inl (.inr (.inr e))
      · exact .inr e
  · rcases hn with e2 | e2
    · exact (h.ms k hk).2.2 (e.trans e2)
    · have := (h.ms k hk).2.1
      have := e2.1
      omega
  · rcases hn with e | e
    · rw [e]; exact h.own
    · exact .inr (Nat.le_trans h.tch.size (Nat.le_trans hs1 e.1))
theorem RqC.pop {v : Nat} {D : List Bool} {q : List Nat} (h : RqC bw bd g1 W3 g off c (D, v :: q) M W) (hgb : bw ≠ g ∧ bw ≠ bd) : RqC bw bd g1 W3 g (if c = 1 then off else off + 1) (c - 1) (D, q) M (W.setCell ⟨bw, 0, none⟩ (.slice (some ⟨g, if c = 1 then off else off + 1, none⟩) q.length (c - 1))) := by
  have hq : QAt W g off (q.length + 1) c (v :: q) := h.q
  exact ⟨hq.tail.other hgb.1 _, h.w.set 0 _, h.d.other hgb.2 _, h.tch.set (.inl (.inl rfl)) _, fun k hk => by rw [size_setCell]; exact h.ms k hk, h.own, h.lts⟩
end
def RqJ (E : List Edg) (back : Bool) (N s v m bw bd g1 : Nat) (W3 : World) (d0 : List Bool × List Nat) (p : List Nat) (M : Nat → Prop) (W : World) : Prop :=
  ∃ g off c, RqC bw bd g1 W3 g off c (rqF E back p d0) M W ∧ RqI E back N s v m p (rqF E back p d0)
theorem RqJ.yields (E : List Edg) (back : Bool) (N s v m bw bd g1 : Nat) (W3 : World) (d0 : List Bool × List Nat) : Yields' (RqJ E back N s v m bw bd g1 W3 d0) :=
  fun _ _ _ _ _ ⟨g, off, c, h, k⟩ ht hM => ⟨g, off, c, h.yield ht hM, k⟩
def rqFr (fr : Act) (E : List Edg) (i b : Nat) : Act := { tmps := ((fr.tmps.setIfInBounds 48 (.int .i64 (i : Int))).setIfInBounds 49 (eVal (ge E i))).setIfInBounds 13 (.pointer (some ⟨b, 0, none⟩)), defers := [] }
def RqB (E : List Edg) (back : Bool) (N s v m bw bd g1 : Nat) (W3 : World) (d0 : List Bool × List Nat) (fr : Act) (i : Nat) (a' : Act) (p : List Nat) (M : Nat → Prop) (W : World) : Prop :=
  ∃ b g off c, a' = rqFr fr E i b ∧ RqC bw bd g1 W3 g off c (rqF E back p d0) M W ∧ RqI E back N s v m p (rqF E back p d0) ∧ Arr W b 59 [.int .i64 (ge E i).f, .int .i64 (ge E i).t, .int .u64 (ge E i).w] ∧ ¬ M b ∧ W3.heap.size ≤ b
theorem RqB.yields (E : List Edg) (back : Bool) (N s v m bw bd g1 : Nat) (W3 : World) (d0 : List Bool × List Nat) (fr : Act) (i : Nat) (a' : Act) : Yields' (RqB E back N s v m bw bd g1 W3 d0 fr i a') :=
  fun _ _ _ _ _ ⟨b, g, off, c, e, h, k, ha, hm, hl⟩ ht hM => ⟨b, g, off, c, e, h.yield ht hM, k, ha.touch ht hm, fun e => by
    have := ha.lt
    rcases (hM _ e).1 with h | h
    · exact hm h
    · omega, hl⟩
def RqL (E : List Edg) (back : Bool) (N s bw bd gq : Nat) (W0 : World) (Ds : List Nat) (m : Nat) (wr : World) : Prop :=
  ∃ g off c d, RqC bw bd gq W0 g off c d (fun _ => False) wr ∧ (RqO E back N s m d ∧ m ≤ N) ∧ Marks Ds wr ∧ ∀ D ∈ Ds, W0.heap.size ≤ D
set_option maxRecDepth 60000 in
set_option maxHeartbeats 8000000 in
theorem ptReach (N s : Nat) (A : Option Addr) (c : Nat) (E : List Edg) (back : Bool) (w : World) (h : Rd w A 3 E.length (esCells E)) (hr : rightF N E = 0) (hs : s < N) :
    Calls Tryz.prog 85 #[.agg #[.int .i64 (N : Int), .slice A E.length c], .int .i64 (s : Int), .bool back] w fun e w' => ∃ g, e = .returned (.slice (some ⟨g, 0, none⟩) N N) ∧ Arr w' g 4 ((reachL N E s back).map .bool) ∧ Grows w w' := by
  obtain ⟨r1, r2, r3, r4, r5⟩ := right_in hr
  rw [Int.toNat_natCast] at r4
  have C1 := hide (fun (W : World) (hg : Grows w W) => adjNew N A E.length c E W (h.grows hg) (by omega) hr)
  have CN := hide (fun (v : Value) (W : World) => gNode N s v W)
  have HNB := hide (show nodeB N s = true from decide_eq_true ⟨by omega, by omega⟩)
  rw [HNB.out] at CN
  have mb := fun (w : World) => run_makeBools2 N (by omega) w
  have HE := hide r4
  have hN : N ≤ 4096 := by omega
  have hEl : E.length ≤ 16384 := r3
  clear h hr r1 r2 r3 r4 r5
  refine calls_of_marks Tryz.func85 rfl ?_
  simp only [Tryz.ntmps85, List.size_toArray, List.length_cons, List.length_nil, Nat.reduceAdd, Nat.reduceSub, Array.replicate_succ, Array.replicate_zero, List.push_toArray, List.append_toArray, List.nil_append, List.cons_append]
  go_upto_region 5 with (first | (go_at_call 33; refine (C1.out _ GG).mono ?_; rintro e w' ⟨ba, rfl, ha, hg⟩; obtain ⟨x, rfl⟩ := hg.later; have HA := hide ha; clear ha hg) | (go_at_call 32; refine (CN.out _ _).mono ?_; rintro e w' ⟨rfl, hg⟩; obtain ⟨x2, rfl⟩ := hg.later; clear hg))
  have hd0 : Arr ((x2.now.alloc (Obj.cells (Array.replicate N (Value.bool false)) 4)).alloc (Obj.cells #[Value.slice (some ⟨x2.now.heap.size, 0, none⟩) N N] 131)) x2.now.heap.size 4 ((List.replicate N false).map .bool) := by
    rw [← List.toArray_replicate, List.map_replicate]
    exact (Arr.make _ _ _).grow ((Grows.refl _).new _)
  have ho0 : Arr ((x2.now.alloc (Obj.cells (Array.replicate N (Value.bool false)) 4)).alloc (Obj.cells #[Value.slice (some ⟨x2.now.heap.size, 0, none⟩) N N] 131)) (x2.now.heap.size + 1) 131 [.slice (some ⟨x2.now.heap.size, 0, none⟩) N N] := by
    rw [show x2.now.heap.size + 1 = (x2.now.alloc (Obj.cells (Array.replicate N (Value.bool false)) 4)).heap.size by simp]
    exact Arr.make _ _ _
  have hgx : Grows w x2.now := GG
  have hgW : Grows x2.now ((x2.now.alloc (Obj.cells (Array.replicate N (Value.bool false)) 4)).alloc (Obj.cells #[Value.slice (some ⟨x2.now.heap.size, 0, none⟩) N N] 131)) := GG
  have hzW : ((x2.now.alloc (Obj.cells (Array.replicate N (Value.bool false)) 4)).alloc (Obj.cells #[Value.slice (some ⟨x2.now.heap.size, 0, none⟩) N N] 131)).heap.size = x2.now.heap.size + 1 + 1 := by simp
  have hFA : Hid (∀ k, New (w.alloc (Obj.cells #[.int .i64 (N : Int), .slice A E.length c] 24)) x.now k → k < x2.now.heap.size) := fun k hk => Nat.lt_of_lt_of_le hk.2 x2.size
  have HA2 := hide ((HA.out.grows x2.grows).grows hgW)
  clear HA C1 CN HNB mb
  generalize New (w.alloc (Obj.cells #[.int .i64 (N : Int), .slice A E.length c] 24)) x.now = F at *
  generalize ((x2.now.alloc (Obj.cells (Array.replicate N (Value.bool false)) 4)).alloc (Obj.cells #[Value.slice (some ⟨x2.now.heap.size, 0, none⟩) N N] 131)) = W1 at *
  have hbd : Hid (w.heap.size ≤ x2.now.heap.size) := hgx.size
  generalize x2.now.heap.size = bd at *
  have m0 : Mine W1 ⟨bd, s, none⟩ (.bool (bb (List.replicate N false) s)) := hd0.mine s (bb_at (by simpa using hs))
  have hne : bd + 1 ≠ bd := by omega
  have HD0 := hide hd0
  clear hd0
  --LOOP
  go_wp2_with fail
  obtain ⟨W2, hW2⟩ : ∃ W2, W2 = ((W1.setCell ⟨bd, s, none⟩ (.bool true)).alloc (Obj.cells #[Value.int .i64 (s : Int)] 3)).alloc (Obj.cells #[Value.slice (some ⟨bd + 1 + 1, 0, none⟩) 1 1] 36) := ⟨_, rfl⟩
  rw [← hW2]
  have hgA : Grows (W1.setCell ⟨bd, s, none⟩ (.bool true)) W2 := by rw [hW2]; exact ((Grows.refl _).new _).new _
  have hz0 : (W1.setCell ⟨bd, s, none⟩ (.bool true)).heap.size = bd + 1 + 1 := by rw [size_setCell]; exact hzW
  have hz2 : W2.heap.size = bd + 1 + 1 + 1 + 1 := by rw [hW2]; simp; exact hzW
  have q1 : Arr W2 (bd + 1 + 1) 3 [.int .i64 (s : Int)] := by
    rw [hW2, ← hz0]
    exact (Arr.make _ _ _).grow ((Grows.refl _).new _)
  have q2 : Arr W2 (bd + 1 + 1 + 1) 36 [.slice (some ⟨bd + 1 + 1, 0, none⟩) 1 1] := by
    have := Arr.make ((W1.setCell ⟨bd, s, none⟩ (.bool true)).alloc (Obj.cells #[Value.int .i64 (s : Int)] 3)) [.slice (some ⟨bd + 1 + 1, 0, none⟩) 1 1] 36
    rw [show ((W1.setCell ⟨bd, s, none⟩ (.bool true)).alloc (Obj.cells #[Value.int .i64 (s : Int)] 3)).heap.size = bd + 1 + 1 + 1 by simp; exact hzW] at this
    rw [hW2]
    exact this
  have q3 : Arr W2 bd 4 ((begB N s).map .bool) := by
    have := (HD0.out.set s (.bool true)).grow hgA
    rw [← List.map_set] at this
    exact this
  have q4 : Arr W2 (bd + 1) 131 [.slice (some ⟨bd, 0, none⟩) N N] := (ho0.other (p := ⟨bd, s, none⟩) (by show bd ≠ bd + 1; omega) _).grow hgA
  have hA4 : AdjAt F W2 ba N E := (HA2.out.touch ((Touch.refl (fun k => k = bd) W1).set (.inl rfl) _) (fun k hk e => by have := hFA.out k hk; omega)).grows hgA
  have hgw2 : Grows w W2 := (((Touch.refl (fun k => k = bd) W1).set (p := ⟨bd, s, none⟩) (.inl rfl) (.bool true)).later (hgx.trans hgW) (fun k hk => by rw [hk]; exact hbd.out)).trans hgA
  have H0 : Hid (RqL E back N s (bd + 1 + 1 + 1) bd (bd + 1 + 1) W2 [] N W2) :=
    ⟨bd + 1 + 1, 0, 1, (begB N s, [s]), ⟨QAt.one q1, q2, q3, Touch.refl _ _, fun _ hk => hk.elim, .inl rfl, ⟨q2.lt, q3.lt⟩⟩, ⟨RqO.start hs, Nat.le_refl _⟩, Marks.nil _, fun D hD => by cases hD⟩
  have HA := hide hA4
  have HFL := hide (show ∀ k, F k → k < bd from hFA.out)
  have HGW := hide hgw2
  clear hW2 hgA hz0 q1 q2 q3 hA4 hgw2 HD0 HA2 ho0 hzW m0 hgW hFA hgx hne x2
  obtain ⟨b1, hb1⟩ : ∃ b1, b1 = w.heap.size := ⟨_, rfl⟩
  rw [← hb1]
  clear hb1
  refine wp_loop_m (fun m a' wr => ∃ u11 u12 u13 u14 u36 u37 u38 u39 u40 u41 u42 u43 u44 u45 u46 u47 u48 u49 u50 u51 u52 u53 u54 u55 u56 u57 u58 u59 u60 u61 u62 u63 u64 u65 u66 u67 u68 u69 Ds, a' = { tmps := #[.agg #[.int .i64 (N : Int), .slice A E.length c], .int .i64 (s : Int), .bool back, .pointer (some ⟨b1, 0, none⟩), undef, undef, .slice none 0 0, .pointer (some ⟨ba, 0, none⟩), .int .i64 0, .pointer (some ⟨bd + 1, 0, none⟩), .pointer (some ⟨bd + 1 + 1 + 1, 0, none⟩), u11, u12, u13, u14, .tuple #[.pointer (some ⟨ba, 0, none⟩), .int .i64 0], .agg #[.int .i64 (N : Int), .slice A E.length c], .tuple #[.pointer (some ⟨ba, 0, none⟩), .int .i64 0], .pointer (some ⟨ba, 0, none⟩), .int .i64 0, .int .i64 0, .bool false, .bool false, .agg #[.int .i64 (N : Int), .slice A E.length c], .int .i64 (s : Int), .bool true, .bool false, .bool false, .pointer (some ⟨b1, 0, none⟩), .int .i64 (N : Int), .slice (some ⟨bd, 0, none⟩) N N, .slice (some ⟨bd, 0, none⟩) N N, .int .i64 (s : Int), .pointer (some ⟨bd, s, none⟩), .int .i64 (s : Int), .slice (some ⟨bd + 1 + 1, 0, none⟩) 1 1, u36, u37, u38, u39, u40, u41, u42, u43, u44, u45, u46, u47, u48, u49, u50, u51, u52, u53, u54, u55, u56, u57, u58, u59, u60, u61, u62, u63, u64, u65, u66, u67, u68, u69], defers := marks Ds } ∧ RqL E back N s (bd + 1 + 1 + 1) bd (bd + 1 + 1) W2 Ds m wr) ?_ ?_
  · exact ⟨N, by
      (repeat apply Exists.intro)
      exact ⟨rfl, H0.out⟩⟩
  · rintro m a' wr ⟨u11, u12, u13, u14, u36, u37, u38, u39, u40, u41, u42, u43, u44, u45, u46, u47, u48, u49, u50, u51, u52, u53, u54, u55, u56, u57, u58, u59, u60, u61, u62, u63, u64, u65, u66, u67, u68, u69, Ds, rfl, g, off, c2, ⟨D, q⟩, hC, ⟨hO, hmN⟩, hM, hDl⟩
    clear H0
    have HC := hide hC
    have HO := hide hO
    have HM := hide hM
    have HDL := hide hDl
    have b_w : Arr wr (bd + 1 + 1 + 1) 36 [.slice (some ⟨g, off, none⟩) q.length c2] := hC.w
    have b_o : Arr wr (bd + 1) 131 [.slice (some ⟨bd, 0, none⟩) N N] := q4.touch hC.tch (by omega)
    clear hC hO hM hDl
    cases q with
    | nil =>
      have HIS := hide (show D = reachL N E s back from RqO.is HE.out hs HO.out rfl)
      go_wp2_with fail
      have hgw : Grows w wr := HC.out.tch.later HGW.out (fun k hk => by have h1 := hbd.out; have h2 := hz2; rcases hk with rfl | rfl | rfl <;> omega)
      refine marks_end Ds rfl HM.out (fun W' htt => ⟨.slice (some ⟨bd, 0, none⟩) N N, by simp (maxDischargeDepth := 6) [results, Tryz.results85, go_sem], bd, rfl, ?_, htt.later hgw (fun k hk => ?_)⟩)
      · rw [← HIS.out]
        exact HC.out.d.touch htt (fun e => by have := HDL.out _ e; omega)
      · have := HDL.out k hk
        have := HGW.out.size
        omega
    | cons v q =>
      have hvN : v < N := (HO.out.q v (by simp)).1
      obtain ⟨m2, rfl⟩ : ∃ m2, m = m2 + 1 := ⟨m - 1, by have := HO.out.m; simp only [List.length_cons] at this; omega⟩
      have b_h : Mine wr ⟨g, off, none⟩ (.int .i64 (v : Int)) := HC.out.q.head
      have hqc : q.length + 1 ≤ c2 := HC.out.q.cap
      have b_w2 : Arr wr (bd + 1 + 1 + 1) 36 [.slice (some ⟨g, off, none⟩) (q.length + 1) c2] := b_w
      clear b_w
      go_upto_region 10 with fail
      have e1 : (if c2 = 1 then some (⟨g, off, none⟩ : Addr) else some ⟨g, off + 1, none⟩) = some ⟨g, if c2 = 1 then off else off + 1, none⟩ := by split <;> rfl
      rw [e1]
      clear e1
      have hgA : Grows wr (wr.alloc (Obj.cells #[Value.int .i64 (v : Int)] 3)) := (Grows.refl _).new _
      have hgb : bd + 1 + 1 + 1 ≠ g ∧ bd ≠ g := ⟨Ne.symm (HC.out.q.ne HC.out.w (by decide)), Ne.symm (HC.out.q.ne HC.out.d (by decide))⟩
      have hgo : bd + 1 ≠ g := Ne.symm (HC.out.q.ne b_o (by decide))
      have hC3 := (HC.out.grow hgA).pop ⟨hgb.1, by omega⟩
      have hlg := HC.out.q.lt
      have hlw := HC.out.w.lt
      have a11 : Arr ((wr.alloc (Obj.cells #[Value.int .i64 (v : Int)] 3)).setCell ⟨bd + 1 + 1 + 1, 0, none⟩ (.slice (some ⟨g, if c2 = 1 then off else off + 1, none⟩) q.length (c2 - 1))) wr.heap.size 3 [.int .i64 (v : Int)] := (Arr.make wr _ _).other (by show bd + 1 + 1 + 1 ≠ _; omega) _
      have bo3 : Arr ((wr.alloc (Obj.cells #[Value.int .i64 (v : Int)] 3)).setCell ⟨bd + 1 + 1 + 1, 0, none⟩ (.slice (some ⟨g, if c2 = 1 then off else off + 1, none⟩) q.length (c2 - 1))) (bd + 1) 131 [.slice (some ⟨bd, 0, none⟩) N N] := (b_o.grow hgA).other (by show bd + 1 + 1 + 1 ≠ _; omega) _
      have hA3 := HA.out.touch hC3.tch (fun k hk e => by have := HFL.out k hk; rcases e with rfl | rfl | rfl <;> omega)
      have hM3 := (HM.out.touch (S := fun _ => False) (hgA.touch _) (fun _ _ => id)).touch ((Touch.refl (fun k => k = bd + 1 + 1 + 1) _).set (p := ⟨bd + 1 + 1 + 1, 0, none⟩) (.inl rfl) (.slice (some ⟨g, if c2 = 1 then off else off + 1, none⟩) q.length (c2 - 1))) (fun D hD e => by have := HDL.out D hD; omega)
      have hz3 : ((wr.alloc (Obj.cells #[Value.int .i64 (v : Int)] 3)).setCell ⟨bd + 1 + 1 + 1, 0, none⟩ (.slice (some ⟨g, if c2 = 1 then off else off + 1, none⟩) q.length (c2 - 1))).heap.size = wr.heap.size + 1 := by rw [size_setCell]; simp
      have hlb : Hid (W2.heap.size ≤ wr.heap.size) := HC.out.tch.size
      have HRI0 := hide HO.out.take
      clear b_w2 b_h b_o HO HM HC hqc hgA
      generalize ((wr.alloc (Obj.cells #[Value.int .i64 (v : Int)] 3)).setCell ⟨bd + 1 + 1 + 1, 0, none⟩ (.slice (some ⟨g, if c2 = 1 then off else off + 1, none⟩) q.length (c2 - 1))) = W3 at *
      generalize (if c2 = 1 then off else off + 1) = off2 at *
      generalize c2 - 1 = c3 at *
      obtain ⟨b11, hb11⟩ : ∃ b, b = wr.heap.size := ⟨_, rfl⟩
      have hN11 : b11 ≠ bd + 1 + 1 + 1 ∧ b11 ≠ bd ∧ b11 ≠ g := by omega
      have hz3 : W3.heap.size = b11 + 1 := by omega
      have hlb : Hid (W2.heap.size ≤ b11) := by rw [hb11]; exact hlb.out
      have hlg : g < b11 := by omega
      rw [← hb11] at a11
      rw [← hb11]
      clear hb11
      have HC3 := hide hC3
      have HA3 := hide hA3
      have HM3 := hide hM3
      clear hC3 hA3 hM3 HA q4
      go_wp2_with (go_at_call 96; refine (adjEach ba v back _).mono ?_; rintro e w' ⟨b4, rfl, hb4, i1, i2, i3, hg⟩; obtain ⟨x4, rfl⟩ := hg.later)
      have HA4 := hide (HA3.out.grows x4.grows)
      have HC4 := hide (HC3.out.grow x4.grows)
      have HM4 := hide (HM3.out.touch (S := fun _ => False) (x4.grows.touch _) (fun _ _ => id))
      have a114 := a11.grow x4.grows
      have bo4 := bo3.grow x4.grows
      have hz4 := x4.size
      have l3 := i3.lt
      clear HA3 HC3 HM3 a11 bo3 hg
      generalize x4.now = W4 at *
      have HSUB := hide (show ∀ k, (F k ∨ (b4 ≤ k ∧ k ≤ b4 + 1 + 1)) → k < W4.heap.size ∧ k ≠ bd + 1 + 1 + 1 ∧ k ≠ bd ∧ k ≠ g from fun k hk => by
        have h2 := hlb.out
        rcases hk with hk | hk
        · have := HFL.out k hk
          refine ⟨by omega, by omega, by omega, fun e => ?_⟩
          subst e
          rcases HC4.out.own with e2 | e2
          · omega
          · omega
        · exact ⟨by omega, by omega, by omega, by omega⟩)
      refine (wpIn_wide (n := 0)).1 ?_
      refine wp_frame fun fr hfr => ?_
      refine wp_rangeG (w0 := W4) (gf := 131) (by rw [hfr]; rfl) (enters_of Tryz.func131 (by kernel_rfl) rfl)
        (each_gives F (fun k => F k ∨ (b4 ≤ k ∧ k ≤ b4 + 1 + 1)) (fun _ => False) ba N E v back b4 W4 HA4.out (fun k hk => .inl (.inl hk)) HE.out hvN (by omega) (by omega) (fun k hk => hk.elim) (.inl (.inr ⟨by omega, by omega⟩)) (.inl (.inr ⟨by omega, by omega⟩)) (.inl (.inr ⟨by omega, by omega⟩)) i1 i2 i3)
        (Keeps.refl _ _ _) (fun k hk => (HSUB.out k hk).1) (fun k hk => hk.elim) (fun _ => rfl)
        (RqJ E back N s v m2 (bd + 1 + 1 + 1) bd g W4 (D, q)) (fun _ _ _ _ => False) (RqJ.yields E back N s v m2 (bd + 1 + 1 + 1) bd g W4 (D, q)) (fun c _ _ _ _ _ h _ _ => h.elim) ⟨g, off2, c3, HC4.out.start, HRI0.out⟩
        (RqB E back N s v m2 (bd + 1 + 1 + 1) bd g W4 (D, q) fr) ?hIb ?assign ?body ?done ?stop
      case hIb => exact fun i a' => RqB.yields E back N s v m2 (bd + 1 + 1 + 1) bd g W4 (D, q) fr i a'
      case assign =>
        intro l2 p i rest Mi W hsp hI
        have HI := hide hI
        clear hI
        rw [hfr]
        unfold encE eVal
        gi_wp2
        have hgA : Grows W (W.alloc (.cells #[.int .i64 (ge E i).f, .int .i64 (ge E i).t, .int .u64 (ge E i).w] 59)) := (Grows.refl _).new _
        obtain ⟨g5, off5, c5, hc5, hri⟩ := HI.out
        refine ⟨⟨W.heap.size, g5, off5, c5, ?_, hc5.grow hgA, hri, Arr.make _ _ _, fun e => by have := (hc5.ms _ e).2.1; omega, hc5.tch.size⟩, hgA.touch _⟩
        simp only [rqFr, eVal, List.setIfInBounds_toArray, List.set_cons_zero, List.set_cons_succ]
      case body =>
        rintro l2 p i rest Mi a' W hsp hl2 hMl hrec ⟨b13, g5, off5, c5, rfl, hc5, hri, hb13, hm13, hl13⟩
        have hmem : i ∈ rowN (nN E back) E.length v := by rw [hsp]; simp
        have hiE : i < E.length ∧ nN E back i = v := by simpa [rowN] using hmem
        have hef := HE.out.f i hiE.1
        have het := HE.out.t i hiE.1
        have hun : oN E back i < N := oN_lt HE.out hiE.1
        have hsn := rqF_snoc E back p i (D, q)
        have hst := hri.step HE.out hiE.1 hiE.2
        have hto : ((tN E i : Nat) : Int) + (fN E i : Int) - (v : Int) = (oN E back i : Int) := by
          have h2 := hiE.2
          unfold nN at h2
          unfold oN
          cases back <;> simp at h2 ⊢ <;> omega
        have hlen : (rqF E back p (D, q)).2.length ≤ 1000000 := by have := hri.m; omega
        obtain ⟨R, hR⟩ : ∃ R : World → Prop, R = fun w1 => Keeps (fun k => F k ∨ (b4 ≤ k ∧ k ≤ b4 + 1 + 1)) Mi W w1 ∧ RqJ E back N s v m2 (bd + 1 + 1 + 1) bd g W4 (D, q) (p ++ [i]) Mi w1 := ⟨_, rfl⟩
        refine wpIn_mono (Q := fun e _ w1 => e = .normal ∧ R w1) ?_ (fun e a2 w2 h => by
          obtain ⟨rfl, h⟩ := h
          rw [hR] at h
          exact h)
        have m_d : Mine W ⟨bd, oN E back i, none⟩ (.bool (bb (rqF E back p (D, q)).1 (oN E back i))) := hc5.d.mine _ (bb_at (by rw [hri.len]; exact hun))
        have bo5 : Arr W (bd + 1) 131 [.slice (some ⟨bd, 0, none⟩) N N] := bo4.touch hc5.tch (fun e => by rcases e with e | e | e <;> omega)
        have a5 : Arr W b11 3 [.int .i64 (v : Int)] := a114.touch hc5.tch (fun e => e.elim hN11.1 (fun e => e.elim hN11.2.1 hN11.2.2))
        rw [hef.2, het.2] at hb13
        have hx := hef.1
        have hy := het.1
        have hgb5 : bd + 1 + 1 + 1 ≠ g5 ∧ bd ≠ g5 ∧ bd + 1 + 1 + 1 ≠ bd := ⟨Ne.symm (hc5.q.ne hc5.w (by decide)), Ne.symm (hc5.q.ne hc5.d (by decide)), by omega⟩
        have hlt5 := hc5.d.lt
        have hb5w := hc5.w
        have HC5 := hide hc5
        have HST := hide hst
        have HSN := hide hsn
        have HLN := hide hri.len
        have hkp : Hid (∀ w1, Touch (fun k => k = bd + 1 + 1 + 1 ∨ k = bd ∨ k = g5) W w1 → Keeps (fun k => F k ∨ (b4 ≤ k ∧ k ≤ b4 + 1 + 1)) Mi W w1) := fun w1 ht => ht.keeps fun k hk e => by
          have h5 := HC5.out.own
          have h6 := HC5.out.lts
          rcases e with e | e
          · have h7 := HSUB.out k e
            rcases hk with h | h | h
            · exact h7.2.1 h
            · exact h7.2.2.1 h
            · rcases h5 with h8 | h8
              · exact h7.2.2.2 (h.trans h8)
              · have := h7.1; omega
          · have h7 := HC5.out.ms k e
            rcases hk with h | h | h
            · omega
            · omega
            · exact h7.2.2 h
        clear hmem hiE hef het hsn hst hri hc5 hsp hl2 hMl hrec bo4 a114 HSUB HA4 HC4 HM4 i1 i2 i3 HRI0 HGW HDL HFL HE hlb hz3 hz4 hlg hlw l3 hb4 hz2 hgb hbd
        simp only [rqFr, hfr, eVal, List.setIfInBounds_toArray, List.set_cons_zero, List.set_cons_succ]
        generalize (ge E i).f = ef at *
        generalize (ge E i).t = et at *
        generalize (ge E i).w = ew at *
        generalize tN E i = y at *
        generalize fN E i = x at *
        generalize oN E back i = u at *
        generalize hdd : rqF E back p (D, q) = d at *
        clear hdd
        obtain ⟨D5, Q5⟩ := d
        simp only at m_d hlen hb5w HLN
        obtain ⟨q5, hq5⟩ : ∃ q5, bb D5 u = q5 := ⟨_, rfl⟩
        rw [hq5] at m_d
        cases q5 with
        | true =>
          have CR : Hid (R W) := by
            rw [hR]
            refine ⟨Keeps.refl _ _ _, g5, off5, c5, ?_⟩
            have e9 : rq (D5, Q5) u = (D5, Q5) := by unfold rq; rw [if_pos hq5]
            rw [HSN.out, e9]
            have := HST.out
            rw [e9] at this
            exact ⟨HC5.out, this⟩
          clear hR hq5
          gi_wp2
          exact CR.out
        | false =>
          have CR := hide (fun (g6 off6 c6 : Nat) (w1 w2 : World) (hg : Grows (W.setCell ⟨bd, u, none⟩ (.bool true)) w1) (hq : QAt w2 g6 off6 (Q5.length + 1) c6 (Q5 ++ [u])) (ht : Touch (fun k => k = g5) w1 w2) (hn : g6 = g5 ∨ New w1 w2 g6) => show R (w2.setCell ⟨bd + 1 + 1 + 1, 0, none⟩ (.slice (some ⟨g6, off6, none⟩) (Q5.length + 1) c6)) from by
            rw [hR]
            obtain ⟨k1, k2⟩ := HC5.out.put hgb5 hg hq ht hn
            have e9 : rq (D5, Q5) u = (D5.set u true, Q5 ++ [u]) := by unfold rq; rw [if_neg (by rw [hq5]; exact Bool.false_ne_true)]
            refine ⟨hkp.out _ k2, g6, off6, c6, ?_⟩
            rw [HSN.out, e9]
            have := HST.out
            rw [e9] at this
            exact ⟨k1, this⟩)
          have HQ := hide (show QAt ((W.setCell ⟨bd, u, none⟩ (.bool true)).alloc (.cells #[.int .i64 (u : Int)] 3)) g5 off5 Q5.length c5 Q5 from (HC5.out.q.other (p := ⟨bd, u, none⟩) hgb5.2.1 (.bool true)).grow ((Grows.refl _).new (.cells #[.int .i64 (u : Int)] 3)))
          have b_w5 : Arr (W.setCell ⟨bd, u, none⟩ (.bool true)) (bd + 1 + 1 + 1) 36 [.slice (some ⟨g5, off5, none⟩) Q5.length c5] := hb5w.other (p := ⟨bd, u, none⟩) (by show bd ≠ _; omega) _
          have hv5 : Holds ((W.setCell ⟨bd, u, none⟩ (.bool true)).alloc (.cells #[.int .i64 (u : Int)] 3)) ⟨W.heap.size, 0, none⟩ (.int .i64 (u : Int)) := by
            rw [← size_setCell W ⟨bd, u, none⟩ (.bool true)]
            infer_instance
          clear hR hq5 hkp HC5 HST HSN
          gi_wp2_with (refine wp_appQ rfl _ _ rfl HQ.out rfl _ _ u rfl hv5 (by omega) ?_; intro g6 off6 c6 w6 hq6 ht6 hn6; have b_w6 := (b_w5.grow ((Grows.refl _).new (.cells #[.int .i64 (u : Int)] 3))).touch ht6 hgb5.1; have HQ6 := hide hq6; have HT6 := hide ht6; have HN6 := hide hn6; clear hq6 ht6 hn6)
          exact CR.out g6 off6 c6 _ w6 ((Grows.refl _).new _) HQ6.out HT6.out HN6.out
      case done =>
        intro Dd Mi W hlD hMD hI hDW
        obtain ⟨g5, off5, c5, hc5, hri⟩ := hI
        have hO : RqO E back N s m2 (rqF E back (rowN (nN E back) E.length v) (D, q)) := hri.done fun i hi hv => by simp [rowN, hi, hv]
        have hz5 := hc5.tch.size
        have hDw : Dd ∉ Ds := fun e => by
          have := (Array.getElem?_eq_some_iff.1 (HM4.out.2 Dd e)).1
          omega
        have hMW : Marks Ds W := HM4.out.touch hc5.tch fun D' hD' e => by
          have h1 := HM4.out.2 D' hD'
          have h2 := HC4.out.w.is
          have h3 := HC4.out.d.is
          obtain ⟨cur, h4, _⟩ := HC4.out.q.is
          rcases e with rfl | rfl | rfl
          · rw [h1] at h2; cases h2
          · rw [h1] at h3; cases h3
          · rw [h1] at h4; cases h4
        refine ⟨m2, Nat.lt_succ_self _, ?_⟩
        rw [hfr]
        (repeat apply Exists.intro)
        exact ⟨rfl, g5, off5, c5, rqF E back (rowN (nN E back) E.length v) (D, q), HC4.out.over hc5, ⟨hO, by omega⟩, hMW.cons hDW hDw, fun D' hD' => by
          rcases List.mem_cons.1 hD' with rfl | h
          · have := hlb.out; omega
          · exact HDL.out D' h⟩
      case stop => exact fun _ _ _ _ _ _ _ _ _ _ h => h.elim
end Go.Proofs.YtomednfddpggaaaGreat

/- Contract: to which nodes there is a way, where that is not told. -/
namespace Go.Proofs.YtomednfddpggaaaGreat
open Go Go.RowKit
attribute [local go_sem] Oper.semAt_some
set_option maxRecDepth 60000 in
set_option maxHeartbeats 4000000 in
theorem ptReachNo (N s : Int) (A : Option Addr) (n c : Nat) (E : List Edg) (back : Bool) (w : World) (h : Rd w A 3 n (esCells E)) (hn : n ≤ 1000000) (hr : rightF N E ≠ 0 ∨ s < 0 ∨ N ≤ s) :
    Calls Tryz.prog 85 #[.agg #[.int .i64 N, .slice A n c], .int .i64 s, .bool back] w fun e w' => e = .returned (.slice none 0 0) ∧ Grows w w' := by
  have hl := h.elen
  by_cases h0 : rightF N E = 0
  · have h1 : s < 0 ∨ N ≤ s := hr.resolve_left (fun e => e h0)
    obtain ⟨r1, r2, _⟩ := right_in h0
    obtain ⟨N', rfl⟩ : ∃ k : Nat, N = (k : Int) := ⟨N.toNat, by omega⟩
    have C1 := hide (fun (W : World) (hg : Grows w W) => adjNew N' A n c E W (h.grows hg) hn h0)
    have CN := hide (fun (v : Value) (W : World) => gNode N' s v W)
    have HNB := hide (show nodeB N' s = false from decide_eq_false (by omega))
    rw [HNB.out] at CN
    clear h hr h0 h1 r1 r2 hl HNB
    refine calls_of_marks Tryz.func85 rfl ?_
    simp only [Tryz.ntmps85, List.size_toArray, List.length_cons, List.length_nil, Nat.reduceAdd, Nat.reduceSub, Array.replicate_succ, Array.replicate_zero, List.push_toArray, List.append_toArray, List.nil_append, List.cons_append]
    go_wp2_with (first | (go_at_call 33; refine (C1.out _ GG).mono ?_; rintro e w' ⟨ba, rfl, ha, hg⟩; obtain ⟨x, rfl⟩ := hg.later; clear ha hg) | (go_at_call 32; refine (CN.out _ _).mono ?_; rintro e w' ⟨rfl, hg⟩; obtain ⟨x2, rfl⟩ := hg.later; clear hg))
    have hgw : Grows w x2.now := GG
    exact marks_end [] rfl (Marks.nil _) (fun W' htt => ⟨.slice none 0 0, by simp (maxDischargeDepth := 6) [results, Tryz.results85, go_sem], rfl, htt.later hgw (fun k hk => by cases hk)⟩)
  · have C1 := hide (fun (W : World) (hg : Grows w W) => adjNewNo N A n c E W (h.grows hg) hn h0)
    clear h hr h0 hl
    refine calls_of_marks Tryz.func85 rfl ?_
    simp only [Tryz.ntmps85, List.size_toArray, List.length_cons, List.length_nil, Nat.reduceAdd, Nat.reduceSub, Array.replicate_succ, Array.replicate_zero, List.push_toArray, List.append_toArray, List.nil_append, List.cons_append]
    go_wp2_with (go_at_call 33; refine (C1.out _ GG).mono ?_; rintro e w' ⟨rfl, hg⟩; obtain ⟨x, rfl⟩ := hg.later; clear hg)
    have hgw : Grows w x.now := GG
    exact marks_end [] rfl (Marks.nil _) (fun W' htt => ⟨.slice none 0 0, by simp (maxDischargeDepth := 6) [results, Tryz.results85, go_sem], rfl, htt.later hgw (fun k hk => by cases hk)⟩)
end Go.Proofs.YtomednfddpggaaaGreat

/- Contract: are two rows of numbers the same? -/
namespace Go.Proofs.YtomednfddpggaaaGreat
open Go Go.RowKit
set_option maxHeartbeats 1000000 in
theorem r1Same (A : Option Addr) (n c : Nat) (l : List Int) (B : Option Addr) (m d : Nat) (l' : List Int) (w : World) (h : Rd w A 1 n (l.map (.int .i64))) (hn : n ≤ 1000000) (h' : Rd w B 1 m (l'.map (.int .i64))) (hm : m ≤ 1000000) :
    Calls Tryz.prog 13 #[.slice A n c, .slice B m d] w fun e w' => e = .returned (.bool (decide (l = l'))) ∧ Grows w w' := by
  have HL := hide (show l.length = n by simpa using h.len)
  have HM := hide (show l'.length = m by simpa using h'.len)
  have HR := hide h
  have HS := hide h'
  clear h h'
  by_cases hnm : n = m
  · subst hnm
    go_enter Tryz.func13, Tryz.ntmps13
    go_wp2
    go_loopw [5] (fun i wr => ∃ k : Nat, k ≤ n ∧ i = .int .i64 (k : Int) ∧ (∃ y : Later w, wr = y.now) ∧ ∀ j, j < k → gi l j = gi l' j) (fun i _ => n - (intOf i).toNat)
    case atStart => exact ⟨0, by omega, by go_num, ⟨⟨w, Grows.refl w⟩, rfl⟩, fun j h => by omega⟩
    case round =>
      obtain ⟨k, hk, rfl, ⟨y, rfl⟩, hall⟩ := hrel
      have HA := hide hall
      clear hall
      by_cases hend : n ≤ k
      · have HV : Hid (l = l') := by
          apply List.ext_getElem (by rw [HL.out, HM.out])
          intro j h1 h2
          have := HA.out j (by have := HL.out; omega)
          simpa [gi, h1, h2] using this
        go_wp2
        go_ret
        exact ⟨ret_bool (decide_eq_true HV.out).symm, GG⟩
      · obtain ⟨b, off, rfl, hc⟩ := HR.out.intsH (by omega)
        obtain ⟨b2, off2, rfl, hc2⟩ := HS.out.intsH (by omega)
        have c1 := hc k (by omega)
        have c2 := hc2 k (by omega)
        clear hc hc2
        by_cases he : gi l k = gi l' k
        · have HE : Hid (∀ j, j < k + 1 → gi l j = gi l' j) := fun j hj => by
            by_cases e : j = k
            · rw [e]; exact he
            · exact HA.out j (by omega)
          have hd : (gi l k == gi l' k) = true := by simpa using he
          clear he
          generalize gi l k = u at *
          generalize gi l' k = v at *
          go_wp2_with fail
          ((first | refine wp_region_gen (by kernel_rfl) (by kernel_rfl) ?_); (repeat' (first | (refine gLex_val0 rfl (by kernel_rfl) (fun K hK => ?_); (go_simp; (try (simp only [↓IntWalk.iteOmega]; try go_simp)); (try simp (disch := omega) only [IntWalk.i64_in]); (try simp (disch := omega) only [IntWalk.u64_in]); first | (refine hK _ ?_; clear hK K) | (apply Exists.intro; refine ⟨fun x => ?_, hK _ ?_⟩; (first | fail); clear hK K))) | (refine gLex_undef rfl rfl rfl (by kernel_rfl) (fun K hK => ?_); go_simp; refine hK _ ?_; clear hK K) | (refine gLex_ask rfl rfl rfl ?_; first | (apply gAsk_yes; kernel_rfl; intro K hK; (go_simp; (try (simp only [↓IntWalk.iteOmega]; try go_simp)); (try simp (disch := omega) only [IntWalk.i64_in]); (try simp (disch := omega) only [IntWalk.u64_in]); first | (refine hK _ ?_; clear hK K) | (apply Exists.intro; refine ⟨fun x => ?_, hK _ ?_⟩; (first | fail); clear hK K))) | ((first | apply gAsk_no1 | apply gAsk_no2); kernel_rfl; intro K hK; simp [go_sem]; refine hK _ ?_; clear hK K) | (apply gAsk_part; kernel_rfl; all_goals (intro h K hK; (try simp only [Bool.not_true] at h); (try simp only [Bool.not_false] at h); (try simp only [decide_eq_true_eq] at h); (try simp only [decide_eq_false_iff_not] at h); first | (exfalso; first | contradiction | omega) | (go_simp; (try (simp only [↓IntWalk.iteOmega]; try go_simp)); (try simp (disch := omega) only [IntWalk.i64_in]); (try simp (disch := omega) only [IntWalk.u64_in]); first | (refine hK _ ?_; clear hK K) | (apply Exists.intro; refine ⟨fun x => ?_, hK _ ?_⟩; (first | fail); clear hK K))))))); all_goals ((apply gLex_end); intro x))
          go_wp2
          refine ⟨⟨k + 1, by omega, by go_num, Grows.later GG, HE.out⟩, by simp [intOf]; omega⟩
        · have HV : Hid (¬ l = l') := fun e => he (by rw [e])
          have hd : (gi l k == gi l' k) = false := by simpa using he
          clear he
          go_wp2_with fail
          ((first | refine wp_region_gen (by kernel_rfl) (by kernel_rfl) ?_); (repeat' (first | (refine gLex_val0 rfl (by kernel_rfl) (fun K hK => ?_); (go_simp; (try (simp only [↓IntWalk.iteOmega]; try go_simp)); (try simp (disch := omega) only [IntWalk.i64_in]); (try simp (disch := omega) only [IntWalk.u64_in]); first | (refine hK _ ?_; clear hK K) | (apply Exists.intro; refine ⟨fun x => ?_, hK _ ?_⟩; (first | fail); clear hK K))) | (refine gLex_undef rfl rfl rfl (by kernel_rfl) (fun K hK => ?_); go_simp; refine hK _ ?_; clear hK K) | (refine gLex_ask rfl rfl rfl ?_; first | (apply gAsk_yes; kernel_rfl; intro K hK; (go_simp; (try (simp only [↓IntWalk.iteOmega]; try go_simp)); (try simp (disch := omega) only [IntWalk.i64_in]); (try simp (disch := omega) only [IntWalk.u64_in]); first | (refine hK _ ?_; clear hK K) | (apply Exists.intro; refine ⟨fun x => ?_, hK _ ?_⟩; (first | fail); clear hK K))) | ((first | apply gAsk_no1 | apply gAsk_no2); kernel_rfl; intro K hK; simp [go_sem]; refine hK _ ?_; clear hK K) | (apply gAsk_part; kernel_rfl; all_goals (intro h K hK; (try simp only [Bool.not_true] at h); (try simp only [Bool.not_false] at h); (try simp only [decide_eq_true_eq] at h); (try simp only [decide_eq_false_iff_not] at h); first | (exfalso; first | contradiction | omega) | (go_simp; (try (simp only [↓IntWalk.iteOmega]; try go_simp)); (try simp (disch := omega) only [IntWalk.i64_in]); (try simp (disch := omega) only [IntWalk.u64_in]); first | (refine hK _ ?_; clear hK K) | (apply Exists.intro; refine ⟨fun x => ?_, hK _ ?_⟩; (first | fail); clear hK K))))))); all_goals ((apply gLex_end); intro x))
          go_wp2
          go_ret
          exact ⟨ret_bool (decide_eq_false HV.out).symm, GG⟩
  · have HV : Hid (¬ l = l') := fun e => hnm (by rw [← HL.out, ← HM.out, e])
    have hd : ((n : Int) == (m : Int)) = false := beq_eq_false_iff_ne.2 (by omega)
    go_enter Tryz.func13, Tryz.ntmps13
    go_wp2
    go_ret
    exact ⟨ret_bool (decide_eq_false HV.out).symm, GG⟩
end Go.Proofs.YtomednfddpggaaaGreat

/- Contracts: two rows of truths compared; which edges are needed, of the chapter's example; the chapter's example (bridge). -/
namespace Go.Proofs.YtomednfddpggaaaGreat
open Go Go.RowKit
attribute [local go_sem] Oper.semAt_some
def gbb (l : List Bool) (k : Nat) : Bool := l.getD k false
set_option maxHeartbeats 2000000 in
theorem eqBool (g1 g2 n : Nat) (l l' : List Bool) (w : World) (h : Arr w g1 4 (l.map .bool)) (h' : Arr w g2 4 (l'.map .bool)) (hl : l.length = n) (hl' : l'.length = n) (hn : n ≤ 1000000) :
    Calls Tryz.prog 87 #[.slice (some ⟨g1, 0, none⟩) n n, .slice (some ⟨g2, 0, none⟩) n n] w fun e w' => e = .returned (.bool (decide (l = l'))) ∧ Grows w w' := by
  have HL := hide hl
  have HM := hide hl'
  have HC := hide (show ∀ j, j < n → Holds w ⟨g1, j, none⟩ (.bool (gbb l j)) from fun j hj => ⟨by rw [h.cell, List.getElem?_map]; simp [gbb, List.getElem?_eq_getElem (show j < l.length by omega)]⟩)
  have HD := hide (show ∀ j, j < n → Holds w ⟨g2, j, none⟩ (.bool (gbb l' j)) from fun j hj => ⟨by rw [h'.cell, List.getElem?_map]; simp [gbb, List.getElem?_eq_getElem (show j < l'.length by omega)]⟩)
  clear h h' hl hl'
  go_enter Tryz.func87, Tryz.ntmps87
  go_wp2
  go_loopw [13, 5] (fun i _ wr => ∃ k : Nat, k ≤ n ∧ i = .int .i64 (k : Int) ∧ (∃ y : Later w, wr = y.now) ∧ ∀ j, j < k → gbb l j = gbb l' j) (fun i _ _ => n - (intOf i).toNat)
  case atStart => exact ⟨0, by omega, by go_num, ⟨⟨w, Grows.refl w⟩, rfl⟩, fun j h => by omega⟩
  case round =>
    obtain ⟨k, hk, rfl, ⟨y, rfl⟩, hall⟩ := hrel
    have HA := hide hall
    clear hall
    by_cases hend : n ≤ k
    · have HV : Hid (l = l') := by
        apply List.ext_getElem (by rw [HL.out, HM.out])
        intro j h1 h2
        have := HA.out j (by have := HL.out; omega)
        simpa [gbb, h1, h2] using this
      go_wp2
      go_ret
      exact ⟨ret_bool (decide_eq_true HV.out).symm, GG⟩
    · have c1 := HC.out k (by omega)
      have c2 := HD.out k (by omega)
      by_cases he : gbb l k = gbb l' k
      · have HE : Hid (∀ j, j < k + 1 → gbb l j = gbb l' j) := fun j hj => by
          by_cases e : j = k
          · rw [e]; exact he
          · exact HA.out j (by omega)
        rw [← he] at c2
        clear he
        generalize gbb l k = u at *
        go_wp2_with fail
        ((first | refine wp_region_gen (by kernel_rfl) (by kernel_rfl) ?_); (repeat' (first | (refine gLex_val0 rfl (by kernel_rfl) (fun K hK => ?_); (go_simp; (try (simp only [↓IntWalk.iteOmega]; try go_simp)); (try simp (disch := omega) only [IntWalk.i64_in]); (try simp (disch := omega) only [IntWalk.u64_in]); first | (refine hK _ ?_; clear hK K) | (apply Exists.intro; refine ⟨fun x => ?_, hK _ ?_⟩; (first | fail); clear hK K))) | (refine gLex_undef rfl rfl rfl (by kernel_rfl) (fun K hK => ?_); go_simp; refine hK _ ?_; clear hK K) | (refine gLex_ask rfl rfl rfl ?_; first | (apply gAsk_yes; kernel_rfl; intro K hK; (go_simp; (try (simp only [↓IntWalk.iteOmega]; try go_simp)); (try simp (disch := omega) only [IntWalk.i64_in]); (try simp (disch := omega) only [IntWalk.u64_in]); first | (refine hK _ ?_; clear hK K) | (apply Exists.intro; refine ⟨fun x => ?_, hK _ ?_⟩; (first | fail); clear hK K))) | ((first | apply gAsk_no1 | apply gAsk_no2); kernel_rfl; intro K hK; simp [go_sem]; refine hK _ ?_; clear hK K) | (apply gAsk_part; kernel_rfl; all_goals (intro h K hK; (try simp only [Bool.not_true] at h); (try simp only [Bool.not_false] at h); (try simp only [decide_eq_true_eq] at h); (try simp only [decide_eq_false_iff_not] at h); first | (exfalso; first | contradiction | omega) | (go_simp; (try (simp only [↓IntWalk.iteOmega]; try go_simp)); (try simp (disch := omega) only [IntWalk.i64_in]); (try simp (disch := omega) only [IntWalk.u64_in]); first | (refine hK _ ?_; clear hK K) | (apply Exists.intro; refine ⟨fun x => ?_, hK _ ?_⟩; (first | fail); clear hK K))))))); all_goals ((apply gLex_end); intro x))
        go_wp2
        refine ⟨⟨k + 1, by omega, by go_num, Grows.later GG, HE.out⟩, by simp [intOf]; omega⟩
      · have HV : Hid (¬ l = l') := fun e => he (by rw [e])
        have hd : (gbb l k == gbb l' k) = false := by simpa using he
        clear he
        generalize gbb l k = u at *
        generalize gbb l' k = v at *
        go_wp2_with fail
        ((first | refine wp_region_gen (by kernel_rfl) (by kernel_rfl) ?_); (repeat' (first | (refine gLex_val0 rfl (by kernel_rfl) (fun K hK => ?_); (go_simp; (try (simp only [↓IntWalk.iteOmega]; try go_simp)); (try simp (disch := omega) only [IntWalk.i64_in]); (try simp (disch := omega) only [IntWalk.u64_in]); first | (refine hK _ ?_; clear hK K) | (apply Exists.intro; refine ⟨fun x => ?_, hK _ ?_⟩; (first | fail); clear hK K))) | (refine gLex_undef rfl rfl rfl (by kernel_rfl) (fun K hK => ?_); go_simp; refine hK _ ?_; clear hK K) | (refine gLex_ask rfl rfl rfl ?_; first | (apply gAsk_yes; kernel_rfl; intro K hK; (go_simp; (try (simp only [↓IntWalk.iteOmega]; try go_simp)); (try simp (disch := omega) only [IntWalk.i64_in]); (try simp (disch := omega) only [IntWalk.u64_in]); first | (refine hK _ ?_; clear hK K) | (apply Exists.intro; refine ⟨fun x => ?_, hK _ ?_⟩; (first | fail); clear hK K))) | ((first | apply gAsk_no1 | apply gAsk_no2); kernel_rfl; intro K hK; simp [go_sem]; refine hK _ ?_; clear hK K) | (apply gAsk_part; kernel_rfl; all_goals (intro h K hK; (try simp only [Bool.not_true] at h); (try simp only [Bool.not_false] at h); (try simp only [decide_eq_true_eq] at h); (try simp only [decide_eq_false_iff_not] at h); first | (exfalso; first | contradiction | omega) | (go_simp; (try (simp only [↓IntWalk.iteOmega]; try go_simp)); (try simp (disch := omega) only [IntWalk.i64_in]); (try simp (disch := omega) only [IntWalk.u64_in]); first | (refine hK _ ?_; clear hK K) | (apply Exists.intro; refine ⟨fun x => ?_, hK _ ?_⟩; (first | fail); clear hK K))))))); all_goals ((apply gLex_end); intro x))
        go_wp2
        go_ret
        exact ⟨ret_bool (decide_eq_false HV.out).symm, GG⟩
def ex48 : List Edg := [⟨0, 1, 3⟩]
set_option maxRecDepth 20000 in
set_option maxHeartbeats 4000000 in
theorem needs48 (A : Option Addr) (w : World) (h : Rd w A 3 1 (esCells ex48)) : Calls Tryz.prog 48 #[.agg #[.int .i64 2, .slice A 1 1], .int .i64 0] w fun x w' => ∃ A' c', x = .returned (.tuple #[.slice A' 1 c', .int .i64 0]) ∧ Rd w' A' 1 1 (([0] : List Int).map (.int .i64)) ∧ Grows w w' := by
  have h0 : Rd w none 1 0 (wv []) := ⟨by simp [wv], fun h => absurd h (by simp)⟩
  have C1 := hide (fun (W : World) (g : Grows w W) => show Calls Tryz.prog 67 #[.agg #[.int .i64 2, .slice A 1 1], .int .i64 0, .agg #[.bool false, .slice none 0 0, .slice none 0 0, .slice none 0 0, .int .u64 0]] W fun e w' => e = .returned (.int .i64 0) ∧ Grows W w' from by
    have := djCheck 2 0 A 1 1 ex48 false (.slice none 0 0) (.slice none 0 0) none 0 0 0 [] W (h.grows g) (h0.grows g) (by omega) (by omega)
    rw [show dcF 2 0 ex48 [] = 0 by decide +kernel] at this
    exact this)
  have C2 := hide (fun (W : World) (g : Grows w W) => show Calls Tryz.prog 85 #[.agg #[.int .i64 2, .slice A 1 1], .int .i64 0, .bool false] W fun e w' => ∃ g, e = .returned (.slice (some ⟨g, 0, none⟩) 2 2) ∧ Arr w' g 4 ([true, true].map .bool) ∧ Grows W w' from by
    have := ptReach 2 0 A 1 ex48 false W (h.grows g) (by decide +kernel) (by omega)
    rw [show reachL 2 ex48 0 false = [true, true] by decide +kernel] at this
    exact this)
  have C3 := hide (fun (W : World) (g : Grows w W) => show Calls Tryz.prog 86 #[.agg #[.int .i64 2, .slice A 1 1], .int .i64 0] W fun x w' => ∃ A' c', x = .returned (.tuple #[.agg #[.int .i64 2, .slice A' 0 c'], .int .i64 0]) ∧ Rd w' A' 3 0 [] ∧ Grows W w' from
    withoutW 2 A 1 ex48 0 W (h.grows g) (by decide +kernel) (by decide))
  have C4 := hide (fun (W : World) (A : Option Addr) (c : Nat) (h : Rd W A 3 0 []) => show Calls Tryz.prog 85 #[.agg #[.int .i64 2, .slice A 0 c], .int .i64 0, .bool false] W fun e w' => ∃ g, e = .returned (.slice (some ⟨g, 0, none⟩) 2 2) ∧ Arr w' g 4 ([true, false].map .bool) ∧ Grows W w' from by
    have := ptReach 2 0 A c [] false W h (by decide +kernel) (by omega)
    rw [show reachL 2 [] 0 false = [true, false] by decide +kernel] at this
    exact this)
  have HL := hide h.elen
  clear h h0
  go_enter Tryz.func48, Tryz.ntmps48
  go_upto_region 4 with (go_at_call 67; refine (C1.out _ GG).mono ?_; rintro e w' ⟨rfl, hg⟩; obtain ⟨x1, rfl⟩ := hg.later; clear hg)
  go_wp2_with (go_at_call 85; refine (C2.out _ GG).mono ?_; rintro e w' ⟨g2, rfl, ha2, hg⟩; obtain ⟨x2, rfl⟩ := hg.later; have HA2 := hide ha2; clear hg ha2)
  refine wp_loop_rounds 2 ?_
  show Code.wp _ _ _ _ _
  have k0 : (decide ((0 : Int) < 1)) = true := rfl
  go_wp2_with (first
    | (go_at_call 86; refine (C3.out _ GG).mono ?_; rintro e w' ⟨A3, c3, rfl, hr3, hg⟩; obtain ⟨x3, rfl⟩ := hg.later; have HR3 := hide hr3; clear hg hr3)
    | (go_at_call 85; refine (C4.out _ A3 c3 (HR3.out.grows GG)).mono ?_; rintro e w' ⟨g4, rfl, ha4, hg⟩; obtain ⟨x4, rfl⟩ := Grows.later2 (((Grows.refl x3.now).new _).trans hg); have HA4 := hide ha4; clear hg ha4)
    | (go_at_call 87; refine (eqBool g4 g2 2 [true, false] [true, true] _ HA4.out (HA2.out.grow GG) rfl rfl (by omega)).mono ?_; rintro e w' ⟨rfl, hg⟩; obtain ⟨x5, rfl⟩ := hg.later; clear hg)
    | (at_builtin; refine wp_app1 elemInt rfl _ _ rfl _ GG 0 0 none [] rfl (Own.nil _ w.heap.size _ _) _ _ _ rfl inferInstance rfl (by omega) ?_; intro A6 c6 y6 hown6; have HO6 := hide hown6; clear hown6))
  show Code.wp _ _ _ _ _
  have k1 : (decide ((1 : Int) < 1)) = false := rfl
  go_wp2_with fail
  refine bodyPost_ret (v := .tuple #[.slice A6 1 c6, .int .i64 0]) (by simp (maxDischargeDepth := 6) [results, Tryz.results48, go_sem, *]) rfl ⟨A6, ⟨c6, rfl⟩, HO6.out.rd, GG⟩
theorem cuts48 : cutsL 2 ex48 = [0] := by decide +kernel
set_option maxRecDepth 20000 in
set_option maxHeartbeats 2000000 in
theorem alive48 (w : World) : Calls Tryz.prog 26 #[] w fun e w' => e = .returned (.bool true) ∧ Grows w w' := by
  have C := hide (fun (W : World) (A : Option Addr) (h : Rd W A 3 1 (esCells ex48)) => needs48 A W h)
  have C2 := hide (fun (W : World) (A : Option Addr) (h : Rd W A 3 1 (esCells ex48)) => show Calls Tryz.prog 49 #[.agg #[.int .i64 2, .slice A 1 1]] W fun e w' => ∃ A' c', e = .returned (.slice A' 1 c') ∧ Rd w' A' 1 1 (([0] : List Int).map (.int .i64)) ∧ Grows W w' from by
    have := bwCuts 2 A 1 ex48 W h (by decide +kernel)
    rw [cuts48] at this
    exact this)
  have HR := hide (show Rd (w.alloc (.cells #[.int .i64 0, .int .i64 1, .int .u64 3] 59)) (some ⟨w.heap.size, 0, none⟩) 3 1 (esCells ex48) from Rd.made (w := w) (t := 59) (size := 3) (n := 1) (esCells ex48) rfl)
  have HS := hide (fun (W : World) (A : Option Addr) (c : Nat) (h : Rd W A 1 1 (([0] : List Int).map (.int .i64))) (B : Option Addr) (h2 : Rd W B 1 1 (([0] : List Int).map (.int .i64))) => show Calls Tryz.prog 13 #[.slice A 1 c, .slice B 1 1] W fun e w' => e = .returned (.bool true) ∧ Grows W w' from by
    have := r1Same A 1 c [0] B 1 1 [0] W h (by omega) h2 (by omega)
    rw [decide_eq_true rfl] at this
    exact this)
  go_enter Tryz.func26, Tryz.ntmps26
  go_wp2_with fail
  refine (C.out _ _ (HR.out.grows GG)).mono ?_
  rintro e w' ⟨A2, c2, rfl, hr2, hg⟩
  obtain ⟨x1, rfl⟩ := hg.later
  have HR2 := hide hr2
  clear hg hr2
  go_wp2_with fail
  refine (HS.out _ A2 c2 (HR2.out.grows GG) _ (Rd.made (w := x1.now) (t := 3) (size := 1) (n := 1) (([0] : List Int).map (.int .i64)) rfl)).mono ?_
  rintro e w2 ⟨rfl, hg⟩
  obtain ⟨y, rfl⟩ := Grows.later2 (((Grows.refl x1.now).new _).trans hg)
  clear hg
  go_wp2_with fail
  refine (C2.out _ _ (HR.out.grows GG)).mono ?_
  rintro e w' ⟨A3, c3, rfl, hr3, hg⟩
  obtain ⟨x3, rfl⟩ := hg.later
  have HR3 := hide hr3
  clear hg hr3
  go_wp2_with fail
  refine (HS.out _ A3 c3 (HR3.out.grows GG) _ (Rd.made (w := x3.now) (t := 3) (size := 1) (n := 1) (([0] : List Int).map (.int .i64)) rfl)).mono ?_
  rintro e w2 ⟨rfl, hg⟩
  obtain ⟨y3, rfl⟩ := Grows.later2 (((Grows.refl x3.now).new _).trans hg)
  clear hg
  go_wp2_with fail
  go_ret
  exact ⟨rfl, GG⟩
def light48 (N : Int) (n : Nat) : Bool := lightG N n && (decide (N ≤ 16) || decide (4096 < N)) && decide (n ≤ 40)
set_option maxRecDepth 20000 in
set_option maxHeartbeats 2000000 in
theorem lLight48 (N : Int) (A : Option Addr) (n c : Nat) (w : World) : Calls Tryz.prog 25 #[.agg #[.int .i64 N, .slice A n c]] w fun e w' => e = .returned (.bool (light48 N n)) ∧ Grows w w' := by
  have C := hide (fun (W : World) => lLight N A n c W)
  have HD : Hid (light48 N n = (lightG N n && (decide (N ≤ 16) || decide (4096 < N)) && decide (n ≤ 40))) := rfl
  generalize light48 N n = r at *
  generalize lightG N n = q at *
  go_enter Tryz.func25, Tryz.ntmps25
  go_wp2_with (go_at_call 6; refine (C.out _).mono ?_; rintro e w' ⟨rfl, hg⟩; obtain ⟨x1, rfl⟩ := hg.later; clear hg)
  all_goals go_ret
  all_goals exact ⟨ret_bool (by rw [HD.out]; apply bool_ext; simp_all; try omega), GG⟩
end Go.Proofs.YtomednfddpggaaaGreat
