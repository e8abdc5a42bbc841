/- Contract: to which nodes there is a way from one, and from which there is one to it, by the program. -/
import Derived.Test.YtiljgkaffgclgaaQPartsReach13
import Derived.Test.YtiljgkaffgclgaaQPartsReach14
import Derived.Test.YtiljgkaffgclgaaQPartsReach05
import Derived.Test.YtiljgkaffgclgaaQPartsReach04
import Derived.Test.YtiljgkaffgclgaaQPartsReach12
import Derived.WalkMore
import Derived.Test.YtiljgkaffgclgaaQPartsReach09
import Derived.Test.YtiljgkaffgclgaaQPartsReach00
import Derived.Test.YtiljgkaffgclgaaQPartsReach02
import Derived.Test.YtiljgkaffgclgaaQPartsReach01
import Derived.Deep.Strs
/- Contract: to which nodes there is a way from one, and from which there is one to it, by the program. -/
namespace Go.Proofs.Ytiljgkaffgclgaa
open Go Go.RowKit
attribute [local go_sem] Oper.semAt_some
/-- Where the walk stands: those who wait (their row's box bw), the truths bd; M: an iterator's own blocks. -/
structure RqC (bw bd g1 : Nat) (W3 : World) (g off c : Nat) (d : List Bool × List Nat) (M : Nat → Prop) (W : World) : Prop where
  q : QAt W g off d.2.length c d.2
  w : Arr W bw 25 [.slice (some ⟨g, off, none⟩) d.2.length c]
  d : Arr W bd 4 (d.1.map .bool)
  tch : Touch (fun k => k = bw ∨ k = bd ∨ k = g1) W3 W
  ms : ∀ k, M k → W3.heap.size ≤ k ∧ k < W.heap.size ∧ k ≠ g
  own : g = g1 ∨ W3.heap.size ≤ g
  lts : bw < W3.heap.size ∧ bd < W3.heap.size
section
variable {bw bd g1 g off c : Nat} {W3 W W' : World} {d : List Bool × List Nat} {M : Nat → Prop}
theorem RqC.yield (h : RqC bw bd g1 W3 g off c d M W) (ht : Touch M W W') {M' : Nat → Prop} (hM : ∀ k, M' k → (M k ∨ W.heap.size ≤ k) ∧ k < W'.heap.size) : RqC bw bd g1 W3 g off c d M' W' := by
  refine ⟨h.q.touch ht (fun e => (h.ms _ e).2.2 rfl), h.w.touch ht (fun e => by have := (h.ms _ e).1; have := h.lts; omega), h.d.touch ht (fun e => by have := (h.ms _ e).1; have := h.lts; omega), h.tch.trans2 ht fun k hk => .inr (h.ms k hk).1, fun k hk => ?_, h.own, h.lts⟩
  obtain ⟨h1, h2⟩ := hM k hk
  rcases h1 with h1 | h1
  · exact ⟨(h.ms k h1).1, h2, (h.ms k h1).2.2⟩
  · exact ⟨Nat.le_trans h.tch.size h1, h2, fun e => by have := h.q.lt; omega⟩
theorem RqC.grow (h : RqC bw bd g1 W3 g off c d M W) (hg : Grows W W') : RqC bw bd g1 W3 g off c d M W' :=
  ⟨h.q.grow hg, h.w.grow hg, h.d.grow hg, h.tch.grows hg, fun k hk => ⟨(h.ms k hk).1, Nat.lt_of_lt_of_le (h.ms k hk).2.1 hg.size, (h.ms k hk).2.2⟩, h.own, h.lts⟩
theorem RqC.start (h : RqC bw bd g1 W3 g off c d M W) : RqC bw bd g W g off c d (fun _ => False) W :=
  ⟨h.q, h.w, h.d, Touch.refl _ _, fun _ hk => hk.elim, .inl rfl, ⟨h.w.lt, h.d.lt⟩⟩
/-- A loop over some edges is over. -/
theorem RqC.over (h : RqC bw bd g1 W3 g off c d M W) {g' off' c' : Nat} {d' : List Bool × List Nat} {M' : Nat → Prop} (k : RqC bw bd g W g' off' c' d' M' W') : RqC bw bd g1 W3 g' off' c' d' (fun _ => False) W' := by
  refine ⟨k.q, k.w, k.d, h.tch.trans2 k.tch fun j hj => ?_, fun _ hk => hk.elim, ?_, h.lts⟩
  · rcases hj with rfl | rfl | rfl
    · exact .inl (.inl rfl)
    · exact .inl (.inr (.inl rfl))
    · rcases h.own with e | e
      · exact .inl (.inr (.inr e))
      · exact .inr e
  · rcases k.own with e | e
    · rw [e]; exact h.own
    · exact .inr (Nat.le_trans h.tch.size e)
/-- A node is come to. -/
theorem RqC.put (h : RqC bw bd g1 W3 g off c d M W) (hgb : bw ≠ g ∧ bd ≠ g ∧ bw ≠ bd) {u g' off' c' : Nat} {w1 w2 : World} (hg : Grows (W.setCell ⟨bd, u, none⟩ (.bool true)) w1) (hq : QAt w2 g' off' (d.2.length + 1) c' (d.2 ++ [u])) (ht : Touch (fun k => k = g) w1 w2) (hn : g' = g ∨ New w1 w2 g') :
    RqC bw bd g1 W3 g' off' c' (d.1.set u true, d.2 ++ [u]) M (w2.setCell ⟨bw, 0, none⟩ (.slice (some ⟨g', off', none⟩) (d.2.length + 1) c')) ∧ Touch (fun k => k = bw ∨ k = bd ∨ k = g) W (w2.setCell ⟨bw, 0, none⟩ (.slice (some ⟨g', off', none⟩) (d.2.length + 1) c')) := by
  obtain ⟨n1, n2, n3⟩ := hgb
  have hlw := h.w.lt
  have hld := h.d.lt
  have hs1 : W.heap.size ≤ w1.heap.size := by have := hg.size; rw [size_setCell] at this; exact this
  have hs2 := ht.size
  have t1 : Touch (fun k => k = bw ∨ k = bd ∨ k = g) W w1 := ((Touch.refl _ W).set (.inl (.inr (.inl rfl))) _).grows hg
  have t2 : Touch (fun k => k = bw ∨ k = bd ∨ k = g) W w2 := t1.trans (ht.mono fun k hk => .inr (.inr hk))
  have t3 := t2.set (p := ⟨bw, 0, none⟩) (.inl (.inl rfl)) (.slice (some ⟨g', off', none⟩) (d.2.length + 1) c')
  have hd1 : Arr (W.setCell ⟨bd, u, none⟩ (.bool true)) bd 4 ((d.1.set u true).map .bool) := by rw [List.map_set]; exact h.d.set u _
  have hd2 := (hd1.grow hg).touch ht n2
  have hw2 : Arr w2 bw 25 _ := ((h.w.other (p := ⟨bd, u, none⟩) (Ne.symm n3) _).grow hg).touch ht n1
  have hgw : g' ≠ bw := by
    rcases hn with e | e
    · rw [e]; exact Ne.symm n1
    · have := e.1; omega
  refine ⟨⟨?_, ?_, hd2.other (Ne.symm (Ne.symm n3)) _, h.tch.trans2 t3 fun k hk => ?_, fun k hk => ⟨(h.ms k hk).1, Nat.lt_of_lt_of_le (h.ms k hk).2.1 t3.size, fun e => ?_⟩, ?_, h.lts⟩, t3⟩
  · show QAt _ g' off' (d.2 ++ [u]).length c' _
    rw [List.length_append, List.length_singleton]
    exact hq.other (Ne.symm hgw) _
  · show Arr _ bw _ [.slice _ (d.2 ++ [u]).length c']
    rw [List.length_append, List.length_singleton]
    exact hw2.set 0 _
  · rcases hk with rfl | rfl | rfl
    · exact .inl (.inl rfl)
    · exact .inl (.inr (.inl rfl))
    · rcases h.own with e | e
      · exact .inl (.inr (.inr e))
      · exact .inr e
  · rcases hn with e2 | e2
    · exact (h.ms k hk).2.2 (e.trans e2)
    · have := (h.ms k hk).2.1
      have := e2.1
      omega
  · rcases hn with e | e
    · rw [e]; exact h.own
    · exact .inr (Nat.le_trans h.tch.size (Nat.le_trans hs1 e.1))
/-- Those who wait are one fewer. -/
theorem RqC.pop {v : Nat} {D : List Bool} {q : List Nat} (h : RqC bw bd g1 W3 g off c (D, v :: q) M W) (hgb : bw ≠ g ∧ bw ≠ bd) : RqC bw bd g1 W3 g (if c = 1 then off else off + 1) (c - 1) (D, q) M (W.setCell ⟨bw, 0, none⟩ (.slice (some ⟨g, if c = 1 then off else off + 1, none⟩) q.length (c - 1))) := by
  have hq : QAt W g off (q.length + 1) c (v :: q) := h.q
  exact ⟨hq.tail.other hgb.1 _, h.w.set 0 _, h.d.other hgb.2 _, h.tch.set (.inl (.inl rfl)) _, fun k hk => by rw [size_setCell]; exact h.ms k hk, h.own, h.lts⟩
end
/-- While a node's edges are gone through. -/
def RqJ (E : List Edg) (back : Bool) (N s v m bw bd g1 : Nat) (W3 : World) (d0 : List Bool × List Nat) (p : List Nat) (M : Nat → Prop) (W : World) : Prop :=
  ∃ g off c, RqC bw bd g1 W3 g off c (rqF E back p d0) M W ∧ RqI E back N s v m p (rqF E back p d0)
theorem RqJ.yields (E : List Edg) (back : Bool) (N s v m bw bd g1 : Nat) (W3 : World) (d0 : List Bool × List Nat) : Yields' (RqJ E back N s v m bw bd g1 W3 d0) :=
  fun _ _ _ _ _ ⟨g, off, c, h, k⟩ ht hM => ⟨g, off, c, h.yield ht hM, k⟩
/-- The frame in a round. -/
def rqFr (fr : Act) (E : List Edg) (i b : Nat) : Act := { tmps := ((fr.tmps.setIfInBounds 48 (.int .i64 (i : Int))).setIfInBounds 49 (eVal (ge E i))).setIfInBounds 13 (.pointer (some ⟨b, 0, none⟩)), defers := [] }
def RqB (E : List Edg) (back : Bool) (N s v m bw bd g1 : Nat) (W3 : World) (d0 : List Bool × List Nat) (fr : Act) (i : Nat) (a' : Act) (p : List Nat) (M : Nat → Prop) (W : World) : Prop :=
  ∃ b g off c, a' = rqFr fr E i b ∧ RqC bw bd g1 W3 g off c (rqF E back p d0) M W ∧ RqI E back N s v m p (rqF E back p d0) ∧ Arr W b 77 [.int .i64 (ge E i).f, .int .i64 (ge E i).t, .int .u64 (ge E i).w] ∧ ¬ M b ∧ W3.heap.size ≤ b
theorem RqB.yields (E : List Edg) (back : Bool) (N s v m bw bd g1 : Nat) (W3 : World) (d0 : List Bool × List Nat) (fr : Act) (i : Nat) (a' : Act) : Yields' (RqB E back N s v m bw bd g1 W3 d0 fr i a') :=
  fun _ _ _ _ _ ⟨b, g, off, c, e, h, k, ha, hm, hl⟩ ht hM => ⟨b, g, off, c, e, h.yield ht hM, k, ha.touch ht hm, fun e => by
    have := ha.lt
    rcases (hM _ e).1 with h | h
    · exact hm h
    · omega, hl⟩
/-- What stands between two nodes. -/
def RqL (E : List Edg) (back : Bool) (N s bw bd gq : Nat) (W0 : World) (Ds : List Nat) (m : Nat) (wr : World) : Prop :=
  ∃ g off c d, RqC bw bd gq W0 g off c d (fun _ => False) wr ∧ (RqO E back N s m d ∧ m ≤ N) ∧ Marks Ds wr ∧ ∀ D ∈ Ds, W0.heap.size ≤ D
set_option maxRecDepth 60000 in
set_option maxHeartbeats 8000000 in
theorem ptReach (N s : Nat) (A : Option Addr) (c : Nat) (E : List Edg) (back : Bool) (w : World) (h : Rd w A 3 E.length (esCells E)) (hr : rightF N E = 0) (hs : s < N) :
    Calls Try.prog 40 #[.agg #[.int .i64 (N : Int), .slice A E.length c], .int .i64 (s : Int), .bool back] w fun e w' => ∃ g, e = .returned (.slice (some ⟨g, 0, none⟩) N N) ∧ Arr w' g 4 ((reachL N E s back).map .bool) ∧ Grows w w' := by
  obtain ⟨r1, r2, r3, r4, r5⟩ := right_in hr
  rw [Int.toNat_natCast] at r4
  have C1 := hide (fun (W : World) (hg : Grows w W) => adjNew N A E.length c E W (h.grows hg) (by omega) hr)
  have CN := hide (fun (v : Value) (W : World) => gNode N s v W)
  have HNB := hide (show nodeB N s = true from decide_eq_true ⟨by omega, by omega⟩)
  rw [HNB.out] at CN
  have mb := fun (w : World) => run_makeBools2 N (by omega) w
  have HE := hide r4
  have hN : N ≤ 4096 := by omega
  have hEl : E.length ≤ 16384 := r3
  clear h hr r1 r2 r3 r4 r5
  refine calls_of_marks Try.func40 rfl ?_
  simp only [Try.ntmps40, List.size_toArray, List.length_cons, List.length_nil, Nat.reduceAdd, Nat.reduceSub, Array.replicate_succ, Array.replicate_zero, List.push_toArray, List.append_toArray, List.nil_append, List.cons_append]
  go_upto_region 5 with (first | (go_at_call 90; refine (C1.out _ (by repeat (first | exact Grows.refl _ | refine Grows.now ?_ _ | refine Grows.new ?_ _ | refine Grows.drewN ?_ _ | refine Grows.drew ?_ | assumption | (refine Grows.set ?_ (by first | omega | (simp; done) | (simp; omega)) _)))).mono ?_; rintro e w' ⟨ba, rfl, ha, hg⟩; obtain ⟨x, rfl⟩ := hg.later; have HA := hide ha; clear ha hg) | (go_at_call 65; refine (CN.out _ _).mono ?_; rintro e w' ⟨rfl, hg⟩; obtain ⟨x2, rfl⟩ := hg.later; clear hg))
  have hd0 : Arr ((x2.now.alloc (Obj.cells (Array.replicate N (Value.bool false)) 4)).alloc (Obj.cells #[Value.slice (some ⟨x2.now.heap.size, 0, none⟩) N N] 68)) x2.now.heap.size 4 ((List.replicate N false).map .bool) := by
    rw [← List.toArray_replicate, List.map_replicate]
    exact (Arr.make _ _ _).grow ((Grows.refl _).new _)
  have ho0 : Arr ((x2.now.alloc (Obj.cells (Array.replicate N (Value.bool false)) 4)).alloc (Obj.cells #[Value.slice (some ⟨x2.now.heap.size, 0, none⟩) N N] 68)) (x2.now.heap.size + 1) 68 [.slice (some ⟨x2.now.heap.size, 0, none⟩) N N] := by
    rw [show x2.now.heap.size + 1 = (x2.now.alloc (Obj.cells (Array.replicate N (Value.bool false)) 4)).heap.size by simp]
    exact Arr.make _ _ _
  have hgx : Grows w x2.now := (by repeat (first | exact Grows.refl _ | refine Grows.now ?_ _ | refine Grows.new ?_ _ | refine Grows.drewN ?_ _ | refine Grows.drew ?_ | assumption | (refine Grows.set ?_ (by first | omega | (simp; done) | (simp; omega)) _)))
  have hgW : Grows x2.now ((x2.now.alloc (Obj.cells (Array.replicate N (Value.bool false)) 4)).alloc (Obj.cells #[Value.slice (some ⟨x2.now.heap.size, 0, none⟩) N N] 68)) := (by repeat (first | exact Grows.refl _ | refine Grows.now ?_ _ | refine Grows.new ?_ _ | refine Grows.drewN ?_ _ | refine Grows.drew ?_ | assumption | (refine Grows.set ?_ (by first | omega | (simp; done) | (simp; omega)) _)))
  have hzW : ((x2.now.alloc (Obj.cells (Array.replicate N (Value.bool false)) 4)).alloc (Obj.cells #[Value.slice (some ⟨x2.now.heap.size, 0, none⟩) N N] 68)).heap.size = x2.now.heap.size + 1 + 1 := by simp
  have hFA : Hid (∀ k, New (w.alloc (Obj.cells #[.int .i64 (N : Int), .slice A E.length c] 24)) x.now k → k < x2.now.heap.size) := fun k hk => Nat.lt_of_lt_of_le hk.2 x2.size
  have HA2 := hide ((HA.out.grows x2.grows).grows hgW)
  clear HA C1 CN HNB mb
  generalize New (w.alloc (Obj.cells #[.int .i64 (N : Int), .slice A E.length c] 24)) x.now = F at *
  generalize ((x2.now.alloc (Obj.cells (Array.replicate N (Value.bool false)) 4)).alloc (Obj.cells #[Value.slice (some ⟨x2.now.heap.size, 0, none⟩) N N] 68)) = W1 at *
  have hbd : Hid (w.heap.size ≤ x2.now.heap.size) := hgx.size
  generalize x2.now.heap.size = bd at *
  have m0 : Mine W1 ⟨bd, s, none⟩ (.bool (bb (List.replicate N false) s)) := hd0.mine s (bb_at (by simpa using hs))
  have hne : bd + 1 ≠ bd := by omega
  have HD0 := hide hd0
  clear hd0
  --LOOP
  go_wp2_with fail
  obtain ⟨W2, hW2⟩ : ∃ W2, W2 = ((W1.setCell ⟨bd, s, none⟩ (.bool true)).alloc (Obj.cells #[Value.int .i64 (s : Int)] 3)).alloc (Obj.cells #[Value.slice (some ⟨bd + 1 + 1, 0, none⟩) 1 1] 25) := ⟨_, rfl⟩
  rw [← hW2]
  have hgA : Grows (W1.setCell ⟨bd, s, none⟩ (.bool true)) W2 := by rw [hW2]; exact ((Grows.refl _).new _).new _
  have hz0 : (W1.setCell ⟨bd, s, none⟩ (.bool true)).heap.size = bd + 1 + 1 := by rw [size_setCell]; exact hzW
  have hz2 : W2.heap.size = bd + 1 + 1 + 1 + 1 := by rw [hW2]; simp; exact hzW
  have q1 : Arr W2 (bd + 1 + 1) 3 [.int .i64 (s : Int)] := by
    rw [hW2, ← hz0]
    exact (Arr.make _ _ _).grow ((Grows.refl _).new _)
  have q2 : Arr W2 (bd + 1 + 1 + 1) 25 [.slice (some ⟨bd + 1 + 1, 0, none⟩) 1 1] := by
    have := Arr.make ((W1.setCell ⟨bd, s, none⟩ (.bool true)).alloc (Obj.cells #[Value.int .i64 (s : Int)] 3)) [.slice (some ⟨bd + 1 + 1, 0, none⟩) 1 1] 25
    rw [show ((W1.setCell ⟨bd, s, none⟩ (.bool true)).alloc (Obj.cells #[Value.int .i64 (s : Int)] 3)).heap.size = bd + 1 + 1 + 1 by simp; exact hzW] at this
    rw [hW2]
    exact this
  have q3 : Arr W2 bd 4 ((begB N s).map .bool) := by
    have := (HD0.out.set s (.bool true)).grow hgA
    rw [← List.map_set] at this
    exact this
  have q4 : Arr W2 (bd + 1) 68 [.slice (some ⟨bd, 0, none⟩) N N] := (ho0.other (p := ⟨bd, s, none⟩) (by show bd ≠ bd + 1; omega) _).grow hgA
  have hA4 : AdjAt F W2 ba N E := (HA2.out.touch ((Touch.refl (fun k => k = bd) W1).set (.inl rfl) _) (fun k hk e => by have := hFA.out k hk; omega)).grows hgA
  have hgw2 : Grows w W2 := (((Touch.refl (fun k => k = bd) W1).set (p := ⟨bd, s, none⟩) (.inl rfl) (.bool true)).later (hgx.trans hgW) (fun k hk => by rw [hk]; exact hbd.out)).trans hgA
  have H0 : Hid (RqL E back N s (bd + 1 + 1 + 1) bd (bd + 1 + 1) W2 [] N W2) :=
    ⟨bd + 1 + 1, 0, 1, (begB N s, [s]), ⟨QAt.one q1, q2, q3, Touch.refl _ _, fun _ hk => hk.elim, .inl rfl, ⟨q2.lt, q3.lt⟩⟩, ⟨RqO.start hs, Nat.le_refl _⟩, Marks.nil _, fun D hD => by cases hD⟩
  have HA := hide hA4
  have HFL := hide (show ∀ k, F k → k < bd from hFA.out)
  have HGW := hide hgw2
  clear hW2 hgA hz0 q1 q2 q3 hA4 hgw2 HD0 HA2 ho0 hzW m0 hgW hFA hgx hne x2
  obtain ⟨b1, hb1⟩ : ∃ b1, b1 = w.heap.size := ⟨_, rfl⟩
  rw [← hb1]
  clear hb1
  refine wp_loop_m (fun m a' wr => ∃ u11 u12 u13 u14 u36 u37 u38 u39 u40 u41 u42 u43 u44 u45 u46 u47 u48 u49 u50 u51 u52 u53 u54 u55 u56 u57 u58 u59 u60 u61 u62 u63 u64 u65 u66 u67 u68 u69 Ds, a' = { tmps := #[.agg #[.int .i64 (N : Int), .slice A E.length c], .int .i64 (s : Int), .bool back, .pointer (some ⟨b1, 0, none⟩), undef, undef, .slice none 0 0, .pointer (some ⟨ba, 0, none⟩), .int .i64 0, .pointer (some ⟨bd + 1, 0, none⟩), .pointer (some ⟨bd + 1 + 1 + 1, 0, none⟩), u11, u12, u13, u14, .tuple #[.pointer (some ⟨ba, 0, none⟩), .int .i64 0], .agg #[.int .i64 (N : Int), .slice A E.length c], .tuple #[.pointer (some ⟨ba, 0, none⟩), .int .i64 0], .pointer (some ⟨ba, 0, none⟩), .int .i64 0, .int .i64 0, .bool false, .bool false, .agg #[.int .i64 (N : Int), .slice A E.length c], .int .i64 (s : Int), .bool true, .bool false, .bool false, .pointer (some ⟨b1, 0, none⟩), .int .i64 (N : Int), .slice (some ⟨bd, 0, none⟩) N N, .slice (some ⟨bd, 0, none⟩) N N, .int .i64 (s : Int), .pointer (some ⟨bd, s, none⟩), .int .i64 (s : Int), .slice (some ⟨bd + 1 + 1, 0, none⟩) 1 1, u36, u37, u38, u39, u40, u41, u42, u43, u44, u45, u46, u47, u48, u49, u50, u51, u52, u53, u54, u55, u56, u57, u58, u59, u60, u61, u62, u63, u64, u65, u66, u67, u68, u69], defers := marks Ds } ∧ RqL E back N s (bd + 1 + 1 + 1) bd (bd + 1 + 1) W2 Ds m wr) ?_ ?_
  · exact ⟨N, by
      (repeat apply Exists.intro)
      exact ⟨rfl, H0.out⟩⟩
  · rintro m a' wr ⟨u11, u12, u13, u14, u36, u37, u38, u39, u40, u41, u42, u43, u44, u45, u46, u47, u48, u49, u50, u51, u52, u53, u54, u55, u56, u57, u58, u59, u60, u61, u62, u63, u64, u65, u66, u67, u68, u69, Ds, rfl, g, off, c2, ⟨D, q⟩, hC, ⟨hO, hmN⟩, hM, hDl⟩
    clear H0
    have HC := hide hC
    have HO := hide hO
    have HM := hide hM
    have HDL := hide hDl
    have b_w : Arr wr (bd + 1 + 1 + 1) 25 [.slice (some ⟨g, off, none⟩) q.length c2] := hC.w
    have b_o : Arr wr (bd + 1) 68 [.slice (some ⟨bd, 0, none⟩) N N] := q4.touch hC.tch (by omega)
    clear hC hO hM hDl
    cases q with
    | nil =>
      have HIS := hide (show D = reachL N E s back from RqO.is HE.out hs HO.out rfl)
      go_wp2_with fail
      have hgw : Grows w wr := HC.out.tch.later HGW.out (fun k hk => by have h1 := hbd.out; have h2 := hz2; rcases hk with rfl | rfl | rfl <;> omega)
      refine marks_end Ds rfl HM.out (fun W' htt => ⟨.slice (some ⟨bd, 0, none⟩) N N, by simp (maxDischargeDepth := 6) [results, Try.results40, go_sem], bd, rfl, ?_, htt.later hgw (fun k hk => ?_)⟩)
      · rw [← HIS.out]
        exact HC.out.d.touch htt (fun e => by have := HDL.out _ e; omega)
      · have := HDL.out k hk
        have := HGW.out.size
        omega
    | cons v q =>
      have hvN : v < N := (HO.out.q v (by simp)).1
      obtain ⟨m2, rfl⟩ : ∃ m2, m = m2 + 1 := ⟨m - 1, by have := HO.out.m; simp only [List.length_cons] at this; omega⟩
      have b_h : Mine wr ⟨g, off, none⟩ (.int .i64 (v : Int)) := HC.out.q.head
      have hqc : q.length + 1 ≤ c2 := HC.out.q.cap
      have b_w2 : Arr wr (bd + 1 + 1 + 1) 25 [.slice (some ⟨g, off, none⟩) (q.length + 1) c2] := b_w
      clear b_w
      go_upto_region 10 with fail
      have e1 : (if c2 = 1 then some (⟨g, off, none⟩ : Addr) else some ⟨g, off + 1, none⟩) = some ⟨g, if c2 = 1 then off else off + 1, none⟩ := by split <;> rfl
      rw [e1]
      clear e1
      have hgA : Grows wr (wr.alloc (Obj.cells #[Value.int .i64 (v : Int)] 3)) := (Grows.refl _).new _
      have hgb : bd + 1 + 1 + 1 ≠ g ∧ bd ≠ g := ⟨Ne.symm (HC.out.q.ne HC.out.w (by decide)), Ne.symm (HC.out.q.ne HC.out.d (by decide))⟩
      have hgo : bd + 1 ≠ g := Ne.symm (HC.out.q.ne b_o (by decide))
      have hC3 := (HC.out.grow hgA).pop ⟨hgb.1, by omega⟩
      have hlg := HC.out.q.lt
      have hlw := HC.out.w.lt
      have a11 : Arr ((wr.alloc (Obj.cells #[Value.int .i64 (v : Int)] 3)).setCell ⟨bd + 1 + 1 + 1, 0, none⟩ (.slice (some ⟨g, if c2 = 1 then off else off + 1, none⟩) q.length (c2 - 1))) wr.heap.size 3 [.int .i64 (v : Int)] := (Arr.make wr _ _).other (by show bd + 1 + 1 + 1 ≠ _; omega) _
      have bo3 : Arr ((wr.alloc (Obj.cells #[Value.int .i64 (v : Int)] 3)).setCell ⟨bd + 1 + 1 + 1, 0, none⟩ (.slice (some ⟨g, if c2 = 1 then off else off + 1, none⟩) q.length (c2 - 1))) (bd + 1) 68 [.slice (some ⟨bd, 0, none⟩) N N] := (b_o.grow hgA).other (by show bd + 1 + 1 + 1 ≠ _; omega) _
      have hA3 := HA.out.touch hC3.tch (fun k hk e => by have := HFL.out k hk; rcases e with rfl | rfl | rfl <;> omega)
      have hM3 := (HM.out.touch (S := fun _ => False) (hgA.touch _) (fun _ _ => id)).touch ((Touch.refl (fun k => k = bd + 1 + 1 + 1) _).set (p := ⟨bd + 1 + 1 + 1, 0, none⟩) (.inl rfl) (.slice (some ⟨g, if c2 = 1 then off else off + 1, none⟩) q.length (c2 - 1))) (fun D hD e => by have := HDL.out D hD; omega)
      have hz3 : ((wr.alloc (Obj.cells #[Value.int .i64 (v : Int)] 3)).setCell ⟨bd + 1 + 1 + 1, 0, none⟩ (.slice (some ⟨g, if c2 = 1 then off else off + 1, none⟩) q.length (c2 - 1))).heap.size = wr.heap.size + 1 := by rw [size_setCell]; simp
      have hlb : Hid (W2.heap.size ≤ wr.heap.size) := HC.out.tch.size
      have HRI0 := hide HO.out.take
      clear b_w2 b_h b_o HO HM HC hqc hgA
      generalize ((wr.alloc (Obj.cells #[Value.int .i64 (v : Int)] 3)).setCell ⟨bd + 1 + 1 + 1, 0, none⟩ (.slice (some ⟨g, if c2 = 1 then off else off + 1, none⟩) q.length (c2 - 1))) = W3 at *
      generalize (if c2 = 1 then off else off + 1) = off2 at *
      generalize c2 - 1 = c3 at *
      obtain ⟨b11, hb11⟩ : ∃ b, b = wr.heap.size := ⟨_, rfl⟩
      have hN11 : b11 ≠ bd + 1 + 1 + 1 ∧ b11 ≠ bd ∧ b11 ≠ g := by omega
      have hz3 : W3.heap.size = b11 + 1 := by omega
      have hlb : Hid (W2.heap.size ≤ b11) := by rw [hb11]; exact hlb.out
      have hlg : g < b11 := by omega
      rw [← hb11] at a11
      rw [← hb11]
      clear hb11
      have HC3 := hide hC3
      have HA3 := hide hA3
      have HM3 := hide hM3
      clear hC3 hA3 hM3 HA q4
      go_wp2_with (go_at_call 91; refine (adjEach ba v back _).mono ?_; rintro e w' ⟨b4, rfl, hb4, i1, i2, i3, hg⟩; obtain ⟨x4, rfl⟩ := hg.later)
      have HA4 := hide (HA3.out.grows x4.grows)
      have HC4 := hide (HC3.out.grow x4.grows)
      have HM4 := hide (HM3.out.touch (S := fun _ => False) (x4.grows.touch _) (fun _ _ => id))
      have a114 := a11.grow x4.grows
      have bo4 := bo3.grow x4.grows
      have hz4 := x4.size
      have l3 := i3.lt
      clear HA3 HC3 HM3 a11 bo3 hg
      generalize x4.now = W4 at *
      have HSUB := hide (show ∀ k, (F k ∨ (b4 ≤ k ∧ k ≤ b4 + 1 + 1)) → k < W4.heap.size ∧ k ≠ bd + 1 + 1 + 1 ∧ k ≠ bd ∧ k ≠ g from fun k hk => by
        have h2 := hlb.out
        rcases hk with hk | hk
        · have := HFL.out k hk
          refine ⟨by omega, by omega, by omega, fun e => ?_⟩
          subst e
          rcases HC4.out.own with e2 | e2
          · omega
          · omega
        · exact ⟨by omega, by omega, by omega, by omega⟩)
      refine (wpIn_wide (n := 0)).1 ?_
      refine wp_frame fun fr hfr => ?_
      refine wp_rangeG (w0 := W4) (gf := 144) (by rw [hfr]; rfl) (enters_of Try.func144 (by kernel_rfl) rfl)
        (each_gives F (fun k => F k ∨ (b4 ≤ k ∧ k ≤ b4 + 1 + 1)) (fun _ => False) ba N E v back b4 W4 HA4.out (fun k hk => .inl (.inl hk)) HE.out hvN (by omega) (by omega) (fun k hk => hk.elim) (.inl (.inr ⟨by omega, by omega⟩)) (.inl (.inr ⟨by omega, by omega⟩)) (.inl (.inr ⟨by omega, by omega⟩)) i1 i2 i3)
        (Keeps.refl _ _ _) (fun k hk => (HSUB.out k hk).1) (fun k hk => hk.elim) (fun _ => rfl)
        (RqJ E back N s v m2 (bd + 1 + 1 + 1) bd g W4 (D, q)) (fun _ _ _ _ => False) (RqJ.yields E back N s v m2 (bd + 1 + 1 + 1) bd g W4 (D, q)) (fun c _ _ _ _ _ h _ _ => h.elim) ⟨g, off2, c3, HC4.out.start, HRI0.out⟩
        (RqB E back N s v m2 (bd + 1 + 1 + 1) bd g W4 (D, q) fr) ?hIb ?assign ?body ?done ?stop
      case hIb => exact fun i a' => RqB.yields E back N s v m2 (bd + 1 + 1 + 1) bd g W4 (D, q) fr i a'
      case assign =>
        intro l2 p i rest Mi W hsp hI
        have HI := hide hI
        clear hI
        rw [hfr]
        unfold encE eVal
        gi_wp2
        have hgA : Grows W (W.alloc (.cells #[.int .i64 (ge E i).f, .int .i64 (ge E i).t, .int .u64 (ge E i).w] 77)) := (Grows.refl _).new _
        obtain ⟨g5, off5, c5, hc5, hri⟩ := HI.out
        refine ⟨⟨W.heap.size, g5, off5, c5, ?_, hc5.grow hgA, hri, Arr.make _ _ _, fun e => by have := (hc5.ms _ e).2.1; omega, hc5.tch.size⟩, hgA.touch _⟩
        simp only [rqFr, eVal, List.setIfInBounds_toArray, List.set_cons_zero, List.set_cons_succ]
      case body =>
        rintro l2 p i rest Mi a' W hsp hl2 hMl hrec ⟨b13, g5, off5, c5, rfl, hc5, hri, hb13, hm13, hl13⟩
        have hmem : i ∈ rowN (nN E back) E.length v := by rw [hsp]; simp
        have hiE : i < E.length ∧ nN E back i = v := by simpa [rowN] using hmem
        have hef := HE.out.f i hiE.1
        have het := HE.out.t i hiE.1
        have hun : oN E back i < N := oN_lt HE.out hiE.1
        have hsn := rqF_snoc E back p i (D, q)
        have hst := hri.step HE.out hiE.1 hiE.2
        have hto : ((tN E i : Nat) : Int) + (fN E i : Int) - (v : Int) = (oN E back i : Int) := by
          have h2 := hiE.2
          unfold nN at h2
          unfold oN
          cases back <;> simp at h2 ⊢ <;> omega
        have hlen : (rqF E back p (D, q)).2.length ≤ 1000000 := by have := hri.m; omega
        obtain ⟨R, hR⟩ : ∃ R : World → Prop, R = fun w1 => Keeps (fun k => F k ∨ (b4 ≤ k ∧ k ≤ b4 + 1 + 1)) Mi W w1 ∧ RqJ E back N s v m2 (bd + 1 + 1 + 1) bd g W4 (D, q) (p ++ [i]) Mi w1 := ⟨_, rfl⟩
        refine wpIn_mono (Q := fun e _ w1 => e = .normal ∧ R w1) ?_ (fun e a2 w2 h => by
          obtain ⟨rfl, h⟩ := h
          rw [hR] at h
          exact h)
        have m_d : Mine W ⟨bd, oN E back i, none⟩ (.bool (bb (rqF E back p (D, q)).1 (oN E back i))) := hc5.d.mine _ (bb_at (by rw [hri.len]; exact hun))
        have bo5 : Arr W (bd + 1) 68 [.slice (some ⟨bd, 0, none⟩) N N] := bo4.touch hc5.tch (fun e => by rcases e with e | e | e <;> omega)
        have a5 : Arr W b11 3 [.int .i64 (v : Int)] := a114.touch hc5.tch (fun e => e.elim hN11.1 (fun e => e.elim hN11.2.1 hN11.2.2))
        rw [hef.2, het.2] at hb13
        have hx := hef.1
        have hy := het.1
        have hgb5 : bd + 1 + 1 + 1 ≠ g5 ∧ bd ≠ g5 ∧ bd + 1 + 1 + 1 ≠ bd := ⟨Ne.symm (hc5.q.ne hc5.w (by decide)), Ne.symm (hc5.q.ne hc5.d (by decide)), by omega⟩
        have hlt5 := hc5.d.lt
        have hb5w := hc5.w
        have HC5 := hide hc5
        have HST := hide hst
        have HSN := hide hsn
        have HLN := hide hri.len
        have hkp : Hid (∀ w1, Touch (fun k => k = bd + 1 + 1 + 1 ∨ k = bd ∨ k = g5) W w1 → Keeps (fun k => F k ∨ (b4 ≤ k ∧ k ≤ b4 + 1 + 1)) Mi W w1) := fun w1 ht => ht.keeps fun k hk e => by
          have h5 := HC5.out.own
          have h6 := HC5.out.lts
          rcases e with e | e
          · have h7 := HSUB.out k e
            rcases hk with h | h | h
            · exact h7.2.1 h
            · exact h7.2.2.1 h
            · rcases h5 with h8 | h8
              · exact h7.2.2.2 (h.trans h8)
              · have := h7.1; omega
          · have h7 := HC5.out.ms k e
            rcases hk with h | h | h
            · omega
            · omega
            · exact h7.2.2 h
        clear hmem hiE hef het hsn hst hri hc5 hsp hl2 hMl hrec bo4 a114 HSUB HA4 HC4 HM4 i1 i2 i3 HRI0 HGW HDL HFL HE hlb hz3 hz4 hlg hlw l3 hb4 hz2 hgb hbd
        simp only [rqFr, hfr, eVal, List.setIfInBounds_toArray, List.set_cons_zero, List.set_cons_succ]
        generalize (ge E i).f = ef at *
        generalize (ge E i).t = et at *
        generalize (ge E i).w = ew at *
        generalize tN E i = y at *
        generalize fN E i = x at *
        generalize oN E back i = u at *
        generalize hdd : rqF E back p (D, q) = d at *
        clear hdd
        obtain ⟨D5, Q5⟩ := d
        simp only at m_d hlen hb5w HLN
        obtain ⟨q5, hq5⟩ : ∃ q5, bb D5 u = q5 := ⟨_, rfl⟩
        rw [hq5] at m_d
        cases q5 with
        | true =>
          have CR : Hid (R W) := by
            rw [hR]
            refine ⟨Keeps.refl _ _ _, g5, off5, c5, ?_⟩
            have e9 : rq (D5, Q5) u = (D5, Q5) := by unfold rq; rw [if_pos hq5]
            rw [HSN.out, e9]
            have := HST.out
            rw [e9] at this
            exact ⟨HC5.out, this⟩
          clear hR hq5
          gi_wp2
          exact CR.out
        | false =>
          have CR := hide (fun (g6 off6 c6 : Nat) (w1 w2 : World) (hg : Grows (W.setCell ⟨bd, u, none⟩ (.bool true)) w1) (hq : QAt w2 g6 off6 (Q5.length + 1) c6 (Q5 ++ [u])) (ht : Touch (fun k => k = g5) w1 w2) (hn : g6 = g5 ∨ New w1 w2 g6) => show R (w2.setCell ⟨bd + 1 + 1 + 1, 0, none⟩ (.slice (some ⟨g6, off6, none⟩) (Q5.length + 1) c6)) from by
            rw [hR]
            obtain ⟨k1, k2⟩ := HC5.out.put hgb5 hg hq ht hn
            have e9 : rq (D5, Q5) u = (D5.set u true, Q5 ++ [u]) := by unfold rq; rw [if_neg (by rw [hq5]; exact Bool.false_ne_true)]
            refine ⟨hkp.out _ k2, g6, off6, c6, ?_⟩
            rw [HSN.out, e9]
            have := HST.out
            rw [e9] at this
            exact ⟨k1, this⟩)
          have HQ := hide (show QAt ((W.setCell ⟨bd, u, none⟩ (.bool true)).alloc (.cells #[.int .i64 (u : Int)] 3)) g5 off5 Q5.length c5 Q5 from (HC5.out.q.other (p := ⟨bd, u, none⟩) hgb5.2.1 (.bool true)).grow ((Grows.refl _).new (.cells #[.int .i64 (u : Int)] 3)))
          have b_w5 : Arr (W.setCell ⟨bd, u, none⟩ (.bool true)) (bd + 1 + 1 + 1) 25 [.slice (some ⟨g5, off5, none⟩) Q5.length c5] := hb5w.other (p := ⟨bd, u, none⟩) (by show bd ≠ _; omega) _
          have hv5 : Holds ((W.setCell ⟨bd, u, none⟩ (.bool true)).alloc (.cells #[.int .i64 (u : Int)] 3)) ⟨W.heap.size, 0, none⟩ (.int .i64 (u : Int)) := by
            rw [← size_setCell W ⟨bd, u, none⟩ (.bool true)]
            infer_instance
          clear hR hq5 hkp HC5 HST HSN
          gi_wp2_with (refine wp_appQ rfl _ _ rfl HQ.out rfl _ _ u rfl hv5 (by omega) ?_; intro g6 off6 c6 w6 hq6 ht6 hn6; have b_w6 := (b_w5.grow ((Grows.refl _).new (.cells #[.int .i64 (u : Int)] 3))).touch ht6 hgb5.1; have HQ6 := hide hq6; have HT6 := hide ht6; have HN6 := hide hn6; clear hq6 ht6 hn6)
          exact CR.out g6 off6 c6 _ w6 ((Grows.refl _).new _) HQ6.out HT6.out HN6.out
      case done =>
        intro Dd Mi W hlD hMD hI hDW
        obtain ⟨g5, off5, c5, hc5, hri⟩ := hI
        have hO : RqO E back N s m2 (rqF E back (rowN (nN E back) E.length v) (D, q)) := hri.done fun i hi hv => by simp [rowN, hi, hv]
        have hz5 := hc5.tch.size
        have hDw : Dd ∉ Ds := fun e => by
          have := (Array.getElem?_eq_some_iff.1 (HM4.out.2 Dd e)).1
          omega
        have hMW : Marks Ds W := HM4.out.touch hc5.tch fun D' hD' e => by
          have h1 := HM4.out.2 D' hD'
          have h2 := HC4.out.w.is
          have h3 := HC4.out.d.is
          obtain ⟨cur, h4, _⟩ := HC4.out.q.is
          rcases e with rfl | rfl | rfl
          · rw [h1] at h2; cases h2
          · rw [h1] at h3; cases h3
          · rw [h1] at h4; cases h4
        refine ⟨m2, Nat.lt_succ_self _, ?_⟩
        rw [hfr]
        (repeat apply Exists.intro)
        exact ⟨rfl, g5, off5, c5, rqF E back (rowN (nN E back) E.length v) (D, q), HC4.out.over hc5, ⟨hO, by omega⟩, hMW.cons hDW hDw, fun D' hD' => by
          rcases List.mem_cons.1 hD' with rfl | h
          · have := hlb.out; omega
          · exact HDL.out D' h⟩
      case stop => exact fun _ _ _ _ _ _ _ _ _ _ h => h.elim
end Go.Proofs.Ytiljgkaffgclgaa

/- Contract: to which nodes there is a way, where that is not told. -/
namespace Go.Proofs.Ytiljgkaffgclgaa
open Go Go.RowKit
attribute [local go_sem] Oper.semAt_some
set_option maxRecDepth 60000 in
set_option maxHeartbeats 4000000 in
theorem ptReachNo (N s : Int) (A : Option Addr) (n c : Nat) (E : List Edg) (back : Bool) (w : World) (h : Rd w A 3 n (esCells E)) (hn : n ≤ 1000000) (hr : rightF N E ≠ 0 ∨ s < 0 ∨ N ≤ s) :
    Calls Try.prog 40 #[.agg #[.int .i64 N, .slice A n c], .int .i64 s, .bool back] w fun e w' => e = .returned (.slice none 0 0) ∧ Grows w w' := by
  have hl := h.elen
  by_cases h0 : rightF N E = 0
  · have h1 : s < 0 ∨ N ≤ s := hr.resolve_left (fun e => e h0)
    obtain ⟨r1, r2, _⟩ := right_in h0
    obtain ⟨N', rfl⟩ : ∃ k : Nat, N = (k : Int) := ⟨N.toNat, by omega⟩
    have C1 := hide (fun (W : World) (hg : Grows w W) => adjNew N' A n c E W (h.grows hg) hn h0)
    have CN := hide (fun (v : Value) (W : World) => gNode N' s v W)
    have HNB := hide (show nodeB N' s = false from decide_eq_false (by omega))
    rw [HNB.out] at CN
    clear h hr h0 h1 r1 r2 hl HNB
    refine calls_of_marks Try.func40 rfl ?_
    simp only [Try.ntmps40, List.size_toArray, List.length_cons, List.length_nil, Nat.reduceAdd, Nat.reduceSub, Array.replicate_succ, Array.replicate_zero, List.push_toArray, List.append_toArray, List.nil_append, List.cons_append]
    go_wp2_with (first | (go_at_call 90; refine (C1.out _ (by repeat (first | exact Grows.refl _ | refine Grows.now ?_ _ | refine Grows.new ?_ _ | refine Grows.drewN ?_ _ | refine Grows.drew ?_ | assumption | (refine Grows.set ?_ (by first | omega | (simp; done) | (simp; omega)) _)))).mono ?_; rintro e w' ⟨ba, rfl, ha, hg⟩; obtain ⟨x, rfl⟩ := hg.later; clear ha hg) | (go_at_call 65; refine (CN.out _ _).mono ?_; rintro e w' ⟨rfl, hg⟩; obtain ⟨x2, rfl⟩ := hg.later; clear hg))
    have hgw : Grows w x2.now := (by repeat (first | exact Grows.refl _ | refine Grows.now ?_ _ | refine Grows.new ?_ _ | refine Grows.drewN ?_ _ | refine Grows.drew ?_ | assumption | (refine Grows.set ?_ (by first | omega | (simp; done) | (simp; omega)) _)))
    exact marks_end [] rfl (Marks.nil _) (fun W' htt => ⟨.slice none 0 0, by simp (maxDischargeDepth := 6) [results, Try.results40, go_sem], rfl, htt.later hgw (fun k hk => by cases hk)⟩)
  · have C1 := hide (fun (W : World) (hg : Grows w W) => adjNewNo N A n c E W (h.grows hg) hn h0)
    clear h hr h0 hl
    refine calls_of_marks Try.func40 rfl ?_
    simp only [Try.ntmps40, List.size_toArray, List.length_cons, List.length_nil, Nat.reduceAdd, Nat.reduceSub, Array.replicate_succ, Array.replicate_zero, List.push_toArray, List.append_toArray, List.nil_append, List.cons_append]
    go_wp2_with (go_at_call 90; refine (C1.out _ (by repeat (first | exact Grows.refl _ | refine Grows.now ?_ _ | refine Grows.new ?_ _ | refine Grows.drewN ?_ _ | refine Grows.drew ?_ | assumption | (refine Grows.set ?_ (by first | omega | (simp; done) | (simp; omega)) _)))).mono ?_; rintro e w' ⟨rfl, hg⟩; obtain ⟨x, rfl⟩ := hg.later; clear hg)
    have hgw : Grows w x.now := (by repeat (first | exact Grows.refl _ | refine Grows.now ?_ _ | refine Grows.new ?_ _ | refine Grows.drewN ?_ _ | refine Grows.drew ?_ | assumption | (refine Grows.set ?_ (by first | omega | (simp; done) | (simp; omega)) _)))
    exact marks_end [] rfl (Marks.nil _) (fun W' htt => ⟨.slice none 0 0, by simp (maxDischargeDepth := 6) [results, Try.results40, go_sem], rfl, htt.later hgw (fun k hk => by cases hk)⟩)
end Go.Proofs.Ytiljgkaffgclgaa

/- Regions that draw their order: an operation that reads two values which hang on the world, and leaves a value that is known. -/
namespace Go.Proofs.Ytiljgkaffgclgaa
open Go Go.RowKit
section
variable {P : Program} {w0 : World} {ops : Array Oper} {Q : Act → Env → Prop} {a : Act} {G : Env} {o : Oper} {rest : List Oper}
/-- It reads the slots t1 and t2, whose values are known by properties, and else only what is known. -/
def depB2 (ops : Array Oper) (o : Oper) (G : Env) (t1 t2 : Tmp) : Bool :=
  ((o.looksAt ops).all fun t => t == t1 || t == t2 || (G t).isNone) && (o.looksAt ops).contains t1 && (o.looksAt ops).contains t2 && (match o.dst with | some d => (G d).isNone | none => true) && (match o.op with | .select .. => false | _ => true) &&
    (match o.guard with | some (g, _) => (match (ops[g]?).bind (·.dst) with | some t => t != t1 && t != t2 | none => true) | none => true)
theorem dep_spec2 {t1 t2 : Tmp} (h : depB2 ops o G t1 t2 = true) : guardFree ops o G ∧ dstFree o G ∧ (∀ t ∈ o.looksAt ops, t = t1 ∨ t = t2 ∨ G t = none) ∧ t1 ∈ o.looksAt ops ∧ t2 ∈ o.looksAt ops ∧ ∀ cs b, o.op ≠ .select cs b := by
  unfold depB2 at h
  simp only [Bool.and_eq_true, List.all_eq_true, Bool.or_eq_true, Option.isNone_iff_eq_none, beq_iff_eq, List.contains_iff_mem] at h
  obtain ⟨⟨⟨⟨⟨h1, h2⟩, h2'⟩, h3⟩, h4⟩, h5⟩ := h
  refine ⟨fun g b t e1 e2 => ?_, fun d e => ?_, fun t ht => (by rcases h1 t ht with (e | e) | e; exact .inl e; exact .inr (.inl e); exact .inr (.inr e)), h2, h2', fun cs b e => ?_⟩
  · rcases h1 t (mem_looks_guard e1 e2) with (e | e) | e
    · rw [e1] at h5
      simp only [e2] at h5
      subst e
      simp at h5
    · rw [e1] at h5
      simp only [e2] at h5
      subst e
      simp at h5
    · exact e
  · rw [e] at h3; simpa using h3
  · rw [e] at h4; simp at h4
theorem dep_exec2 {a' : Act} {t1 t2 : Tmp} {v1 v2 : Value} (h5 : ∀ cs b, o.op ≠ .select cs b) (ht1 : t1 < a.tmps.size) (ht2 : t2 < a.tmps.size) (hne : t1 ≠ t2) (hv1 : a'.tmps[t1]? = some v1) (hv2 : a'.tmps[t2]? = some v2) (h : ∀ t ∈ o.looksAt ops, t = t1 ∨ t = t2 ∨ a'.tmps[t]? = a.tmps[t]?) :
    execOp a'.eval o = execOp ((a.put (some t1) v1).put (some t2) v2).eval o := by
  refine execOp_congr o h5 fun x hx => ?_
  cases x with
  | tmp t =>
    have ht : t ∈ o.looksAt ops := List.mem_append_left _ (List.mem_filterMap.2 ⟨.tmp t, by simpa using hx, rfl⟩)
    have h' : a'.tmps[t]? = ((a.put (some t1) v1).put (some t2) v2).tmps[t]? := by
      by_cases e2 : t = t2
      · subst e2
        rw [hv2]
        simp [Act.put, ht2]
      · by_cases e : t = t1
        · subst e
          rw [hv1]
          show some v1 = (((a.tmps.setIfInBounds t v1).setIfInBounds t2 v2))[t]?
          rw [Array.getElem?_setIfInBounds_ne (Ne.symm e2)]
          simp [ht1]
        · rw [((h t ht).resolve_left e).resolve_left e2]
          simp [Act.put, Array.getElem?_setIfInBounds_ne (Ne.symm e), Array.getElem?_setIfInBounds_ne (Ne.symm e2)]
    simp only [Act.eval, Array.getD_eq_getD_getElem?, h']
  | _ => rfl
theorem gLex_depV2 {t1 t2 : Tmp} {p1 p2 : Pr} (hw : Region.wanted o (yielded ops a.tmps) = true) (hp : depB2 ops o G t1 t2 = true) (h1 : G t1 = some p1) (h2 : G t2 = some p2) (ht1 : t1 < a.tmps.size) (ht2 : t2 < a.tmps.size) (hne : t1 ≠ t2) (v : Value)
    (hr : ∀ (x : Later w0) (u1 u2 : Value), p1 u1 x.now → p2 u2 x.now → runsTo P (fun u' w' => Grows x.now w' ∧ u' = v) ((execOp ((a.put (some t1) u1).put (some t2) u2).eval o).run P x.now))
    (h : gLex P ops w0 Q rest (a.put o.dst v) G) : gLex P ops w0 Q (o :: rest) a G := by
  obtain ⟨k1, k2, k3, k4, k4', k5⟩ := dep_spec2 hp
  refine ⟨.inl v, ⟨k1, k2, .inl ⟨hw, trivial, trivial, fun w hw a' ha' => ?_⟩⟩, ?_⟩
  · have hv1 := ha' t1 k4
    have hv2 := ha' t2 k4'
    unfold relAt at hv1 hv2
    rw [h1] at hv1
    rw [h2] at hv2
    obtain ⟨u1, hv1, hp1⟩ := hv1
    obtain ⟨u2, hv2, hp2⟩ := hv2
    rw [dep_exec2 k5 ht1 ht2 hne hv1 hv2 (fun t ht => (k3 t ht).imp id (fun e => e.imp id (fun e => by
      have h6 := ha' t ht
      unfold relAt at h6
      rw [e] at h6
      exact h6)))]
    exact hr ⟨w, hw⟩ u1 u2 hp1 hp2
  · have : putG G o.dst (.inl v) = G := by cases o.dst <;> rfl
    rw [this]
    exact h
theorem gLex_propG {t : Tmp} (hw : Region.wanted o (yielded ops a.tmps) = true) (hp : plainB ops o G = true) (hd : o.dst = some t) (hlt : t < a.tmps.size)
    (p : Pr) (hl : Lasts p) (hr : ∀ x : Later w0, runsTo P (fun u w' => Grows x.now w' ∧ p u w') ((execOp a.eval o).run P x.now))
    (h : gLex P ops w0 Q rest a (G.upd t p)) : gLex P ops w0 Q (o :: rest) a G := by
  obtain ⟨h1, h2, h3, h4⟩ := plain_spec hp
  refine ⟨.inr p, ⟨h1, h2, .inl ⟨hw, hl, ⟨t, hd, hlt⟩, fun w hw a' ha' => ?_⟩⟩, ?_⟩
  · rw [exec_same h4 h3 ha']
    exact hr ⟨w, hw⟩
  · rw [hd]
    exact h
/-- What is left of the walk at one world. -/
def AtB (Q : Exit → Act → World → Prop) (a : Act) (G : Env) (w' : World) : Prop := ∀ a', Conc G a a' w' → Q .normal a' w'
theorem AtB.pop {Q : Exit → Act → World → Prop} {w' : World} {t : Tmp} {p : Pr} (hG : G t = none) (ht : t < a.tmps.size) (h : ∀ v, p v w' → AtB Q (a.put (some t) v) G w') : AtB Q a (G.upd t p) w' := fun a' hc => by
  obtain ⟨v, hv⟩ := conc_upd hc ht
  rcases hv with ⟨hp, hc2⟩ | hne
  · exact h v hp a' hc2
  · exact absurd hG hne
theorem AtB.base {Q : Exit → Act → World → Prop} {w' : World} (h : Q .normal a w') : AtB Q a Env.no w' := fun a' hc => by rw [conc_no hc]; exact h
theorem gLex_endB {Q : Exit → Act → World → Prop} (h : ∀ x : Later w0, AtB Q a G x.now) : gLex P ops w0 (fun a G => ∀ w', Grows w0 w' → ∀ a', Conc G a a' w' → Q .normal a' w') [] a G := fun w' hw a' hc => h ⟨w', hw⟩ a' hc
end
/-- A row of truths, wherever it lies. -/
def BRow (n : Nat) (L : List Bool) : Pr := fun u w => ∃ g, u = .slice (some ⟨g, 0, none⟩) n n ∧ Arr w g 4 (L.map .bool)
theorem BRow.lasts (n : Nat) (L : List Bool) : Lasts (BRow n L) := fun _ _ _ hg ⟨g, e, h⟩ => ⟨g, e, h.grow hg⟩
end Go.Proofs.Ytiljgkaffgclgaa

/- What an argument that can be read is: graphs, rows of rows. -/
namespace Go.Proofs.Ytiljgkaffgclgaa
open Go Go.ChangeShapes Go.WideShapes Go.ChangeAt Go.RowKit

theorem flat_at {F : Nat → List Value} {size : Nat} (hs : 0 < size) : ∀ n, (∀ i, i < n → (F i).length = size) → ((List.range n).flatMap F).length = n * size ∧ ∀ i j, i < n → j < size → ((List.range n).flatMap F)[i * size + j]? = (F i)[j]?
  | 0, _ => ⟨by simp, fun i j h => by omega⟩
  | n + 1, h => by
    obtain ⟨ih1, ih2⟩ := flat_at hs n fun i hi => h i (by omega)
    have e : (List.range (n + 1)).flatMap F = (List.range n).flatMap F ++ F n := by rw [List.range_succ, List.flatMap_append]; simp
    rw [e]
    refine ⟨by rw [List.length_append, ih1, h n (by omega), Nat.succ_mul], fun i j hi hj => ?_⟩
    by_cases hin : i < n
    · have : i * size + j < n * size := by
        have := Nat.mul_le_mul_right size (show i + 1 ≤ n by omega)
        rw [Nat.succ_mul] at this
        omega
      rw [List.getElem?_append_left (by omega)]
      exact ih2 i j hin hj
    · obtain rfl : i = n := by omega
      rw [List.getElem?_append_right (by omega), ih1, show i * size + j - i * size = j by omega]

theorem add_plain (b off i : Nat) : (⟨b, off, none⟩ : Addr).add i = ⟨b, off + i, none⟩ := by
  unfold Addr.add
  split
  · rename_i h0; rw [h0]; rfl
  · rfl

section
variable {H : Type} {enc : TypeId × Value → H} {P : Program} {w : World} {base b0 : Nat} {held : Bool} {r : Reach} {t : TypeId} {v : Value} {d : DataW H} {p : List MemPlace}

/-- A slice of whatever: its elements' cells, and that each can be read. -/
theorem open_elems {e : TypeId} {sz fuel : Nat} {x : DataW H × List MemPlace} {cs : List Value} (ht : P.underlying t = some (.slice e)) (hc : P.cellsOf e = sz) (hsz : 0 < sz) (h : DataW.trod enc P w base (fun _ => true) held fuel t cs = some x) :
    ∃ (A : Option Addr) (n c : Nat) (F : Nat → List Value), cs = [.slice A n c] ∧ n ≤ c ∧ c ≤ maxLen ∧ Rd w A sz n ((List.range n).flatMap F) ∧ ∀ i, i < n → (F i).length = sz ∧ ∃ m y, DataW.trod enc P w base (fun _ => true) held m e (F i) = some y := by
  rcases Deep.open_slice ht h with ⟨rfl, _⟩ | ⟨a, n, c, m, k, D, Pl, rfl, _, hl, hm, hmm, _, hx⟩
  · exact ⟨none, 0, 0, fun _ => [], rfl, Nat.le_refl _, by unfold maxLen; omega, ⟨by simp, fun h => by omega⟩, fun i hi => by omega⟩
  · simp only [if_true] at hmm
    subst hmm
    rw [hc] at hx
    obtain ⟨F, hF⟩ := Deep.choose_lt (α := List Value) (p := fun i cs' => w.cells? base (a.add (i * sz)) sz = some cs' ∧ DataW.trod enc P w base (fun _ => true) held k e cs' = some (D i, Pl i)) hx
    have hlen : ∀ i, i < m → (F i).length = sz := fun i hi => (World.cells?_some (hF i hi).1).2.1
    refine ⟨_, n, m, F, rfl, hl, hm, ?_, fun i hi => ⟨hlen i (by omega), k, _, (hF i (by omega)).2⟩⟩
    obtain ⟨fl1, fl2⟩ := flat_at hsz n fun i hi => hlen i (by omega)
    refine ⟨fl1, fun hn _ => ?_⟩
    obtain ⟨b, off, spot⟩ := a
    have hcell : ∀ i j u, i < n → (F i)[j]? = some u → w.cell? (((⟨b, off, spot⟩ : Addr).add (i * sz)).add j) = some u := fun i j u hi hu => by
      have hj : j < sz := by
        rcases Nat.lt_or_ge j sz with h | h
        · exact h
        · rw [List.getElem?_eq_none (by rw [hlen i (by omega)]; exact h)] at hu; cases hu
      have := (World.cells?_some (hF i (by omega)).1).2.2 j hj
      rw [hu] at this
      exact this
    have hs : spot = none := by
      have h0 : ∃ u, (F 0)[0]? = some u := ⟨_, List.getElem?_eq_getElem (by rw [hlen 0 (by omega)]; exact hsz)⟩
      obtain ⟨u, hu⟩ := h0
      have := spot_none (hcell 0 0 u hn hu)
      simpa [Addr.add] using this
    subst hs
    refine ⟨b, off, rfl, fun q u hu => ?_⟩
    have hq : q < n * sz := by
      rcases Nat.lt_or_ge q (n * sz) with h | h
      · exact h
      · rw [List.getElem?_eq_none (by rw [fl1]; exact h)] at hu; cases hu
    have e : q = q / sz * sz + q % sz := (Nat.div_add_mod' q sz).symm
    have hi : q / sz < n := (Nat.div_lt_iff_lt_mul hsz).2 hq
    have hj : q % sz < sz := Nat.mod_lt _ hsz
    rw [e, fl2 _ _ hi hj] at hu
    have := hcell _ _ u hi hu
    rw [add_plain, add_plain, Nat.add_assoc, ← e] at this
    exact this

/-- All that is known of an edge that came in. -/
def edgOk (e : Edg) : Prop := I64 e.f ∧ I64 e.t ∧ U64 e.w

theorem open_edges {te : TypeId} {f0 f1 f2 : Field} {fuel : Nat} {x : DataW H × List MemPlace} {cs : List Value} (ht : P.underlying t = some (.slice te)) (hs : P.underlying te = some (.struct #[f0, f1, f2]))
    (h0 : P.underlying f0.type = some (.int .i64)) (h1 : P.underlying f1.type = some (.int .i64)) (h2 : P.underlying f2.type = some (.int .u64)) (ho : f0.offset = 0 ∧ f1.offset = 1 ∧ f2.offset = 2)
    (hcs : P.cellsOf f0.type = 1 ∧ P.cellsOf f1.type = 1 ∧ P.cellsOf f2.type = 1) (hc : P.cellsOf te = 3) (h : DataW.trod enc P w base (fun _ => true) held fuel t cs = some x) :
    ∃ (A : Option Addr) (n c : Nat) (E : List Edg), cs = [.slice A n c] ∧ n ≤ c ∧ Rd w A 3 n (esCells E) ∧ ∀ k, k < n → edgOk (ge E k) := by
  obtain ⟨A, n, c, F, rfl, hl, _, hr, hF⟩ := open_elems ht hc (by omega) h
  have hE : ∀ i, i < n → ∃ e : Edg, F i = eCells e ∧ edgOk e := fun i hi => by
    obtain ⟨hlen, m, y, hy⟩ := hF i hi
    obtain ⟨y0, y1, y2, k, _, _, e0, e1, e2⟩ := Deep.trod_struct3 hs hy
    rw [ho.1, hcs.1] at e0
    rw [ho.2.1, hcs.2.1] at e1
    rw [ho.2.2, hcs.2.2] at e2
    obtain ⟨c0, c1, c2, hFi⟩ : ∃ c0 c1 c2, F i = [c0, c1, c2] := by
      match F i, hlen with
      | [c0, c1, c2], _ => exact ⟨c0, c1, c2, rfl⟩
    rw [hFi] at e0 e1 e2 ⊢
    obtain ⟨a, ha, _, wa⟩ := DataW.trod_int h0 e0
    obtain ⟨b, hb, _, wb⟩ := DataW.trod_int h1 e1
    obtain ⟨g, hg, _, wg⟩ := DataW.trod_int h2 e2
    simp at ha hb hg
    subst ha hb hg
    exact ⟨⟨a, b, g⟩, rfl, wf_i64 wa, wf_i64 wb, wf_u64 wg⟩
  obtain ⟨f, hf⟩ := Deep.choose_lt (α := Option Edg) (p := fun i o => ∃ e, o = some e ∧ F i = eCells e ∧ edgOk e) (fun i hi => by obtain ⟨e, h⟩ := hE i hi; exact ⟨some e, e, rfl, h⟩)
  let f' : Nat → Edg := fun i => (f i).getD ⟨0, 0, 0⟩
  have hf' : ∀ i, i < n → F i = eCells (f' i) ∧ edgOk (f' i) := fun i hi => by
    obtain ⟨e, h1, h2⟩ := hf i hi
    simp only [f', h1, Option.getD_some]
    exact h2
  refine ⟨A, n, c, (List.range n).map f', rfl, hl, ?_, fun k hk => ?_⟩
  · have e : esCells ((List.range n).map f') = (List.range n).flatMap F := by
      unfold esCells
      rw [List.flatMap_map, List.flatMap_def, List.flatMap_def]
      exact congrArg List.flatten (List.map_congr_left fun i hi => ((hf' i (List.mem_range.1 hi)).1).symm)
    rw [e]
    exact hr
  · have : ge ((List.range n).map f') k = f' k := by simp [ge, hk]
    rw [this]
    exact (hf' k hk).2

theorem open_graph {f0 f1 g0 g1 g2 : Field} {te : TypeId} (ht : P.underlying t = some (.struct #[f0, f1])) (h0 : P.underlying f0.type = some (.int .i64)) (h1 : P.underlying f1.type = some (.slice te)) (hs : P.underlying te = some (.struct #[g0, g1, g2]))
    (k0 : P.underlying g0.type = some (.int .i64)) (k1 : P.underlying g1.type = some (.int .i64)) (k2 : P.underlying g2.type = some (.int .u64)) (ho : g0.offset = 0 ∧ g1.offset = 1 ∧ g2.offset = 2)
    (hcs : P.cellsOf g0.type = 1 ∧ P.cellsOf g1.type = 1 ∧ P.cellsOf g2.type = 1) (hc : P.cellsOf te = 3) (hone : Deep.oneCellFields P #[f0, f1] = true) (hC : P.cellsOf t = 2)
    (hv : Value.okWide P w r b0 t v) (h : DataW.Trod enc P w base (fun _ => true) held t v d p) :
    ∃ (N : Int) (A : Option Addr) (n c : Nat) (E : List Edg), v = .agg #[.int .i64 N, .slice A n c] ∧ I64 N ∧ n ≤ c ∧ Rd w A 3 n (esCells E) ∧ ∀ k, k < n → edgOk (ge E k) := by
  obtain ⟨c0, c1, y0, y1, m, rfl, rfl, rfl, e0, e1⟩ := Joins.open_agg2 ht hone hC hv h
  obtain ⟨x, hx, _, wx⟩ := DataW.trod_int h0 e0
  simp at hx
  subst hx
  obtain ⟨A, n, c, E, he, hl, hr, hE⟩ := open_edges h1 hs k0 k1 k2 ho hcs hc e1
  simp at he
  subst he
  exact ⟨x, A, n, c, E, rfl, wf_i64 wx, hl, hr, hE⟩

/-- All that is known of a row that came in. -/
def rowIn (w : World) (r : Row) : Prop := rowOk w r ∧ (∀ z ∈ r.xs, I64 z) ∧ (r.A = none → r.n = 0 ∧ r.c = 0)

theorem open_rows {e i : TypeId} (ht : P.underlying t = some (.slice e)) (he : P.underlying e = some (.slice i)) (hi : P.underlying i = some (.int .i64)) (hce : P.cellsOf e = 1) (hci : P.cellsOf i = 1)
    (hv : Value.okWide P w r b0 t v) (h : DataW.Trod enc P w base (fun _ => true) held t v d p) :
    ∃ (A : Option Addr) (n c : Nat) (R : List Row), v = .slice A n c ∧ n ≤ c ∧ Rd w A 1 n (R.map rowVal) ∧ ∀ k, k < n → rowIn w (gr R k) := by
  obtain ⟨A, n, c, rfl⟩ := okWide_slice ht hv
  obtain ⟨fuel, hf⟩ := h
  obtain ⟨A', n', c', F, hcs, hl, _, hr, hF⟩ := open_elems ht hce (by omega) hf
  simp [Value.cells] at hcs
  obtain ⟨rfl, rfl, rfl⟩ := hcs
  have hE : ∀ k, k < n → ∃ r : Row, F k = [rowVal r] ∧ rowIn w r := fun k hk => by
    obtain ⟨hlen, m, y, hy⟩ := hF k hk
    rcases open_ints he hi hci hy with ⟨hcs, _⟩ | ⟨x, l, c', zs, hcs, _, hl, hm, hz, _, hcell, hwz⟩
    · exact ⟨⟨none, 0, 0, []⟩, hcs, ⟨⟨rfl, fun h => absurd h (by simp)⟩, Nat.le_refl _⟩, fun z hz => (by cases hz), fun _ => ⟨rfl, rfl⟩⟩
    · obtain ⟨b, off, spot⟩ := x
      simp only [if_true] at hz
      refine ⟨⟨some ⟨b, off, spot⟩, l, c', zs.take l⟩, hcs, ⟨⟨by simp; omega, fun h1 _ => ?_⟩, hl⟩, fun z hz => wf_i64 (hwz z (List.mem_of_mem_take hz)), fun h => (by cases h)⟩
      dsimp only at h1
      have h0 := hcell 0 (by omega)
      have hs : spot = none := by simpa [Addr.add] using spot_none h0
      subst hs
      refine ⟨b, off, rfl, fun j u hu => ?_⟩
      have hj : j < l := by
        rcases Nat.lt_or_ge j l with h | h
        · exact h
        · rw [List.getElem?_eq_none (by simp; omega)] at hu; cases hu
      have hcj := hcell j (by omega)
      have hjz : j < zs.length := by omega
      have hu' : u = .int .i64 (zs.getD j 0) := by
        simp [hj, List.getElem?_eq_getElem hjz] at hu
        simp [← hu, List.getElem?_eq_getElem hjz]
      rw [hu']
      rw [add_plain] at hcj
      exact hcj
  obtain ⟨f, hf⟩ := Deep.choose_lt (α := Option Row) (p := fun i o => ∃ e, o = some e ∧ F i = [rowVal e] ∧ rowIn w e) (fun i hi => by obtain ⟨e, h⟩ := hE i hi; exact ⟨some e, e, rfl, h⟩)
  let f' : Nat → Row := fun i => (f i).getD ⟨none, 0, 0, []⟩
  have hf' : ∀ i, i < n → F i = [rowVal (f' i)] ∧ rowIn w (f' i) := fun i hi => by
    obtain ⟨e, h1, h2⟩ := hf i hi
    simp only [f', h1, Option.getD_some]
    exact h2
  refine ⟨A, n, c, (List.range n).map f', rfl, hl, ?_, fun k hk => ?_⟩
  · have e : ((List.range n).map f').map rowVal = (List.range n).flatMap F := by
      rw [List.map_map, List.flatMap_def]
      have : (List.range n).map F = (List.range n).map fun i => [rowVal (f' i)] := List.map_congr_left fun i hi => (hf' i (List.mem_range.1 hi)).1
      rw [this, ← List.flatMap_def]
      exact List.map_eq_flatMap
    rw [e]
    exact hr
  · have : gr ((List.range n).map f') k = f' k := by simp [gr, hk]
    rw [this]
    exact (hf' k hk).2
theorem open_numsC {e : TypeId} {k : IntKind} (ht : P.underlying t = some (.slice e)) (he : P.underlying e = some (.int k)) (hc : P.cellsOf e = 1)
    (hv : Value.okWide P w r b0 t v) (h : DataW.Trod enc P w base (fun _ => true) held t v d p) :
    ∃ (A : Option Addr) (n c : Nat) (zs : List Int), v = .slice A n c ∧ n ≤ c ∧ Rd w A 1 n (zs.map (.int k)) ∧ ∀ z ∈ zs, (Lit.int k z).wf = true := by
  obtain ⟨A, n, c, zs, rfl, h1, h2⟩ := open_nums ht he hc hv h
  obtain ⟨fuel, hf⟩ := h
  rcases open_ints ht he hc hf with ⟨hcs, _⟩ | ⟨x, l, c', zs', hcs, _, hl, _⟩
  · simp [Value.cells] at hcs
    obtain ⟨rfl, rfl, rfl⟩ := hcs
    exact ⟨none, 0, 0, zs, rfl, Nat.le_refl _, h1, h2⟩
  · simp [Value.cells] at hcs
    obtain ⟨rfl, rfl, rfl⟩ := hcs
    exact ⟨_, n, c, zs, rfl, hl, h1, h2⟩
theorem open_numsN {e : TypeId} {k : IntKind} (ht : P.underlying t = some (.slice e)) (he : P.underlying e = some (.int k)) (hc : P.cellsOf e = 1)
    (hv : Value.okWide P w r b0 t v) (h : DataW.Trod enc P w base (fun _ => true) held t v d p) :
    ∃ (A : Option Addr) (n c : Nat) (zs : List Int), v = .slice A n c ∧ (n ≤ c ∧ (A = none → n = 0 ∧ c = 0)) ∧ Rd w A 1 n (zs.map (.int k)) ∧ ∀ z ∈ zs, (Lit.int k z).wf = true := by
  obtain ⟨A, n, c, zs, rfl, h1, h2⟩ := open_nums ht he hc hv h
  obtain ⟨fuel, hf⟩ := h
  rcases open_ints ht he hc hf with ⟨hcs, _⟩ | ⟨x, l, c', zs', hcs, _, hl, _⟩
  · simp [Value.cells] at hcs
    obtain ⟨rfl, rfl, rfl⟩ := hcs
    exact ⟨none, 0, 0, zs, rfl, ⟨Nat.le_refl _, fun _ => ⟨rfl, rfl⟩⟩, h1, h2⟩
  · simp [Value.cells] at hcs
    obtain ⟨rfl, rfl, rfl⟩ := hcs
    exact ⟨_, n, c, zs, rfl, ⟨hl, fun h => by cases h⟩, h1, h2⟩
end

end Go.Proofs.Ytiljgkaffgclgaa
