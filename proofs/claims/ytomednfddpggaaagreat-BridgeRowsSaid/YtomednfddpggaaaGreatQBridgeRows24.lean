/- Contracts: where a number first is, and the least one (of slices). -/
import Derived.Test.YtomednfddpggaaaGreatQBridgeRows22
import Derived.Test.YtomednfddpggaaaGreatQBridgeRows01
import Derived.Test.YtomednfddpggaaaGreatQBridgeRows23
import Derived.Test.YtomednfddpggaaaGreatQBridgeRows08
import Derived.Test.YtomednfddpggaaaGreatQBridgeRows04
/- Contracts: where a number first is, and the least one (of slices). -/
namespace Go.Proofs.YtomednfddpggaaaGreat
open Go Go.RowKit
attribute [local go_sem] Oper.semAt_some
theorem Rd.nats {w : World} {A : Option Addr} {n : Nat} {xs : List Nat} (h : Rd w A 1 n (nv xs)) (hn : 0 < n) : ∃ b off, A = some ⟨b, off, none⟩ ∧ ∀ j, j < n → Holds w ⟨b, off + j, none⟩ (.int .i64 (gn xs j : Int)) := by
  have hl : xs.length = n := by have := h.len; simpa [nv] using this
  obtain ⟨b, off, rfl, hc⟩ := h.at_ hn
  exact ⟨b, off, rfl, fun j hj => ⟨hc j _ (nv_at (by omega))⟩⟩
set_option maxRecDepth 20000 in
set_option maxHeartbeats 2000000 in
theorem slIndexE (A : Option Addr) (c : Nat) (l : List Nat) (x : Nat) (w : World) (h : Rd w A 1 l.length (nv l)) (hl : l.length ≤ 1000000) (hx : x ∈ l) : Calls Tryz.prog 151 #[.slice A l.length c, .int .i64 (x : Int)] w fun e w' => e = .returned (.int .i64 (ixOf l x : Int)) ∧ w = w' := by
  have hi := ixOf_lt hx
  have hat : gn l (ixOf l x) = x := by have := ixOf_at hx; simp [gn, hi, this]
  have HF := hide (fun j (hj : j < ixOf l x) => ixOf_pre hj)
  generalize ixOf l x = i at *
  obtain ⟨b, off, rfl, hc⟩ := h.nats (by omega)
  have HC := hide hc
  clear h hc hx
  go_enter Tryz.func151, Tryz.ntmps151
  go_wp2_with fail
  go_loopw [8] (fun s wr => ∃ k : Nat, k ≤ i ∧ s = .int .i64 (k : Int) ∧ wr = w) (fun s _ => l.length - (Go.RowKit.intOf s).toNat)
  case atStart => exact ⟨0, by omega, by go_num, rfl⟩
  case round =>
    obtain ⟨k, hk, rfl, rfl⟩ := hrel
    have hkl : k < l.length := by omega
    have ck := HC.out k hkl
    by_cases hlt : k < i
    · have hne := HF.out k hlt
      have b1 : ((x : Int) == (gn l k : Int)) = false := beq_eq_false_iff_ne.2 (by omega)
      clear hat
      generalize gn l k = gk at *
      go_wp2_with fail
      go_roundw
      case measure => simp [Go.RowKit.intOf]; omega
      case rel => exact ⟨k + 1, by omega, by go_num, by first | rfl | trivial⟩
    · obtain rfl : k = i := by omega
      rw [hat] at ck
      clear hat
      go_wp2_with fail
      go_ret
      exact ⟨rfl, by first | rfl | trivial⟩
set_option maxRecDepth 20000 in
set_option maxHeartbeats 2000000 in
theorem slMin (A : Option Addr) (c : Nat) (l : List Nat) (w : World) (h : Rd w A 1 l.length (nv l)) (hl : l.length ≤ 1000000) (hn : 0 < l.length) : Calls Tryz.prog 152 #[.slice A l.length c] w fun e w' => e = .returned (.int .i64 (minT l l.length : Int)) ∧ w = w' := by
  obtain ⟨b, off, rfl, hc⟩ := h.nats hn
  have HC := hide hc
  have h1 : Hid (minT l 1 = gn l 0) := Nat.min_self _
  have c0 := hc 0 hn
  clear h hc
  go_enter Tryz.func152, Tryz.ntmps152
  go_wp2_with fail
  go_loopw [3, 4] (fun m s wr => ∃ k : Nat, 1 ≤ k ∧ k ≤ l.length ∧ s = .int .i64 (k : Int) ∧ m = .int .i64 (minT l k : Int) ∧ wr = w) (fun _ s _ => l.length - (Go.RowKit.intOf s).toNat)
  case atStart => exact ⟨1, by omega, by omega, by go_num, by rw [h1.out], rfl⟩
  case round =>
    obtain ⟨k, hk1, hk, rfl, rfl, rfl⟩ := hrel
    by_cases hlt : k < l.length
    · have ck := HC.out k hlt
      have HS := hide (show minT l (k + 1) = min (minT l k) (gn l k) from rfl)
      generalize minT l k = mk at *
      generalize gn l k = gk at *
      go_wp2_with fail
      go_roundw
      case measure => simp [Go.RowKit.intOf]; omega
      case rel => exact ⟨k + 1, by omega, by omega, by go_num, (by rw [HS.out]; congr 1; omega), by first | rfl | trivial⟩
    · obtain rfl : k = l.length := by omega
      go_wp2_with fail
      go_ret
      exact ⟨rfl, by first | rfl | trivial⟩
end Go.Proofs.YtomednfddpggaaaGreat

/- Tarjan's walk: what is known between two edges of a node. -/
namespace Go.Proofs.YtomednfddpggaaaGreat
open Go Go.RowKit
def st1 (w : World) (i : Nat) (p : Addr) (v : Value) (D : Nat → Bool) : World := if D i = true then w.setCell p v else w
section
variable {w : World} {i : Nat} {p : Addr} {v : Value} {D : Nat → Bool}
theorem st1_no {k : Nat} (h : i ≠ k) : st1 w i p v (fun j => if j = k then true else D j) = st1 w i p v D := by
  unfold st1
  simp only [if_neg h]
theorem st1_do (hD : D i = false) : st1 w i p v (fun j => if j = i then true else D j) = (st1 w i p v D).setCell p v := by
  unfold st1
  simp [hD]
theorem st1_start {n : Nat} (h : i < n) : st1 w i p v (fun j => decide (n ≤ j)) = w := by
  unfold st1
  rw [if_neg (by simp; omega)]
theorem st1_off (hD : D i = false) : st1 w i p v D = w := by unfold st1; rw [hD]; simp
theorem st1_arr {g : Nat} {t : TypeId} {cs : List Value} (h : Arr w g t cs) (h1 : p.block ≠ g) : Arr (st1 w i p v D) g t cs := by
  unfold st1
  split
  · exact h.other h1 _
  · exact h
theorem st1_len {g k : Nat} {t : TypeId} {cs : List Value} (h : Arr w g t cs) (hp : p = ⟨g, k, none⟩) : ∃ cs', Arr (st1 w i p v D) g t cs' ∧ cs'.length = cs.length := by
  subst hp
  unfold st1
  split
  · exact ⟨_, h.set k v, by simp⟩
  · exact ⟨cs, h, rfl⟩
end
structure TjC (b : TjB) (A1 : Option Addr) (W3 : World) (A : Option Addr) (c : Nat) (s : TjS) (M : Nat → Prop) (W : World) : Prop where
  is : TjAt W b A c s
  tch : Touch (TjOwn b A1) W3 W
  ms : ∀ k, M k → W3.heap.size ≤ k ∧ k < W.heap.size ∧ ¬ TjOwn b A k
  own : ∀ k, TjOwn b A k → TjOwn b A1 k ∨ W3.heap.size ≤ k
section
variable {b : TjB} {A1 A : Option Addr} {c : Nat} {s : TjS} {M : Nat → Prop} {W3 W W' : World}
theorem TjC.yield (h : TjC b A1 W3 A c s M W) (ht : Touch M W W') {M' : Nat → Prop} (hM : ∀ k, M' k → (M k ∨ W.heap.size ≤ k) ∧ k < W'.heap.size) : TjC b A1 W3 A c s M' W' := by
  refine ⟨h.is.touch ht fun k hk hm => (h.ms k hm).2.2 hk, h.tch.trans2 ht fun k hk => .inr (h.ms k hk).1, fun k hk => ?_, h.own⟩
  obtain ⟨h1, h2⟩ := hM k hk
  rcases h1 with h1 | h1
  · exact ⟨(h.ms k h1).1, h2, (h.ms k h1).2.2⟩
  · exact ⟨Nat.le_trans h.tch.size h1, h2, fun e => by have := h.is.lts k e; omega⟩
theorem TjC.grow (h : TjC b A1 W3 A c s M W) (hg : Grows W W') : TjC b A1 W3 A c s M W' :=
  ⟨h.is.grow hg, h.tch.grows hg, fun k hk => ⟨(h.ms k hk).1, Nat.lt_of_lt_of_le (h.ms k hk).2.1 hg.size, (h.ms k hk).2.2⟩, h.own⟩
theorem TjC.call (h : TjC b A1 W3 A c s M W) {A' : Option Addr} {c' : Nat} {s' : TjS} (hi : TjAt W' b A' c' s') (ht : Touch (TjOwn b A) W W') (ho : ∀ k, TjOwn b A' k → TjOwn b A k ∨ W.heap.size ≤ k) : TjC b A1 W3 A' c' s' M W' := by
  refine ⟨hi, h.tch.trans2 ht h.own, fun k hk => ?_, fun k hk => ?_⟩
  · obtain ⟨h1, h2, h3⟩ := h.ms k hk
    refine ⟨h1, Nat.lt_of_lt_of_le h2 ht.size, fun e => ?_⟩
    rcases ho k e with h4 | h4
    · exact h3 h4
    · omega
  · rcases ho k hk with h4 | h4
    · exact h.own k h4
    · exact .inr (Nat.le_trans h.tch.size h4)
theorem TjC.lower (h : TjC b A1 W3 A c s M W) (v : Nat) (x : Int) : TjC b A1 W3 A c (s.lower v x) M (W.setCell ⟨b.bl, v, none⟩ (.int .i64 (min (gi s.low v) x))) :=
  h.call (h.is.setLow v _) ((Touch.refl _ W).set (.inl (.inl (.inr (.inr (.inl rfl))))) _) fun k hk => .inl hk
theorem TjC.keeps (h : TjC b A1 W3 A c s M W) {B : Nat → Prop} (hB : ∀ k, B k → k < W3.heap.size ∧ ¬ TjOwn b A1 k) (ht : Touch (TjOwn b A) W W') : Keeps B M W W' :=
  ht.keeps fun k hk e => by
    rcases e with e | e
    · obtain ⟨h1, h2⟩ := hB k e
      rcases h.own k hk with h3 | h3
      · exact h2 h3
      · omega
    · exact (h.ms k e).2.2 hk
theorem TjC.arr (h : TjC b A1 W3 A c s M W) {g : Nat} {t : TypeId} {cs : List Value} (ha : Arr W3 g t cs) (hn : ¬ TjOwn b A1 g) : Arr W g t cs := ha.touch h.tch hn
theorem TjC.start {w : World} (h : TjAt w b A c s) : TjC b A w A c s (fun _ => False) w := ⟨h, Touch.refl _ _, fun _ hk => hk.elim, fun _ hk => .inl hk⟩
end
end Go.Proofs.YtomednfddpggaaaGreat

/- Which edges many need: what lies in memory. -/
namespace Go.Proofs.YtomednfddpggaaaGreat
open Go Go.RowKit
structure BwB where
  (bx ba bm bl N : Nat)
def BwOwn (b : BwB) (A : Option Addr) (k : Nat) : Prop := (k = b.bx ∨ k = b.bm ∨ k = b.bl) ∨ ∃ p, A = some p ∧ p.block = k
structure BwAt (w : World) (b : BwB) (A : Option Addr) (c : Nat) (s : BwS) : Prop where
  x : Arr w b.bx 138 [.pointer (some ⟨b.ba, 0, none⟩), .slice (some ⟨b.bm, 0, none⟩) b.N b.N, .slice (some ⟨b.bl, 0, none⟩) b.N b.N, .int .i64 s.now, .slice A s.cuts.length c]
  m : Arr w b.bm 3 (s.met.map (.int .i64))
  l : Arr w b.bl 3 (s.low.map (.int .i64))
  o : Own w 0 3 1 A s.cuts.length c (nv s.cuts)
  dis : b.bm ≠ b.bl
  disA : ∀ p, A = some p → p.block ≠ b.bm ∧ p.block ≠ b.bl
theorem BwAt.touch {w w' : World} {b : BwB} {A : Option Addr} {c : Nat} {s : BwS} {S : Nat → Prop} (h : BwAt w b A c s) (ht : Touch S w w') (hS : ∀ k, BwOwn b A k → ¬ S k) : BwAt w' b A c s :=
  ⟨h.x.touch ht (hS _ (.inl (.inl rfl))), h.m.touch ht (hS _ (.inl (.inr (.inl rfl)))), h.l.touch ht (hS _ (.inl (.inr (.inr rfl)))), h.o.touch ht (fun p hp => hS _ (.inr ⟨p, hp, rfl⟩)), h.dis, h.disA⟩
theorem BwAt.grow {w w' : World} {b : BwB} {A : Option Addr} {c : Nat} {s : BwS} (h : BwAt w b A c s) (hg : Grows w w') : BwAt w' b A c s := h.touch (hg.touch (fun _ => False)) (fun _ _ => id)
section
variable {w : World} {b : BwB} {A : Option Addr} {c : Nat} {s : BwS}
theorem BwAt.nes (h : BwAt w b A c s) : (b.bx ≠ b.bm ∧ b.bx ≠ b.bl) ∧ (∀ p, A = some p → p.block ≠ b.bx) :=
  ⟨⟨h.x.ne h.m (by decide), h.x.ne h.l (by decide)⟩, fun p hp => h.o.not_arr h.x (by decide) p hp⟩
theorem BwAt.lts (h : BwAt w b A c s) : ∀ k, BwOwn b A k → k < w.heap.size := by
  rintro k ((rfl | rfl | rfl) | ⟨p, rfl, rfl⟩)
  · exact h.x.lt
  · exact h.m.lt
  · exact h.l.lt
  · exact (World.ownsRow.lt h.o p.block rfl).2
theorem BwAt.setMet (h : BwAt w b A c s) (v : Nat) (x : Int) : BwAt (w.setCell ⟨b.bm, v, none⟩ (.int .i64 x)) b A c { s with met := s.met.set v x } := by
  obtain ⟨⟨n1, n2⟩, n8⟩ := h.nes
  exact ⟨h.x.other (Ne.symm n1) _, by rw [List.map_set]; exact h.m.set v _, h.l.other h.dis _, h.o.othr (fun p hp => (h.disA p hp).1) _, h.dis, h.disA⟩
theorem BwAt.setLow (h : BwAt w b A c s) (v : Nat) (x : Int) : BwAt (w.setCell ⟨b.bl, v, none⟩ (.int .i64 x)) b A c { s with low := s.low.set v x } := by
  obtain ⟨⟨n1, n2⟩, n8⟩ := h.nes
  exact ⟨h.x.other (Ne.symm n2) _, h.m.other (Ne.symm h.dis) _, by rw [List.map_set]; exact h.l.set v _, h.o.othr (fun p hp => (h.disA p hp).2) _, h.dis, h.disA⟩
theorem BwAt.setNow (h : BwAt w b A c s) (x : Int) : BwAt (w.setCell ⟨b.bx, 3, none⟩ (.int .i64 x)) b A c { s with now := x } := by
  obtain ⟨⟨n1, n2⟩, n8⟩ := h.nes
  exact ⟨h.x.set 3 _, h.m.other n1 _, h.l.other n2 _, h.o.othr (fun p hp => n8 p hp) _, h.dis, h.disA⟩
end
structure BwC (b : BwB) (A1 : Option Addr) (W3 : World) (A : Option Addr) (c : Nat) (s : BwS) (M : Nat → Prop) (W : World) : Prop where
  is : BwAt W b A c s
  tch : Touch (BwOwn b A1) W3 W
  ms : ∀ k, M k → W3.heap.size ≤ k ∧ k < W.heap.size ∧ ¬ BwOwn b A k
  own : ∀ k, BwOwn b A k → BwOwn b A1 k ∨ W3.heap.size ≤ k
section
variable {b : BwB} {A1 A : Option Addr} {c : Nat} {s : BwS} {M : Nat → Prop} {W3 W W' : World}
theorem BwC.yield (h : BwC b A1 W3 A c s M W) (ht : Touch M W W') {M' : Nat → Prop} (hM : ∀ k, M' k → (M k ∨ W.heap.size ≤ k) ∧ k < W'.heap.size) : BwC b A1 W3 A c s M' W' := by
  refine ⟨h.is.touch ht fun k hk hm => (h.ms k hm).2.2 hk, h.tch.trans2 ht fun k hk => .inr (h.ms k hk).1, fun k hk => ?_, h.own⟩
  obtain ⟨h1, h2⟩ := hM k hk
  rcases h1 with h1 | h1
  · exact ⟨(h.ms k h1).1, h2, (h.ms k h1).2.2⟩
  · exact ⟨Nat.le_trans h.tch.size h1, h2, fun e => by have := h.is.lts k e; omega⟩
theorem BwC.grow (h : BwC b A1 W3 A c s M W) (hg : Grows W W') : BwC b A1 W3 A c s M W' :=
  ⟨h.is.grow hg, h.tch.grows hg, fun k hk => ⟨(h.ms k hk).1, Nat.lt_of_lt_of_le (h.ms k hk).2.1 hg.size, (h.ms k hk).2.2⟩, h.own⟩
theorem BwC.call (h : BwC b A1 W3 A c s M W) {A' : Option Addr} {c' : Nat} {s' : BwS} (hi : BwAt W' b A' c' s') (ht : Touch (BwOwn b A) W W') (ho : ∀ k, BwOwn b A' k → BwOwn b A k ∨ W.heap.size ≤ k) : BwC b A1 W3 A' c' s' M W' := by
  refine ⟨hi, h.tch.trans2 ht h.own, fun k hk => ?_, fun k hk => ?_⟩
  · obtain ⟨h1, h2, h3⟩ := h.ms k hk
    refine ⟨h1, Nat.lt_of_lt_of_le h2 ht.size, fun e => ?_⟩
    rcases ho k e with h4 | h4
    · exact h3 h4
    · omega
  · rcases ho k hk with h4 | h4
    · exact h.own k h4
    · exact .inr (Nat.le_trans h.tch.size h4)
theorem BwC.lower (h : BwC b A1 W3 A c s M W) (v : Nat) (x : Int) : BwC b A1 W3 A c (s.lower v x) M (W.setCell ⟨b.bl, v, none⟩ (.int .i64 (min (gi s.low v) x))) :=
  h.call (h.is.setLow v _) ((Touch.refl _ W).set (.inl (.inl (.inr (.inr rfl)))) _) fun k hk => .inl hk
theorem BwC.keeps (h : BwC b A1 W3 A c s M W) {B : Nat → Prop} (hB : ∀ k, B k → k < W3.heap.size ∧ ¬ BwOwn b A1 k) (ht : Touch (BwOwn b A) W W') : Keeps B M W W' :=
  ht.keeps fun k hk e => by
    rcases e with e | e
    · obtain ⟨h1, h2⟩ := hB k e
      rcases h.own k hk with h3 | h3
      · exact h2 h3
      · omega
    · exact (h.ms k e).2.2 hk
theorem BwC.arr (h : BwC b A1 W3 A c s M W) {g : Nat} {t : TypeId} {cs : List Value} (ha : Arr W3 g t cs) (hn : ¬ BwOwn b A1 g) : Arr W g t cs := ha.touch h.tch hn
theorem BwC.start {w : World} (h : BwAt w b A c s) : BwC b A w A c s (fun _ => False) w := ⟨h, Touch.refl _ _, fun _ hk => hk.elim, fun _ hk => .inl hk⟩
theorem BwC.over {A2 : Option Addr} {c2 : Nat} {s2 : BwS} {M2 : Nat → Prop} {W2 : World} (h : BwC b A1 W3 A2 c2 s2 M2 W2) (k : BwC b A2 W2 A c s M W) : BwC b A1 W3 A c s (fun _ => False) W :=
  ⟨k.is, h.tch.trans2 k.tch h.own, fun _ hk => hk.elim, fun j hj => by
    rcases k.own j hj with e | e
    · exact h.own j e
    · exact .inr (Nat.le_trans h.tch.size e)⟩
end
end Go.Proofs.YtomednfddpggaaaGreat

/- Which edges many need: an edge is told (a region that draws its order, in a round): what is known in its midst. -/
namespace Go.Proofs.YtomednfddpggaaaGreat
open Go Go.RowKit
structure BwR (b : BwB) (A : Option Addr) (c : Nat) (s : BwS) (i : Nat) (W : World) (V : Nat → Option Value) (D : Nat → Bool) (g : Nat → Value) (w : World) : Prop where
  cs : ∀ j u, V j = some u → D j = true → g j = u
  touch : Touch (fun k => k = b.bx ∨ ∃ p, A = some p ∧ p.block = k) W w
  lit : D 6 = true → D 7 = false → ∃ q, g 6 = .slice (some ⟨q, 0, none⟩) 1 1 ∧ Holds w ⟨q, 0, none⟩ (.int .i64 (i : Int)) ∧ W.heap.size ≤ q
  old : D 7 = false → Own w 0 3 1 A s.cuts.length c (nv s.cuts)
  new : D 7 = true → ∃ A2 c2, g 7 = .slice A2 (s.cuts.length + 1) c2 ∧ Own w 0 3 1 A2 (s.cuts.length + 1) c2 (nv s.cuts ++ [.int .i64 (i : Int)]) ∧ ∀ p, A2 = some p → (∃ q, A = some q ∧ q.block = p.block) ∨ W.heap.size ≤ p.block
  x : Arr w b.bx 138 [.pointer (some ⟨b.ba, 0, none⟩), .slice (some ⟨b.bm, 0, none⟩) b.N b.N, .slice (some ⟨b.bl, 0, none⟩) b.N b.N, .int .i64 s.now, if D 10 = true then g 7 else .slice A s.cuts.length c]
section
variable {b : BwB} {A : Option Addr} {c i0 : Nat} {s : BwS} {W w w' : World} {V : Nat → Option Value} {D : Nat → Bool} {g : Nat → Value}
theorem updB_no (g : Nat → Value) {i j : Nat} (u : Value) (h : j ≠ i) : updG g i u j = g j := if_neg h
theorem updB_yes (g : Nat → Value) (i : Nat) (u : Value) : updG g i u i = u := if_pos rfl
theorem BwR.plain (h : BwR b A c s i0 W V D g w) (hg : Grows w w') {i : Nat} {u : Value} (hi : i ≠ 6 ∧ i ≠ 7 ∧ i ≠ 10) (hv : ∀ x, V i = some x → u = x) :
    BwR b A c s i0 W V (fun j => if j = i then true else D j) (updG g i u) w' := by
  obtain ⟨n11, n12, n15⟩ := hi
  have ne : ∀ j : Nat, j ≠ i → (if j = i then true else D j) = D j := fun j hj => if_neg hj
  refine ⟨fun j x hx hD => ?_, h.touch.grows hg, ?_, ?_, ?_, ?_⟩
  · by_cases e : j = i
    · subst e; rw [updB_yes]; exact hv x hx
    · rw [updB_no _ _ e]; exact h.cs j x hx (by rwa [ne j e] at hD)
  · simp only [ne 6 (Ne.symm n11), ne 7 (Ne.symm n12), updB_no g u (Ne.symm n11)]
    intro p q
    obtain ⟨x, y, z, t⟩ := h.lit p q
    exact ⟨x, y, ⟨hg.keeps z.cell⟩, t⟩
  · simp only [ne 7 (Ne.symm n12)]
    exact fun p => (h.old p).grows hg
  · simp only [ne 7 (Ne.symm n12), updB_no g u (Ne.symm n12)]
    intro p
    obtain ⟨x, y, z, t, r⟩ := h.new p
    exact ⟨x, y, z, t.grows hg, r⟩
  · simp only [ne 10 (Ne.symm n15), updB_no g u (Ne.symm n12)]
    exact h.x.grow hg
theorem BwR.litS (h : BwR b A c s i0 W V D g w) (hV : V 6 = none) :
    BwR b A c s i0 W V (fun j => if j = 6 then true else D j) (updG g 6 (.slice (some ⟨w.heap.size, 0, none⟩) 1 1)) (w.alloc (.cells #[.int .i64 (i0 : Int)] 3)) := by
  have hg : Grows w (w.alloc (.cells #[.int .i64 (i0 : Int)] 3)) := (Grows.refl w).new _
  refine ⟨fun j x hx hD => ?_, h.touch.grows hg, ?_, ?_, ?_, ?_⟩
  · by_cases e : j = 6
    · subst e; rw [hV] at hx; cases hx
    · rw [updB_no _ _ e]; exact h.cs j x hx (by simpa [e] using hD)
  · intro _ _
    exact ⟨w.heap.size, updB_yes _ _ _, inferInstance, h.touch.size⟩
  · simp only [show ((7 : Nat) = 6) = False by decide, if_false]
    exact fun p => (h.old p).grows hg
  · simp only [show ((7 : Nat) = 6) = False by decide, if_false, updB_no g _ (show (7 : Nat) ≠ 6 by decide)]
    intro p
    obtain ⟨x, y, z, t, r⟩ := h.new p
    exact ⟨x, y, z, t.grows hg, r⟩
  · simp only [show ((10 : Nat) = 6) = False by decide, if_false, updB_no g _ (show (7 : Nat) ≠ 6 by decide)]
    exact h.x.grow hg
theorem BwR.appS (hW : BwAt W b A c s) (h : BwR b A c s i0 W V D g w) (hV : V 7 = none) (h15 : D 10 = false) {A2 : Option Addr} {c2 : Nat}
    (ho : Own w' 0 3 1 A2 (s.cuts.length + 1) c2 (nv s.cuts ++ [.int .i64 (i0 : Int)])) (ht : Touch (fun k => ∃ p, A = some p ∧ p.block = k) w w') (hl : ∀ p, A2 = some p → (∃ q, A = some q ∧ q.block = p.block) ∨ New w w' p.block) :
    BwR b A c s i0 W V (fun j => if j = 7 then true else D j) (updG g 7 (.slice A2 (s.cuts.length + 1) c2)) w' := by
  obtain ⟨_, n8⟩ := hW.nes
  refine ⟨fun j x hx hD => ?_, h.touch.trans (ht.mono fun k hk => .inr hk), ?_, ?_, ?_, ?_⟩
  · by_cases e : j = 7
    · subst e; rw [hV] at hx; cases hx
    · rw [updB_no _ _ e]; exact h.cs j x hx (by simpa [e] using hD)
  · intro _ q
    simp at q
  · intro q
    simp at q
  · intro _
    exact ⟨A2, c2, updB_yes _ _ _, ho, fun p hp => (hl p hp).imp id fun hn => Nat.le_trans h.touch.size hn.1⟩
  · simp only [show ((10 : Nat) = 7) = False by decide, if_false, h15, Bool.false_eq_true]
    have := h.x
    rw [h15] at this
    simp only [Bool.false_eq_true, if_false] at this
    exact this.touch ht (by rintro ⟨p, hp, e⟩; exact n8 p hp e)
theorem BwR.stS (h : BwR b A c s i0 W V D g w) (hV : V 10 = none) (h12 : D 7 = true) {u : Value} :
    BwR b A c s i0 W V (fun j => if j = 10 then true else D j) (updG g 10 u) (w.setCell ⟨b.bx, 4, none⟩ (g 7)) := by
  refine ⟨fun j x hx hD => ?_, h.touch.set (.inl (.inl rfl)) _, ?_, ?_, ?_, ?_⟩
  · by_cases e : j = 10
    · subst e; rw [hV] at hx; cases hx
    · rw [updB_no _ _ e]; exact h.cs j x hx (by simpa [e] using hD)
  · intro _ q
    simp [h12] at q
  · intro q
    simp [h12] at q
  · intro _
    obtain ⟨x, y, z, t, r⟩ := h.new h12
    exact ⟨x, y, by rw [updB_no g _ (show (7 : Nat) ≠ 10 by decide)]; exact z, t.othr (fun p hp => t.not_arr h.x (by decide) p hp) _, r⟩
  · simp only [updB_no g _ (show (7 : Nat) ≠ 10 by decide), if_true]
    have := h.x.set 4 (g 7)
    simpa using this
theorem BwR.fin (hW : BwAt W b A c s) (h : BwR b A c s i0 W V D g w) (hD : ∀ j, j < 11 → D j = true) :
    ∃ A2 c2, BwAt w b A2 c2 { s with cuts := s.cuts ++ [i0] } ∧ Touch (BwOwn b A) W w ∧ ∀ k, BwOwn b A2 k → BwOwn b A k ∨ W.heap.size ≤ k := by
  obtain ⟨⟨n1, n2⟩, n8⟩ := hW.nes
  obtain ⟨A2, c2, e, ho, hl⟩ := h.new (hD 7 (by decide))
  have out : ∀ {k}, (k = b.bm ∨ k = b.bl) → ¬ (k = b.bx ∨ ∃ p, A = some p ∧ p.block = k) := by
    rintro k hk (e | ⟨p, hp, e⟩)
    · rcases hk with rfl | rfl
      · exact n1 e.symm
      · exact n2 e.symm
    · obtain ⟨a1, a2⟩ := hW.disA p hp
      rcases hk with rfl | rfl
      · exact a1 e
      · exact a2 e
  have e1 : (s.cuts ++ [i0]).length = s.cuts.length + 1 := by simp
  have e2 : nv (s.cuts ++ [i0]) = nv s.cuts ++ [.int .i64 (i0 : Int)] := by simp [nv]
  have q1 := h.x
  rw [hD 10 (by decide), if_pos rfl, e] at q1
  refine ⟨A2, c2, ⟨?_, hW.m.touch h.touch (out (.inl rfl)), hW.l.touch h.touch (out (.inr rfl)), ?_, hW.dis, fun p hp => ?_⟩, h.touch.mono ?_, ?_⟩
  · show Arr _ _ _ [_, _, _, _, .slice A2 (s.cuts ++ [i0]).length c2]
    rw [e1]; exact q1
  · show Own _ _ _ _ _ (s.cuts ++ [i0]).length _ (nv (s.cuts ++ [i0]))
    rw [e1, e2]; exact ho
  · rcases hl p hp with ⟨q, hq, e3⟩ | hge
    · rw [← e3]; exact hW.disA q hq
    · have a1 := hW.m.lt; have a2 := hW.l.lt
      omega
  · rintro k (rfl | hk)
    · exact .inl (.inl rfl)
    · exact .inr hk
  · rintro k (hk | ⟨p, hp, rfl⟩)
    · exact .inl (.inl hk)
    · rcases hl p hp with ⟨q, hq, e3⟩ | hge
      · exact .inl (.inr ⟨q, hq, e3⟩)
      · exact .inr hge
end
section
variable {F : Fence} {m : Nat} {w : World} {e : TypeId} {ops : Array Oper} {o : Oper} {a : Act} {Q : Exit → Act → World → Prop} {K : Act → World → Prop} {R : Prop}
theorem step_appIn (hF : WideF F) {t : TypeId} (T : Elem t e 1) (hgd : o.guard = none) (s x : Operand) (ho : o.op = .call { callee := .builtin .append, args := #[s, x], argTypes := #[t, t] })
    (n c : Nat) (A : Option Addr) (xs : List Value) (hs : a.eval s = .slice A n c) (hown : Own w 0 e 1 A n c xs) (g c' : Nat) (v : Value) (hx : a.eval x = .slice (some ⟨g, 0, none⟩) 1 c')
    (hv : Holds w ⟨g, 0, none⟩ v) (h1 : v.oneCell' = true) (hnm : n + 1 ≤ 1000000000000)
    (h : ∀ A' c'' w', Own w' 0 e 1 A' (n + 1) c'' (xs ++ [v]) → Touch (fun k => ∃ p, A = some p ∧ p.block = k) w w' → (∀ p, A' = some p → (∃ q, A = some q ∧ q.block = p.block) ∨ New w w' p.block) → K (a.put o.dst (.slice A' (n + 1) c'')) w') :
    if Region.wanted o (yielded ops a.tmps) = true then Oper.wpIn F m Tryz.prog o a w K Q else R := by
  have hw : Region.wanted o (yielded ops a.tmps) = true := by simp [Region.wanted, hgd]
  rw [if_pos hw]
  obtain ⟨i, z, bytes, hi, hz, hsz, hby, hzs, hb64⟩ := T.info
  obtain ⟨v', w', hr, hown', hgr, _, hat⟩ := run_append_own_at (P := Tryz.prog) w 0 t o.type e i z 1 bytes T.under hi hz hsz hby hzs T.pos (.slice A n c) n xs hown ⟨g, 0, none⟩ 1 c' [v] rfl (fun j u hu => by
    have hj : j = 0 := by
      have := (List.getElem?_eq_some_iff.1 hu).1
      simpa using this
    subst hj
    simp at hu
    subst hu
    simpa [Addr.add] using hv.cell) (by intro u hu; simp at hu; rw [hu]; exact h1) (by unfold maxLen; omega) (Nat.le_trans (Nat.mul_le_mul hnm hb64) (by omega)) (Nat.zero_le _)
  obtain ⟨A', c'', rfl⟩ := own_form hown'
  have ht : Touch (fun k => ∃ p, A = some p ∧ p.block = k) w w' := (Touch.refl _ w).grown hgr fun k hk => .inl (by
    cases A with
    | none => simp [Value.ownBlock] at hk
    | some p => simp [Value.ownBlock] at hk; exact ⟨p, rfl, hk⟩)
  have hloc : ∀ p, A' = some p → (∃ q, A = some q ∧ q.block = p.block) ∨ New w w' p.block := fun p hp => by
    have hlt := (hown'.lt p.block (by subst hp; rfl)).2
    subst hp
    simp only [Value.ownBlock] at hat
    rcases hat with hat | hat
    · left
      cases A with
      | none => simp at hat
      | some q => exact ⟨q, rfl, by simpa using hat.symm⟩
    · right
      have e9 : p.block = w.heap.size := by simpa using hat
      exact ⟨Nat.le_of_eq e9.symm, hlt⟩
  refine wpIn_of_runs (q := fun u w1 => u = .slice A' (n + 1) c'' ∧ w1 = w') hF (by rw [ho]) ?_ fun u w1 hq => ?_
  · unfold execOp
    simp only [ho, resolve, invoke, builtin, Sem.run_bind, Sem.run_pure, Result.andThen_ok, List.map_toArray, List.map_cons, List.map_nil, hs, hx, hr]
    exact ⟨rfl, rfl⟩
  · obtain ⟨rfl, rfl⟩ := hq
    exact h A' c'' w1 hown' ht hloc
end
end Go.Proofs.YtomednfddpggaaaGreat
