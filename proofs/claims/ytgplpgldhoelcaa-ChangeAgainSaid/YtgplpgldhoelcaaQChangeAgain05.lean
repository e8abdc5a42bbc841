/- Contracts: who goes out, and who comes in. -/
import Derived.Test.YtgplpgldhoelcaaQChangeAgain02
import Derived.Test.YtgplpgldhoelcaaQChangeAgain04
import Derived.Test.YtgplpgldhoelcaaQChangeAgain00
import Derived.OrdersIn
import Derived.TacticsIn
import Derived.RangeFuncNested
import Derived.RangeFuncBound
import Derived.Shelf.Abstract
import Derived.Shelf.RegionOpen
import Derived.OwnWalkIn
import Derived.TacticsInMore
import Derived.LoopNIn
import Derived.LoopIn
namespace Go.Proofs.Ytgplpgldhoelcaa
open Go Go.RowKit
def LaidIn (w : World) (g1 g2 N n : Nat) (f : Nat → Nat) : Prop :=
  ∃ X B, Row1 w g1 3 1 n n (nv X) ∧ Row1 w g2 3 1 (N + 1) (N + 1) (nv B) ∧ (∀ i, i < n → X[posN f n i]? = some i) ∧ (∀ v, v ≤ N → gn B v = begN f n v)
theorem LaidIn.grows {w w' : World} {g1 g2 N n : Nat} {f : Nat → Nat} (h : LaidIn w g1 g2 N n f) (hg : Grows w w') : LaidIn w' g1 g2 N n f := by
  obtain ⟨X, B, h1, h2, h3⟩ := h
  exact ⟨X, B, h1.grow hg, h2.grow hg, h3⟩
def fN (E : List Edg) (i : Nat) : Nat := (ge E i).f.toNat
def tN (E : List Edg) (i : Nat) : Nat := (ge E i).t.toNat
def nN (E : List Edg) (back : Bool) : Nat → Nat := if back then tN E else fN E
def AdjAt (F : Nat → Prop) (w : World) (b N : Nat) (E : List Edg) : Prop :=
  ∃ A c g1 g2 g3 g4, Arr w b 171 [.int .i64 (N : Int), .slice A E.length c, .slice (some ⟨g1, 0, none⟩) E.length E.length, .slice (some ⟨g2, 0, none⟩) (N + 1) (N + 1), .slice (some ⟨g3, 0, none⟩) E.length E.length, .slice (some ⟨g4, 0, none⟩) (N + 1) (N + 1)] ∧
    Rd w A 3 E.length (esCells E) ∧ LaidIn w g1 g2 N E.length (fN E) ∧ LaidIn w g3 g4 N E.length (tN E) ∧ (F b ∧ F g1 ∧ F g2 ∧ F g3 ∧ F g4 ∧ ∀ p, A = some p → F p.block)
theorem LaidIn.touch {w w' : World} {g1 g2 N n : Nat} {f : Nat → Nat} {S : Nat → Prop} (h : LaidIn w g1 g2 N n f) (ht : Touch S w w') (h1 : ¬ S g1) (h2 : ¬ S g2) : LaidIn w' g1 g2 N n f := by
  obtain ⟨X, B, q1, q2, q3⟩ := h
  exact ⟨X, B, q1.touch ht h1, q2.touch ht h2, q3⟩
theorem AdjAt.touch {F S : Nat → Prop} {w w' : World} {b N : Nat} {E : List Edg} (h : AdjAt F w b N E) (ht : Touch S w w') (hs : ∀ k, F k → ¬ S k) : AdjAt F w' b N E := by
  obtain ⟨A, c, g1, g2, g3, g4, h1, h2, h3, h4, f0, f1, f2, f3, f4, f5⟩ := h
  exact ⟨A, c, g1, g2, g3, g4, h1.touch ht (hs _ f0), h2.touch ht (fun p hp => hs _ (f5 p hp)), h3.touch ht (hs _ f1) (hs _ f2), h4.touch ht (hs _ f3) (hs _ f4), f0, f1, f2, f3, f4, f5⟩
theorem AdjAt.grows {F : Nat → Prop} {w w' : World} {b N : Nat} {E : List Edg} (h : AdjAt F w b N E) (hg : Grows w w') : AdjAt F w' b N E := h.touch (hg.touch (fun _ => False)) (fun _ _ => id)
theorem AdjAt.mono {F F' : Nat → Prop} {w : World} {b N : Nat} {E : List Edg} (h : AdjAt F w b N E) (hf : ∀ k, F k → F' k) : AdjAt F' w b N E := by
  obtain ⟨A, c, g1, g2, g3, g4, h1, h2, h3, h4, f0, f1, f2, f3, f4, f5⟩ := h
  exact ⟨A, c, g1, g2, g3, g4, h1, h2, h3, h4, hf _ f0, hf _ f1, hf _ f2, hf _ f3, hf _ f4, fun p hp => hf _ (f5 p hp)⟩
def InN (N : Nat) (E : List Edg) : Prop := ∀ i, i < E.length → (0 ≤ (ge E i).f ∧ (ge E i).f < N) ∧ (0 ≤ (ge E i).t ∧ (ge E i).t < N)
theorem InN.f {N : Nat} {E : List Edg} (h : InN N E) (i : Nat) (hi : i < E.length) : fN E i < N ∧ (ge E i).f = (fN E i : Int) := by
  obtain ⟨⟨h1, h2⟩, h3, h4⟩ := h i hi
  unfold fN; omega
theorem InN.t {N : Nat} {E : List Edg} (h : InN N E) (i : Nat) (hi : i < E.length) : tN E i < N ∧ (ge E i).t = (tN E i : Int) := by
  obtain ⟨⟨h1, h2⟩, h3, h4⟩ := h i hi
  unfold tN; omega
theorem right_in {N : Int} {E : List Edg} (h : rightF N E = 0) : 1 ≤ N ∧ N ≤ 4096 ∧ E.length ≤ 16384 ∧ InN N.toNat E ∧ ∀ i, i < E.length → 1 ≤ (ge E i).w ∧ (ge E i).w ≤ 4294967296 := by
  unfold rightF at h
  split at h
  · cases h
  split at h
  · cases h
  split at h
  · cases h
  split at h
  · cases h
  rename_i h1 h2 h3 h4
  refine ⟨by omega, by omega, by omega, fun i hi => ?_, fun i hi => ?_⟩
  · have hm : ge E i ∈ E := by unfold ge; rw [List.getD_eq_getElem?_getD, List.getElem?_eq_getElem hi]; exact List.getElem_mem hi
    have : looseB N (ge E i) = false := by
      cases hh : looseB N (ge E i) with
      | false => rfl
      | true => exact absurd (List.any_eq_true.2 ⟨_, hm, hh⟩) h3
    unfold looseB at this
    simp only [Bool.or_eq_false_iff, Bool.not_eq_false'] at this
    obtain ⟨t1, t2, _⟩ := this
    unfold nodeB at t1 t2
    have t1 := of_decide_eq_true t1
    have t2 := of_decide_eq_true t2
    omega
  · have hm : ge E i ∈ E := by unfold ge; rw [List.getD_eq_getElem?_getD, List.getElem?_eq_getElem hi]; exact List.getElem_mem hi
    have : heavyB (ge E i) = false := by
      cases hh : heavyB (ge E i) with
      | false => rfl
      | true => exact absurd (List.any_eq_true.2 ⟨_, hm, hh⟩) h4
    unfold heavyB wtB at this
    simp at this
    exact this
section
variable {P : Program} {w0 : World}
end
def LaidP (lo N n : Nat) (f : Nat → Nat) : Pr := fun u w => ∃ g1 g2, u = .agg #[.slice (some ⟨g1, 0, none⟩) n n, .slice (some ⟨g2, 0, none⟩) (N + 1) (N + 1)] ∧ LaidIn w g1 g2 N n f ∧ lo ≤ g1 ∧ lo ≤ g2
theorem LaidP.lasts (lo N n : Nat) (f : Nat → Nat) : Lasts (LaidP lo N n f) := fun _ _ _ hg ⟨g1, g2, e, h, l1, l2⟩ => ⟨g1, g2, e, h.grows hg, l1, l2⟩
end Go.Proofs.Ytgplpgldhoelcaa

namespace Go.Proofs.Ytgplpgldhoelcaa
open Go Go.RowKit

theorem wide_fn (f : FuncId) : Fence.wide.fn f = True := rfl
theorem wide_depth : Fence.wide.depth = none := rfl
attribute [go_sem] wide_fn wide_depth

section
variable {F : Fence} {m : Nat} {P : Program} {ops : Array Oper} {md : Region.Mode} {w0 : World}

end
end Go.Proofs.Ytgplpgldhoelcaa

namespace Go.Proofs.Ytgplpgldhoelcaa
open Go Go.RowKit
attribute [local go_sem] Oper.semAt_some
end Go.Proofs.Ytgplpgldhoelcaa

namespace Go.Proofs.Ytgplpgldhoelcaa
open Go Go.RowKit
section
variable {w : World} {g : Nat} {t : TypeId}
instance Arr.m6 {v0 v1 v2 v3 v4 v5 v : Value} {l : List Value} [h : Arr w g t (v0 :: v1 :: v2 :: v3 :: v4 :: v5 :: v :: l)] : Mine w ⟨g, 6, none⟩ v := h.mine 6 rfl
instance Arr.m7 {v0 v1 v2 v3 v4 v5 v6 v : Value} {l : List Value} [h : Arr w g t (v0 :: v1 :: v2 :: v3 :: v4 :: v5 :: v6 :: v :: l)] : Mine w ⟨g, 7, none⟩ v := h.mine 7 rfl
instance Arr.m8 {v0 v1 v2 v3 v4 v5 v6 v7 v : Value} {l : List Value} [h : Arr w g t (v0 :: v1 :: v2 :: v3 :: v4 :: v5 :: v6 :: v7 :: v :: l)] : Mine w ⟨g, 8, none⟩ v := h.mine 8 rfl
instance Arr.m9 {v0 v1 v2 v3 v4 v5 v6 v7 v8 v : Value} {l : List Value} [h : Arr w g t (v0 :: v1 :: v2 :: v3 :: v4 :: v5 :: v6 :: v7 :: v8 :: v :: l)] : Mine w ⟨g, 9, none⟩ v := h.mine 9 rfl
instance Arr.m10 {v0 v1 v2 v3 v4 v5 v6 v7 v8 v9 v : Value} {l : List Value} [h : Arr w g t (v0 :: v1 :: v2 :: v3 :: v4 :: v5 :: v6 :: v7 :: v8 :: v9 :: v :: l)] : Mine w ⟨g, 10, none⟩ v := h.mine 10 rfl
end
structure Srch where
  N : Nat
  E : List Edg
  back : Bool
  most : Nat
  W : List Nat
  nn : Nat → Bool
  ne : Nat → Bool
def SrAt (F : Nat → Prop) (w : World) (x : Srch) (bx bf bh : Nat) : Prop :=
  ∃ ba o1 o2 o3 Aw cw bn be gn' ge' Wn We, Arr w bx 213 [.pointer (some ⟨ba, 0, none⟩), .bool x.back, o1, o2, o3, .int .u64 (x.most : Int), .slice Aw x.E.length cw, .pointer (some ⟨bn, 0, none⟩), .pointer (some ⟨be, 0, none⟩), .pointer (some ⟨bf, 0, none⟩), .pointer (some ⟨bh, 0, none⟩)] ∧
    AdjAt F w ba x.N x.E ∧ (Rd w Aw 1 x.E.length (wv x.W) ∧ ∀ p, Aw = some p → F p.block) ∧ (BtAt w bn gn' x.N Wn ∧ ∀ j, j < x.N → hasW Wn j = x.nn j) ∧ (BtAt w be ge' x.E.length We ∧ ∀ j, j < x.E.length → hasW We j = x.ne j) ∧ (F bx ∧ F bn ∧ F gn' ∧ F be ∧ F ge')
theorem BtAt.touch {w w' : World} {b g n : Nat} {W : List Nat} {S : Nat → Prop} (h : BtAt w b g n W) (ht : Touch S w w') (h1 : ¬ S b) (h2 : ¬ S g) : BtAt w' b g n W := ⟨h.row.touch ht h1, h.words.touch ht h2, h.room, h.small⟩
theorem SrAt.touch {F S : Nat → Prop} {w w' : World} {x : Srch} {bx bf bh : Nat} (h : SrAt F w x bx bf bh) (ht : Touch S w w') (hs : ∀ k, F k → ¬ S k) : SrAt F w' x bx bf bh := by
  obtain ⟨ba, o1, o2, o3, Aw, cw, bn, be, g1, g2, Wn, We, h1, h2, ⟨h3, h4⟩, ⟨h5, h6⟩, ⟨h7, h8⟩, f1, f2, f3, f4, f5⟩ := h
  exact ⟨ba, o1, o2, o3, Aw, cw, bn, be, g1, g2, Wn, We, h1.touch ht (hs _ f1), h2.touch ht hs, ⟨h3.touch ht (fun p hp => hs _ (h4 p hp)), h4⟩, ⟨h5.touch ht (hs _ f2) (hs _ f3), h6⟩, ⟨h7.touch ht (hs _ f4) (hs _ f5), h8⟩, f1, f2, f3, f4, f5⟩
theorem SrAt.grow {F : Nat → Prop} {w w' : World} {x : Srch} {bx bf bh : Nat} (h : SrAt F w x bx bf bh) (hg : Grows w w') : SrAt F w' x bx bf bh := h.touch (hg.touch (fun _ => False)) (fun _ _ => id)
def DjAt (F S : Nat → Prop) (w : World) (x : Srch) (bx : Nat) (L : List (Nat × Nat)) (s : HS) : Prop :=
  ∃ bf gf bh S2, SrAt F w x bx bf bh ∧ (∃ m, StL w bf gf L m) ∧ HpAt w S2 bh s ∧ (S bf ∧ S gf ∧ (∀ k, S2 k → S k ∧ ¬ (k = bf ∨ k = gf))) ∧ (∀ k, F k → ¬ S k ∧ k < w.heap.size) ∧ (∀ k, S k → k < w.heap.size) ∧ L.length = x.N ∧ s.In x.N
theorem DjAt.touch {F S S' : Nat → Prop} {w w' : World} {x : Srch} {bx : Nat} {L : List (Nat × Nat)} {s : HS} (h : DjAt F S w x bx L s) (ht : Touch S' w w') (h1 : ∀ k, F k → ¬ S' k) (h2 : ∀ k, S k → ¬ S' k) : DjAt F S w' x bx L s := by
  obtain ⟨bf, gf, bh, S2, q1, ⟨m, q2⟩, q3, ⟨q4, q5, q6⟩, q7, q8, q9, q10⟩ := h
  exact ⟨bf, gf, bh, S2, q1.touch ht h1, ⟨m, q2.touch ht (h2 _ q4) (h2 _ q5)⟩, q3.touch ht (fun k hk => h2 k (q6 k hk).1), ⟨q4, q5, q6⟩, fun k hk => ⟨(q7 k hk).1, Nat.lt_of_lt_of_le (q7 k hk).2 ht.size⟩, fun k hk => Nat.lt_of_lt_of_le (q8 k hk) ht.size, q9, q10⟩
theorem DjAt.grow {F S : Nat → Prop} {w w' : World} {x : Srch} {bx : Nat} {L : List (Nat × Nat)} {s : HS} (h : DjAt F S w x bx L s) (hg : Grows w w') : DjAt F S w' x bx L s := h.touch (hg.touch (fun _ => False)) (fun _ _ => id) (fun _ _ => id)
def reachS (most : Nat) (st : List (Nat × Nat) × HS) (v f : Nat) : List (Nat × Nat) × HS :=
  if 0 < most ∧ most < f then st else if lessB (stD st.1 v) f then (st.1.set v (f, 1), (st.2.put v f).1) else st
def HOk (s : HS) (N : Nat) : Prop := (∀ v, v < N → gz s.T v = -1 ∨ 0 ≤ gz s.T v ∧ gz s.T v < s.L.length) ∧ s.L.length ≤ 90000
theorem put_keep_in {s : HS} {N v f : Nat} (h : s.In N) (hk : HOk s N) (hv : v < N) : (s.put v f).1.In N := by
  unfold HS.put
  split
  · exact HS.rise_in (put_in h hv) _ _ hv (by simp)
  · split
    · exact h
    · rename_i h1 _
      have := hk.1 v hv
      exact HS.rise_in h _ _ hv (by omega)
def GiveReach (F S : Nat → Prop) (w : World) (x : Srch) (bx : Nat) (st : List (Nat × Nat) × HS) (e : Ending) (w' : World) : Prop :=
  e = .returned (.tuple #[]) ∧ DjAt F (fun k => S k ∨ New w w' k) w' x bx st.1 st.2 ∧ Touch S w w'
theorem DjAt.more {F S : Nat → Prop} {w w' : World} {x : Srch} {bx : Nat} {L : List (Nat × Nat)} {s : HS} (h : DjAt F S w x bx L s) (hg : Grows w w') : DjAt F (fun k => S k ∨ New w w' k) w' x bx L s := by
  obtain ⟨bf, gf, bh, S2, q1, ⟨m, q2⟩, q3, ⟨q4, q5, q6⟩, q7, q8, q9, q10⟩ := h
  refine ⟨bf, gf, bh, S2, q1.grow hg, ⟨m, q2.grow hg⟩, q3.grow hg, ⟨.inl q4, .inl q5, fun k hk => ⟨.inl (q6 k hk).1, (q6 k hk).2⟩⟩, fun k hk => ⟨fun e => ?_, Nat.lt_of_lt_of_le (q7 k hk).2 hg.size⟩, fun k hk => ?_, q9, q10⟩
  · rcases e with e | ⟨e, _⟩
    · exact (q7 k hk).1 e
    · have := (q7 k hk).2; omega
  · rcases hk with e | ⟨_, e⟩
    · exact Nat.lt_of_lt_of_le (q8 k e) hg.size
    · exact e
theorem reach_put {F S S2 : Nat → Prop} {w w1 w2 : World} {x : Srch} {bx bf gf bh : Nat} {L' : List (Nat × Nat)} {s' : HS} {m' : Int} (q1 : SrAt F w x bx bf bh) (q4 : S bf) (q5 : S gf) (q6 : ∀ k, S2 k → S k ∧ ¬ (k = bf ∨ k = gf)) (q7 : ∀ k, F k → ¬ S k ∧ k < w.heap.size) (q8 : ∀ k, S k → k < w.heap.size)
    (ht1 : Touch (fun k => k = bf ∨ k = gf) w w1) (hs1 : StL w1 bf gf L' m') (hp2 : HpAt w2 (fun k => S2 k ∨ New w1 w2 k) bh s') (ht2 : Touch S2 w1 w2) (hl : L'.length = x.N) (hi : s'.In x.N) : DjAt F (fun k => S k ∨ New w w2 k) w2 x bx L' s' ∧ Touch S w w2 := by
  have hF1 : ∀ k, F k → ¬ (k = bf ∨ k = gf) := fun k hk e => by
    rcases e with rfl | rfl
    · exact (q7 _ hk).1 q4
    · exact (q7 _ hk).1 q5
  have hF2 : ∀ k, F k → ¬ S2 k := fun k hk e => (q7 k hk).1 (q6 k e).1
  have z1 := ht1.size
  have z2 := ht2.size
  refine ⟨⟨bf, gf, bh, fun k => S2 k ∨ New w1 w2 k, (q1.touch ht1 hF1).touch ht2 hF2, ⟨m', hs1.touch ht2 (fun e => (q6 _ e).2 (.inl rfl)) (fun e => (q6 _ e).2 (.inr rfl))⟩, hp2, ⟨.inl q4, .inl q5, fun k hk => ?_⟩, fun k hk => ⟨fun e => ?_, ?_⟩, fun k hk => ?_, hl, hi⟩, ?_⟩
  · rcases hk with hk | ⟨hk, hk2⟩
    · exact ⟨.inl (q6 k hk).1, (q6 k hk).2⟩
    · refine ⟨.inr ⟨by omega, hk2⟩, fun e => ?_⟩
      have h1 := q8 _ q4
      have h2 := q8 _ q5
      rcases e with rfl | rfl <;> omega
  · rcases e with e | ⟨e, _⟩
    · exact (q7 k hk).1 e
    · have := (q7 k hk).2; omega
  · have := (q7 k hk).2; omega
  · rcases hk with e | ⟨_, e⟩
    · have := q8 k e; omega
    · exact e
  · refine (ht1.mono fun k hk => ?_).trans (ht2.mono fun k hk => (q6 k hk).1)
    rcases hk with rfl | rfl
    · exact q4
    · exact q5
set_option maxRecDepth 20000 in
set_option maxHeartbeats 4000000 in
theorem djReach (F S : Nat → Prop) (x : Srch) (bx v f : Nat) (L : List (Nat × Nat)) (s : HS) (w : World) (h : DjAt F S w x bx L s) (hv : v < x.N) (hk : HOk s x.N) (hm : x.most < 18446744073709551616) :
    Calls Try.prog 139 #[.pointer (some ⟨bx, 0, none⟩), .int .i64 (v : Int), .int .u64 (f : Int)] w (GiveReach F S w x bx (reachS x.most (L, s) v f)) := by
  have HD := hide h
  obtain ⟨bf, gf, bh, S2, q1, ⟨m, q2⟩, q3, ⟨q4, q5, q6⟩, q7, q8, q9, q10⟩ := h
  have Q1 := hide q1
  have Q6 := hide q6
  have Q7 := hide q7
  have Q8 := hide q8
  have Q9 := hide q9
  have HIP : Hid ((s.put v f).1.In x.N) := put_keep_in q10 hk hv
  have Q10 := hide q10
  obtain ⟨ba, o1, o2, o3, Aw, cw, bn, be, g1, g2, Wn, We, h1, _, _, _, _, f1, _⟩ := q1
  have hne : ¬ (bx = bf ∨ bx = gf) := fun e => by
    rcases e with rfl | rfl
    · exact (q7 _ f1).1 q4
    · exact (q7 _ f1).1 q5
  have HNE := hide hne
  have CL := hide (stLeast bf gf L m v f w q2 (by omega))
  have HS2 := hide q3
  have HR : Hid (reachS x.most (L, s) v f = if 0 < x.most ∧ x.most < f then (L, s) else if lessB (stD L v) f then (L.set v (f, 1), (s.put v f).1) else (L, s)) := rfl
  have CP := hide (fun (W : World) (hq : HpAt W S2 bh s) (hs : w.heap.size ≤ W.heap.size) => hpPut bh x.N s v f S2 W hq (fun k hk => Nat.lt_of_lt_of_le (q8 k (q6 k hk).1) hs) q10 hv (hk.1 v hv) hk.2)
  have hS2n : ∀ k, S2 k → ¬ (k = bf ∨ k = gf) := fun k hk => (q6 k hk).2
  have HSN := hide hS2n
  clear q2 q3 q6 q7 q8 q9 q10 hk hne hS2n
  by_cases hc : 0 < x.most ∧ x.most < f
  · rw [if_pos hc] at HR
    have d1 : decide ((0 : Int) < (x.most : Int)) = true := decide_eq_true (by omega)
    have d2 : decide ((x.most : Int) < (f : Int)) = true := decide_eq_true (by omega)
    have d3 : decide (0 < x.most) = true := decide_eq_true hc.1
    have d4 : decide (x.most < f) = true := decide_eq_true hc.2
    clear hc
    generalize x.most = mo at *
    go_enter Try.func139, Try.ntmps139
    go_wp2_with fail
    refine bodyPost_ret (results_none rfl _ _ _) rfl ?_
    rw [HR.out]
    exact ⟨rfl, HD.out.more (Grows.refl _), Touch.refl _ _⟩
  · rw [if_neg hc] at HR
    have hc2 : x.most = 0 ∨ (0 < x.most ∧ f ≤ x.most) := by omega
    clear hc
    cases hr : lessB (stD L v) f with
    | true =>
      rw [hr] at CL HR
      clear hr
      rcases hc2 with hc2 | ⟨hc2, hc3⟩
      · have d1 : decide ((0 : Int) < (x.most : Int)) = false := decide_eq_false (by omega)
        have d3 : decide (0 < x.most) = false := decide_eq_false (by omega)
        clear hc2
        generalize x.most = mo at *
        go_enter Try.func139, Try.ntmps139
        go_wp2_with (first
          | (go_at_call 125; refine (CL.out).mono ?_; rintro e w1 ⟨rfl, ⟨m', hs1⟩, ht1⟩; have ha := h1.touch ht1 HNE.out; have HS1 := hide hs1; have HT1 := hide ht1; have HP1 := hide (HS2.out.touch ht1 HSN.out); clear hs1 ht1)
          | (go_at_call 114; refine (CP.out _ HP1.out HT1.out.size).mono ?_; rintro e w2 ⟨rfl, hp2, ht2⟩; have HP2 := hide hp2; have HT2 := hide ht2; clear hp2 ht2))
        all_goals
          go_end0
          rw [HR.out]
          have hz := reach_put Q1.out q4 q5 Q6.out Q7.out Q8.out HT1.out HS1.out HP2.out HT2.out (by simp; exact Q9.out) HIP.out
          exact ⟨rfl, hz.1, hz.2⟩
      · have d1 : decide ((0 : Int) < (x.most : Int)) = true := decide_eq_true (by omega)
        have d3 : decide (0 < x.most) = true := decide_eq_true hc2
        have d2 : decide ((x.most : Int) < (f : Int)) = false := decide_eq_false (by omega)
        have d4 : decide (x.most < f) = false := decide_eq_false (by omega)
        clear hc2 hc3
        generalize x.most = mo at *
        go_enter Try.func139, Try.ntmps139
        go_wp2_with (first
          | (go_at_call 125; refine (CL.out).mono ?_; rintro e w1 ⟨rfl, ⟨m', hs1⟩, ht1⟩; have ha := h1.touch ht1 HNE.out; have HS1 := hide hs1; have HT1 := hide ht1; have HP1 := hide (HS2.out.touch ht1 HSN.out); clear hs1 ht1)
          | (go_at_call 114; refine (CP.out _ HP1.out HT1.out.size).mono ?_; rintro e w2 ⟨rfl, hp2, ht2⟩; have HP2 := hide hp2; have HT2 := hide ht2; clear hp2 ht2))
        all_goals
          go_end0
          rw [HR.out]
          have hz := reach_put Q1.out q4 q5 Q6.out Q7.out Q8.out HT1.out HS1.out HP2.out HT2.out (by simp; exact Q9.out) HIP.out
          exact ⟨rfl, hz.1, hz.2⟩
    | false =>
      rw [hr] at CL HR
      clear hr CP
      rcases hc2 with hc2 | ⟨hc2, hc3⟩
      · have d1 : decide ((0 : Int) < (x.most : Int)) = false := decide_eq_false (by omega)
        have d3 : decide (0 < x.most) = false := decide_eq_false (by omega)
        clear hc2
        generalize x.most = mo at *
        go_enter Try.func139, Try.ntmps139
        go_wp2_with (go_at_call 125; refine (CL.out).mono ?_; rintro e w1 ⟨rfl, ⟨m', hs1⟩, ht1⟩; have ha := h1.touch ht1 HNE.out; have HS1 := hide hs1; have HT1 := hide ht1; have HP1 := hide (HS2.out.touch ht1 HSN.out); clear hs1 ht1)
        all_goals
          go_end0
          rw [HR.out]
          have hz := reach_put (S2 := S2) Q1.out q4 q5 Q6.out Q7.out Q8.out HT1.out HS1.out (HP1.out.mono (fun k hk => .inl hk)) (Touch.refl S2 _) Q9.out Q10.out
          exact ⟨rfl, hz.1, hz.2⟩
      · have d1 : decide ((0 : Int) < (x.most : Int)) = true := decide_eq_true (by omega)
        have d3 : decide (0 < x.most) = true := decide_eq_true hc2
        have d2 : decide ((x.most : Int) < (f : Int)) = false := decide_eq_false (by omega)
        have d4 : decide (x.most < f) = false := decide_eq_false (by omega)
        clear hc2 hc3
        generalize x.most = mo at *
        go_enter Try.func139, Try.ntmps139
        go_wp2_with (go_at_call 125; refine (CL.out).mono ?_; rintro e w1 ⟨rfl, ⟨m', hs1⟩, ht1⟩; have ha := h1.touch ht1 HNE.out; have HS1 := hide hs1; have HT1 := hide ht1; have HP1 := hide (HS2.out.touch ht1 HSN.out); clear hs1 ht1)
        all_goals
          go_end0
          rw [HR.out]
          have hz := reach_put (S2 := S2) Q1.out q4 q5 Q6.out Q7.out Q8.out HT1.out HS1.out (HP1.out.mono (fun k hk => .inl hk)) (Touch.refl S2 _) Q9.out Q10.out
          exact ⟨rfl, hz.1, hz.2⟩
end Go.Proofs.Ytgplpgldhoelcaa

namespace Go.Proofs.Ytgplpgldhoelcaa
open Go Go.RowKit
def toE (x : Srch) (i : Nat) : Nat := if x.back then fN x.E i else tN x.E i
abbrev St := List (Nat × Nat) × HS
def stepE (x : Srch) (f : Nat) (st : St) (i : Nat) : St := if (!x.ne i && !x.nn (toE x i)) = true then reachS x.most st (toE x i) (f + gn x.W i) else st
def stepK (x : Srch) (f : Nat) (st : St) (l : List Nat) : St := l.foldl (stepE x f) st
def rowX (x : Srch) (v : Nat) : List Nat := rowN (nN x.E x.back) x.E.length v
structure StepOk (x : Srch) (st : St) (v f : Nat) : Prop where
  top : gi2 st.2.L 0 = (v, f)
  pos : 0 < st.2.L.length
  lies : ∃ i : Nat, gz st.2.T v = (i : Int) ∧ i < st.2.L.length
  len : st.2.L.length ≤ 90000
  rounds : ∀ l r, rowX x v = l ++ r → HOk (stepK x f (st.1, st.2.drop v) l).2 x.N
  far : ∀ i, i < x.E.length → f + gn x.W i < 18446744073709551616
inductive Trace (x : Srch) : St → List (Nat × Nat) → Prop
  | done {st : St} : st.2.L.length = 0 → Trace x st []
  | step {st : St} {v f : Nat} {xs : List (Nat × Nat)} : StepOk x st v f → Trace x (stepK x f (st.1, st.2.drop v) (rowX x v)) xs → Trace x st ((v, f) :: xs)
structure SrchOk (x : Srch) : Prop where
  ends : InN x.N x.E
  edges : x.E.length ≤ 65536
  nodes : x.N ≤ 65536
  wts : x.W.length = x.E.length
  most : x.most < 18446744073709551616
end Go.Proofs.Ytgplpgldhoelcaa

