/- What a step may turn: of what was there, only the blocks of a set. -/
import Derived.RangeFuncRecord
import Derived.Deep.OwnRows
import Derived.StillTail
import Derived.Test.YtkfobolbilhjbaaGreatQFlowRounds01
namespace Go.Proofs.YtkfobolbilhjbaaGreat
open Go Go.RowKit

structure Touch (S : Nat → Prop) (w w' : World) : Prop where
  os : w'.os = w.os
  tape : w'.tape = w.tape
  output : w'.output = w.output
  size : w.heap.size ≤ w'.heap.size
  block : ∀ k, k < w.heap.size → ¬ S k → w'.heap[k]? = w.heap[k]?

def New (w w' : World) (k : Nat) : Prop := w.heap.size ≤ k ∧ k < w'.heap.size

section
variable {S S' : Nat → Prop} {a b c w w' : World}
theorem Touch.refl (S : Nat → Prop) (w : World) : Touch S w w := ⟨rfl, rfl, rfl, Nat.le_refl _, fun _ _ _ => rfl⟩
theorem Grows.touch (h : Grows w w') (S : Nat → Prop) : Touch S w w' := ⟨h.os, h.tape, h.output, h.size, fun k hk _ => h.block k hk⟩
theorem Touch.trans2 (h : Touch S a b) (k : Touch S' b c) (hs : ∀ k, S' k → S k ∨ a.heap.size ≤ k) : Touch S a c :=
  ⟨k.os.trans h.os, k.tape.trans h.tape, k.output.trans h.output, Nat.le_trans h.size k.size, fun i hi hn =>
    (k.block i (Nat.lt_of_lt_of_le hi h.size) fun e => by rcases hs i e with h1 | h1; exact hn h1; omega).trans (h.block i hi hn)⟩
theorem Touch.trans (h : Touch S a b) (k : Touch S b c) : Touch S a c := h.trans2 k fun _ h => .inl h
theorem Touch.mono (h : Touch S a b) (hs : ∀ k, S k → S' k) : Touch S' a b := ⟨h.os, h.tape, h.output, h.size, fun k hk hn => h.block k hk fun e => hn (hs k e)⟩
theorem Touch.grows (h : Touch S a b) (k : Grows b c) : Touch S a c := h.trans (k.touch S)
theorem Touch.now (h : Touch S a b) (x : Later b) : Touch S a x.now := h.grows x.grows
theorem Touch.new (h : Touch S a b) (o : Obj) : Touch S a (b.alloc o) := h.grows ((Grows.refl b).new o)
theorem Touch.drew (h : Touch S a b) : Touch S a b.drew := h.grows (Grows.refl b).drew
theorem Touch.drewN (h : Touch S a b) (n : Nat) : Touch S a (b.drewN n) := h.grows ((Grows.refl b).drewN n)
theorem heap_setCell (w : World) (p : Addr) (u : Value) (k : Nat) (h : k ≠ p.block) : (w.setCell p u).heap[k]? = w.heap[k]? := Below.heap_setCell w p u k h
theorem size_setCell (w : World) (p : Addr) (u : Value) : (w.setCell p u).heap.size = w.heap.size := by simp [World.setCell]
theorem Touch.set (h : Touch S a b) {p : Addr} (hp : S p.block ∨ a.heap.size ≤ p.block) (u : Value) : Touch S a (b.setCell p u) := by
  refine ⟨h.os, h.tape, h.output, by rw [size_setCell]; exact h.size, fun k hk hn => ?_⟩
  rw [heap_setCell _ _ _ _ (fun e => by subst e; rcases hp with hp | hp; exact hn hp; omega)]
  exact h.block k hk hn
theorem Touch.put (h : Touch S a b) {r : Nat} (hr : S r ∨ a.heap.size ≤ r) (o : Obj) : Touch S a (b.putObj r o) := by
  refine ⟨h.os, h.tape, h.output, by simp; exact h.size, fun k hk hn => ?_⟩
  rw [World.putObj_heap_other (fun e => by subst e; rcases hr with hp | hp; exact hn hp; omega)]
  exact h.block k hk hn
theorem Touch.grown {row : Option Nat} (h : Touch S a b) (hg : b.grownBy c row) (hr : ∀ k, row = some k → S k ∨ a.heap.size ≤ k) : Touch S a c := by
  refine ⟨hg.os.trans h.os, hg.tape.trans h.tape, hg.output.trans h.output, Nat.le_trans h.size hg.size, fun k hk hn => ?_⟩
  refine (hg.block k (Nat.lt_of_lt_of_le hk h.size) fun e => ?_).trans (h.block k hk hn)
  rcases hr k e.symm with h1 | h1
  · exact hn h1
  · omega
theorem Touch.below (h : Touch S a b) {n : Nat} (hs : ∀ k, S k → n ≤ k) (hn : n ≤ a.heap.size) : Below n a b :=
  ⟨h.os, h.tape, h.output, h.size, fun k hk => h.block k (by omega) fun e => by have := hs k e; omega⟩
theorem Touch.later {w0 : World} (hw0 : Grows w0 a) (h : Touch S a b) (hs : ∀ k, S k → w0.heap.size ≤ k) : Grows w0 b :=
  Below.trans hw0 (h.below hs hw0.size)
theorem Touch.cell (h : Touch S a b) {p : Addr} (hp : ¬ S p.block) {u : Value} (hc : a.cell? p = some u) : b.cell? p = some u := by
  rw [← hc]
  exact World.cell?_of_block (w := a) (h.block p.block (World.block_lt_of_cell? a p hc) hp)
theorem Touch.frozen (h : Touch S a b) {p : Addr} (hp : ¬ S p.block) {u : Value} (hc : a.cell? p = some u) : b.frozen? p = a.frozen? p :=
  World.frozen?_of_block (w := a) (h.block p.block (World.block_lt_of_cell? a p hc) hp)
theorem Touch.at (h : Touch S a b) {k : Nat} {o : Obj} (hp : ¬ S k) (hc : a.heap[k]? = some o) : b.heap[k]? = some o :=
  (h.block k (Array.getElem?_eq_some_iff.1 hc).1 hp).trans hc
theorem Mine.touch {p : Addr} {v : Value} (h : Mine a p v) (ht : Touch S a b) (hp : ¬ S p.block) : Mine b p v :=
  ⟨ht.cell hp h.cell, (ht.frozen hp h.cell).trans h.free⟩
theorem Holds.touch {p : Addr} {v : Value} (h : Holds a p v) (ht : Touch S a b) (hp : ¬ S p.block) : Holds b p v := ⟨ht.cell hp h.cell⟩
theorem Rd.touch {A : Option Addr} {size n : Nat} {xs : List Value} (h : Rd a A size n xs) (ht : Touch S a b) (hp : ∀ p, A = some p → ¬ S p.block) : Rd b A size n xs :=
  ⟨h.1, fun h1 h2 => by
    obtain ⟨g, off, e, hc⟩ := h.2 h1 h2
    exact ⟨g, off, e, fun j u hu => ht.cell (p := ⟨g, off + j, none⟩) (hp ⟨g, off, none⟩ e) (hc j u hu)⟩⟩
end

def Keeps (B M : Nat → Prop) (w w' : World) : Prop := Touch (fun k => ¬ (B k ∨ M k)) w w'
section
variable {B M M' S : Nat → Prop} {a b c : World}
theorem Keeps.refl (B M : Nat → Prop) (a : World) : Keeps B M a a := Touch.refl _ _
theorem Keeps.trans (h : Keeps B M a b) (k : Keeps B M b c) : Keeps B M a c := Touch.trans h k
theorem Keeps.mono (h : Keeps B M a b) (hM : ∀ k, M' k → M k) : Keeps B M' a b := Touch.mono h fun k h1 e => h1 (e.elim .inl fun e => .inr (hM k e))
theorem Touch.keeps (h : Touch S a b) (hs : ∀ k, S k → ¬ (B k ∨ M k)) : Keeps B M a b := Touch.mono h hs
theorem Keeps.at (h : Keeps B M a b) {k : Nat} {o : Obj} (hk : B k ∨ M k) (hc : a.heap[k]? = some o) : b.heap[k]? = some o :=
  Touch.at h (fun h1 => h1 hk) hc
theorem Keeps.cell (h : Keeps B M a b) {p : Addr} (hk : B p.block ∨ M p.block) {u : Value} (hc : a.cell? p = some u) : b.cell? p = some u :=
  Touch.cell h (fun h1 => h1 hk) hc
end
end Go.Proofs.YtkfobolbilhjbaaGreat

namespace Go.Proofs.YtkfobolbilhjbaaGreat
open Go Go.RowKit
class Arr (w : World) (g : Nat) (t : outParam TypeId) (cs : outParam (List Value)) : Prop where
  is : w.heap[g]? = some (.cells cs.toArray t (0, 0))
section
variable {w w' w0 : World} {g g' : Nat} {t t' : TypeId} {cs cs' : List Value} {S : Nat → Prop}
theorem Arr.lt (h : Arr w g t cs) : g < w.heap.size := (Array.getElem?_eq_some_iff.1 h.is).1
theorem Arr.cell (h : Arr w g t cs) (j : Nat) : w.cell? ⟨g, j, none⟩ = cs[j]? := by simp [World.cell?, h.is]
theorem Arr.free (h : Arr w g t cs) (j : Nat) : w.frozen? ⟨g, j, none⟩ = false := by simp [World.frozen?, h.is]
theorem Arr.mine (h : Arr w g t cs) (j : Nat) {u : Value} (hu : cs[j]? = some u) : Mine w ⟨g, j, none⟩ u := ⟨by rw [h.cell, hu], h.free j⟩
theorem Arr.grow (h : Arr w g t cs) (k : Grows w w') : Arr w' g t cs := ⟨(k.block g h.lt).trans h.is⟩
theorem Arr.touch (h : Arr w g t cs) (k : Touch S w w') (hS : ¬ S g) : Arr w' g t cs := ⟨k.at hS h.is⟩
theorem Arr.set (h : Arr w g t cs) (j : Nat) (u : Value) : Arr (w.setCell ⟨g, j, none⟩ u) g t (cs.set j u) :=
  ⟨by have := h.is; simp [World.setCell, Array.getElem?_modify, this]⟩
theorem Arr.other (h : Arr w g t cs) {p : Addr} (hp : p.block ≠ g) (u : Value) : Arr (w.setCell p u) g t cs :=
  ⟨by rw [heap_setCell _ _ _ _ (Ne.symm hp)]; exact h.is⟩
theorem Arr.put (h : Arr w g t cs) {r : Nat} (hr : g ≠ r) (o : Obj) : Arr (w.putObj r o) g t cs := ⟨(World.putObj_heap_other hr).trans h.is⟩
theorem Arr.ne (h : Arr w g t cs) (k : Arr w g' t' cs') (ht : t ≠ t') : g ≠ g' := fun e => by
  subst e
  have := h.is.symm.trans k.is
  injection this with this
  injection this with _ this
  exact ht this
theorem Arr.same (h : Arr w g t cs) (k : Arr w g t' cs') : t = t' ∧ cs = cs' := by
  have := h.is.symm.trans k.is
  injection this with this
  injection this with h1 h2
  exact ⟨h2, by simpa using h1⟩
theorem Arr.rd (h : Arr w g t cs) {size n : Nat} (hl : cs.length = n * size) : Rd w (some ⟨g, 0, none⟩) size n cs :=
  ⟨hl, fun _ _ => ⟨g, 0, rfl, fun j u hu => by rw [Nat.zero_add, h.cell]; exact hu⟩⟩
theorem Arr.make (w : World) (cs : List Value) (t : TypeId) : Arr (w.alloc (.cells cs.toArray t)) w.heap.size t cs := ⟨World.alloc_heap_new w _⟩
theorem Arr.own (h : Arr w g t cs) {B size n : Nat} (hB : B ≤ g) (hl : cs.length = n * size) (hn : n ≤ 1000000000) : Own w B t size (some ⟨g, 0, none⟩) n n cs :=
  ⟨hl, .inr ⟨g, n, cs.toArray, rfl, hB, h.is, Nat.le_refl _, by unfold maxLen; omega, by simpa using hl, by simp [← hl]⟩⟩
instance Arr.now (x : Later w) [h : Arr w g t cs] : Arr x.now g t cs := h.grow x.grows
instance Arr.alloc (o : Obj) [h : Arr w g t cs] : Arr (w.alloc o) g t cs := h.grow ((Grows.refl w).new o)
instance Arr.drew [h : Arr w g t cs] : Arr w.drew g t cs := h.grow (Grows.refl w).drew
instance Arr.drewN (n : Nat) [h : Arr w g t cs] : Arr (w.drewN n) g t cs := h.grow ((Grows.refl w).drewN n)
instance Arr.m0 {v : Value} {l : List Value} [h : Arr w g t (v :: l)] : Mine w ⟨g, 0, none⟩ v := h.mine 0 rfl
instance Arr.m1 {v0 v : Value} {l : List Value} [h : Arr w g t (v0 :: v :: l)] : Mine w ⟨g, 1, none⟩ v := h.mine 1 rfl
instance Arr.m2 {v0 v1 v : Value} {l : List Value} [h : Arr w g t (v0 :: v1 :: v :: l)] : Mine w ⟨g, 2, none⟩ v := h.mine 2 rfl
instance Arr.m3 {v0 v1 v2 v : Value} {l : List Value} [h : Arr w g t (v0 :: v1 :: v2 :: v :: l)] : Mine w ⟨g, 3, none⟩ v := h.mine 3 rfl
instance Arr.m4 {v0 v1 v2 v3 v : Value} {l : List Value} [h : Arr w g t (v0 :: v1 :: v2 :: v3 :: v :: l)] : Mine w ⟨g, 4, none⟩ v := h.mine 4 rfl
instance Arr.m5 {v0 v1 v2 v3 v4 v : Value} {l : List Value} [h : Arr w g t (v0 :: v1 :: v2 :: v3 :: v4 :: v :: l)] : Mine w ⟨g, 5, none⟩ v := h.mine 5 rfl
end

structure Row1 (w : World) (g : Nat) (e : TypeId) (size n c : Nat) (xs : List Value) : Prop where
  len : xs.length = n * size
  is : ∃ cur, w.heap[g]? = some (.cells cur e (0, 0)) ∧ n ≤ c ∧ c ≤ maxLen ∧ cur.size = c * size ∧ cur.toList.take (n * size) = xs
section
variable {w w' w0 : World} {B g g' n c size : Nat} {e t' : TypeId} {xs cs' : List Value} {S : Nat → Prop}
theorem Row1.own (h : Row1 w g e size n c xs) (hB : B ≤ g) : Own w B e size (some ⟨g, 0, none⟩) n c xs := by
  obtain ⟨cur, h1, h2, h3, h4, h5⟩ := h.is
  exact ⟨h.len, .inr ⟨g, c, cur, rfl, hB, h1, h2, h3, h4, h5⟩⟩
theorem Own.row (h : Own w B e size (some ⟨g, 0, none⟩) n c xs) : Row1 w g e size n c xs ∧ B ≤ g := by
  rcases h.2 with ⟨h1, _⟩ | ⟨g', cap, cur, h1, h2, h3, h4, h5, h6, h7⟩
  · cases h1
  · injection h1 with h1 _ h8
    injection h1 with h1
    injection h1 with h1
    subst h1 h8
    exact ⟨⟨h.1, cur, h3, h4, h5, h6, h7⟩, h2⟩
theorem Row1.lt (h : Row1 w g e size n c xs) : g < w.heap.size := by
  obtain ⟨cur, h1, _⟩ := h.is
  exact (Array.getElem?_eq_some_iff.1 h1).1
theorem Row1.mine (h : Row1 w g e size n c xs) {j : Nat} {u : Value} (hu : xs[j]? = some u) : Mine w ⟨g, j, none⟩ u := by
  obtain ⟨cur, h1, _, _, _, h5⟩ := h.is
  refine ⟨?_, by simp [World.frozen?, h1]⟩
  simp only [World.cell?, h1]
  rw [← h5] at hu
  have : j < n * size := by
    rcases Nat.lt_or_ge j (n * size) with h | h
    · exact h
    · rw [List.getElem?_eq_none (by simp; omega)] at hu; cases hu
  rw [List.getElem?_take, if_pos this] at hu
  simpa using hu
theorem Row1.grow (h : Row1 w g e size n c xs) (k : Grows w w') : Row1 w' g e size n c xs := by
  have hl := h.lt
  obtain ⟨cur, h1, h2⟩ := h.is
  exact ⟨h.len, cur, (k.block g hl).trans h1, h2⟩
theorem Row1.touch (h : Row1 w g e size n c xs) (k : Touch S w w') (hS : ¬ S g) : Row1 w' g e size n c xs := by
  obtain ⟨cur, h1, h2⟩ := h.is
  exact ⟨h.len, cur, k.at hS h1, h2⟩
theorem Row1.other (h : Row1 w g e size n c xs) {p : Addr} (hp : p.block ≠ g) (u : Value) : Row1 (w.setCell p u) g e size n c xs := by
  obtain ⟨cur, h1, h2⟩ := h.is
  exact ⟨h.len, cur, by rw [heap_setCell _ _ _ _ (Ne.symm hp)]; exact h1, h2⟩
theorem Row1.set (h : Row1 w g e size n c xs) (j : Nat) (u : Value) : Row1 (w.setCell ⟨g, j, none⟩ u) g e size n c (xs.set j u) := by
  obtain ⟨cur, h1, h2, h3, h4, h5⟩ := h.is
  refine ⟨by rw [List.length_set]; exact h.len, cur.setIfInBounds j u, by simp [World.setCell, Array.getElem?_modify, h1], h2, h3, by simpa using h4, ?_⟩
  rw [← h5]
  simp [List.take_set]
theorem Row1.ne (h : Row1 w g e size n c xs) (k : Arr w g' t' cs') (ht : e ≠ t') : g ≠ g' := fun e' => by
  subst e'
  obtain ⟨cur, h1, _⟩ := h.is
  have := h1.symm.trans k.is
  injection this with this
  injection this with _ this
  exact ht this
theorem Row1.ne2 {size' n' c' : Nat} (h : Row1 w g e size n c xs) (k : Row1 w g' t' size' n' c' cs') (ht : e ≠ t') : g ≠ g' := fun e' => by
  subst e'
  obtain ⟨cur, h1, _⟩ := h.is
  obtain ⟨cur', h2, _⟩ := k.is
  have := h1.symm.trans h2
  injection this with this
  injection this with _ this
  exact ht this
theorem Row1.rd (h : Row1 w g e size n c xs) : Rd w (some ⟨g, 0, none⟩) size n xs := (h.own (Nat.zero_le _)).rd
theorem Row1.cap (h : Row1 w g e size n c xs) : n ≤ c := by obtain ⟨cur, _, h2, _⟩ := h.is; exact h2
theorem Arr.row (h : Arr w g e xs) (hl : xs.length = n * size) (hn : n ≤ 1000000000) : Row1 w g e size n n xs :=
  ⟨hl, xs.toArray, h.is, Nat.le_refl _, by unfold maxLen; omega, by simpa using hl, by simp [← hl]⟩
theorem Row1.int {k : IntKind} {ys : List Int} (h : Row1 w g e 1 n c (ys.map (.int k))) {j : Nat} (hj : j < n) : Mine w ⟨g, j, none⟩ (.int k (gi ys j)) := by
  have hl := h.len
  simp at hl
  exact h.mine (by simp [gi, show j < ys.length by omega])
end
theorem run_makeInts (n : Nat) (hn : n ≤ 1000000000) (w : World) : (Instr.makeSlice 48 (.int .i64 (n : Int)) (.int .i64 (n : Int))).run Tryz.prog w = .ok (.slice (some ⟨w.heap.size, 0, none⟩) n n) (w.alloc (.cells (List.replicate n (Value.int .i64 0)).toArray 3)) := by
  obtain ⟨i, h1, h2, h3, h4⟩ := elemInt1.info
  have := run_make_row (P := Tryz.prog) 48 3 i (.int .i64 0) Tryz.underlying48 h1 h2 h3 rfl .i64 .i64 n (by have := Nat.mul_le_mul h4 hn; omega) (by omega) w
  have e : madeCells #[Value.int .i64 0] n = (List.replicate n (Value.int .i64 0)).toArray := Array.ext' (by rw [toList_madeCells_one])
  rw [e] at this
  exact this
end Go.Proofs.YtkfobolbilhjbaaGreat

namespace Go.Proofs.YtkfobolbilhjbaaGreat
open Go Go.RowKit
attribute [local go_sem] Oper.semAt_some
theorem lt_hi {V hi lo d B : Nat} (h : V = hi * B + lo) (hl : lo < B) (hd : hi < d) : V / d < B := by
  have h9 : (hi + 1) * B ≤ d * B := Nat.mul_le_mul_right _ hd
  rw [Nat.succ_mul] at h9
  exact Nat.div_lt_of_lt_mul (by omega)
theorem ge_hi {V hi lo d B : Nat} (h : V = hi * B + lo) (h0 : 0 < d) (hd : d ≤ hi) : B ≤ V / d := by
  rw [Nat.le_div_iff_mul_le h0, Nat.mul_comm]
  have h9 : d * B ≤ hi * B := Nat.mul_le_mul_right _ hd
  omega
def cl (V b : Nat) : Nat := V / b + if V % b = 0 then 0 else 1
def upV (w : Nat) (a b : Int) (m : Nat) : Nat := if rrB a b then min (cl (w * a.toNat) b.toNat) m else 0
theorem upRun (x y : Int) (hx : 0 ≤ x) (hy : 0 ≤ y) (w : World) : (callFunc 42 #[.int .u64 x, .int .u64 y, .int .u64 0]).run Tryz.prog w =
    .ok (.value (.tuple #[.int .u64 ((x + y) % 18446744073709551616), .int .u64 ((x + y) / 18446744073709551616)])) w := by
  rw [run_callFunc_extern Tryz.func42 (by kernel_rfl) (by kernel_rfl) (by kernel_rfl) (e := add64Entry) (by kernel_rfl), run_add64 x y 0 hx hy (Int.le_refl 0) (by decide)]
  simp [Result.andThen]
set_option maxHeartbeats 2000000 in
theorem numCapU (a b : Int) (w : World) : Calls Tryz.prog 21 #[.int .u64 a, .int .u64 b] w fun e w' => e = .returned (.int .u64 (min a b)) ∧ Grows w w' := by
  go_enter Tryz.func21, Tryz.ntmps21
  go_wp2
  go_ret
  exact ⟨rfl, Grows.refl _⟩
set_option maxRecDepth 20000 in
set_option maxHeartbeats 4000000 in
theorem ratioUp (x : Nat) (a b : Int) (m : Nat) (hx : x < 18446744073709551616) (hm : m < 18446744073709551616) (w : World) :
    Calls Tryz.prog 22 #[.int .u64 (x : Int), .agg #[.int .u64 a, .int .u64 b], .int .u64 (m : Int)] w fun e w' => e = .returned (.int .u64 (upV x a b m : Int)) ∧ Grows w w' := by
  have C1 := hide (fun (W : World) => ratioRight a b W)
  unfold upV
  cases hr : rrB a b with
  | false =>
    rw [hr] at C1
    clear hr
    rw [if_neg (by simp)]
    go_enter Tryz.func22, Tryz.ntmps22
    go_wp2_with (first | (go_at_call 16; refine (C1.out _).mono ?_; rintro e w' ⟨rfl, hg⟩; (first | obtain ⟨x, rfl⟩ := Grows.later2 hg | obtain ⟨x, rfl⟩ := Grows.later hg); clear hg))
    go_ret
    exact ⟨rfl, GG⟩
  | true =>
    rw [hr] at C1
    rw [if_pos rfl]
    obtain ⟨r1, r2, r3, r4⟩ := rrB_spec hr
    obtain ⟨aN, rfl⟩ : ∃ aN : Nat, a = (aN : Int) := ⟨a.toNat, by omega⟩
    obtain ⟨d, rfl⟩ : ∃ d : Nat, b = (d : Int) := ⟨b.toNat, by omega⟩
    rw [Int.toNat_natCast, Int.toNat_natCast]
    have hVm : x * aN < 18446744073709551616 * 1048577 := by
      refine Nat.lt_of_le_of_lt (Nat.mul_le_mul_left x (show aN ≤ 1048576 by omega)) ?_
      omega
    have C2 := hide (fun (W : World) => show Calls Tryz.prog 40 #[.int .u64 (x : Int), .int .u64 (aN : Int)] W fun e w' => e = .returned (.agg #[.int .u64 ((x * aN / 18446744073709551616 : Nat) : Int), .int .u64 ((x * aN % 18446744073709551616 : Nat) : Int)]) ∧ Grows W w' from by
      have hq := ratioTimes (x : Int) (aN : Int) W ⟨by omega, by omega⟩ ⟨by omega, by omega⟩
      unfold hiP loP at hq
      rw [← Int.natCast_mul] at hq
      exact hq)
    generalize hV : x * aN = V at *
    have hV2 : V = V / 18446744073709551616 * 18446744073709551616 + V % 18446744073709551616 := by omega
    obtain ⟨hi, hhi⟩ : ∃ hi, hi = V / 18446744073709551616 := ⟨_, rfl⟩
    obtain ⟨lo, hlo⟩ : ∃ lo, lo = V % 18446744073709551616 := ⟨_, rfl⟩
    have hlol : lo < 18446744073709551616 := by omega
    rw [← hhi, ← hlo] at C2 hV2
    by_cases hbig : d ≤ hi
    · have hres : min (cl V d) m = m := by
        have h1 : 18446744073709551616 ≤ V / d := ge_hi hV2 (by omega) hbig
        unfold cl
        omega
      rw [hres]
      clear hr r1 r2 r3 r4 hVm hV hV2 hhi hlo hlol hres hx hm
      have hdd : decide ((d : Int) ≤ (hi : Int)) = true := decide_eq_true (by omega)
      generalize (hi : Int) = hiI at *
      generalize (lo : Int) = loI at *
      generalize (d : Int) = dI at *
      generalize (m : Int) = mI at *
      clear hbig
      go_enter Tryz.func22, Tryz.ntmps22
      go_wp2_with (first | (go_at_call 16; refine (C1.out _).mono ?_; rintro e w' ⟨rfl, hg⟩; (first | obtain ⟨x, rfl⟩ := Grows.later2 hg | obtain ⟨x, rfl⟩ := Grows.later hg); clear hg) | (go_at_call 40; refine (C2.out _).mono ?_; rintro e w' ⟨rfl, hg⟩; (first | obtain ⟨x, rfl⟩ := Grows.later2 hg | obtain ⟨x, rfl⟩ := Grows.later hg); clear hg))
      go_ret
      exact ⟨rfl, GG⟩
    · have C3 := hide (fun (W : World) => show Calls Tryz.prog 41 #[.int .u64 (hi : Int), .int .u64 (lo : Int), .int .u64 (d : Int)] W fun e w' => e = .returned (.tuple #[.int .u64 ((V / d : Nat) : Int), .int .u64 ((V % d : Nat) : Int)]) ∧ Grows W w' from by
        have hq := bDiv64 hi lo d (by omega) (by omega) (by omega) hlol W
        rw [← hV2] at hq
        exact hq)
      have C4 := hide (fun (u v : Int) (W : World) => numCapU u v W)
      have hVd : V / d < 18446744073709551616 := lt_hi hV2 hlol (by omega)
      have hdd : decide ((d : Int) ≤ (hi : Int)) = false := decide_eq_false (by omega)
      unfold cl
      by_cases hz : V % d = 0
      · rw [if_pos hz, Nat.add_zero]
        rw [hz] at C3
        obtain ⟨q, hq⟩ : ∃ q, q = V / d := ⟨_, rfl⟩
        rw [← hq] at C3 ⊢
        rw [show ((min q m : Nat) : Int) = min (q : Int) (m : Int) by omega]
        clear hr r1 r2 r3 r4 hVm hV hV2 hhi hlo hlol hx hm hbig hVd hz hq
        generalize (hi : Int) = hiI at *
        generalize (lo : Int) = loI at *
        generalize (d : Int) = dI at *
        generalize (m : Int) = mI at *
        generalize (q : Int) = qI at *
        go_enter Tryz.func22, Tryz.ntmps22
        go_wp2_with (first | (go_at_call 16; refine (C1.out _).mono ?_; rintro e w' ⟨rfl, hg⟩; (first | obtain ⟨x, rfl⟩ := Grows.later2 hg | obtain ⟨x, rfl⟩ := Grows.later hg); clear hg) | (go_at_call 40; refine (C2.out _).mono ?_; rintro e w' ⟨rfl, hg⟩; (first | obtain ⟨x, rfl⟩ := Grows.later2 hg | obtain ⟨x, rfl⟩ := Grows.later hg); clear hg) | (go_at_call 41; refine (C3.out _).mono ?_; rintro e w' ⟨rfl, hg⟩; (first | obtain ⟨x, rfl⟩ := Grows.later2 hg | obtain ⟨x, rfl⟩ := Grows.later hg); clear hg) | (go_at_call 21; refine (C4.out _ _ _).mono ?_; rintro e w' ⟨rfl, hg⟩; (first | obtain ⟨x, rfl⟩ := Grows.later2 hg | obtain ⟨x, rfl⟩ := Grows.later hg); clear hg))
        go_ret
        exact ⟨rfl, GG⟩
      · rw [if_neg hz]
        obtain ⟨rest, hrest⟩ : ∃ rest, rest = V % d := ⟨_, rfl⟩
        obtain ⟨q, hq⟩ : ∃ q, q = V / d := ⟨_, rfl⟩
        rw [← hrest, ← hq] at C3
        rw [← hq]
        rw [← hrest] at hz
        rw [← hq] at hVd
        have hr0 : decide ((0 : Int) < (rest : Int)) = true := decide_eq_true (by omega)
        have C5 := upRun (q : Int) 1 (by omega) (by omega)
        by_cases hov : q + 1 = 18446744073709551616
        · rw [show ((min (q + 1) m : Nat) : Int) = (m : Int) by omega]
          have C6 : ∀ W : World, (callFunc 42 #[.int .u64 (q : Int), .int .u64 1, .int .u64 0]).run Tryz.prog W = .ok (.value (.tuple #[.int .u64 0, .int .u64 1])) W := fun W => by
            have := C5 W
            rw [show ((q : Int) + 1) % 18446744073709551616 = 0 by omega, show ((q : Int) + 1) / 18446744073709551616 = 1 by omega] at this
            exact this
          clear hr r1 r2 r3 r4 hVm hV hV2 hhi hlo hlol hx hm hbig hVd hz hq hrest hov C5
          generalize (hi : Int) = hiI at *
          generalize (lo : Int) = loI at *
          generalize (d : Int) = dI at *
          generalize (m : Int) = mI at *
          generalize (q : Int) = qI at *
          generalize (rest : Int) = restI at *
          go_enter Tryz.func22, Tryz.ntmps22
          go_wp2_with (first | (go_at_call 16; refine (C1.out _).mono ?_; rintro e w' ⟨rfl, hg⟩; (first | obtain ⟨x, rfl⟩ := Grows.later2 hg | obtain ⟨x, rfl⟩ := Grows.later hg); clear hg) | (go_at_call 40; refine (C2.out _).mono ?_; rintro e w' ⟨rfl, hg⟩; (first | obtain ⟨x, rfl⟩ := Grows.later2 hg | obtain ⟨x, rfl⟩ := Grows.later hg); clear hg) | (go_at_call 41; refine (C3.out _).mono ?_; rintro e w' ⟨rfl, hg⟩; (first | obtain ⟨x, rfl⟩ := Grows.later2 hg | obtain ⟨x, rfl⟩ := Grows.later hg); clear hg))
          go_ret
          exact ⟨rfl, GG⟩
        · rw [show ((min (q + 1) m : Nat) : Int) = min ((q : Int) + 1) (m : Int) by omega]
          have C6 : ∀ W : World, (callFunc 42 #[.int .u64 (q : Int), .int .u64 1, .int .u64 0]).run Tryz.prog W = .ok (.value (.tuple #[.int .u64 ((q : Int) + 1), .int .u64 0])) W := fun W => by
            have := C5 W
            rw [show ((q : Int) + 1) % 18446744073709551616 = (q : Int) + 1 by omega, show ((q : Int) + 1) / 18446744073709551616 = 0 by omega] at this
            exact this
          clear hr r1 r2 r3 r4 hVm hV hV2 hhi hlo hlol hx hm hbig hVd hz hq hrest hov C5
          generalize (hi : Int) = hiI at *
          generalize (lo : Int) = loI at *
          generalize (d : Int) = dI at *
          generalize (m : Int) = mI at *
          generalize (q : Int) + 1 = qI at *
          generalize (q : Int) = pI at *
          generalize (rest : Int) = restI at *
          go_enter Tryz.func22, Tryz.ntmps22
          go_wp2_with (first | (go_at_call 16; refine (C1.out _).mono ?_; rintro e w' ⟨rfl, hg⟩; (first | obtain ⟨x, rfl⟩ := Grows.later2 hg | obtain ⟨x, rfl⟩ := Grows.later hg); clear hg) | (go_at_call 40; refine (C2.out _).mono ?_; rintro e w' ⟨rfl, hg⟩; (first | obtain ⟨x, rfl⟩ := Grows.later2 hg | obtain ⟨x, rfl⟩ := Grows.later hg); clear hg) | (go_at_call 41; refine (C3.out _).mono ?_; rintro e w' ⟨rfl, hg⟩; (first | obtain ⟨x, rfl⟩ := Grows.later2 hg | obtain ⟨x, rfl⟩ := Grows.later hg); clear hg) | (go_at_call 21; refine (C4.out _ _ _).mono ?_; rintro e w' ⟨rfl, hg⟩; (first | obtain ⟨x, rfl⟩ := Grows.later2 hg | obtain ⟨x, rfl⟩ := Grows.later hg); clear hg))
          go_ret
          exact ⟨rfl, GG⟩
end Go.Proofs.YtkfobolbilhjbaaGreat

namespace Go.Proofs.YtkfobolbilhjbaaGreat
open Go Go.RowKit
attribute [local go_sem] Oper.semAt_some
theorem castMin (a b : Nat) : ((min a b : Nat) : Int) = min (a : Int) (b : Int) := by omega
theorem min_big {q K A m : Nat} (h : 0 < q) (hm : m < K * K) : min (q * (K * K) + A) m = m := by
  have := Nat.le_mul_of_pos_left (K * K) h
  omega
theorem digits {V d p0 p1 p2 b : Nat} (hV : V = p0 * (b * b) + p1 * b + p2) (hd : 0 < d) (h1 : p1 < b) (h2 : p2 < b) : (p0 % d * b + p1) / d < b ∧ ((p0 % d * b + p1) % d * b + p2) / d < b ∧ V / d = p0 / d * (b * b) + (p0 % d * b + p1) / d * b + ((p0 % d * b + p1) % d * b + p2) / d ∧ V % d = ((p0 % d * b + p1) % d * b + p2) % d := by
  have lt : ∀ r p : Nat, r < d → p < b → (r * b + p) / d < b := fun r p hr hp => lt_hi (V := r * b + p) (hi := r) (lo := p) (B := b) rfl hp hr
  have e0 := Nat.div_add_mod p0 d
  have m0 := Nat.mod_lt p0 hd
  obtain ⟨x1, hx1⟩ : ∃ x, x = p0 % d * b + p1 := ⟨_, rfl⟩
  have e1 := Nat.div_add_mod x1 d
  have m1 := Nat.mod_lt x1 hd
  obtain ⟨x2, hx2⟩ : ∃ x, x = x1 % d * b + p2 := ⟨_, rfl⟩
  have e2 := Nat.div_add_mod x2 d
  have m2 := Nat.mod_lt x2 hd
  rw [← hx1, ← hx2]
  refine ⟨by rw [hx1]; exact lt _ _ m0 h1, by rw [hx2]; exact lt _ _ m1 h2, ?_⟩
  have key : V = d * (p0 / d * (b * b) + x1 / d * b + x2 / d) + x2 % d := by
    have a1 : p0 * (b * b) = d * (p0 / d) * (b * b) + p0 % d * (b * b) := by rw [← Nat.add_mul, e0]
    have a2 : x1 * b = d * (x1 / d) * b + x1 % d * b := by rw [← Nat.add_mul, e1]
    have a3 : x1 * b = p0 % d * b * b + p1 * b := by rw [hx1, Nat.add_mul]
    have a4 : p0 % d * b * b = p0 % d * (b * b) := Nat.mul_assoc _ _ _
    rw [hV, Nat.mul_add, Nat.mul_add, ← Nat.mul_assoc d, ← Nat.mul_assoc d]
    omega
  rw [key]
  exact ⟨by rw [Nat.mul_add_div hd, Nat.div_eq_of_lt m2, Nat.add_zero], by rw [Nat.mul_add_mod, Nat.mod_eq_of_lt m2]⟩
set_option maxRecDepth 20000 in
set_option maxHeartbeats 4000000 in
theorem rUp (x : Nat) (a b : Int) (m : Nat) (hx : x < 18446744073709551616) (hm : m < 18446744073709551616) (ha : U64 a) (w : World) :
    Calls Tryz.prog 24 #[.int .u64 (x : Int), .agg #[.int .u64 a, .int .u64 b], .int .u64 (m : Int)] w fun e w' => e = .returned (.int .u64 (upV x a b m : Int)) ∧ Grows w w' := by
  have C1 := hide (fun (W : World) => rRight a b W ha)
  unfold upV
  cases hr : rrB a b with
  | false =>
    rw [hr] at C1
    clear hr
    rw [if_neg (by simp)]
    go_enter Tryz.func24, Tryz.ntmps24
    go_wp2_with (first | (go_at_call 18; refine (C1.out _).mono ?_; rintro e w' ⟨rfl, hg⟩; (first | obtain ⟨x, rfl⟩ := Grows.later2 hg | obtain ⟨x, rfl⟩ := Grows.later hg); clear hg))
    go_ret
    exact ⟨rfl, GG⟩
  | true =>
    rw [hr] at C1
    rw [if_pos rfl]
    obtain ⟨r1, r2, r3, r4⟩ := rrB_spec hr
    obtain ⟨aN, rfl⟩ : ∃ aN : Nat, a = (aN : Int) := ⟨a.toNat, by omega⟩
    obtain ⟨d, rfl⟩ : ∃ d : Nat, b = (d : Int) := ⟨b.toNat, by omega⟩
    rw [Int.toNat_natCast, Int.toNat_natCast]
    have C2 := hide (fun (W : World) => show Calls Tryz.prog 45 #[.int .u64 (x : Int), .int .u64 (aN : Int)] W fun e w' => e = .returned (.agg #[.int .u64 ((x * aN / 18446744073709551616 : Nat) : Int), .int .u64 ((x * aN / 4294967296 % 4294967296 : Nat) : Int), .int .u64 ((x * aN % 4294967296 : Nat) : Int)]) ∧ Grows W w' from by
      have hq := rTimes (x : Int) (aN : Int) W ⟨by omega, by omega⟩ ⟨by omega, by omega⟩
      rw [← Int.natCast_mul] at hq
      exact hq)
    have hVm : x * aN < 18446744073709551616 * 1048577 := by
      refine Nat.lt_of_le_of_lt (Nat.mul_le_mul_left x (show aN ≤ 1048576 by omega)) ?_
      omega
    generalize hV : x * aN = V at *
    obtain ⟨p0, hp0⟩ : ∃ p, p = V / 18446744073709551616 := ⟨_, rfl⟩
    obtain ⟨p1, hp1⟩ : ∃ p, p = V / 4294967296 % 4294967296 := ⟨_, rfl⟩
    obtain ⟨p2, hp2⟩ : ∃ p, p = V % 4294967296 := ⟨_, rfl⟩
    have hV3 : V = p0 * (4294967296 * 4294967296) + p1 * 4294967296 + p2 := by omega
    have lp0 : p0 < 1048577 := by omega
    have lp1 : p1 < 4294967296 := by omega
    have lp2 : p2 < 4294967296 := by omega
    rw [← hp0, ← hp1, ← hp2] at C2
    obtain ⟨l1, l2, hq, hmod⟩ := digits hV3 (show 0 < d by omega) lp1 lp2
    obtain ⟨q0, hq0⟩ : ∃ q, q = p0 / d := ⟨_, rfl⟩
    obtain ⟨s0, hs0⟩ : ∃ q, q = p0 % d := ⟨_, rfl⟩
    rw [← hs0] at l1 l2 hq hmod
    rw [← hq0] at hq
    obtain ⟨x1, hx1⟩ : ∃ q, q = s0 * 4294967296 + p1 := ⟨_, rfl⟩
    rw [← hx1] at l1 l2 hq hmod
    obtain ⟨q1, hq1⟩ : ∃ q, q = x1 / d := ⟨_, rfl⟩
    obtain ⟨s1, hs1⟩ : ∃ q, q = x1 % d := ⟨_, rfl⟩
    rw [← hs1] at l2 hq hmod
    rw [← hq1] at l1 hq
    obtain ⟨x2, hx2⟩ : ∃ q, q = s1 * 4294967296 + p2 := ⟨_, rfl⟩
    rw [← hx2] at l2 hq hmod
    obtain ⟨q2, hq2⟩ : ∃ q, q = x2 / d := ⟨_, rfl⟩
    obtain ⟨s2, hs2⟩ : ∃ q, q = x2 % d := ⟨_, rfl⟩
    rw [← hs2] at hmod
    rw [← hq2] at l2 hq
    have b0 : s0 < d := by rw [hs0]; exact Nat.mod_lt _ (by omega)
    have b1 : s1 < d := by rw [hs1]; exact Nat.mod_lt _ (by omega)
    have b2 : s2 < d := by rw [hs2]; exact Nat.mod_lt _ (by omega)
    have bq0 : q0 ≤ p0 := by rw [hq0]; exact Nat.div_le_self _ _
    have td : ∀ u v : Nat, (u : Int).tdiv (v : Int) = ((u / v : Nat) : Int) := fun u v => by rw [Int.tdiv_eq_ediv_of_nonneg (by omega), ← Int.natCast_ediv]
    have tm : ∀ u v : Nat, (u : Int).tmod (v : Int) = ((u % v : Nat) : Int) := fun u v => by rw [Int.tmod_eq_emod_of_nonneg (by omega), ← Int.natCast_emod]
    have E1 : IntKind.u64.wrap ((p0 : Int).tdiv (d : Int)) = (q0 : Int) := by rw [td, ← hq0]; exact wrapI (by omega)
    have E2 : (p0 : Int).tmod (d : Int) = (s0 : Int) := by rw [tm, ← hs0]
    have E3 : IntKind.u64.wrap (IntKind.u64.wrap ((s0 : Int) * 4294967296) + (p1 : Int)) = (x1 : Int) := by
      rw [wrap2, show (s0 : Int) * 4294967296 + (p1 : Int) = (x1 : Int) by omega]
      exact wrapI (by omega)
    have E4 : IntKind.u64.wrap ((x1 : Int).tdiv (d : Int)) = (q1 : Int) := by rw [td, ← hq1]; exact wrapI (by omega)
    have E5 : (x1 : Int).tmod (d : Int) = (s1 : Int) := by rw [tm, ← hs1]
    have E6 : IntKind.u64.wrap (IntKind.u64.wrap ((s1 : Int) * 4294967296) + (p2 : Int)) = (x2 : Int) := by
      rw [wrap2, show (s1 : Int) * 4294967296 + (p2 : Int) = (x2 : Int) by omega]
      exact wrapI (by omega)
    have E7 : IntKind.u64.wrap ((x2 : Int).tdiv (d : Int)) = (q2 : Int) := by rw [td, ← hq2]; exact wrapI (by omega)
    have E8 : (x2 : Int).tmod (d : Int) = (s2 : Int) := by rw [tm, ← hs2]
    have E9 : IntKind.u64.wrap (p0 : Int) = (p0 : Int) := wrapI (by omega)
    have W0 : IntKind.u64.wrap 0 = 0 := rfl
    have hd0 : ((d : Int) == 0) = false := beq_eq_false_iff_ne.2 (by omega)
    have hd1 : ¬ (d : Int) = 0 := by omega
    unfold cl
    rw [hmod, hq]
    obtain ⟨n, hn⟩ : ∃ n, n = q1 * 4294967296 + q2 := ⟨_, rfl⟩
    have E10 : IntKind.u64.wrap (IntKind.u64.wrap ((q1 : Int) * 4294967296) + (q2 : Int)) = (n : Int) := by
      rw [wrap2, show (q1 : Int) * 4294967296 + (q2 : Int) = (n : Int) by omega]
      exact wrapI (by omega)
    by_cases hz0 : 0 < q0
    · rw [show q0 * (4294967296 * 4294967296) + q1 * 4294967296 + q2 + (if s2 = 0 then 0 else 1) = q0 * (4294967296 * 4294967296) + (q1 * 4294967296 + q2 + (if s2 = 0 then 0 else 1)) by rw [Nat.add_assoc, Nat.add_assoc, ← Nat.add_assoc (q1 * 4294967296)], min_big hz0 hm]
      have hb9 : decide ((0 : Int) < (q0 : Int)) = true := decide_eq_true (by omega)
      clear hr r1 r2 r3 r4 hVm hV hV3 hp0 hp1 hp2 lp0 lp1 lp2 l1 l2 hq hmod hq0 hs0 hx1 hq1 hs1 hx2 hq2 hs2 b0 b1 b2 bq0 td tm hn hx hm ha hz0
      generalize (x : Int) = xI at *
      generalize (aN : Int) = aNI at *
      generalize (d : Int) = dI at *
      generalize (p0 : Int) = p0I at *
      generalize (p1 : Int) = p1I at *
      generalize (p2 : Int) = p2I at *
      generalize (q0 : Int) = q0I at *
      generalize (s0 : Int) = s0I at *
      generalize (x1 : Int) = x1I at *
      generalize (q1 : Int) = q1I at *
      generalize (s1 : Int) = s1I at *
      generalize (x2 : Int) = x2I at *
      generalize (q2 : Int) = q2I at *
      generalize (s2 : Int) = s2I at *
      generalize (n : Int) = nI at *
      generalize (m : Int) = mI at *
      go_enter Tryz.func24, Tryz.ntmps24
      go_wp2_with (first
        | (go_at_call 18; refine (C1.out _).mono ?_; rintro e w' ⟨rfl, hg⟩; obtain ⟨y1, rfl⟩ := hg.later; clear hg)
        | (go_at_call 45; refine (C2.out _).mono ?_; rintro e w' ⟨rfl, hg⟩; obtain ⟨y2, rfl⟩ := hg.later; clear hg))
      refine wp_loop_rounds 4 ?_
      repeat (any_goals (rw [rounds_succ]; go_wp2))
      go_ret
      exact ⟨rfl, GG⟩
    · have hz1 : q0 = 0 := Nat.eq_zero_of_not_pos hz0
      have hb9 : decide ((0 : Int) < (q0 : Int)) = false := by rw [hz1]; rfl
      have hn2 : n < 18446744073709551616 := by clear E1 E2 E3 E4 E5 E6 E7 E8 E9 E10 hV3 hVm; omega
      rw [show q0 * (4294967296 * 4294967296) + q1 * 4294967296 + q2 = n by rw [hz1, Nat.zero_mul, Nat.zero_add, hn]]
      clear hz0 hz1
      by_cases hs : s2 = 0
      · rw [if_pos hs, Nat.add_zero, show ((min n m : Nat) : Int) = min (n : Int) (m : Int) from castMin n m]
        have hb8 : decide ((0 : Int) < (s2 : Int)) = false := by rw [hs]; rfl
        clear hr r1 r2 r3 r4 hVm hV hV3 hp0 hp1 hp2 lp0 lp1 lp2 l1 l2 hq hmod hq0 hs0 hx1 hq1 hs1 hx2 hq2 hs2 b0 b1 b2 bq0 td tm hn hx hm ha hs hn2
        generalize (x : Int) = xI at *
        generalize (aN : Int) = aNI at *
        generalize (d : Int) = dI at *
        generalize (p0 : Int) = p0I at *
        generalize (p1 : Int) = p1I at *
        generalize (p2 : Int) = p2I at *
        generalize (q0 : Int) = q0I at *
        generalize (s0 : Int) = s0I at *
        generalize (x1 : Int) = x1I at *
        generalize (q1 : Int) = q1I at *
        generalize (s1 : Int) = s1I at *
        generalize (x2 : Int) = x2I at *
        generalize (q2 : Int) = q2I at *
        generalize (s2 : Int) = s2I at *
        generalize (n : Int) = nI at *
        generalize (m : Int) = mI at *
        go_enter Tryz.func24, Tryz.ntmps24
        go_wp2_with (first
          | (go_at_call 18; refine (C1.out _).mono ?_; rintro e w' ⟨rfl, hg⟩; obtain ⟨y1, rfl⟩ := hg.later; clear hg)
          | (go_at_call 45; refine (C2.out _).mono ?_; rintro e w' ⟨rfl, hg⟩; obtain ⟨y2, rfl⟩ := hg.later; clear hg))
        refine wp_loop_rounds 4 ?_
        repeat (any_goals (rw [rounds_succ]; go_wp2))
        go_ret
        exact ⟨rfl, GG⟩
      · rw [if_neg hs]
        have hb8 : decide ((0 : Int) < (s2 : Int)) = true := decide_eq_true (by omega)
        by_cases hmax : n = 18446744073709551615
        · rw [show min (n + 1) m = m by clear E1 E2 E3 E4 E5 E6 E7 E8 E9 E10 hV3 hVm; omega]
          have hb7 : ((n : Int) == 18446744073709551615) = true := by rw [hmax]; rfl
          clear hr r1 r2 r3 r4 hVm hV hV3 hp0 hp1 hp2 lp0 lp1 lp2 l1 l2 hq hmod hq0 hs0 hx1 hq1 hs1 hx2 hq2 hs2 b0 b1 b2 bq0 td tm hn hx hm ha hs hn2 hmax
          generalize (x : Int) = xI at *
          generalize (aN : Int) = aNI at *
          generalize (d : Int) = dI at *
          generalize (p0 : Int) = p0I at *
          generalize (p1 : Int) = p1I at *
          generalize (p2 : Int) = p2I at *
          generalize (q0 : Int) = q0I at *
          generalize (s0 : Int) = s0I at *
          generalize (x1 : Int) = x1I at *
          generalize (q1 : Int) = q1I at *
          generalize (s1 : Int) = s1I at *
          generalize (x2 : Int) = x2I at *
          generalize (q2 : Int) = q2I at *
          generalize (s2 : Int) = s2I at *
          generalize (n : Int) = nI at *
          generalize (m : Int) = mI at *
          go_enter Tryz.func24, Tryz.ntmps24
          go_wp2_with (first
            | (go_at_call 18; refine (C1.out _).mono ?_; rintro e w' ⟨rfl, hg⟩; obtain ⟨y1, rfl⟩ := hg.later; clear hg)
            | (go_at_call 45; refine (C2.out _).mono ?_; rintro e w' ⟨rfl, hg⟩; obtain ⟨y2, rfl⟩ := hg.later; clear hg))
          refine wp_loop_rounds 4 ?_
          repeat (any_goals (rw [rounds_succ]; go_wp2))
          go_ret
          exact ⟨rfl, GG⟩
        · have hb7 : ((n : Int) == 18446744073709551615) = false := beq_eq_false_iff_ne.2 (by clear E1 E2 E3 E4 E5 E6 E7 E8 E9 E10 hV3 hVm; omega)
          have E11 : IntKind.u64.wrap ((n : Int) + 1) = ((n + 1 : Nat) : Int) := by
            rw [show (n : Int) + 1 = ((n + 1 : Nat) : Int) from rfl]
            exact wrapI (by clear E1 E2 E3 E4 E5 E6 E7 E8 E9 E10 hV3 hVm; omega)
          rw [show ((min (n + 1) m : Nat) : Int) = min ((n + 1 : Nat) : Int) (m : Int) from castMin (n + 1) m]
          generalize hn1 : n + 1 = n1 at *
          clear hr r1 r2 r3 r4 hVm hV hV3 hp0 hp1 hp2 lp0 lp1 lp2 l1 l2 hq hmod hq0 hs0 hx1 hq1 hs1 hx2 hq2 hs2 b0 b1 b2 bq0 td tm hn hx hm ha hs hn2 hmax hn1
          generalize (n1 : Int) = n1I at *
          generalize (x : Int) = xI at *
          generalize (aN : Int) = aNI at *
          generalize (d : Int) = dI at *
          generalize (p0 : Int) = p0I at *
          generalize (p1 : Int) = p1I at *
          generalize (p2 : Int) = p2I at *
          generalize (q0 : Int) = q0I at *
          generalize (s0 : Int) = s0I at *
          generalize (x1 : Int) = x1I at *
          generalize (q1 : Int) = q1I at *
          generalize (s1 : Int) = s1I at *
          generalize (x2 : Int) = x2I at *
          generalize (q2 : Int) = q2I at *
          generalize (s2 : Int) = s2I at *
          generalize (n : Int) = nI at *
          generalize (m : Int) = mI at *
          go_enter Tryz.func24, Tryz.ntmps24
          go_wp2_with (first
            | (go_at_call 18; refine (C1.out _).mono ?_; rintro e w' ⟨rfl, hg⟩; obtain ⟨y1, rfl⟩ := hg.later; clear hg)
            | (go_at_call 45; refine (C2.out _).mono ?_; rintro e w' ⟨rfl, hg⟩; obtain ⟨y2, rfl⟩ := hg.later; clear hg))
          refine wp_loop_rounds 4 ?_
          repeat (any_goals (rw [rounds_succ]; go_wp2))
          go_ret
          exact ⟨rfl, GG⟩
end Go.Proofs.YtkfobolbilhjbaaGreat

namespace Go.Proofs.YtkfobolbilhjbaaGreat
def cntN (nd : Nat → Nat) (v j : Nat) : Nat := ((List.range j).filter fun i => nd i == v).length
def begN (nd : Nat → Nat) (m v : Nat) : Nat := ((List.range m).filter fun i => decide (nd i < v)).length
def rowN (nd : Nat → Nat) (m v : Nat) : List Nat := (List.range m).filter fun i => nd i == v
def posN (nd : Nat → Nat) (m i : Nat) : Nat := begN nd m (nd i) + cntN nd (nd i) i
theorem cntN_zero (nd : Nat → Nat) (v : Nat) : cntN nd v 0 = 0 := rfl
theorem cntN_succ (nd : Nat → Nat) (v j : Nat) : cntN nd v (j + 1) = cntN nd v j + if nd j = v then 1 else 0 := by
  unfold cntN
  rw [List.range_succ, List.filter_append, List.length_append]
  by_cases h : nd j = v <;> simp [h]
theorem cntN_mono (nd : Nat → Nat) (v : Nat) {i j : Nat} (h : i ≤ j) : cntN nd v i ≤ cntN nd v j := by
  induction j with
  | zero => rw [Nat.le_zero.1 h]; exact Nat.le_refl _
  | succ j ih =>
    rcases Nat.lt_or_ge i (j + 1) with h1 | h1
    · have := ih (by omega)
      rw [cntN_succ]; omega
    · rw [show i = j + 1 by omega]; exact Nat.le_refl _
theorem cntN_lt (nd : Nat → Nat) {i j : Nat} (h : i < j) : cntN nd (nd i) i < cntN nd (nd i) j := by
  have h1 := cntN_succ nd (nd i) i
  rw [if_pos rfl] at h1
  have h2 := cntN_mono nd (nd i) (show i + 1 ≤ j from h)
  omega
theorem begN_succ (nd : Nat → Nat) (m v : Nat) : begN nd m (v + 1) = begN nd m v + cntN nd v m := by
  unfold begN cntN
  induction m with
  | zero => rfl
  | succ m ih =>
    rw [List.range_succ, List.filter_append, List.filter_append, List.filter_append, List.length_append, List.length_append, List.length_append, ih]
    by_cases h : nd m = v
    · simp [h]; omega
    · by_cases h2 : nd m < v
      · have h3 : nd m < v + 1 := by omega
        simp [h, h2, h3]; omega
      · have h3 : ¬ nd m < v + 1 := by omega
        simp [h, h2, h3]
theorem begN_zero (nd : Nat → Nat) (m : Nat) : begN nd m 0 = 0 := by unfold begN; simp
theorem begN_le (nd : Nat → Nat) (m v : Nat) : begN nd m v ≤ m := by
  unfold begN
  exact Nat.le_trans (List.length_filter_le _ _) (by simp)
theorem begN_mono (nd : Nat → Nat) (m : Nat) {u v : Nat} (h : u ≤ v) : begN nd m u ≤ begN nd m v := by
  induction v with
  | zero => rw [Nat.le_zero.1 h]; exact Nat.le_refl _
  | succ v ih =>
    rcases Nat.lt_or_ge u (v + 1) with h1 | h1
    · have := ih (by omega)
      rw [begN_succ]; omega
    · rw [show u = v + 1 by omega]; exact Nat.le_refl _
theorem posN_lt (nd : Nat → Nat) (m i : Nat) (hi : i < m) : posN nd m i < begN nd m (nd i + 1) := by
  rw [begN_succ]
  have := cntN_lt nd hi
  unfold posN; omega
theorem posN_m (nd : Nat → Nat) (m i : Nat) (hi : i < m) : posN nd m i < m := Nat.lt_of_lt_of_le (posN_lt nd m i hi) (begN_le _ _ _)
theorem posN_ne (nd : Nat → Nat) (m : Nat) {i j : Nat} (h : i < j) (hj : j < m) : posN nd m i ≠ posN nd m j := by
  rcases Nat.lt_trichotomy (nd i) (nd j) with h1 | h1 | h1
  · have h2 := posN_lt nd m i (by omega)
    have h3 := begN_mono nd m (show nd i + 1 ≤ nd j from h1)
    have : begN nd m (nd j) ≤ posN nd m j := by unfold posN; omega
    omega
  · have := cntN_lt nd h
    unfold posN
    rw [h1] at this ⊢
    omega
  · have h2 := posN_lt nd m j hj
    have h3 := begN_mono nd m (show nd j + 1 ≤ nd i from h1)
    have : begN nd m (nd i) ≤ posN nd m i := by unfold posN; omega
    omega
theorem rowN_len (nd : Nat → Nat) (m v : Nat) : (rowN nd m v).length = cntN nd v m := rfl
theorem rowN_at (nd : Nat → Nat) (v : Nat) : ∀ m k i, (rowN nd m v)[k]? = some i → i < m ∧ nd i = v ∧ cntN nd v i = k
  | 0, k, i, h => by simp [rowN] at h
  | m + 1, k, i, h => by
    have e : rowN nd (m + 1) v = rowN nd m v ++ (if nd m = v then [m] else []) := by
      unfold rowN
      rw [List.range_succ, List.filter_append]
      by_cases hv : nd m = v <;> simp [hv]
    rw [e] at h
    rcases Nat.lt_or_ge k (rowN nd m v).length with hk | hk
    · rw [List.getElem?_append_left hk] at h
      obtain ⟨h1, h2, h3⟩ := rowN_at nd v m k i h
      exact ⟨by omega, h2, h3⟩
    · rw [List.getElem?_append_right hk] at h
      by_cases hv : nd m = v
      · rw [if_pos hv] at h
        rcases Nat.eq_zero_or_pos (k - (rowN nd m v).length) with h0 | h0
        · rw [h0] at h
          simp at h
          subst h
          have := rowN_len nd m v
          exact ⟨by omega, hv, by omega⟩
        · rw [List.getElem?_eq_none (by simp; omega)] at h
          cases h
      · rw [if_neg hv] at h
        simp at h
theorem rowN_lt (nd : Nat → Nat) {m v k i : Nat} (h : (rowN nd m v)[k]? = some i) : i < m := (rowN_at nd v m k i h).1
theorem laid_row (nd : Nat → Nat) (m v : Nat) (xs : List Nat) (_ : xs.length = m) (h : ∀ i, i < m → xs[posN nd m i]? = some i) : (xs.drop (begN nd m v)).take (cntN nd v m) = rowN nd m v := by
  apply List.ext_getElem?
  intro k
  rcases Nat.lt_or_ge k (cntN nd v m) with hk | hk
  · rw [List.getElem?_take, if_pos hk, List.getElem?_drop]
    have hk' : k < (rowN nd m v).length := hk
    obtain ⟨i, hi⟩ : ∃ i, (rowN nd m v)[k]? = some i := ⟨_, List.getElem?_eq_getElem hk'⟩
    rw [hi]
    obtain ⟨h1, h2, h3⟩ := rowN_at nd v m k i hi
    have := h i h1
    unfold posN at this
    rw [h2, h3] at this
    exact this
  · rw [List.getElem?_eq_none (by rw [List.length_take]; omega), List.getElem?_eq_none (by rw [rowN_len]; exact hk)]
end Go.Proofs.YtkfobolbilhjbaaGreat

namespace Go.Proofs.YtkfobolbilhjbaaGreat
open Go Go.RowKit
section
variable {P : Program} {md : Region.Mode} {ops : Array Oper} {w0 : World}
def gAnyT (P : Program) (md : Region.Mode) (ops : Array Oper) (w0 : World) (n : Nat) (L : Array Bool → Act → Env → Prop) : Nat → Array Bool → Act → Env → Prop
  | 0, l, a, G => L l a G
  | f + 1, l, a, G => Region.ready md ops l ≠ [] ∧ ∀ i ∈ Region.ready md ops l, i < n ∧ gOp P ops w0 i (gAnyT P md ops w0 n L f (l.setIfInBounds i true)) a G

theorem gAnyT_first {n i : Nat} {oi : Oper} {r : Out} {L : Array Bool → Act → Env → Prop} (hi : ops[i]? = some oi)
    (hs : Region.sinkB md ops n = true) (hc : Region.chainB md ops n = true) (hn : n < ops.size) (hin : i < n)
    (hdone : ∀ l a G, L l a G → ∀ j ∈ Region.ready md ops l, n ≤ j) :
    ∀ (f : Nat) (l : Array Bool) (a : Act) (G : Env), HeadInv md ops n l →
      (∀ j oj, ops[j]? = some oj → j ≠ i → l.getD j true = false → (∀ e ∈ oj.after, Region.binds md e = true → e.on ≠ i) → oi.apart ops oj = true) →
      i ∈ Region.ready md ops l → Leaves P ops w0 oi a G r →
      gAnyT P md ops w0 n L f (l.setIfInBounds i true) (putA a oi.dst r) (putG G oi.dst r) → gAnyT P md ops w0 n L (f + 1) l a G := by
  intro f
  induction f with
  | zero =>
    intro l a G inv _ hr hy H
    have hun := (mem_ready.1 hr).1
    refine ⟨fun h => (by rw [h] at hr; cases hr), fun j hj => ?_⟩
    have hjn : j < n := by
      rcases Nat.lt_or_ge j n with h | h
      · exact h
      · exact absurd hj (tail_waits hs hc hn inv _ i rfl hin hun j h)
    refine ⟨hjn, ?_⟩
    by_cases hji : j = i
    · subst hji; unfold gOp; simp only [hi]; exact ⟨r, hy, H⟩
    · have := hdone _ _ _ H j (ready_mono hj hji)
      omega
  | succ f ih =>
    intro l a G inv hfree hr hy H
    have hun := (mem_ready.1 hr).1
    refine ⟨fun h => (by rw [h] at hr; cases hr), fun j hj => ?_⟩
    have hjn : j < n := by
      rcases Nat.lt_or_ge j n with h | h
      · exact h
      · exact absurd hj (tail_waits hs hc hn inv _ i rfl hin hun j h)
    refine ⟨hjn, ?_⟩
    by_cases hji : j = i
    · subst hji; unfold gOp; simp only [hi]; exact ⟨r, hy, H⟩
    · have h1 := (H.2 j (ready_mono hj hji)).2
      obtain ⟨hjun, oj, hoj, hall⟩ := mem_ready.1 hj
      have hnot : ∀ e ∈ oj.after, Region.binds md e = true → e.on ≠ i := fun e he hb heq => by
        have h1 := hall e he hb
        rw [heq, getD_both hun] at h1
        cases h1
      have hfree' : ∀ k ok, ops[k]? = some ok → k ≠ i → (l.setIfInBounds j true).getD k true = false →
          (∀ e ∈ ok.after, Region.binds md e = true → e.on ≠ i) → oi.apart ops ok = true := fun k ok hk hki hun hno => by
        refine hfree k ok hk hki ?_ hno
        by_cases hjk : j = k
        · subst hjk; exact hjun
        · rw [getD_set_ne true hjk] at hun; exact hun
      have h2 := gOp_put hoj (hfree j oj hoj hji hjun hnot) hy h1
      refine gOp_mono (fun a' G' h3 => ih (l.setIfInBounds j true) a' G' (inv.set hj hjn) hfree' (ready_mono hr (Ne.symm hji)) h3.1 ?_) h2
      rw [Array.setIfInBounds_comm _ _ hji]
      exact h3.2

theorem gAnyT_lex {n g : Nat} {Lq : Act → Env → Prop} (hs : Region.sinkB md ops n = true) (hc : Region.chainB md ops n = true) (hn : n < ops.size) :
    ∀ (l : List Oper) (k : Nat) (listed : Array Bool) (a : Act) (G : Env), (∀ j, j < l.length → l[j]? = ops[k + j]?) → k + l.length = n → HeadInv md ops n listed →
    Region.lexHead md ops g l.length k listed = true → gLex P ops w0 Lq l a G →
    gAnyT P md ops w0 n (fun listed' a' G' => Region.seqB md ops g n listed' = true ∧ Lq a' G') l.length listed a G
  | [], k, listed, a, G, _, hk, _, hB, h => by
    have : k = n := by simpa using hk
    subst this
    exact ⟨by simpa [Region.lexHead] using hB, h⟩
  | o :: l, k, listed, a, G, hl, hk, inv, hB, h => by
    have h0 : ops[k]? = some o := by simpa using (hl 0 (by simp)).symm
    simp only [List.length_cons, Region.lexHead, Bool.and_eq_true] at hB
    obtain ⟨⟨hr, hf⟩, hB'⟩ := hB
    have hkn : k < n := by simp only [List.length_cons] at hk; omega
    have hr' : k ∈ Region.ready md ops listed := by simpa using hr
    obtain ⟨r, hy, hK⟩ := h
    exact gAnyT_first h0 hs hc hn hkn (fun l' _ _ h j hj => seqB_ready h.1 j hj) l.length listed a G inv (Region.free_spec h0 hf) hr' hy
      (gAnyT_lex hs hc hn l (k + 1) _ _ _ (fun j hj => by have := hl (j + 1) (by simp; omega); simpa [Nat.add_assoc, Nat.add_comm 1 j] using this) (by simp only [List.length_cons] at hk; omega) (inv.set hr' hkn) hB' hK)

theorem wpAny_of_gAnyT {n g : Nat} {L : Array Bool → Act → Env → Prop} {Q : Exit → Act → World → Prop}
    (hL : ∀ listed a G, L listed a G → ∀ w, Grows w0 w → ∀ a', Conc G a a' w → wpAny P md ops Q g listed a' w) :
    ∀ (f : Nat) (l : Array Bool) (a : Act) (G : Env) (a' : Act) (w : World), Grows w0 w → AllLast G → Conc G a a' w →
    gAnyT P md ops w0 n L f l a G → wpAny P md ops Q (f + g) l a' w
  | 0, l, a, G, a', w, hw, _, hc, h => by rw [Nat.zero_add]; exact hL _ _ _ h w hw a' hc
  | f + 1, l, a, G, a', w, hw, hG, hc, h => by
    rw [show f + 1 + g = (f + g) + 1 by omega]
    refine ⟨fun h0 => absurd h0 h.1, fun i hi => ?_⟩
    have h1 := (h.2 i hi).2
    unfold gOp at h1
    unfold wpOp
    split
    · rename_i ho
      simp only [ho] at h1
      exact wpAny_of_gAnyT hL f _ a G a' w hw hG hc h1
    · rename_i o ho
      simp only [ho] at h1
      obtain ⟨r, ⟨hg, hd, hy⟩, hK⟩ := h1
      rw [wanted_conc hg hc]
      rcases hy with ⟨hwant, hl, hf, howe⟩ | ⟨hwant, rfl⟩
      · rw [if_pos hwant]
        refine .inl ?_
        have hrun := howe w hw a' (fun t _ => hc.2 t)
        unfold Oper.wp
        generalize (execOp a'.eval o).run P w = res at hrun
        cases res with
        | halt x w' => simp only [runsTo] at hrun
        | ok x w' =>
          cases x <;> simp only [runsTo] at hrun <;> simp only [Oper.upon]
          case value u => exact wpAny_of_gAnyT hL f _ _ _ _ _ (hw.trans hrun.1) (hG.putG hl) (hc.step hG hrun.1 hd hf hrun.2) hK
          case skip => exact wpAny_of_gAnyT hL f _ _ _ _ _ (hw.trans hrun.1) (hG.putG hl) (hc.step hG hrun.1 hd hf hrun.2) hK
          case enter f args =>
            refine hrun.mono fun e w'' ⟨u, he, h1, h2⟩ => ?_
            subst he
            exact wpAny_of_gAnyT hL _ _ _ _ _ _ (hw.trans h1) (hG.putG hl) (hc.step hG h1 hd hf h2) hK
      · rw [hwant]
        simp only [Bool.false_eq_true, if_false]
        have hG0 : putG G o.dst (.inl undef) = G := by cases o.dst <;> rfl
        rw [hG0] at hK
        have hc0 := hc.step hG (Grows.refl w) hd (r := .inl undef) (u := undef) trivial rfl
        rw [hG0] at hc0
        exact wpAny_of_gAnyT hL f _ _ _ _ _ hw hG hc0 hK

def tailB (md : Region.Mode) (ops : Array Oper) (n : Nat) : Bool :=
  decide (n < ops.size) && Region.sinkB md ops n && Region.chainB md ops n && Region.lexHead md ops (ops.size - n) n 0 (Array.replicate ops.size false)

theorem wp_region_tail {w0 : World} {id : Nat} {Q : Exit → Act → World → Prop} {a : Act} {w : World} {l : List Oper} (n : Nat) (hm : P.follows .mixedOrders = true) (hB : tailB .any l.toArray n = true)
    (hw0 : Grows w0 w) (h : gLex P l.toArray w0 (fun a G => ∀ w', Grows w0 w' → ∀ a', Conc G a a' w' → wpList P l.toArray Q (l.drop n) a' w') (l.take n) a Env.no) : (Code.region id l.toArray true).wp P Q a w := by
  simp only [tailB, Bool.and_eq_true, decide_eq_true_eq] at hB
  obtain ⟨⟨⟨hn, hs⟩, hc⟩, hx⟩ := hB
  have hlen : l.length = n + (l.drop n).length := by simp at hn ⊢; omega
  have hn' : n < l.length := by simpa using hn
  refine wp_region_any hm ?_
  have inv : HeadInv .any l.toArray n (Array.replicate l.length false) := by
    refine ⟨by simp, ?_, ?_⟩
    · intro j oj hj hl
      rw [getD_replicate_false] at hl
      cases hl
    · intro t h1 h2
      have : t < l.length := by simpa using h2
      simp [this]
  have e1 : (l.take n).length = n := by simp; omega
  have e2 : (l.drop n).length = l.length - n := by simp
  have hx' : Region.lexHead .any l.toArray (l.length - n) (l.take n).length 0 (Array.replicate l.length false) = true := by rw [e1]; simpa using hx
  have hg := gAnyT_lex (P := P) (w0 := w0) (g := l.length - n) hs hc hn (l.take n) 0 (Array.replicate l.length false) a Env.no (fun j hj => by
      have : j < n := by rw [e1] at hj; exact hj
      simp [this]) (by rw [e1]; omega) inv hx' h
  have hall := wpAny_of_gAnyT (Q := Q) (g := l.length - n) (fun listed a' G' hL w' hw' a'' hc' => by
    have hh := hL.2 w' hw' a'' hc'
    have := wpAny_of_seq (P := P) (md := .any) (ops := l.toArray) (l.drop n) n listed a'' w' (fun j => by simp) (by rw [e2]; exact hL.1) hh
    rwa [e2] at this) (l.take n).length _ a Env.no a { w with drawn := w.drawn + 1 } (hw0.trans (Grows.drawn w _)) (fun t p h => by cases h) ⟨rfl, fun t => rfl⟩ hg
  have e3 : (l.take n).length + (l.length - n) = l.length := by rw [e1]; omega
  rw [e3] at hall
  simpa using hall
theorem wp_region_tail1 {id : Nat} {Q : Exit → Act → World → Prop} {a : Act} {w : World} {l : List Oper} (n : Nat) (hm : P.follows .mixedOrders = true) (hB : tailB .any l.toArray n = true)
    (h : gLex P l.toArray w (fun a G => ∀ w', Grows w w' → ∀ a', Conc G a a' w' → wpList P l.toArray Q (l.drop n) a' w') (l.take n) a Env.no) : (Code.region id l.toArray true).wp P Q a w :=
  wp_region_tail n hm hB (Grows.refl w) h
theorem gLex_endT {ops : Array Oper} {Q : Exit → Act → World → Prop} {tail : List Oper} {a : Act} (h : ∀ x : Later w0, wpList P ops Q tail a x.now) :
    gLex P ops w0 (fun a G => ∀ w', Grows w0 w' → ∀ a', Conc G a a' w' → wpList P ops Q tail a' w') [] a Env.no :=
  fun w' hw a' hc => by rw [conc_no hc]; exact h ⟨w', hw⟩
theorem gLex_endT1 {ops : Array Oper} {Q : Exit → Act → World → Prop} {tail : List Oper} {a : Act} {t : Tmp} {p : Pr} (hlt : t < a.tmps.size) (h : ∀ (x : Later w0) v, p v x.now → wpList P ops Q tail (a.put (some t) v) x.now) :
    gLex P ops w0 (fun a G => ∀ w', Grows w0 w' → ∀ a', Conc G a a' w' → wpList P ops Q tail a' w') [] a (Env.no.upd t p) :=
  fun w' hw a' hc => by
    obtain ⟨v, hv⟩ := conc_upd hc hlt
    rcases hv with ⟨hp, hc2⟩ | hne
    · rw [conc_no hc2]
      exact h ⟨w', hw⟩ v hp
    · exact absurd rfl hne
theorem gLex_prop {ops : Array Oper} {Q : Act → Env → Prop} {a : Act} {G : Env} {o : Oper} {rest : List Oper} {t : Tmp} (hg : o.guard = none) (hp : plainB ops o G = true) (hd : o.dst = some t) (hlt : t < a.tmps.size)
    (p : Pr) (hl : Lasts p) (hr : ∀ x : Later w0, runsTo P (fun u w' => Grows x.now w' ∧ p u w') ((execOp a.eval o).run P x.now))
    (h : gLex P ops w0 Q rest a (G.upd t p)) : gLex P ops w0 Q (o :: rest) a G := by
  obtain ⟨h1, h2, h3, h4⟩ := plain_spec hp
  refine ⟨.inr p, ⟨h1, h2, .inl ⟨by unfold Region.wanted; rw [hg], hl, ⟨t, hd, hlt⟩, fun w hw a' ha' => ?_⟩⟩, ?_⟩
  · rw [exec_same h4 h3 ha']
    exact hr ⟨w, hw⟩
  · rw [hd]
    exact h
def One (v : Value) : Pr := fun u w => ∃ g, u = .slice (some ⟨g, 0, none⟩) 1 1 ∧ Holds w ⟨g, 0, none⟩ v
theorem One.lasts (v : Value) : Lasts (One v) := fun _ _ _ hg ⟨g, e, h⟩ => ⟨g, e, ⟨hg.keeps h.cell⟩⟩
end
end Go.Proofs.YtkfobolbilhjbaaGreat

