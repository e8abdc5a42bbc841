/- What a step may turn: of what was there, only the blocks of a set. -/
import Derived.Test.YtpnncadglhlclaaStep2
import Derived.RangeFuncRecord
namespace Go.Proofs.Ytpnncadglhlclaa
open Go Go.RowKit

/-- Of what was there, only blocks of S have turned; new memory may have come. -/
structure Touch (S : Nat → Prop) (w w' : World) : Prop where
  os : w'.os = w.os
  tape : w'.tape = w.tape
  output : w'.output = w.output
  size : w.heap.size ≤ w'.heap.size
  block : ∀ k, k < w.heap.size → ¬ S k → w'.heap[k]? = w.heap[k]?

/-- The new blocks between two worlds. -/
def New (w w' : World) (k : Nat) : Prop := w.heap.size ≤ k ∧ k < w'.heap.size

section
variable {S S' : Nat → Prop} {a b c w w' : World}
theorem Touch.refl (S : Nat → Prop) (w : World) : Touch S w w := ⟨rfl, rfl, rfl, Nat.le_refl _, fun _ _ _ => rfl⟩
theorem Grows.touch (h : Grows w w') (S : Nat → Prop) : Touch S w w' := ⟨h.os, h.tape, h.output, h.size, fun k hk _ => h.block k hk⟩
theorem Touch.trans2 (h : Touch S a b) (k : Touch S' b c) (hs : ∀ k, S' k → S k ∨ a.heap.size ≤ k) : Touch S a c :=
  ⟨k.os.trans h.os, k.tape.trans h.tape, k.output.trans h.output, Nat.le_trans h.size k.size, fun i hi hn =>
    (k.block i (Nat.lt_of_lt_of_le hi h.size) fun e => by rcases hs i e with h1 | h1; exact hn h1; omega).trans (h.block i hi hn)⟩
theorem Touch.trans (h : Touch S a b) (k : Touch S b c) : Touch S a c := h.trans2 k fun _ h => .inl h
theorem Touch.mono (h : Touch S a b) (hs : ∀ k, S k → S' k) : Touch S' a b := ⟨h.os, h.tape, h.output, h.size, fun k hk hn => h.block k hk fun e => hn (hs k e)⟩
theorem Touch.grows (h : Touch S a b) (k : Grows b c) : Touch S a c := h.trans (k.touch S)
theorem Touch.now (h : Touch S a b) (x : Later b) : Touch S a x.now := h.grows x.grows
theorem Touch.new (h : Touch S a b) (o : Obj) : Touch S a (b.alloc o) := h.grows ((Grows.refl b).new o)
theorem Touch.drew (h : Touch S a b) : Touch S a b.drew := h.grows (Grows.refl b).drew
theorem Touch.drewN (h : Touch S a b) (n : Nat) : Touch S a (b.drewN n) := h.grows ((Grows.refl b).drewN n)
theorem heap_setCell (w : World) (p : Addr) (u : Value) (k : Nat) (h : k ≠ p.block) : (w.setCell p u).heap[k]? = w.heap[k]? := Below.heap_setCell w p u k h
theorem size_setCell (w : World) (p : Addr) (u : Value) : (w.setCell p u).heap.size = w.heap.size := by simp [World.setCell]
theorem Touch.set (h : Touch S a b) {p : Addr} (hp : S p.block ∨ a.heap.size ≤ p.block) (u : Value) : Touch S a (b.setCell p u) := by
  refine ⟨h.os, h.tape, h.output, by rw [size_setCell]; exact h.size, fun k hk hn => ?_⟩
  rw [heap_setCell _ _ _ _ (fun e => by subst e; rcases hp with hp | hp; exact hn hp; omega)]
  exact h.block k hk hn
theorem Touch.put (h : Touch S a b) {r : Nat} (hr : S r ∨ a.heap.size ≤ r) (o : Obj) : Touch S a (b.putObj r o) := by
  refine ⟨h.os, h.tape, h.output, by simp; exact h.size, fun k hk hn => ?_⟩
  rw [World.putObj_heap_other (fun e => by subst e; rcases hr with hp | hp; exact hn hp; omega)]
  exact h.block k hk hn
theorem Touch.grown {row : Option Nat} (h : Touch S a b) (hg : b.grownBy c row) (hr : ∀ k, row = some k → S k ∨ a.heap.size ≤ k) : Touch S a c := by
  refine ⟨hg.os.trans h.os, hg.tape.trans h.tape, hg.output.trans h.output, Nat.le_trans h.size hg.size, fun k hk hn => ?_⟩
  refine (hg.block k (Nat.lt_of_lt_of_le hk h.size) fun e => ?_).trans (h.block k hk hn)
  rcases hr k e.symm with h1 | h1
  · exact hn h1
  · omega
/-- Below n all is as it was, where S lies above n. -/
theorem Touch.below (h : Touch S a b) {n : Nat} (hs : ∀ k, S k → n ≤ k) (hn : n ≤ a.heap.size) : Below n a b :=
  ⟨h.os, h.tape, h.output, h.size, fun k hk => h.block k (by omega) fun e => by have := hs k e; omega⟩
theorem Touch.later {w0 : World} (hw0 : Grows w0 a) (h : Touch S a b) (hs : ∀ k, S k → w0.heap.size ≤ k) : Grows w0 b :=
  Below.trans hw0 (h.below hs hw0.size)
theorem Touch.cell (h : Touch S a b) {p : Addr} (hp : ¬ S p.block) {u : Value} (hc : a.cell? p = some u) : b.cell? p = some u := by
  rw [← hc]
  exact World.cell?_of_block (w := a) (h.block p.block (World.block_lt_of_cell? a p hc) hp)
theorem Touch.frozen (h : Touch S a b) {p : Addr} (hp : ¬ S p.block) {u : Value} (hc : a.cell? p = some u) : b.frozen? p = a.frozen? p :=
  World.frozen?_of_block (w := a) (h.block p.block (World.block_lt_of_cell? a p hc) hp)
theorem Touch.at (h : Touch S a b) {k : Nat} {o : Obj} (hp : ¬ S k) (hc : a.heap[k]? = some o) : b.heap[k]? = some o :=
  (h.block k (Array.getElem?_eq_some_iff.1 hc).1 hp).trans hc
theorem Mine.touch {p : Addr} {v : Value} (h : Mine a p v) (ht : Touch S a b) (hp : ¬ S p.block) : Mine b p v :=
  ⟨ht.cell hp h.cell, (ht.frozen hp h.cell).trans h.free⟩
theorem Holds.touch {p : Addr} {v : Value} (h : Holds a p v) (ht : Touch S a b) (hp : ¬ S p.block) : Holds b p v := ⟨ht.cell hp h.cell⟩
theorem Rd.touch {A : Option Addr} {size n : Nat} {xs : List Value} (h : Rd a A size n xs) (ht : Touch S a b) (hp : ∀ p, A = some p → ¬ S p.block) : Rd b A size n xs :=
  ⟨h.1, fun h1 h2 => by
    obtain ⟨g, off, e, hc⟩ := h.2 h1 h2
    exact ⟨g, off, e, fun j u hu => ht.cell (p := ⟨g, off + j, none⟩) (hp ⟨g, off, none⟩ e) (hc j u hu)⟩⟩
end

/-- The blocks of B and of M are as they were. -/
def Keeps (B M : Nat → Prop) (w w' : World) : Prop := Touch (fun k => ¬ (B k ∨ M k)) w w'
section
variable {B M M' S : Nat → Prop} {a b c : World}
theorem Keeps.refl (B M : Nat → Prop) (a : World) : Keeps B M a a := Touch.refl _ _
theorem Keeps.trans (h : Keeps B M a b) (k : Keeps B M b c) : Keeps B M a c := Touch.trans h k
theorem Keeps.mono (h : Keeps B M a b) (hM : ∀ k, M' k → M k) : Keeps B M' a b := Touch.mono h fun k h1 e => h1 (e.elim .inl fun e => .inr (hM k e))
theorem Touch.keeps (h : Touch S a b) (hs : ∀ k, S k → ¬ (B k ∨ M k)) : Keeps B M a b := Touch.mono h hs
theorem Keeps.at (h : Keeps B M a b) {k : Nat} {o : Obj} (hk : B k ∨ M k) (hc : a.heap[k]? = some o) : b.heap[k]? = some o :=
  Touch.at h (fun h1 => h1 hk) hc
theorem Keeps.cell (h : Keeps B M a b) {p : Addr} (hk : B p.block ∨ M p.block) {u : Value} (hc : a.cell? p = some u) : b.cell? p = some u :=
  Touch.cell h (fun h1 => h1 hk) hc
end
end Go.Proofs.Ytpnncadglhlclaa
