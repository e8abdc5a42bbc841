/- Objects in memory that are known whole: structs, boxes, own slices with their block. -/
import Derived.Test.YtpnncadglhlclaaTouch
import Derived.Test.YtpnncadglhlclaaOwn3
import Derived.Test.YtpnncadglhlclaaChg
import Derived.Deep.OwnRows
namespace Go.Proofs.Ytpnncadglhlclaa
open Go Go.RowKit
/-- Block g is made of just these cells. -/
class Arr (w : World) (g : Nat) (t : outParam TypeId) (cs : outParam (List Value)) : Prop where
  is : w.heap[g]? = some (.cells cs.toArray t (0, 0))
section
variable {w w' w0 : World} {g g' : Nat} {t t' : TypeId} {cs cs' : List Value} {S : Nat → Prop}
theorem Arr.lt (h : Arr w g t cs) : g < w.heap.size := (Array.getElem?_eq_some_iff.1 h.is).1
theorem Arr.cell (h : Arr w g t cs) (j : Nat) : w.cell? ⟨g, j, none⟩ = cs[j]? := by simp [World.cell?, h.is]
theorem Arr.free (h : Arr w g t cs) (j : Nat) : w.frozen? ⟨g, j, none⟩ = false := by simp [World.frozen?, h.is]
theorem Arr.mine (h : Arr w g t cs) (j : Nat) {u : Value} (hu : cs[j]? = some u) : Mine w ⟨g, j, none⟩ u := ⟨by rw [h.cell, hu], h.free j⟩
theorem Arr.grow (h : Arr w g t cs) (k : Grows w w') : Arr w' g t cs := ⟨(k.block g h.lt).trans h.is⟩
theorem Arr.touch (h : Arr w g t cs) (k : Touch S w w') (hS : ¬ S g) : Arr w' g t cs := ⟨k.at hS h.is⟩
theorem Arr.set (h : Arr w g t cs) (j : Nat) (u : Value) : Arr (w.setCell ⟨g, j, none⟩ u) g t (cs.set j u) :=
  ⟨by have := h.is; simp [World.setCell, Array.getElem?_modify, this]⟩
theorem Arr.other (h : Arr w g t cs) {p : Addr} (hp : p.block ≠ g) (u : Value) : Arr (w.setCell p u) g t cs :=
  ⟨by rw [heap_setCell _ _ _ _ (Ne.symm hp)]; exact h.is⟩
theorem Arr.put (h : Arr w g t cs) {r : Nat} (hr : g ≠ r) (o : Obj) : Arr (w.putObj r o) g t cs := ⟨(World.putObj_heap_other hr).trans h.is⟩
theorem Arr.ne (h : Arr w g t cs) (k : Arr w g' t' cs') (ht : t ≠ t') : g ≠ g' := fun e => by
  subst e
  have := h.is.symm.trans k.is
  injection this with this
  injection this with _ this
  exact ht this
theorem Arr.same (h : Arr w g t cs) (k : Arr w g t' cs') : t = t' ∧ cs = cs' := by
  have := h.is.symm.trans k.is
  injection this with this
  injection this with h1 h2
  exact ⟨h2, by simpa using h1⟩
theorem Arr.rd (h : Arr w g t cs) {size n : Nat} (hl : cs.length = n * size) : Rd w (some ⟨g, 0, none⟩) size n cs :=
  ⟨hl, fun _ _ => ⟨g, 0, rfl, fun j u hu => by rw [Nat.zero_add, h.cell]; exact hu⟩⟩
theorem Arr.make (w : World) (cs : List Value) (t : TypeId) : Arr (w.alloc (.cells cs.toArray t)) w.heap.size t cs := ⟨World.alloc_heap_new w _⟩
theorem Arr.own (h : Arr w g t cs) {B size n : Nat} (hB : B ≤ g) (hl : cs.length = n * size) (hn : n ≤ 1000000000) : Own w B t size (some ⟨g, 0, none⟩) n n cs :=
  ⟨hl, .inr ⟨g, n, cs.toArray, rfl, hB, h.is, Nat.le_refl _, by unfold maxLen; omega, by simpa using hl, by simp [← hl]⟩⟩
instance Arr.now (x : Later w) [h : Arr w g t cs] : Arr x.now g t cs := h.grow x.grows
instance Arr.alloc (o : Obj) [h : Arr w g t cs] : Arr (w.alloc o) g t cs := h.grow ((Grows.refl w).new o)
instance Arr.drew [h : Arr w g t cs] : Arr w.drew g t cs := h.grow (Grows.refl w).drew
instance Arr.drewN (n : Nat) [h : Arr w g t cs] : Arr (w.drewN n) g t cs := h.grow ((Grows.refl w).drewN n)
instance Arr.m0 {v : Value} {l : List Value} [h : Arr w g t (v :: l)] : Mine w ⟨g, 0, none⟩ v := h.mine 0 rfl
instance Arr.m1 {v0 v : Value} {l : List Value} [h : Arr w g t (v0 :: v :: l)] : Mine w ⟨g, 1, none⟩ v := h.mine 1 rfl
instance Arr.m2 {v0 v1 v : Value} {l : List Value} [h : Arr w g t (v0 :: v1 :: v :: l)] : Mine w ⟨g, 2, none⟩ v := h.mine 2 rfl
instance Arr.m3 {v0 v1 v2 v : Value} {l : List Value} [h : Arr w g t (v0 :: v1 :: v2 :: v :: l)] : Mine w ⟨g, 3, none⟩ v := h.mine 3 rfl
instance Arr.m4 {v0 v1 v2 v3 v : Value} {l : List Value} [h : Arr w g t (v0 :: v1 :: v2 :: v3 :: v :: l)] : Mine w ⟨g, 4, none⟩ v := h.mine 4 rfl
instance Arr.m5 {v0 v1 v2 v3 v4 v : Value} {l : List Value} [h : Arr w g t (v0 :: v1 :: v2 :: v3 :: v4 :: v :: l)] : Mine w ⟨g, 5, none⟩ v := h.mine 5 rfl
end

/-- The slice of n elements in block g, with room for c, begins with these cells. -/
structure Row1 (w : World) (g : Nat) (e : TypeId) (size n c : Nat) (xs : List Value) : Prop where
  len : xs.length = n * size
  is : ∃ cur, w.heap[g]? = some (.cells cur e (0, 0)) ∧ n ≤ c ∧ c ≤ maxLen ∧ cur.size = c * size ∧ cur.toList.take (n * size) = xs
section
variable {w w' w0 : World} {B g g' n c size : Nat} {e t' : TypeId} {xs cs' : List Value} {S : Nat → Prop}
theorem Row1.own (h : Row1 w g e size n c xs) (hB : B ≤ g) : Own w B e size (some ⟨g, 0, none⟩) n c xs := by
  obtain ⟨cur, h1, h2, h3, h4, h5⟩ := h.is
  exact ⟨h.len, .inr ⟨g, c, cur, rfl, hB, h1, h2, h3, h4, h5⟩⟩
theorem Own.row (h : Own w B e size (some ⟨g, 0, none⟩) n c xs) : Row1 w g e size n c xs ∧ B ≤ g := by
  rcases h.2 with ⟨h1, _⟩ | ⟨g', cap, cur, h1, h2, h3, h4, h5, h6, h7⟩
  · cases h1
  · injection h1 with h1 _ h8
    injection h1 with h1
    injection h1 with h1
    subst h1 h8
    exact ⟨⟨h.1, cur, h3, h4, h5, h6, h7⟩, h2⟩
theorem Row1.lt (h : Row1 w g e size n c xs) : g < w.heap.size := by
  obtain ⟨cur, h1, _⟩ := h.is
  exact (Array.getElem?_eq_some_iff.1 h1).1
theorem Row1.mine (h : Row1 w g e size n c xs) {j : Nat} {u : Value} (hu : xs[j]? = some u) : Mine w ⟨g, j, none⟩ u := by
  obtain ⟨cur, h1, _, _, _, h5⟩ := h.is
  refine ⟨?_, by simp [World.frozen?, h1]⟩
  simp only [World.cell?, h1]
  rw [← h5] at hu
  have : j < n * size := by
    rcases Nat.lt_or_ge j (n * size) with h | h
    · exact h
    · rw [List.getElem?_eq_none (by simp; omega)] at hu; cases hu
  rw [List.getElem?_take, if_pos this] at hu
  simpa using hu
theorem Row1.grow (h : Row1 w g e size n c xs) (k : Grows w w') : Row1 w' g e size n c xs := by
  have hl := h.lt
  obtain ⟨cur, h1, h2⟩ := h.is
  exact ⟨h.len, cur, (k.block g hl).trans h1, h2⟩
theorem Row1.touch (h : Row1 w g e size n c xs) (k : Touch S w w') (hS : ¬ S g) : Row1 w' g e size n c xs := by
  obtain ⟨cur, h1, h2⟩ := h.is
  exact ⟨h.len, cur, k.at hS h1, h2⟩
theorem Row1.other (h : Row1 w g e size n c xs) {p : Addr} (hp : p.block ≠ g) (u : Value) : Row1 (w.setCell p u) g e size n c xs := by
  obtain ⟨cur, h1, h2⟩ := h.is
  exact ⟨h.len, cur, by rw [heap_setCell _ _ _ _ (Ne.symm hp)]; exact h1, h2⟩
theorem Row1.set (h : Row1 w g e size n c xs) (j : Nat) (u : Value) : Row1 (w.setCell ⟨g, j, none⟩ u) g e size n c (xs.set j u) := by
  obtain ⟨cur, h1, h2, h3, h4, h5⟩ := h.is
  refine ⟨by rw [List.length_set]; exact h.len, cur.setIfInBounds j u, by simp [World.setCell, Array.getElem?_modify, h1], h2, h3, by simpa using h4, ?_⟩
  rw [← h5]
  simp [List.take_set]
theorem Row1.ne (h : Row1 w g e size n c xs) (k : Arr w g' t' cs') (ht : e ≠ t') : g ≠ g' := fun e' => by
  subst e'
  obtain ⟨cur, h1, _⟩ := h.is
  have := h1.symm.trans k.is
  injection this with this
  injection this with _ this
  exact ht this
theorem Row1.ne2 {size' n' c' : Nat} (h : Row1 w g e size n c xs) (k : Row1 w g' t' size' n' c' cs') (ht : e ≠ t') : g ≠ g' := fun e' => by
  subst e'
  obtain ⟨cur, h1, _⟩ := h.is
  obtain ⟨cur', h2, _⟩ := k.is
  have := h1.symm.trans h2
  injection this with this
  injection this with _ this
  exact ht this
theorem Row1.rd (h : Row1 w g e size n c xs) : Rd w (some ⟨g, 0, none⟩) size n xs := (h.own (Nat.zero_le _)).rd
theorem Row1.cap (h : Row1 w g e size n c xs) : n ≤ c := by obtain ⟨cur, _, h2, _⟩ := h.is; exact h2
theorem Arr.row (h : Arr w g e xs) (hl : xs.length = n * size) (hn : n ≤ 1000000000) : Row1 w g e size n n xs :=
  ⟨hl, xs.toArray, h.is, Nat.le_refl _, by unfold maxLen; omega, by simpa using hl, by simp [← hl]⟩
/-- A cell of a row of numbers. -/
theorem Row1.int {k : IntKind} {ys : List Int} (h : Row1 w g e 1 n c (ys.map (.int k))) {j : Nat} (hj : j < n) : Mine w ⟨g, j, none⟩ (.int k (gi ys j)) := by
  have hl := h.len
  simp at hl
  exact h.mine (by simp [gi, show j < ys.length by omega])
theorem gi_set (ys : List Int) (j k : Nat) (v : Int) (hj : j < ys.length) : gi (ys.set j v) k = if k = j then v else gi ys k := by
  unfold gi
  by_cases h : k = j
  · subst h; simp [hj]
  · simp [h, Ne.symm h]
end
/-- make of n numbers, as it runs. -/
theorem run_makeInts (n : Nat) (hn : n ≤ 1000000000) (w : World) : (Instr.makeSlice 31 (.int .i64 (n : Int)) (.int .i64 (n : Int))).run Try.prog w = .ok (.slice (some ⟨w.heap.size, 0, none⟩) n n) (w.alloc (.cells (List.replicate n (Value.int .i64 0)).toArray 3)) := by
  obtain ⟨i, h1, h2, h3, h4⟩ := elemInt1.info
  have := run_make_row (P := Try.prog) 31 3 i (.int .i64 0) Try.underlying31 h1 h2 h3 rfl .i64 .i64 n (by have := Nat.mul_le_mul h4 hn; omega) (by omega) w
  have e : madeCells #[Value.int .i64 0] n = (List.replicate n (Value.int .i64 0)).toArray := Array.ext' (by rw [toList_madeCells_one])
  rw [e] at this
  exact this
end Go.Proofs.Ytpnncadglhlclaa
