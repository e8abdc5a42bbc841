/- Objects in memory that are known whole: structs, boxes, own slices with their block. -/
import Derived.Test.YteodapefimlakaaQContractBuilds00
import Derived.Test.YteodapefimlakaaQContractBuilds01
import Derived.Deep.OwnRows
import Derived.StillTail
import Derived.Ground.Names2Prog
import Derived.Shelf.Slices.Clone
import Derived.Ground.SlgnProg
import Derived.Shelf.SlicesE.Clone
import Derived.Test.YteodapefimlakaaProg
import Derived.Deep.DeepCutAuto
/- Objects in memory that are known whole: structs, boxes, own slices with their block. -/
namespace Go.Proofs.Yteodapefimlakaa
open Go Go.RowKit
class Arr (w : World) (g : Nat) (t : outParam TypeId) (cs : outParam (List Value)) : Prop where
  is : w.heap[g]? = some (.cells cs.toArray t (0, 0))
section
variable {w w' w0 : World} {g g' : Nat} {t t' : TypeId} {cs cs' : List Value} {S : Nat → Prop}
theorem Arr.lt (h : Arr w g t cs) : g < w.heap.size := (Array.getElem?_eq_some_iff.1 h.is).1
theorem Arr.cell (h : Arr w g t cs) (j : Nat) : w.cell? ⟨g, j, none⟩ = cs[j]? := by simp [World.cell?, h.is]
theorem Arr.free (h : Arr w g t cs) (j : Nat) : w.frozen? ⟨g, j, none⟩ = false := by simp [World.frozen?, h.is]
theorem Arr.mine (h : Arr w g t cs) (j : Nat) {u : Value} (hu : cs[j]? = some u) : Mine w ⟨g, j, none⟩ u := ⟨by rw [h.cell, hu], h.free j⟩
theorem Arr.grow (h : Arr w g t cs) (k : Grows w w') : Arr w' g t cs := ⟨(k.block g h.lt).trans h.is⟩
theorem Arr.touch (h : Arr w g t cs) (k : Touch S w w') (hS : ¬ S g) : Arr w' g t cs := ⟨k.at hS h.is⟩
theorem Arr.set (h : Arr w g t cs) (j : Nat) (u : Value) : Arr (w.setCell ⟨g, j, none⟩ u) g t (cs.set j u) :=
  ⟨by have := h.is; simp [World.setCell, Array.getElem?_modify, this]⟩
theorem Arr.other (h : Arr w g t cs) {p : Addr} (hp : p.block ≠ g) (u : Value) : Arr (w.setCell p u) g t cs :=
  ⟨by rw [heap_setCell _ _ _ _ (Ne.symm hp)]; exact h.is⟩
theorem Arr.put (h : Arr w g t cs) {r : Nat} (hr : g ≠ r) (o : Obj) : Arr (w.putObj r o) g t cs := ⟨(World.putObj_heap_other hr).trans h.is⟩
theorem Arr.ne (h : Arr w g t cs) (k : Arr w g' t' cs') (ht : t ≠ t') : g ≠ g' := fun e => by
  subst e
  have := h.is.symm.trans k.is
  injection this with this
  injection this with _ this
  exact ht this
theorem Arr.same (h : Arr w g t cs) (k : Arr w g t' cs') : t = t' ∧ cs = cs' := by
  have := h.is.symm.trans k.is
  injection this with this
  injection this with h1 h2
  exact ⟨h2, by simpa using h1⟩
theorem Arr.rd (h : Arr w g t cs) {size n : Nat} (hl : cs.length = n * size) : Rd w (some ⟨g, 0, none⟩) size n cs :=
  ⟨hl, fun _ _ => ⟨g, 0, rfl, fun j u hu => by rw [Nat.zero_add, h.cell]; exact hu⟩⟩
theorem Arr.make (w : World) (cs : List Value) (t : TypeId) : Arr (w.alloc (.cells cs.toArray t)) w.heap.size t cs := ⟨World.alloc_heap_new w _⟩
theorem Arr.own (h : Arr w g t cs) {B size n : Nat} (hB : B ≤ g) (hl : cs.length = n * size) (hn : n ≤ 1000000000) : Own w B t size (some ⟨g, 0, none⟩) n n cs :=
  ⟨hl, .inr ⟨g, n, cs.toArray, rfl, hB, h.is, Nat.le_refl _, by unfold maxLen; omega, by simpa using hl, by simp [← hl]⟩⟩
instance Arr.now (x : Later w) [h : Arr w g t cs] : Arr x.now g t cs := h.grow x.grows
instance Arr.alloc (o : Obj) [h : Arr w g t cs] : Arr (w.alloc o) g t cs := h.grow ((Grows.refl w).new o)
instance Arr.drew [h : Arr w g t cs] : Arr w.drew g t cs := h.grow (Grows.refl w).drew
instance Arr.drewN (n : Nat) [h : Arr w g t cs] : Arr (w.drewN n) g t cs := h.grow ((Grows.refl w).drewN n)
instance Arr.m0 {v : Value} {l : List Value} [h : Arr w g t (v :: l)] : Mine w ⟨g, 0, none⟩ v := h.mine 0 rfl
instance Arr.m1 {v0 v : Value} {l : List Value} [h : Arr w g t (v0 :: v :: l)] : Mine w ⟨g, 1, none⟩ v := h.mine 1 rfl
instance Arr.m2 {v0 v1 v : Value} {l : List Value} [h : Arr w g t (v0 :: v1 :: v :: l)] : Mine w ⟨g, 2, none⟩ v := h.mine 2 rfl
instance Arr.m3 {v0 v1 v2 v : Value} {l : List Value} [h : Arr w g t (v0 :: v1 :: v2 :: v :: l)] : Mine w ⟨g, 3, none⟩ v := h.mine 3 rfl
instance Arr.m4 {v0 v1 v2 v3 v : Value} {l : List Value} [h : Arr w g t (v0 :: v1 :: v2 :: v3 :: v :: l)] : Mine w ⟨g, 4, none⟩ v := h.mine 4 rfl
instance Arr.m5 {v0 v1 v2 v3 v4 v : Value} {l : List Value} [h : Arr w g t (v0 :: v1 :: v2 :: v3 :: v4 :: v :: l)] : Mine w ⟨g, 5, none⟩ v := h.mine 5 rfl
end

structure Row1 (w : World) (g : Nat) (e : TypeId) (size n c : Nat) (xs : List Value) : Prop where
  len : xs.length = n * size
  is : ∃ cur, w.heap[g]? = some (.cells cur e (0, 0)) ∧ n ≤ c ∧ c ≤ maxLen ∧ cur.size = c * size ∧ cur.toList.take (n * size) = xs
section
variable {w w' w0 : World} {B g g' n c size : Nat} {e t' : TypeId} {xs cs' : List Value} {S : Nat → Prop}
theorem Row1.own (h : Row1 w g e size n c xs) (hB : B ≤ g) : Own w B e size (some ⟨g, 0, none⟩) n c xs := by
  obtain ⟨cur, h1, h2, h3, h4, h5⟩ := h.is
  exact ⟨h.len, .inr ⟨g, c, cur, rfl, hB, h1, h2, h3, h4, h5⟩⟩
theorem Own.row (h : Own w B e size (some ⟨g, 0, none⟩) n c xs) : Row1 w g e size n c xs ∧ B ≤ g := by
  rcases h.2 with ⟨h1, _⟩ | ⟨g', cap, cur, h1, h2, h3, h4, h5, h6, h7⟩
  · cases h1
  · injection h1 with h1 _ h8
    injection h1 with h1
    injection h1 with h1
    subst h1 h8
    exact ⟨⟨h.1, cur, h3, h4, h5, h6, h7⟩, h2⟩
theorem Row1.lt (h : Row1 w g e size n c xs) : g < w.heap.size := by
  obtain ⟨cur, h1, _⟩ := h.is
  exact (Array.getElem?_eq_some_iff.1 h1).1
theorem Row1.mine (h : Row1 w g e size n c xs) {j : Nat} {u : Value} (hu : xs[j]? = some u) : Mine w ⟨g, j, none⟩ u := by
  obtain ⟨cur, h1, _, _, _, h5⟩ := h.is
  refine ⟨?_, by simp [World.frozen?, h1]⟩
  simp only [World.cell?, h1]
  rw [← h5] at hu
  have : j < n * size := by
    rcases Nat.lt_or_ge j (n * size) with h | h
    · exact h
    · rw [List.getElem?_eq_none (by simp; omega)] at hu; cases hu
  rw [List.getElem?_take, if_pos this] at hu
  simpa using hu
theorem Row1.grow (h : Row1 w g e size n c xs) (k : Grows w w') : Row1 w' g e size n c xs := by
  have hl := h.lt
  obtain ⟨cur, h1, h2⟩ := h.is
  exact ⟨h.len, cur, (k.block g hl).trans h1, h2⟩
theorem Row1.touch (h : Row1 w g e size n c xs) (k : Touch S w w') (hS : ¬ S g) : Row1 w' g e size n c xs := by
  obtain ⟨cur, h1, h2⟩ := h.is
  exact ⟨h.len, cur, k.at hS h1, h2⟩
theorem Row1.other (h : Row1 w g e size n c xs) {p : Addr} (hp : p.block ≠ g) (u : Value) : Row1 (w.setCell p u) g e size n c xs := by
  obtain ⟨cur, h1, h2⟩ := h.is
  exact ⟨h.len, cur, by rw [heap_setCell _ _ _ _ (Ne.symm hp)]; exact h1, h2⟩
theorem Row1.set (h : Row1 w g e size n c xs) (j : Nat) (u : Value) : Row1 (w.setCell ⟨g, j, none⟩ u) g e size n c (xs.set j u) := by
  obtain ⟨cur, h1, h2, h3, h4, h5⟩ := h.is
  refine ⟨by rw [List.length_set]; exact h.len, cur.setIfInBounds j u, by simp [World.setCell, Array.getElem?_modify, h1], h2, h3, by simpa using h4, ?_⟩
  rw [← h5]
  simp [List.take_set]
theorem Row1.ne (h : Row1 w g e size n c xs) (k : Arr w g' t' cs') (ht : e ≠ t') : g ≠ g' := fun e' => by
  subst e'
  obtain ⟨cur, h1, _⟩ := h.is
  have := h1.symm.trans k.is
  injection this with this
  injection this with _ this
  exact ht this
theorem Row1.ne2 {size' n' c' : Nat} (h : Row1 w g e size n c xs) (k : Row1 w g' t' size' n' c' cs') (ht : e ≠ t') : g ≠ g' := fun e' => by
  subst e'
  obtain ⟨cur, h1, _⟩ := h.is
  obtain ⟨cur', h2, _⟩ := k.is
  have := h1.symm.trans h2
  injection this with this
  injection this with _ this
  exact ht this
theorem Row1.rd (h : Row1 w g e size n c xs) : Rd w (some ⟨g, 0, none⟩) size n xs := (h.own (Nat.zero_le _)).rd
theorem Row1.cap (h : Row1 w g e size n c xs) : n ≤ c := by obtain ⟨cur, _, h2, _⟩ := h.is; exact h2
theorem Arr.row (h : Arr w g e xs) (hl : xs.length = n * size) (hn : n ≤ 1000000000) : Row1 w g e size n n xs :=
  ⟨hl, xs.toArray, h.is, Nat.le_refl _, by unfold maxLen; omega, by simpa using hl, by simp [← hl]⟩
theorem Row1.int {k : IntKind} {ys : List Int} (h : Row1 w g e 1 n c (ys.map (.int k))) {j : Nat} (hj : j < n) : Mine w ⟨g, j, none⟩ (.int k (gi ys j)) := by
  have hl := h.len
  simp at hl
  exact h.mine (by simp [gi, show j < ys.length by omega])
theorem gi_set (ys : List Int) (j k : Nat) (v : Int) (hj : j < ys.length) : gi (ys.set j v) k = if k = j then v else gi ys k := by
  unfold gi
  by_cases h : k = j
  · subst h; simp [hj]
  · simp [h, Ne.symm h]
end
theorem run_makeInts (n : Nat) (hn : n ≤ 1000000000) (w : World) : (Instr.makeSlice 25 (.int .i64 (n : Int)) (.int .i64 (n : Int))).run Try.prog w = .ok (.slice (some ⟨w.heap.size, 0, none⟩) n n) (w.alloc (.cells (List.replicate n (Value.int .i64 0)).toArray 3)) := by
  obtain ⟨i, h1, h2, h3, h4⟩ := elemInt1.info
  have := run_make_row (P := Try.prog) 25 3 i (.int .i64 0) Try.underlying25 h1 h2 h3 rfl .i64 .i64 n (by have := Nat.mul_le_mul h4 hn; omega) (by omega) w
  have e : madeCells #[Value.int .i64 0] n = (List.replicate n (Value.int .i64 0)).toArray := Array.ext' (by rw [toList_madeCells_one])
  rw [e] at this
  exact this
end Go.Proofs.Yteodapefimlakaa

/- Plain law: edges laid by their nodes. -/
namespace Go.Proofs.Yteodapefimlakaa
def cntN (nd : Nat → Nat) (v j : Nat) : Nat := ((List.range j).filter fun i => nd i == v).length
def begN (nd : Nat → Nat) (m v : Nat) : Nat := ((List.range m).filter fun i => decide (nd i < v)).length
def rowN (nd : Nat → Nat) (m v : Nat) : List Nat := (List.range m).filter fun i => nd i == v
def posN (nd : Nat → Nat) (m i : Nat) : Nat := begN nd m (nd i) + cntN nd (nd i) i
theorem cntN_zero (nd : Nat → Nat) (v : Nat) : cntN nd v 0 = 0 := rfl
theorem cntN_succ (nd : Nat → Nat) (v j : Nat) : cntN nd v (j + 1) = cntN nd v j + if nd j = v then 1 else 0 := by
  unfold cntN
  rw [List.range_succ, List.filter_append, List.length_append]
  by_cases h : nd j = v <;> simp [h]
theorem cntN_mono (nd : Nat → Nat) (v : Nat) {i j : Nat} (h : i ≤ j) : cntN nd v i ≤ cntN nd v j := by
  induction j with
  | zero => rw [Nat.le_zero.1 h]; exact Nat.le_refl _
  | succ j ih =>
    rcases Nat.lt_or_ge i (j + 1) with h1 | h1
    · have := ih (by omega)
      rw [cntN_succ]; omega
    · rw [show i = j + 1 by omega]; exact Nat.le_refl _
theorem cntN_lt (nd : Nat → Nat) {i j : Nat} (h : i < j) : cntN nd (nd i) i < cntN nd (nd i) j := by
  have h1 := cntN_succ nd (nd i) i
  rw [if_pos rfl] at h1
  have h2 := cntN_mono nd (nd i) (show i + 1 ≤ j from h)
  omega
theorem begN_succ (nd : Nat → Nat) (m v : Nat) : begN nd m (v + 1) = begN nd m v + cntN nd v m := by
  unfold begN cntN
  induction m with
  | zero => rfl
  | succ m ih =>
    rw [List.range_succ, List.filter_append, List.filter_append, List.filter_append, List.length_append, List.length_append, List.length_append, ih]
    by_cases h : nd m = v
    · simp [h]; omega
    · by_cases h2 : nd m < v
      · have h3 : nd m < v + 1 := by omega
        simp [h, h2, h3]; omega
      · have h3 : ¬ nd m < v + 1 := by omega
        simp [h, h2, h3]
theorem begN_zero (nd : Nat → Nat) (m : Nat) : begN nd m 0 = 0 := by unfold begN; simp
theorem begN_le (nd : Nat → Nat) (m v : Nat) : begN nd m v ≤ m := by
  unfold begN
  exact Nat.le_trans (List.length_filter_le _ _) (by simp)
theorem begN_mono (nd : Nat → Nat) (m : Nat) {u v : Nat} (h : u ≤ v) : begN nd m u ≤ begN nd m v := by
  induction v with
  | zero => rw [Nat.le_zero.1 h]; exact Nat.le_refl _
  | succ v ih =>
    rcases Nat.lt_or_ge u (v + 1) with h1 | h1
    · have := ih (by omega)
      rw [begN_succ]; omega
    · rw [show u = v + 1 by omega]; exact Nat.le_refl _
theorem begN_all (nd : Nat → Nat) (m N : Nat) (h : ∀ i, i < m → nd i < N) : begN nd m N = m := by
  unfold begN
  rw [List.filter_eq_self.2 (fun i hi => by simpa using h i (List.mem_range.1 hi))]
  simp
theorem posN_lt (nd : Nat → Nat) (m i : Nat) (hi : i < m) : posN nd m i < begN nd m (nd i + 1) := by
  rw [begN_succ]
  have := cntN_lt nd hi
  unfold posN; omega
theorem posN_m (nd : Nat → Nat) (m i : Nat) (hi : i < m) : posN nd m i < m := Nat.lt_of_lt_of_le (posN_lt nd m i hi) (begN_le _ _ _)
theorem posN_ne (nd : Nat → Nat) (m : Nat) {i j : Nat} (h : i < j) (hj : j < m) : posN nd m i ≠ posN nd m j := by
  rcases Nat.lt_trichotomy (nd i) (nd j) with h1 | h1 | h1
  · have h2 := posN_lt nd m i (by omega)
    have h3 := begN_mono nd m (show nd i + 1 ≤ nd j from h1)
    have : begN nd m (nd j) ≤ posN nd m j := by unfold posN; omega
    omega
  · have := cntN_lt nd h
    unfold posN
    rw [h1] at this ⊢
    omega
  · have h2 := posN_lt nd m j hj
    have h3 := begN_mono nd m (show nd j + 1 ≤ nd i from h1)
    have : begN nd m (nd i) ≤ posN nd m i := by unfold posN; omega
    omega
theorem rowN_len (nd : Nat → Nat) (m v : Nat) : (rowN nd m v).length = cntN nd v m := rfl
theorem rowN_at (nd : Nat → Nat) (v : Nat) : ∀ m k i, (rowN nd m v)[k]? = some i → i < m ∧ nd i = v ∧ cntN nd v i = k
  | 0, k, i, h => by simp [rowN] at h
  | m + 1, k, i, h => by
    have e : rowN nd (m + 1) v = rowN nd m v ++ (if nd m = v then [m] else []) := by
      unfold rowN
      rw [List.range_succ, List.filter_append]
      by_cases hv : nd m = v <;> simp [hv]
    rw [e] at h
    rcases Nat.lt_or_ge k (rowN nd m v).length with hk | hk
    · rw [List.getElem?_append_left hk] at h
      obtain ⟨h1, h2, h3⟩ := rowN_at nd v m k i h
      exact ⟨by omega, h2, h3⟩
    · rw [List.getElem?_append_right hk] at h
      by_cases hv : nd m = v
      · rw [if_pos hv] at h
        rcases Nat.eq_zero_or_pos (k - (rowN nd m v).length) with h0 | h0
        · rw [h0] at h
          simp at h
          subst h
          have := rowN_len nd m v
          exact ⟨by omega, hv, by omega⟩
        · rw [List.getElem?_eq_none (by simp; omega)] at h
          cases h
      · rw [if_neg hv] at h
        simp at h
theorem rowN_lt (nd : Nat → Nat) {m v k i : Nat} (h : (rowN nd m v)[k]? = some i) : i < m := (rowN_at nd v m k i h).1
theorem laid_row (nd : Nat → Nat) (m v : Nat) (xs : List Nat) (_ : xs.length = m) (h : ∀ i, i < m → xs[posN nd m i]? = some i) : (xs.drop (begN nd m v)).take (cntN nd v m) = rowN nd m v := by
  apply List.ext_getElem?
  intro k
  rcases Nat.lt_or_ge k (cntN nd v m) with hk | hk
  · rw [List.getElem?_take, if_pos hk, List.getElem?_drop]
    have hk' : k < (rowN nd m v).length := hk
    obtain ⟨i, hi⟩ : ∃ i, (rowN nd m v)[k]? = some i := ⟨_, List.getElem?_eq_getElem hk'⟩
    rw [hi]
    obtain ⟨h1, h2, h3⟩ := rowN_at nd v m k i hi
    have := h i h1
    unfold posN at this
    rw [h2, h3] at this
    exact this
  · rw [List.getElem?_eq_none (by rw [List.length_take]; omega), List.getElem?_eq_none (by rw [rowN_len]; exact hk)]
end Go.Proofs.Yteodapefimlakaa

/- Regions that draw their order and whose last operations are forced: the operations ahead of them are walked once, in the order of the text (XGen); then the tail, in its order. -/
namespace Go.Proofs.Yteodapefimlakaa
open Go Go.RowKit
section
variable {P : Program} {md : Region.Mode} {ops : Array Oper} {w0 : World}
def gAnyT (P : Program) (md : Region.Mode) (ops : Array Oper) (w0 : World) (n : Nat) (L : Array Bool → Act → Env → Prop) : Nat → Array Bool → Act → Env → Prop
  | 0, l, a, G => L l a G
  | f + 1, l, a, G => Region.ready md ops l ≠ [] ∧ ∀ i ∈ Region.ready md ops l, i < n ∧ gOp P ops w0 i (gAnyT P md ops w0 n L f (l.setIfInBounds i true)) a G

theorem gAnyT_first {n i : Nat} {oi : Oper} {r : Out} {L : Array Bool → Act → Env → Prop} (hi : ops[i]? = some oi)
    (hs : Region.sinkB md ops n = true) (hc : Region.chainB md ops n = true) (hn : n < ops.size) (hin : i < n)
    (hdone : ∀ l a G, L l a G → ∀ j ∈ Region.ready md ops l, n ≤ j) :
    ∀ (f : Nat) (l : Array Bool) (a : Act) (G : Env), HeadInv md ops n l →
      (∀ j oj, ops[j]? = some oj → j ≠ i → l.getD j true = false → (∀ e ∈ oj.after, Region.binds md e = true → e.on ≠ i) → oi.apart ops oj = true) →
      i ∈ Region.ready md ops l → Leaves P ops w0 oi a G r →
      gAnyT P md ops w0 n L f (l.setIfInBounds i true) (putA a oi.dst r) (putG G oi.dst r) → gAnyT P md ops w0 n L (f + 1) l a G := by
  intro f
  induction f with
  | zero =>
    intro l a G inv _ hr hy H
    have hun := (mem_ready.1 hr).1
    refine ⟨fun h => (by rw [h] at hr; cases hr), fun j hj => ?_⟩
    have hjn : j < n := by
      rcases Nat.lt_or_ge j n with h | h
      · exact h
      · exact absurd hj (tail_waits hs hc hn inv _ i rfl hin hun j h)
    refine ⟨hjn, ?_⟩
    by_cases hji : j = i
    · subst hji; unfold gOp; simp only [hi]; exact ⟨r, hy, H⟩
    · have := hdone _ _ _ H j (ready_mono hj hji)
      omega
  | succ f ih =>
    intro l a G inv hfree hr hy H
    have hun := (mem_ready.1 hr).1
    refine ⟨fun h => (by rw [h] at hr; cases hr), fun j hj => ?_⟩
    have hjn : j < n := by
      rcases Nat.lt_or_ge j n with h | h
      · exact h
      · exact absurd hj (tail_waits hs hc hn inv _ i rfl hin hun j h)
    refine ⟨hjn, ?_⟩
    by_cases hji : j = i
    · subst hji; unfold gOp; simp only [hi]; exact ⟨r, hy, H⟩
    · have h1 := (H.2 j (ready_mono hj hji)).2
      obtain ⟨hjun, oj, hoj, hall⟩ := mem_ready.1 hj
      have hnot : ∀ e ∈ oj.after, Region.binds md e = true → e.on ≠ i := fun e he hb heq => by
        have h1 := hall e he hb
        rw [heq, getD_both hun] at h1
        cases h1
      have hfree' : ∀ k ok, ops[k]? = some ok → k ≠ i → (l.setIfInBounds j true).getD k true = false →
          (∀ e ∈ ok.after, Region.binds md e = true → e.on ≠ i) → oi.apart ops ok = true := fun k ok hk hki hun hno => by
        refine hfree k ok hk hki ?_ hno
        by_cases hjk : j = k
        · subst hjk; exact hjun
        · rw [getD_set_ne true hjk] at hun; exact hun
      have h2 := gOp_put hoj (hfree j oj hoj hji hjun hnot) hy h1
      refine gOp_mono (fun a' G' h3 => ih (l.setIfInBounds j true) a' G' (inv.set hj hjn) hfree' (ready_mono hr (Ne.symm hji)) h3.1 ?_) h2
      rw [Array.setIfInBounds_comm _ _ hji]
      exact h3.2

theorem gAnyT_lex {n g : Nat} {Lq : Act → Env → Prop} (hs : Region.sinkB md ops n = true) (hc : Region.chainB md ops n = true) (hn : n < ops.size) :
    ∀ (l : List Oper) (k : Nat) (listed : Array Bool) (a : Act) (G : Env), (∀ j, j < l.length → l[j]? = ops[k + j]?) → k + l.length = n → HeadInv md ops n listed →
    Region.lexHead md ops g l.length k listed = true → gLex P ops w0 Lq l a G →
    gAnyT P md ops w0 n (fun listed' a' G' => Region.seqB md ops g n listed' = true ∧ Lq a' G') l.length listed a G
  | [], k, listed, a, G, _, hk, _, hB, h => by
    have : k = n := by simpa using hk
    subst this
    exact ⟨by simpa [Region.lexHead] using hB, h⟩
  | o :: l, k, listed, a, G, hl, hk, inv, hB, h => by
    have h0 : ops[k]? = some o := by simpa using (hl 0 (by simp)).symm
    simp only [List.length_cons, Region.lexHead, Bool.and_eq_true] at hB
    obtain ⟨⟨hr, hf⟩, hB'⟩ := hB
    have hkn : k < n := by simp only [List.length_cons] at hk; omega
    have hr' : k ∈ Region.ready md ops listed := by simpa using hr
    obtain ⟨r, hy, hK⟩ := h
    exact gAnyT_first h0 hs hc hn hkn (fun l' _ _ h j hj => seqB_ready h.1 j hj) l.length listed a G inv (Region.free_spec h0 hf) hr' hy
      (gAnyT_lex hs hc hn l (k + 1) _ _ _ (fun j hj => by have := hl (j + 1) (by simp; omega); simpa [Nat.add_assoc, Nat.add_comm 1 j] using this) (by simp only [List.length_cons] at hk; omega) (inv.set hr' hkn) hB' hK)

theorem wpAny_of_gAnyT {n g : Nat} {L : Array Bool → Act → Env → Prop} {Q : Exit → Act → World → Prop}
    (hL : ∀ listed a G, L listed a G → ∀ w, Grows w0 w → ∀ a', Conc G a a' w → wpAny P md ops Q g listed a' w) :
    ∀ (f : Nat) (l : Array Bool) (a : Act) (G : Env) (a' : Act) (w : World), Grows w0 w → AllLast G → Conc G a a' w →
    gAnyT P md ops w0 n L f l a G → wpAny P md ops Q (f + g) l a' w
  | 0, l, a, G, a', w, hw, _, hc, h => by rw [Nat.zero_add]; exact hL _ _ _ h w hw a' hc
  | f + 1, l, a, G, a', w, hw, hG, hc, h => by
    rw [show f + 1 + g = (f + g) + 1 by omega]
    refine ⟨fun h0 => absurd h0 h.1, fun i hi => ?_⟩
    have h1 := (h.2 i hi).2
    unfold gOp at h1
    unfold wpOp
    split
    · rename_i ho
      simp only [ho] at h1
      exact wpAny_of_gAnyT hL f _ a G a' w hw hG hc h1
    · rename_i o ho
      simp only [ho] at h1
      obtain ⟨r, ⟨hg, hd, hy⟩, hK⟩ := h1
      rw [wanted_conc hg hc]
      rcases hy with ⟨hwant, hl, hf, howe⟩ | ⟨hwant, rfl⟩
      · rw [if_pos hwant]
        refine .inl ?_
        have hrun := howe w hw a' (fun t _ => hc.2 t)
        unfold Oper.wp
        generalize (execOp a'.eval o).run P w = res at hrun
        cases res with
        | halt x w' => simp only [runsTo] at hrun
        | ok x w' =>
          cases x <;> simp only [runsTo] at hrun <;> simp only [Oper.upon]
          case value u => exact wpAny_of_gAnyT hL f _ _ _ _ _ (hw.trans hrun.1) (hG.putG hl) (hc.step hG hrun.1 hd hf hrun.2) hK
          case skip => exact wpAny_of_gAnyT hL f _ _ _ _ _ (hw.trans hrun.1) (hG.putG hl) (hc.step hG hrun.1 hd hf hrun.2) hK
          case enter f args =>
            refine hrun.mono fun e w'' ⟨u, he, h1, h2⟩ => ?_
            subst he
            exact wpAny_of_gAnyT hL _ _ _ _ _ _ (hw.trans h1) (hG.putG hl) (hc.step hG h1 hd hf h2) hK
      · rw [hwant]
        simp only [Bool.false_eq_true, if_false]
        have hG0 : putG G o.dst (.inl undef) = G := by cases o.dst <;> rfl
        rw [hG0] at hK
        have hc0 := hc.step hG (Grows.refl w) hd (r := .inl undef) (u := undef) trivial rfl
        rw [hG0] at hc0
        exact wpAny_of_gAnyT hL f _ _ _ _ _ hw hG hc0 hK

def tailB (md : Region.Mode) (ops : Array Oper) (n : Nat) : Bool :=
  decide (n < ops.size) && Region.sinkB md ops n && Region.chainB md ops n && Region.lexHead md ops (ops.size - n) n 0 (Array.replicate ops.size false)

theorem wp_region_tail {w0 : World} {id : Nat} {Q : Exit → Act → World → Prop} {a : Act} {w : World} {l : List Oper} (n : Nat) (hm : P.follows .mixedOrders = true) (hB : tailB .any l.toArray n = true)
    (hw0 : Grows w0 w) (h : gLex P l.toArray w0 (fun a G => ∀ w', Grows w0 w' → ∀ a', Conc G a a' w' → wpList P l.toArray Q (l.drop n) a' w') (l.take n) a Env.no) : (Code.region id l.toArray true).wp P Q a w := by
  simp only [tailB, Bool.and_eq_true, decide_eq_true_eq] at hB
  obtain ⟨⟨⟨hn, hs⟩, hc⟩, hx⟩ := hB
  have hlen : l.length = n + (l.drop n).length := by simp at hn ⊢; omega
  have hn' : n < l.length := by simpa using hn
  refine wp_region_any hm ?_
  have inv : HeadInv .any l.toArray n (Array.replicate l.length false) := by
    refine ⟨by simp, ?_, ?_⟩
    · intro j oj hj hl
      rw [getD_replicate_false] at hl
      cases hl
    · intro t h1 h2
      have : t < l.length := by simpa using h2
      simp [this]
  have e1 : (l.take n).length = n := by simp; omega
  have e2 : (l.drop n).length = l.length - n := by simp
  have hx' : Region.lexHead .any l.toArray (l.length - n) (l.take n).length 0 (Array.replicate l.length false) = true := by rw [e1]; simpa using hx
  have hg := gAnyT_lex (P := P) (w0 := w0) (g := l.length - n) hs hc hn (l.take n) 0 (Array.replicate l.length false) a Env.no (fun j hj => by
      have : j < n := by rw [e1] at hj; exact hj
      simp [this]) (by rw [e1]; omega) inv hx' h
  have hall := wpAny_of_gAnyT (Q := Q) (g := l.length - n) (fun listed a' G' hL w' hw' a'' hc' => by
    have hh := hL.2 w' hw' a'' hc'
    have := wpAny_of_seq (P := P) (md := .any) (ops := l.toArray) (l.drop n) n listed a'' w' (fun j => by simp) (by rw [e2]; exact hL.1) hh
    rwa [e2] at this) (l.take n).length _ a Env.no a { w with drawn := w.drawn + 1 } (hw0.trans (Grows.drawn w _)) (fun t p h => by cases h) ⟨rfl, fun t => rfl⟩ hg
  have e3 : (l.take n).length + (l.length - n) = l.length := by rw [e1]; omega
  rw [e3] at hall
  simpa using hall
theorem wp_region_tail2 {id : Nat} {Q : Exit → Act → World → Prop} {a : Act} {w : World} {x : Later w} {l : List Oper} (n : Nat) (hm : P.follows .mixedOrders = true) (hB : tailB .any l.toArray n = true)
    (h : gLex P l.toArray w (fun a G => ∀ w', Grows w w' → ∀ a', Conc G a a' w' → wpList P l.toArray Q (l.drop n) a' w') (l.take n) a Env.no) : (Code.region id l.toArray true).wp P Q a x.now :=
  wp_region_tail n hm hB x.grows h
theorem wp_region_tail1 {id : Nat} {Q : Exit → Act → World → Prop} {a : Act} {w : World} {l : List Oper} (n : Nat) (hm : P.follows .mixedOrders = true) (hB : tailB .any l.toArray n = true)
    (h : gLex P l.toArray w (fun a G => ∀ w', Grows w w' → ∀ a', Conc G a a' w' → wpList P l.toArray Q (l.drop n) a' w') (l.take n) a Env.no) : (Code.region id l.toArray true).wp P Q a w :=
  wp_region_tail n hm hB (Grows.refl w) h
theorem gLex_endT {ops : Array Oper} {Q : Exit → Act → World → Prop} {tail : List Oper} {a : Act} (h : ∀ x : Later w0, wpList P ops Q tail a x.now) :
    gLex P ops w0 (fun a G => ∀ w', Grows w0 w' → ∀ a', Conc G a a' w' → wpList P ops Q tail a' w') [] a Env.no :=
  fun w' hw a' hc => by rw [conc_no hc]; exact h ⟨w', hw⟩
theorem gLex_endT1 {ops : Array Oper} {Q : Exit → Act → World → Prop} {tail : List Oper} {a : Act} {t : Tmp} {p : Pr} (hlt : t < a.tmps.size) (h : ∀ (x : Later w0) v, p v x.now → wpList P ops Q tail (a.put (some t) v) x.now) :
    gLex P ops w0 (fun a G => ∀ w', Grows w0 w' → ∀ a', Conc G a a' w' → wpList P ops Q tail a' w') [] a (Env.no.upd t p) :=
  fun w' hw a' hc => by
    obtain ⟨v, hv⟩ := conc_upd hc hlt
    rcases hv with ⟨hp, hc2⟩ | hne
    · rw [conc_no hc2]
      exact h ⟨w', hw⟩ v hp
    · exact absurd rfl hne
theorem gLex_prop {ops : Array Oper} {Q : Act → Env → Prop} {a : Act} {G : Env} {o : Oper} {rest : List Oper} {t : Tmp} (hg : o.guard = none) (hp : plainB ops o G = true) (hd : o.dst = some t) (hlt : t < a.tmps.size)
    (p : Pr) (hl : Lasts p) (hr : ∀ x : Later w0, runsTo P (fun u w' => Grows x.now w' ∧ p u w') ((execOp a.eval o).run P x.now))
    (h : gLex P ops w0 Q rest a (G.upd t p)) : gLex P ops w0 Q (o :: rest) a G := by
  obtain ⟨h1, h2, h3, h4⟩ := plain_spec hp
  refine ⟨.inr p, ⟨h1, h2, .inl ⟨by unfold Region.wanted; rw [hg], hl, ⟨t, hd, hlt⟩, fun w hw a' ha' => ?_⟩⟩, ?_⟩
  · rw [exec_same h4 h3 ha']
    exact hr ⟨w, hw⟩
  · rw [hd]
    exact h
def One (v : Value) : Pr := fun u w => ∃ g, u = .slice (some ⟨g, 0, none⟩) 1 1 ∧ Holds w ⟨g, 0, none⟩ v
theorem One.lasts (v : Value) : Lasts (One v) := fun _ _ _ hg ⟨g, e, h⟩ => ⟨g, e, ⟨hg.keeps h.cell⟩⟩
end
end Go.Proofs.Yteodapefimlakaa

/-
  DERIVED: THE SHELF's CONTRACTS AT THIS DUMP, IN PLAIN WORDS (tools/lay-plain.mjs out of 'TryShelf.lean', which tools/lay-shelf.mjs wrote): THE SAME DECLARATIONS UNDER THE SAME NAMES: 'import', 'namespace', 'open', 'def', 'theorem' AND NOTHING ELSE: no command of the shelf's: FOR A HAND-IN. Each laying: the table of numbers ('.._ren') and one theorem, a field a fact of the dump's own or the kernel's comparison; each contract: ONE APPLICATION.
-/
namespace Go.Proofs
open Go.Shelf
def Try.laysNm215_ren : Go.Shelf.Ren := ⟨fun | 15 => 55 | n => n, fun | 22 => 25 | 3 => 3 | 4 => 4 | n => n, fun | n => n⟩
theorem Try.laysNm215 : Go.Proofs.Lays2.n15 Try.prog Try.laysNm215_ren := {
  mixed := by kernel_rfl
  f15 := Try.func55.trans (congrArg some (by kernel_rfl))
  t3 := Try.underlying3
  a3 := Try.isAgg3
  z3 := Try.sizeOf3
  v3 := Try.zeroValue3
  t4 := Try.underlying4
  a4 := Try.isAgg4
  z4 := Try.sizeOf4
  v4 := Try.zeroValue4
  t22 := Try.underlying25
  a22 := Try.isAgg25
  z22 := Try.sizeOf25
  v22 := Try.zeroValue25
  i3 := by kernel_rfl }
open Go.RowKit Go.Lib in
theorem Try.slices_Clone_int (b off n c : Nat) (zs : List Int) (w : World) (hz : n ≤ zs.length) (hbig : n * 8 ≤ 140737488355328) (hc : ∀ j, j < zs.length → w.cell? ⟨b, off + j, none⟩ = some (.int .i64 (zs.getD j 0))) :
    Calls Try.prog 55 #[.slice (some ⟨b, off, none⟩) n c] w fun e w' => ∃ v', e = .returned v' ∧ w'.ownsRow w.heap.size 3 1 v' n ((zs.take n).map (Value.int .i64)) ∧ v' ≠ .slice none 0 0 ∧ Below w.heap.size w w' := Any.slices_Clone_int Try.laysNm215 b off n c zs w hz hbig hc
open Go.RowKit Go.Lib in
theorem Try.slices_Clone_int_nil (n c : Nat) (w : World) :
    Calls Try.prog 55 #[.slice none n c] w fun e w' => e = .returned (.slice none 0 0) ∧ w' = w := Any.slices_Clone_int_nil Try.laysNm215 n c w
open Go.RowKit Go.Lib in
theorem Try.slices_Clone_int_zero (a : Addr) (c : Nat) (w : World) :
    Calls Try.prog 55 #[.slice (some a) 0 c] w fun e w' => ∃ v', e = .returned v' ∧ w'.ownsRow w.heap.size 3 1 v' 0 [] ∧ v' ≠ .slice none 0 0 ∧ Below w.heap.size w w' := Any.slices_Clone_int_zero Try.laysNm215 a c w
def Try.laysSlE041_f55_ren : Go.Shelf.Ren := ⟨fun | 41 => 55 | n => n, fun | 22 => 25 | 23 => 3 | 4 => 4 | n => n, fun | n => n⟩
theorem Try.laysSlE041_f55 : Go.Proofs.SlLaysE0.n41 Try.prog Try.laysSlE041_f55_ren := {
  mixed := by kernel_rfl
  f41 := ⟨Try.f55.name, by decide, Try.func55.trans (congrArg some (by kernel_rfl))⟩
  t4 := Try.underlying4
  a4 := Try.isAgg4
  z4 := Try.sizeOf4
  v4 := Try.zeroValue4
  t22 := Try.underlying25
  a22 := Try.isAgg25
  z22 := Try.sizeOf25
  v22 := Try.zeroValue25 }
open Go.RowKit Go.Lib in
theorem Try.slices_Clone_f55 (i0 : TypeInfo) (z : Value) (size bytes : Nat) (hi : Try.prog.info? 3 = some i0) (hz0 : i0.zero = some z) (hz1 : i0.size = size) (hz2 : i0.bytes = bytes) (hzs : z.cells.size = size) (hsz : 0 < size) (z23 : ∀ w, (Go.sizeOf 3).run Try.prog w = .ok size w) (b off n c : Nat) (news : List Value) (w : World) (hl : news.length = n * size) (hn : n ≤ maxLen) (hbig : n * bytes ≤ 140737488355328) (hc : ∀ j u, news[j]? = some u → w.cell? ⟨b, off + j, none⟩ = some u) (h1 : ∀ u ∈ news, u.oneCell' = true) :
    Calls Try.prog 55 #[.slice (some ⟨b, off, none⟩) n c] w fun e w' => ∃ v', e = .returned v' ∧ w'.ownsRow w.heap.size 3 size v' n news ∧ v' ≠ .slice none 0 0 ∧ Below w.heap.size w w' := AnyE.slices_Clone Try.laysSlE041_f55 i0 z size bytes hi hz0 hz1 hz2 hzs hsz z23 b off n c news w hl hn hbig hc h1
def Try.laysSlE041_f99_ren : Go.Shelf.Ren := ⟨fun | 41 => 99 | n => n, fun | 22 => 64 | 23 => 4 | 4 => 4 | n => n, fun | n => n⟩
theorem Try.laysSlE041_f99 : Go.Proofs.SlLaysE0.n41 Try.prog Try.laysSlE041_f99_ren := {
  mixed := by kernel_rfl
  f41 := ⟨Try.f99.name, by decide, Try.func99.trans (congrArg some (by kernel_rfl))⟩
  t4 := Try.underlying4
  a4 := Try.isAgg4
  z4 := Try.sizeOf4
  v4 := Try.zeroValue4
  t22 := Try.underlying64
  a22 := Try.isAgg64
  z22 := Try.sizeOf64
  v22 := Try.zeroValue64 }
open Go.RowKit Go.Lib in
theorem Try.slices_Clone_f99 (i0 : TypeInfo) (z : Value) (size bytes : Nat) (hi : Try.prog.info? 4 = some i0) (hz0 : i0.zero = some z) (hz1 : i0.size = size) (hz2 : i0.bytes = bytes) (hzs : z.cells.size = size) (hsz : 0 < size) (z23 : ∀ w, (Go.sizeOf 4).run Try.prog w = .ok size w) (b off n c : Nat) (news : List Value) (w : World) (hl : news.length = n * size) (hn : n ≤ maxLen) (hbig : n * bytes ≤ 140737488355328) (hc : ∀ j u, news[j]? = some u → w.cell? ⟨b, off + j, none⟩ = some u) (h1 : ∀ u ∈ news, u.oneCell' = true) :
    Calls Try.prog 99 #[.slice (some ⟨b, off, none⟩) n c] w fun e w' => ∃ v', e = .returned v' ∧ w'.ownsRow w.heap.size 4 size v' n news ∧ v' ≠ .slice none 0 0 ∧ Below w.heap.size w w' := AnyE.slices_Clone Try.laysSlE041_f99 i0 z size bytes hi hz0 hz1 hz2 hzs hsz z23 b off n c news w hl hn hbig hc h1
open Go.RowKit Go.Lib in
theorem Try.slices_Clone_nil_f55 (n c : Nat) (w : World) :
    Calls Try.prog 55 #[.slice none n c] w fun e w' => e = .returned (.slice none 0 0) ∧ w' = w := AnyE.slices_Clone_nil Try.laysSlE041_f55 n c w
open Go.RowKit Go.Lib in
theorem Try.slices_Clone_nil_f99 (n c : Nat) (w : World) :
    Calls Try.prog 99 #[.slice none n c] w fun e w' => e = .returned (.slice none 0 0) ∧ w' = w := AnyE.slices_Clone_nil Try.laysSlE041_f99 n c w
end Go.Proofs

/- Walk: edges laid by their nodes. -/
namespace Go.Proofs.Yteodapefimlakaa
open Go Go.RowKit
def nv (l : List Nat) : List Value := l.map fun (i : Nat) => Value.int .i64 (i : Int)
theorem nv_len (l : List Nat) : (nv l).length = l.length := by simp [nv]
theorem nv_set (l : List Nat) (j v : Nat) : (nv l).set j (.int .i64 (v : Int)) = nv (l.set j v) := by simp [nv, List.map_set]
theorem nv_rep (n : Nat) : nv (List.replicate n 0) = List.replicate n (.int .i64 0) := by simp [nv]
def gn (l : List Nat) (k : Nat) : Nat := l.getD k 0
theorem nv_at {l : List Nat} {j : Nat} (h : j < l.length) : (nv l)[j]? = some (.int .i64 (gn l j : Int)) := by simp [nv, gn, h]
theorem gn_rep (n k : Nat) : gn (List.replicate n 0) k = 0 := by
  unfold gn
  rw [List.getD_eq_getElem?_getD, List.getElem?_replicate]
  split <;> rfl
theorem gn_set (l : List Nat) (j k v : Nat) (hj : j < l.length) : gn (l.set j v) k = if k = j then v else gn l k := by
  unfold gn
  by_cases h : k = j
  · subst h; simp [hj]
  · simp [h, Ne.symm h]
theorem Row1.nat {w : World} {g n c : Nat} {e : TypeId} {l : List Nat} (h : Row1 w g e 1 n c (nv l)) {j : Nat} (hj : j < n) : Mine w ⟨g, j, none⟩ (.int .i64 (gn l j : Int)) := by
  have hl := h.len
  rw [nv_len] at hl
  exact h.mine (nv_at (by omega))
theorem Row1.nlen {w : World} {g n c : Nat} {e : TypeId} {l : List Nat} (h : Row1 w g e 1 n c (nv l)) : l.length = n := by
  have hl := h.len
  rw [nv_len] at hl
  omega
def GiveLaid (w : World) (N n : Nat) (f : Nat → Nat) (e : Ending) (w' : World) : Prop :=
  ∃ g1 g2 X B, e = .returned (.agg #[.slice (some ⟨g1, 0, none⟩) n n, .slice (some ⟨g2, 0, none⟩) (N + 1) (N + 1)]) ∧ Row1 w' g1 3 1 n n (nv X) ∧ Row1 w' g2 3 1 (N + 1) (N + 1) (nv B) ∧
    (∀ i, i < n → X[posN f n i]? = some i) ∧ (∀ v, v ≤ N → gn B v = begN f n v) ∧ w.heap.size ≤ g1 ∧ w.heap.size ≤ g2 ∧ Grows w w'
theorem eq_add2 (a : Nat) : (a = a + 1 + 1) = False := by simp; omega
theorem eq_add3 (a : Nat) : (a = a + 1 + 1 + 1) = False := by simp; omega
theorem heap_drew (w : World) : w.drew.heap = w.heap := rfl
theorem heap_push (w : World) (o : Obj) : (w.alloc o).heap = w.heap.push o := rfl
theorem cntN_le (f : Nat → Nat) (v j : Nat) : cntN f v j ≤ j := by unfold cntN; exact Nat.le_trans (List.length_filter_le _ _) (by simp)
theorem cloneN (A : Option Addr) (n c : Nat) (B : List Nat) (w : World) (h : Rd w A 1 n (nv B)) (h0 : 0 < n) (hn : n ≤ 1000000) :
    Calls Try.prog 55 #[.slice A n c] w fun e w' => ∃ g c', e = .returned (.slice (some ⟨g, 0, none⟩) n c') ∧ Row1 w' g 3 1 n c' (nv B) ∧ w.heap.size ≤ g ∧ Grows w w' := by
  have hl : B.length = n := by have := h.len; rwa [nv_len] at this
  obtain ⟨b, off, rfl, hc⟩ := h.at_ h0
  have hm : nv B = (B.map Int.ofNat).map (Value.int .i64) := by simp [nv]
  refine (Try.slices_Clone_int b off n c (B.map Int.ofNat) w (by simp; omega) (by omega) (fun j hj => hc j _ (by
    rw [hm, List.getElem?_map, List.getElem?_eq_getElem hj]
    simp [List.getD_eq_getElem?_getD, List.getElem?_eq_getElem hj]))).mono ?_
  rintro e w' ⟨v', rfl, ho, hv, hg⟩
  obtain ⟨A', c', rfl⟩ := own_form ho
  rw [List.take_of_length_le (by simp; omega), ← hm] at ho
  obtain ⟨g, hA, hB⟩ : ∃ g, A' = some ⟨g, 0, none⟩ ∧ w.heap.size ≤ g := by
    obtain ⟨g, cur, h1, h2, _⟩ := Own.at_ (A := A') (c := c') ho h0
    exact ⟨g, h1, h2⟩
  subst hA
  exact ⟨g, c', rfl, (Own.row ho).1, hB, hg⟩
end Go.Proofs.Yteodapefimlakaa
