/- Slices that a call makes with make. -/
import Derived.Test.YtpnncadglhlclaaOwn2
import Derived.OwnWalk
namespace Go.Proofs.Ytpnncadglhlclaa
open Go Go.RowKit
/-- What the model knows of an element's type of one cell. -/
structure Elem1 (t e : TypeId) (z : Value) : Prop where
  under : Try.prog.underlying t = some (.slice e)
  info : ∃ i, Try.prog.info? e = some i ∧ i.zero = some z ∧ i.size = 1 ∧ i.bytes ≤ 64
  one : z.cells = #[z]
theorem Elem1.elem {t e : TypeId} {z : Value} (h : Elem1 t e z) : Elem t e 1 := by
  obtain ⟨i, h1, h2, h3, h4⟩ := h.info
  exact ⟨h.under, ⟨i, z, i.bytes, h1, h2, h3, rfl, by rw [h.one]; rfl, h4⟩, by omega⟩
theorem elemInt1 : Elem1 31 3 (.int .i64 0) := by
  have h : (Try.prog.info? 3).map (fun i => (i.zero, i.size, i.bytes)) = some (some (.int .i64 0), 1, 8) := by kernel_rfl
  obtain ⟨i, hi, hz, hs, hb⟩ := info_parts h
  exact ⟨Try.underlying31, ⟨i, hi, hz, hs, by omega⟩, rfl⟩
theorem elemU64 : Elem1 36 37 (.int .u64 0) := by
  have h : (Try.prog.info? 37).map (fun i => (i.zero, i.size, i.bytes)) = some (some (.int .u64 0), 1, 8) := by kernel_rfl
  obtain ⟨i, hi, hz, hs, hb⟩ := info_parts h
  exact ⟨Try.underlying36, ⟨i, hi, hz, hs, by omega⟩, rfl⟩
section
variable {w : World} {e : TypeId} {ops : Array Oper} {rest : List Oper} {o : Oper} {a : Act} {Q : Exit → Act → World → Prop}
/-- make of n elements of one cell. -/
theorem wp_make1 {t : TypeId} {z : Value} (E : Elem1 t e z) (hgd : o.guard = none) (l c : Operand) (ho : o.op = Op.makeSlice t l c) (w0 : World) (hw0 : Grows w0 w) (n : Nat) {L C : Int} (hl : a.eval l = .int .i64 L) (hc : a.eval c = .int .i64 C)
    (hL : L = (n : Int)) (hC : C = (n : Int)) (hn : n ≤ 1000000000)
    (h : ∀ g (y : Later w0), w0.heap.size ≤ g → Own y.now w0.heap.size e 1 (some ⟨g, 0, none⟩) n n (List.replicate n z) → wpList Try.prog ops Q rest (a.put o.dst (.slice (some ⟨g, 0, none⟩) n n)) y.now) :
    wpList Try.prog ops Q (o :: rest) a w := by
  obtain ⟨i, h1, h2, h3, h4⟩ := E.info
  refine wpList_make_full w hgd l c t ho w0.heap.size e i z 1 E.under h1 h2 h3 .i64 .i64 L C n hl hc hL hC ?_ (by unfold maxLen; omega) hw0.size ?_
  · have := Nat.mul_le_mul h4 hn; omega
  · intro w' hown hg
    have hg' : Grows w w' := ⟨hg.os, hg.tape, hg.output, hg.size, fun k hk => hg.block k hk (by simp)⟩
    obtain ⟨y, rfl⟩ := (hw0.trans hg').later
    rw [E.one, toList_madeCells_one, Nat.mul_one] at hown
    exact h _ y hw0.size hown
end
section
variable {w : World} {e : TypeId} {ops : Array Oper} {rest : List Oper} {o : Oper} {a : Act} {Q : Exit → Act → World → Prop}
/-- append of one element of some cells. -/
theorem wp_appS {t : TypeId} {size : Nat} (E : Elem t e size) (hgd : o.guard = none) (s x : Operand) (ho : o.op = .call { callee := .builtin .append, args := #[s, x], argTypes := #[t, t] })
    (w0 : World) (hw0 : Grows w0 w) (n c : Nat) (A : Option Addr) (xs : List Value) (hs : a.eval s = .slice A n c) (hown : Own w w0.heap.size e size A n c xs) (g c' : Nat) (news : List Value) (hx : a.eval x = .slice (some ⟨g, 0, none⟩) 1 c')
    (hl : news.length = size) (hv : ∀ j u, news[j]? = some u → w.cell? ⟨g, j, none⟩ = some u) (h1 : ∀ u ∈ news, u.oneCell' = true) (hnm : n + 1 ≤ 1000000000000)
    (h : ∀ A' c'' (y : Later w0), Own y.now w0.heap.size e size A' (n + 1) c'' (xs ++ news) → wpList Try.prog ops Q rest (a.put o.dst (.slice A' (n + 1) c'')) y.now) :
    wpList Try.prog ops Q (o :: rest) a w := by
  refine wp_app E hgd s x ho w0.heap.size n c A xs hs hown g 1 c' news hx (by omega) hv h1 hnm hw0.size ?_
  intro A' c'' w' ho hg
  obtain ⟨y, rfl⟩ := (hg w0 hw0 (Nat.le_refl _)).later
  exact h A' c'' y ho
end
/-- A map is nothing to an append. -/
theorem MapII.row {w w' : World} {b n s B n' c size : Nat} {f : Int → Option Int} {e : TypeId} {A : Option Addr} {xs : List Value} (h : MapII w b n s f) (ho : Own w B e size A n' c xs) (hg : w.grownBy w' (Value.slice A n' c).ownBlock) : MapII w' b n s f := by
  obtain ⟨D, h1, h2⟩ := h
  refine ⟨D, h1.kept hg ?_, h2⟩
  obtain ⟨es, clock, hb, _⟩ := h1
  intro hc
  rcases ho.2 with ⟨h3, _⟩ | ⟨g, cap, cur, h3, _, h4, _⟩
  · injection h3 with h3
    subst h3
    simp [Value.ownBlock] at hc
  · injection h3 with h3
    subst h3
    simp [Value.ownBlock] at hc
    subst hc
    rw [hb] at h4
    cases h4
section
variable {w : World} {e : TypeId} {ops : Array Oper} {rest : List Oper} {o : Oper} {a : Act} {Q : Exit → Act → World → Prop}
/-- append of one element of one cell, and what it leaves as it was. -/
theorem wp_app1M {t : TypeId} (E : Elem t e 1) (hgd : o.guard = none) (s x : Operand) (ho : o.op = .call { callee := .builtin .append, args := #[s, x], argTypes := #[t, t] })
    (w0 : World) (hw0 : Grows w0 w) (n c : Nat) (A : Option Addr) (xs : List Value) (hs : a.eval s = .slice A n c) (hown : Own w w0.heap.size e 1 A n c xs) (g c' : Nat) (v : Value) (hx : a.eval x = .slice (some ⟨g, 0, none⟩) 1 c')
    (hv : Holds w ⟨g, 0, none⟩ v) (h1 : v.oneCell' = true) (hnm : n + 1 ≤ 1000000000000)
    (h : ∀ A' c'' (y : Later w0), Own y.now w0.heap.size e 1 A' (n + 1) c'' (xs ++ [v]) → w.grownBy y.now (Value.slice A n c).ownBlock → wpList Try.prog ops Q rest (a.put o.dst (.slice A' (n + 1) c'')) y.now) :
    wpList Try.prog ops Q (o :: rest) a w := by
  obtain ⟨i, z, bytes, hi, hz, hsz, hby, hzs, hb64⟩ := E.info
  refine wpList_append_own w hgd s x t ho w0.heap.size e i z 1 bytes E.under hi hz hsz hby hzs E.pos (.slice A n c) n xs hs hown ⟨g, 0, none⟩ 1 c' [v] hx rfl (fun j u hu => ?_) (by intro u hu; simp at hu; rw [hu]; exact h1) (by unfold maxLen; omega) ?_ hw0.size ?_
  · have hj : j = 0 := by
      have := (List.getElem?_eq_some_iff.1 hu).1
      simpa using this
    subst hj
    simp at hu
    subst hu
    simpa [Addr.add] using hv.cell
  · exact Nat.le_trans (Nat.mul_le_mul hnm hb64) (by omega)
  · intro v' w' hown' hgr _
    obtain ⟨A', c'', rfl⟩ := own_form hown'
    have hgw : Grows w0 w' := by
      refine ⟨hgr.os.trans hw0.os, hgr.tape.trans hw0.tape, hgr.output.trans hw0.output, Nat.le_trans hw0.size hgr.size, fun k hk => ?_⟩
      refine (hgr.block k (Nat.lt_of_lt_of_le hk hw0.size) fun e => ?_).trans (hw0.block k hk)
      have := World.ownsRow.lt hown k e.symm
      omega
    obtain ⟨y, rfl⟩ := hgw.later
    exact h A' c'' y hown' hgr
end
/-- A cell of an own slice is written. -/
theorem Own.put {w w0 : World} {n c j g : Nat} {e : TypeId} {xs : List Value} (h : Own w w0.heap.size e 1 (some ⟨g, 0, none⟩) n c xs) (hw0 : Grows w0 w) (hn : 0 < n) (u : Value) :
    ∃ y : Later w0, w.setCell ⟨g, j, none⟩ u = y.now ∧ Own y.now w0.heap.size e 1 (some ⟨g, 0, none⟩) n c (xs.set j u) := by
  obtain ⟨g', hA, hB, _⟩ := h.at hn
  injection hA with hA
  injection hA with hA
  subst hA
  exact ⟨⟨_, hw0.set hB u⟩, rfl, h.set rfl hn j u⟩
end Go.Proofs.Ytpnncadglhlclaa
