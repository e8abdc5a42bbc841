/- Slices of a call's own, once more: appends of one element; slices that read as numbers and edges. -/
import Derived.Test.YtpnncadglhlclaaOwn
import Derived.Test.YtpnncadglhlclaaGraph
import Derived.Test.YtpnncadglhlclaaMap
import Derived.Test.YtpnncadglhlclaaStep2
namespace Go.Proofs.Ytpnncadglhlclaa
open Go Go.RowKit
theorem elemInt : Elem 31 3 1 := by
  have h : (Try.prog.info? 3).map (fun i => (i.zero, i.size, i.bytes)) = some (some (.int .i64 0), 1, 8) := by kernel_rfl
  obtain ⟨i, hi, hz, hs, hb⟩ := info_parts h
  exact ⟨Try.underlying31, ⟨i, _, 8, hi, hz, hs, hb, rfl, by omega⟩, by omega⟩
theorem Rd.intsH {w : World} {A : Option Addr} {n : Nat} {k : IntKind} {xs : List Int} (h : Rd w A 1 n (xs.map (.int k))) (hn : 0 < n) :
    ∃ b off, A = some ⟨b, off, none⟩ ∧ ∀ j, j < n → Holds w ⟨b, off + j, none⟩ (.int k (gi xs j)) := by
  obtain ⟨b, off, e, hc⟩ := h.ints hn
  exact ⟨b, off, e, fun j hj => ⟨hc j hj⟩⟩
theorem Rd.edgesH {w : World} {A : Option Addr} {n : Nat} {E : List Edg} (h : Rd w A 3 n (esCells E)) (hn : 0 < n) :
    ∃ b off, A = some ⟨b, off, none⟩ ∧ ∀ k, k < n → Holds w ⟨b, off + k * 3, none⟩ (.int .i64 (ge E k).f) ∧ Holds w ⟨b, off + k * 3 + 1, none⟩ (.int .i64 (ge E k).t) ∧ Holds w ⟨b, off + k * 3 + 2, none⟩ (.int .u64 (ge E k).w) := by
  obtain ⟨b, off, e, hc⟩ := h.edges hn
  exact ⟨b, off, e, fun j hj => ⟨⟨(hc j hj).1⟩, ⟨(hc j hj).2.1⟩, ⟨(hc j hj).2.2⟩⟩⟩
/-- What a call hands back: a slice of numbers. -/
theorem Own.build (w : World) (e : TypeId) (l : List Value) (B : Nat) (hB : B ≤ w.heap.size) (hl : l.length ≤ 1000000) : Own (w.alloc (.cells l.toArray e)) B e 1 (some ⟨w.heap.size, 0, none⟩) l.length l.length l :=
  ⟨by omega, .inr ⟨w.heap.size, l.length, l.toArray, rfl, hB, (by show (w.heap.push _)[w.heap.size]? = _; simp), Nat.le_refl _, by unfold maxLen; omega, by simp, by simp⟩⟩
theorem Own.at {w : World} {B n c : Nat} {e : TypeId} {A : Option Addr} {xs : List Value} (h : Own w B e 1 A n c xs) (hn : 0 < n) : ∃ g, A = some ⟨g, 0, none⟩ ∧ B ≤ g ∧ ∀ j u, xs[j]? = some u → Mine w ⟨g, j, none⟩ u := by
  obtain ⟨g, cur, rfl, hB, _⟩ := h.at_ hn
  exact ⟨g, rfl, hB, fun j u hu => ⟨h.cell rfl hu, h.frozen rfl hn j⟩⟩
section
variable {P : Program} {w : World} {e : TypeId} {ops : Array Oper} {rest : List Oper} {o : Oper} {a : Act} {Q : Exit → Act → World → Prop}
/-- append of one element of one cell. -/
theorem wp_app1 {t : TypeId} (E : Elem t e 1) (hgd : o.guard = none) (s x : Operand) (ho : o.op = .call { callee := .builtin .append, args := #[s, x], argTypes := #[t, t] })
    (w0 : World) (hw0 : Grows w0 w) (n c : Nat) (A : Option Addr) (xs : List Value) (hs : a.eval s = .slice A n c) (hown : Own w w0.heap.size e 1 A n c xs) (g c' : Nat) (v : Value) (hx : a.eval x = .slice (some ⟨g, 0, none⟩) 1 c')
    (hv : Holds w ⟨g, 0, none⟩ v) (h1 : v.oneCell' = true) (hnm : n + 1 ≤ 1000000000000)
    (h : ∀ A' c'' (y : Later w0), Own y.now w0.heap.size e 1 A' (n + 1) c'' (xs ++ [v]) → wpList Try.prog ops Q rest (a.put o.dst (.slice A' (n + 1) c'')) y.now) :
    wpList Try.prog ops Q (o :: rest) a w := by
  refine wp_app E hgd s x ho w0.heap.size n c A xs hs hown g 1 c' [v] hx rfl ?_ (by intro u hu; simp at hu; rw [hu]; exact h1) hnm hw0.size ?_
  · intro j u hu
    have hj : j = 0 := by
      have := (List.getElem?_eq_some_iff.1 hu).1
      simpa using this
    subst hj
    simp at hu
    subst hu
    exact hv.cell
  · intro A' c'' w' ho hg
    obtain ⟨y, rfl⟩ := (hg w0 hw0 (Nat.le_refl _)).later
    exact h A' c'' y ho
end
end Go.Proofs.Ytpnncadglhlclaa
