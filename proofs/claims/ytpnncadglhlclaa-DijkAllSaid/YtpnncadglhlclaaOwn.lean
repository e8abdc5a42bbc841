/- Slices that a call makes for itself: append to them, write into them. -/
import Derived.Test.YtpnncadglhlclaaMem
import Derived.Test.YtpnncadglhlclaaRows
import Derived.Laws.OwnMore
namespace Go.Proofs.Ytpnncadglhlclaa
open Go Go.RowKit

/-- The slice of n elements at A, with room for c, in a block of the call's own (from B on), holds these cells. -/
def Own (w : World) (B : Nat) (e : TypeId) (size : Nat) (A : Option Addr) (n c : Nat) (xs : List Value) : Prop := w.ownsRow B e size (.slice A n c) n xs

theorem own_form {w : World} {B : Nat} {e : TypeId} {size n : Nat} {v : Value} {xs : List Value} (h : w.ownsRow B e size v n xs) : ∃ A c, v = .slice A n c := by
  rcases h.2 with ⟨rfl, h0⟩ | ⟨g, cap, cur, rfl, _⟩
  · subst h0; exact ⟨none, 0, rfl⟩
  · exact ⟨_, _, rfl⟩

theorem Own.nil (w : World) (B : Nat) (e : TypeId) (size : Nat) : Own w B e size none 0 0 [] := World.ownsRow_nil _ _ _ _

/-- What the model knows of an element's type. -/
structure Elem (t e : TypeId) (size : Nat) : Prop where
  under : Try.prog.underlying t = some (.slice e)
  info : ∃ i z bytes, Try.prog.info? e = some i ∧ i.zero = some z ∧ i.size = size ∧ i.bytes = bytes ∧ z.cells.size = size ∧ bytes ≤ 64
  pos : 0 < size

section
variable {w w' : World} {B n c size : Nat} {e : TypeId} {A : Option Addr} {xs : List Value}

theorem Own.len (h : Own w B e size A n c xs) : xs.length = n * size := h.1
theorem Own.grows (h : Own w B e size A n c xs) (hg : Grows w w') : Own w' B e size A n c xs :=
  World.ownsRow.kept (row := none) h ⟨hg.os, hg.tape, hg.output, hg.size, fun i hi _ => hg.block i hi⟩ (by cases hv : (Value.slice A n c).ownBlock <;> simp)
theorem Own.now (h : Own w B e size A n c xs) (x : Later w) : Own x.now B e size A n c xs := h.grows x.grows
theorem Own.new (h : Own w B e size A n c xs) (o : Obj) : Own (w.alloc o) B e size A n c xs := h.grows ((Grows.refl w).new o)
theorem Own.drewN (h : Own w B e size A n c xs) (k : Nat) : Own (w.drewN k) B e size A n c xs := h.grows ((Grows.refl w).drewN k)

theorem Own.at_ (h : Own w B e size A n c xs) (hn : 0 < n) : ∃ g cur, A = some ⟨g, 0, none⟩ ∧ B ≤ g ∧ w.heap[g]? = some (.cells cur e (0, 0)) ∧ n ≤ c ∧ cur.size = c * size ∧ cur.toList.take (n * size) = xs := by
  rcases h.2 with ⟨h1, h0⟩ | ⟨g, cap, cur, h1, h2, h3, h4, _, h5, h6⟩
  · omega
  · injection h1 with h1 _ h7
    subst h1 h7
    exact ⟨g, cur, rfl, h2, h3, h4, h5, h6⟩

theorem Own.cell (h : Own w B e size A n c xs) {g : Nat} (hA : A = some ⟨g, 0, none⟩) {j : Nat} {u : Value} (hu : xs[j]? = some u) : w.cell? ⟨g, j, none⟩ = some u := by
  subst hA
  have := World.ownsRow.cells h (g := g) rfl j u hu
  unfold Addr.add at this
  split at this
  · rename_i h0; rw [h0]; exact this
  · simpa using this

theorem Own.rd (h : Own w B e size A n c xs) : Rd w A size n xs :=
  ⟨h.len, fun hn _ => by
    obtain ⟨g, cur, rfl, _⟩ := h.at_ hn
    exact ⟨g, 0, rfl, fun j u hu => by rw [Nat.zero_add]; exact h.cell rfl hu⟩⟩

theorem Own.frozen (h : Own w B e size A n c xs) {g : Nat} (hA : A = some ⟨g, 0, none⟩) (hn : 0 < n) (j : Nat) : w.frozen? ⟨g, j, none⟩ = false := by
  obtain ⟨g', cur, e', _, hh, _⟩ := h.at_ hn
  rw [hA] at e'
  injection e' with e'
  injection e' with e'
  subst e'
  simp [World.frozen?, hh]

/-- One cell is written. -/
theorem Own.set (h : Own w B e size A n c xs) {g : Nat} (hA : A = some ⟨g, 0, none⟩) (hn : 0 < n) (j : Nat) (u : Value) : Own (w.setCell ⟨g, j, none⟩ u) B e size A n c (xs.set j u) := by
  obtain ⟨g', cur, e', hB, hh, hc, hs, ht⟩ := h.at_ hn
  rw [hA] at e'
  injection e' with e'
  injection e' with e'
  subst e' hA
  have hm : c ≤ maxLen := by
    rcases h.2 with ⟨h1, _⟩ | ⟨g2, cap, cur2, h1, _, _, _, h5, _⟩
    · cases h1
    · injection h1 with _ _ h7; subst h7; exact h5
  refine ⟨by rw [List.length_set]; exact h.len, .inr ⟨g, c, cur.setIfInBounds j u, rfl, hB, ?_, hc, hm, by simpa using hs, ?_⟩⟩
  · simp [World.setCell, Array.getElem?_modify, hh]
  · rw [← ht]
    simp [List.take_set]

variable {ops : Array Oper} {rest : List Oper} {o : Oper} {a : Act} {Q : Exit → Act → World → Prop}

/-- append of what lies at ad. -/
theorem wp_app {t : TypeId} (E : Elem t e size) (hgd : o.guard = none) (s x : Operand) (ho : o.op = .call { callee := .builtin .append, args := #[s, x], argTypes := #[t, t] })
    (B n c : Nat) (A : Option Addr) (xs : List Value) (hs : a.eval s = .slice A n c) (hown : Own w B e size A n c xs) (g m c' : Nat) (news : List Value) (hx : a.eval x = .slice (some ⟨g, 0, none⟩) m c')
    (hl : news.length = m * size) (hnews : ∀ j u, news[j]? = some u → w.cell? ⟨g, j, none⟩ = some u) (h1 : ∀ u ∈ news, u.oneCell' = true) (hnm : n + m ≤ 1000000000000) (hbase : B ≤ w.heap.size)
    (h : ∀ A' c'' w', Own w' B e size A' (n + m) c'' (xs ++ news) → (∀ w0, Grows w0 w → w0.heap.size ≤ B → Grows w0 w') → wpList Try.prog ops Q rest (a.put o.dst (.slice A' (n + m) c'')) w') :
    wpList Try.prog ops Q (o :: rest) a w := by
  obtain ⟨i, z, bytes, hi, hz, hsz, hby, hzs, hb64⟩ := E.info
  refine wpList_append_own w hgd s x t ho B e i z size bytes E.under hi hz hsz hby hzs E.pos (.slice A n c) n xs hs hown ⟨g, 0, none⟩ m c' news hx hl (fun j u hu => ?_) h1 (by unfold maxLen; omega) ?_ hbase ?_
  · have := hnews j u hu
    unfold Addr.add
    split
    · rename_i h0; rw [h0] at this; exact this
    · simpa using this
  · exact Nat.le_trans (Nat.mul_le_mul hnm hb64) (by omega)
  · intro v' w' hown' hgr _
    obtain ⟨A', c'', rfl⟩ := own_form hown'
    refine h A' c'' w' hown' fun w0 hw0 hB => ?_
    refine ⟨hgr.os.trans hw0.os, hgr.tape.trans hw0.tape, hgr.output.trans hw0.output, Nat.le_trans hw0.size hgr.size, fun k hk => ?_⟩
    refine (hgr.block k (Nat.lt_of_lt_of_le hk hw0.size) fun e => ?_).trans (hw0.block k hk)
    have := World.ownsRow.lt hown k e.symm
    omega
end

end Go.Proofs.Ytpnncadglhlclaa
