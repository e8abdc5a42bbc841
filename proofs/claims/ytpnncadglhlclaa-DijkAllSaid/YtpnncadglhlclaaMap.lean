/- Maps from numbers to numbers that a call makes. -/
import Derived.Test.YtpnncadglhlclaaOpen
import Derived.Test.YtpnncadglhlclaaRows
import Derived.Maps.Own
import Derived.Maps.OwnOps
import Derived.Maps.OwnSet
import Derived.Maps.Views
namespace Go.Proofs.Ytpnncadglhlclaa
open Go Go.RowKit Go.Maps

theorem i64_wf {n : Int} (h : I64 n) : (Lit.int .i64 n).wf = true := by
  unfold I64 at h
  simp [Lit.wf, IntKind.min, IntKind.max, IntKind.bits, IntKind.signed]
  omega

/-- Block b is a map of s entries, at most n, that reads as f. -/
def MapII (w : World) (b n s : Nat) (f : Int → Option Int) : Prop :=
  ∃ D : DataW Unit, w.ownsMap Try.prog 3 (plainElem Try.prog 3) b n D ∧ Maps.size D = s ∧ (∀ k, Maps.has D (.int .i64 k) = (f k).isSome) ∧
    ∀ k, D.atKey (.int .i64 k) (.lit (.int .i64 0)) = .lit (.int .i64 ((f k).getD 0))

theorem keyedI : Keyed Try.prog 3 := int_keyed Try.underlying3
theorem zeroI (w : World) : (zeroValue 3).run Try.prog w = .ok (.int .i64 0) w := by kernel_rfl

theorem MapII.made (w : World) : MapII (w.alloc (.map #[] 0)) w.heap.size 0 0 (fun _ => none) :=
  ⟨.map [], World.ownsMap_made _ _ _ _, rfl, fun _ => rfl, fun _ => rfl⟩

theorem keyLit (k : Int) : WideAt.IsKeyLit (.int .i64 k) := by trivial

theorem Grows.row {w0 w w' : World} {b : Nat} (h : Grows w0 w) (hb : w0.heap.size ≤ b) (hg : w.grownBy w' (some b)) : Grows w0 w' :=
  ⟨hg.os.trans h.os, hg.tape.trans h.tape, hg.output.trans h.output, Nat.le_trans h.size hg.size, fun i hi => (hg.block i (Nat.lt_of_lt_of_le hi h.size) (by simp; omega)).trans (h.block i hi)⟩

theorem MapII.grows {w w' : World} {b n s : Nat} {f : Int → Option Int} (h : MapII w b n s f) (hg : Grows w w') : MapII w' b n s f := by
  obtain ⟨D, h1, h2⟩ := h
  exact ⟨D, h1.kept (row := none) ⟨hg.os, hg.tape, hg.output, hg.size, fun i hi _ => hg.block i hi⟩ (by simp), h2⟩

section
variable {w : World} {ops : Array Oper} {rest : List Oper} {o : Oper} {a : Act} {Q : Exit → Act → World → Prop}

theorem wp_mapPut (hg : o.guard = none) (m x v : Operand) (hop : o.op = Op.mapUpdate 118 m x v) (b n s : Nat) (f : Int → Option Int) (hm : a.eval m = .map (some b)) (hown : MapII w b n s f) (hn : n < maxLen)
    (k y : Int) (hx : a.eval x = .int .i64 k) (hv : a.eval v = .int .i64 y) (wk : I64 k) (wy : I64 y)
    (hK : ∀ w', MapII w' b (n + 1) (if (f k).isSome then s else s + 1) (fun z => if z = k then some y else f z) → w.grownBy w' (some b) → wpList Try.prog ops Q rest (a.put o.dst undef) w') :
    wpList Try.prog ops Q (o :: rest) a w := by
  obtain ⟨D, h1, h2, h3, h4⟩ := hown
  refine wpList_mapUpdate_own w hg m x v 118 hop 3 3 keyedI Try.underlying118 (plainElem Try.prog 3) b n D hm h1 hn _ _ (.int .i64 k) hx hv (keyOf_int_mk Try.underlying3 (i64_wf wk)) (.lit (.int .i64 y)) [] (plainElem_int Try.underlying3 (i64_wf wy)) ?_
  intro w' h' hgr
  refine hK w' ⟨_, h', ?_, fun z => ?_, fun z => ?_⟩ hgr
  · rw [Maps.size_put (h1.tidy keyedI), h2, h3]
  · by_cases e : z = k
    · subst e; rw [Maps.has_put_same (h1.isMap) (keyLit z)]; simp
    · rw [Maps.has_put_other (by intro h; injection h with _ h; exact e h), h3]; simp [e]
  · by_cases e : z = k
    · subst e; rw [Maps.atKey_put_same (h1.isMap) (keyLit z)]; simp
    · rw [Maps.atKey_put_other (by intro h; injection h with _ h; exact e h), h4]; simp [e]

theorem wp_mapGet (hg : o.guard = none) (m x : Operand) (hop : o.op = Op.lookup 118 m x false) (b n s : Nat) (f : Int → Option Int) (hm : a.eval m = .map (some b)) (hown : MapII w b n s f)
    (k : Int) (hx : a.eval x = .int .i64 k) (wk : I64 k)
    (hK : wpList Try.prog ops Q rest (a.put o.dst (.int .i64 ((f k).getD 0))) w) : wpList Try.prog ops Q (o :: rest) a w := by
  obtain ⟨D, h1, h2, h3, h4⟩ := hown
  refine wpList_lookup_own_int w hg m x 118 hop 3 3 .i64 keyedI Try.underlying118 Try.underlying3 (zeroI w) b n D hm h1 _ (.int .i64 k) hx (keyOf_int_mk Try.underlying3 (i64_wf wk)) ?_
  intro c hc _
  rw [h4] at hc
  injection hc with hc
  injection hc with _ hc
  rw [← hc]
  exact hK

theorem wp_mapGetOk (hg : o.guard = none) (m x : Operand) (hop : o.op = Op.lookup 118 m x true) (b n s : Nat) (f : Int → Option Int) (hm : a.eval m = .map (some b)) (hown : MapII w b n s f)
    (k : Int) (hx : a.eval x = .int .i64 k) (wk : I64 k)
    (hK : wpList Try.prog ops Q rest (a.put o.dst (.tuple #[.int .i64 ((f k).getD 0), .bool (f k).isSome])) w) : wpList Try.prog ops Q (o :: rest) a w := by
  obtain ⟨D, h1, h2, h3, h4⟩ := hown
  refine wpList_lookup_own_ok_int w hg m x 118 hop 3 3 .i64 keyedI Try.underlying118 Try.underlying3 (zeroI w) b n D hm h1 _ (.int .i64 k) hx (keyOf_int_mk Try.underlying3 (i64_wf wk)) ?_
  intro c hc _
  rw [h4] at hc
  injection hc with hc
  injection hc with _ hc
  rw [← hc, h3]
  exact hK

theorem wp_mapDel (hg : o.guard = none) (m x : Operand) (hop : o.op = Op.call { callee := Callee.builtin Builtin.delete, args := #[m, x], argTypes := #[118, 3] }) (b n s : Nat) (f : Int → Option Int) (hm : a.eval m = .map (some b)) (hown : MapII w b n s f)
    (k : Int) (hx : a.eval x = .int .i64 k) (wk : I64 k)
    (hK : ∀ w', MapII w' b n (if (f k).isSome then s - 1 else s) (fun z => if z = k then none else f z) → w.grownBy w' (some b) → wpList Try.prog ops Q rest (a.put o.dst (.tuple #[])) w') :
    wpList Try.prog ops Q (o :: rest) a w := by
  obtain ⟨D, h1, h2, h3, h4⟩ := hown
  refine wpList_delete_own w hg m x 118 3 hop 3 keyedI Try.underlying118 (plainElem Try.prog 3) b n D hm h1 _ (.int .i64 k) hx (keyOf_int_mk Try.underlying3 (i64_wf wk)) ?_
  intro w' h' hgr
  refine hK w' ⟨_, h', ?_, fun z => ?_, fun z => ?_⟩ hgr.grown
  · have := Maps.size_del (k := .int .i64 k) (h1.tidy keyedI)
    rw [h3, h2] at this
    split at this <;> simp_all
    omega
  · by_cases e : z = k
    · subst e; rw [Maps.has_del_same]; simp
    · rw [Maps.has_del_other (by intro h; injection h with _ h; exact e h), h3]; simp [e]
  · by_cases e : z = k
    · subst e; rw [Maps.atKey_del_same]; simp
    · rw [Maps.atKey_del_other (by intro h; injection h with _ h; exact e h), h4]; simp [e]

theorem wp_mapLen (hg : o.guard = none) (m : Operand) (hop : o.op = Op.call { callee := Callee.builtin Builtin.len, args := #[m], argTypes := #[118] }) (b n s : Nat) (f : Int → Option Int) (hm : a.eval m = .map (some b)) (hown : MapII w b n s f)
    (hK : wpList Try.prog ops Q rest (a.put o.dst (.int .i64 s)) w) : wpList Try.prog ops Q (o :: rest) a w := by
  obtain ⟨D, h1, h2, h3, h4⟩ := hown
  exact wpList_len_own w hg m 118 hop 3 3 Try.underlying118 (plainElem Try.prog 3) b n D hm h1 (by rw [h2]; exact hK)
end

end Go.Proofs.Ytpnncadglhlclaa
