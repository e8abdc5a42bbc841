/- Maps from numbers to weights that a call makes. -/
import Derived.Test.YtpnncadglhlclaaMap
import Derived.Lib.SlKeysI
namespace Go.Proofs.Ytpnncadglhlclaa
open Go Go.RowKit Go.Maps
theorem u64_wf {n : Int} (h : U64 n) : (Lit.int .u64 n).wf = true := by
  unfold U64 at h
  simp [Lit.wf, IntKind.min, IntKind.max, IntKind.bits, IntKind.signed]
  omega
/-- Block b is a map of s entries, at most n, that reads as f. -/
def MapIU (w : World) (b n s : Nat) (f : Int → Option Int) : Prop :=
  ∃ D : DataW Unit, w.ownsMap Try.prog 3 (plainElem Try.prog 37) b n D ∧ Maps.size D = s ∧ (∀ k, Maps.has D (.int .i64 k) = (f k).isSome) ∧
    ∀ k, D.atKey (.int .i64 k) (.lit (.int .u64 0)) = .lit (.int .u64 ((f k).getD 0))
theorem zeroU (w : World) : (zeroValue 37).run Try.prog w = .ok (.int .u64 0) w := by kernel_rfl
theorem MapIU.made (w : World) : MapIU (w.alloc (.map #[] 0)) w.heap.size 0 0 (fun _ => none) :=
  ⟨.map [], World.ownsMap_made _ _ _ _, rfl, fun _ => rfl, fun _ => rfl⟩
theorem MapIU.grows {w w' : World} {b n s : Nat} {f : Int → Option Int} (h : MapIU w b n s f) (hg : Grows w w') : MapIU w' b n s f := by
  obtain ⟨D, h1, h2⟩ := h
  exact ⟨D, h1.kept (row := none) ⟨hg.os, hg.tape, hg.output, hg.size, fun i hi _ => hg.block i hi⟩ (by simp), h2⟩
section
variable {w : World} {ops : Array Oper} {rest : List Oper} {o : Oper} {a : Act} {Q : Exit → Act → World → Prop}
theorem wp_mapPutU (hg : o.guard = none) (m x v : Operand) (hop : o.op = Op.mapUpdate 154 m x v) (b n s : Nat) (f : Int → Option Int) (hm : a.eval m = .map (some b)) (hown : MapIU w b n s f) (hn : n < maxLen)
    (k y : Int) (hx : a.eval x = .int .i64 k) (hv : a.eval v = .int .u64 y) (wk : I64 k) (wy : U64 y)
    (hK : ∀ w', MapIU w' b (n + 1) (if (f k).isSome then s else s + 1) (fun z => if z = k then some y else f z) → w.grownBy w' (some b) → wpList Try.prog ops Q rest (a.put o.dst undef) w') :
    wpList Try.prog ops Q (o :: rest) a w := by
  obtain ⟨D, h1, h2, h3, h4⟩ := hown
  refine wpList_mapUpdate_own w hg m x v 154 hop 3 37 keyedI Try.underlying154 (plainElem Try.prog 37) b n D hm h1 hn _ _ (.int .i64 k) hx hv (keyOf_int_mk Try.underlying3 (i64_wf wk)) (.lit (.int .u64 y)) [] (plainElem_int Try.underlying37 (u64_wf wy)) ?_
  intro w' h' hgr
  refine hK w' ⟨_, h', ?_, fun z => ?_, fun z => ?_⟩ hgr
  · rw [Maps.size_put (h1.tidy keyedI), h2, h3]
  · by_cases e : z = k
    · subst e; rw [Maps.has_put_same (h1.isMap) (keyLit z)]; simp
    · rw [Maps.has_put_other (by intro h; injection h with _ h; exact e h), h3]; simp [e]
  · by_cases e : z = k
    · subst e; rw [Maps.atKey_put_same (h1.isMap) (keyLit z)]; simp
    · rw [Maps.atKey_put_other (by intro h; injection h with _ h; exact e h), h4]; simp [e]
theorem wp_mapGetU (hg : o.guard = none) (m x : Operand) (hop : o.op = Op.lookup 154 m x false) (b n s : Nat) (f : Int → Option Int) (hm : a.eval m = .map (some b)) (hown : MapIU w b n s f)
    (k : Int) (hx : a.eval x = .int .i64 k) (wk : I64 k)
    (hK : wpList Try.prog ops Q rest (a.put o.dst (.int .u64 ((f k).getD 0))) w) : wpList Try.prog ops Q (o :: rest) a w := by
  obtain ⟨D, h1, h2, h3, h4⟩ := hown
  refine wpList_lookup_own_int w hg m x 154 hop 3 37 .u64 keyedI Try.underlying154 Try.underlying37 (zeroU w) b n D hm h1 _ (.int .i64 k) hx (keyOf_int_mk Try.underlying3 (i64_wf wk)) ?_
  intro c hc _
  rw [h4] at hc
  injection hc with hc
  injection hc with _ hc
  rw [← hc]
  exact hK
end
/-- A map is nothing to an append. -/
theorem MapIU.row {w w' : World} {b n s B n' c size : Nat} {f : Int → Option Int} {e : TypeId} {A : Option Addr} {xs : List Value} (h : MapIU w b n s f) (ho : w.ownsRow B e size (.slice A n' c) n' xs) (hg : w.grownBy w' (Value.slice A n' c).ownBlock) : MapIU w' b n s f := by
  obtain ⟨D, h1, h2⟩ := h
  refine ⟨D, h1.kept hg ?_, h2⟩
  obtain ⟨es, clock, hb, _⟩ := h1
  intro hc
  rcases ho.2 with ⟨h3, _⟩ | ⟨g, cap, cur, h3, _, h4, _⟩
  · injection h3 with h3
    subst h3
    simp [Value.ownBlock] at hc
  · injection h3 with h3
    subst h3
    simp [Value.ownBlock] at hc
    subst hc
    rw [hb] at h4
    cases h4
/-- Its keys, in order, are those that it has. -/
theorem MapIU.keys {w : World} {b n : Nat} {f : Int → Option Int} {D : DataW Unit} (h1 : w.ownsMap Try.prog 3 (plainElem Try.prog 37) b n D) (h3 : ∀ k, Maps.has D (.int .i64 k) = (f k).isSome) {KS : List Int} (hs : KS.Pairwise (· < ·)) (hm : ∀ x, x ∈ KS ↔ (f x).isSome = true)
    {ss : List Int} (hp : ss.Perm (intKeys D)) : ss.mergeSort (fun x y => decide (x ≤ y)) = KS := by
  have hKS : KS.Perm (intKeys D) := by
    obtain ⟨es, hD, hpw, _⟩ := h1.entries keyedI
    obtain ⟨es', hD', hko⟩ := h1.keysOf
    obtain rfl : es = es' := by rw [hD] at hD'; simpa using hD'
    subst hD
    exact perm_intKeys hpw (fun p hp => by obtain ⟨v, hv⟩ := hko p hp; obtain ⟨x, _, hx, _⟩ := Maps.keyOf_i64 Try.underlying3 hv; exact ⟨x, hx⟩) (hs.imp (fun h => by omega)) (fun x => by rw [hm x, h3 x])
  have e : ss.mergeSort leI = KS.mergeSort leI := mergeSort_of_perm_i (hp.trans hKS.symm)
  have e2 : KS.mergeSort leI = KS := List.mergeSort_of_pairwise (hs.imp (fun h => by simp [leI]; omega))
  exact e.trans e2
end Go.Proofs.Ytpnncadglhlclaa
