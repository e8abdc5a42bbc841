/- The steps of the walk through a region that draws its order; worlds that come later. -/
import Derived.Test.YtpnncadglhlclaaGen
import Derived.WalkKit
import Derived.WalkSpells
import Derived.WalkLawsBesides
import Derived.BigQuiet
import Derived.Deep.RegionWith
namespace Go.Proofs.Ytpnncadglhlclaa
open Go Go.RowKit

theorem hide {p : Prop} (h : p) : Hid p := h

/-- A world that comes later. -/
structure Later (w : World) where
  now : World
  grows : Grows w now

instance (w : World) : Nonempty (Later w) := ⟨⟨w, Grows.refl w⟩⟩
theorem Grows.self (w : World) : Grows w w ↔ True := ⟨fun _ => trivial, fun _ => Grows.refl w⟩

theorem cell_lt {w : World} {p : Addr} (h : (w.cell? p).isSome = true) : p.block < w.heap.size := by
  obtain ⟨v, hv⟩ := Option.isSome_iff_exists.1 h
  exact World.block_lt_of_cell? w p hv

theorem Later.cell {w : World} (x : Later w) {p : Addr} (h : (w.cell? p).isSome = true) : x.now.cell? p = w.cell? p := x.grows.cell (cell_lt h)
theorem Later.frozen {w : World} (x : Later w) {p : Addr} (h : (w.cell? p).isSome = true) : x.now.frozen? p = w.frozen? p := Below.frozen x.grows (cell_lt h)
theorem Later.size {w : World} (x : Later w) : w.heap.size ≤ x.now.heap.size := Below.size x.grows
theorem Grows.later {w w' : World} (h : Grows w w') : ∃ x : Later w, w' = x.now := ⟨⟨w', h⟩, rfl⟩

theorem Grows.later2 {w w' : World} {y : Later w} (h : Grows y.now w') : ∃ x : Later w, w' = x.now := ⟨⟨w', y.grows.trans h⟩, rfl⟩

theorem Grows.now {w w1 : World} (h : Grows w w1) (x : Later w1) : Grows w x.now := h.trans x.grows
theorem Grows.new {w w1 : World} (h : Grows w w1) (o : Obj) : Grows w (w1.alloc o) := Below.alloc h h.size o
theorem Grows.drew {w w1 : World} (h : Grows w w1) : Grows w w1.drew := Below.drew h
theorem Grows.drewN {w w1 : World} (h : Grows w w1) (n : Nat) : Grows w (w1.drewN n) := ⟨h.os, h.tape, h.output, h.size, h.block⟩
theorem Grows.set {w w1 : World} (h : Grows w w1) {p : Addr} (hp : w.heap.size ≤ p.block) (u : Value) : Grows w (w1.setCell p u) := Below.setCell h hp u
theorem Grows.below {w w1 : World} (h : Grows w w1) : Below w.heap.size w w1 := h

section
variable {P : Program} {ops : Array Oper} {w0 : World} {Q : Act → Env → Prop} {a : Act} {G : Env} {o : Oper} {rest : List Oper}

def plainB (ops : Array Oper) (o : Oper) (G : Env) : Bool :=
  ((o.looksAt ops).all fun t => (G t).isNone) && (match o.dst with | some d => (G d).isNone | none => true) && (match o.op with | .select .. => false | _ => true)

theorem plain_spec (h : plainB ops o G = true) : guardFree ops o G ∧ dstFree o G ∧ (∀ t ∈ o.looksAt ops, G t = none) ∧ ∀ cs b, o.op ≠ .select cs b := by
  unfold plainB at h
  simp only [Bool.and_eq_true, List.all_eq_true, Option.isNone_iff_eq_none] at h
  obtain ⟨⟨h1, h2⟩, h3⟩ := h
  refine ⟨fun g b t e1 e2 => h1 t (mem_looks_guard e1 e2), fun d e => ?_, h1, fun cs b e => ?_⟩
  · rw [e] at h2; simpa using h2
  · rw [e] at h3; simp at h3

theorem exec_same {a a' : Act} {w : World} (hsel : ∀ cs b, o.op ≠ .select cs b) (hG : ∀ t ∈ o.looksAt ops, G t = none) (ha : ∀ t ∈ o.looksAt ops, relAt G a t a'.tmps[t]? w) :
    execOp a'.eval o = execOp a.eval o := by
  refine execOp_congr o hsel fun x hx => ?_
  cases x with
  | tmp t =>
    have ht : t ∈ o.looksAt ops := List.mem_append_left _ (List.mem_filterMap.2 ⟨.tmp t, by simpa using hx, rfl⟩)
    have h := ha t ht
    unfold relAt at h
    rw [hG t ht] at h
    have h' : a'.tmps[t]? = a.tmps[t]? := h
    simp only [Act.eval, Array.getD_eq_getD_getElem?, h']
  | _ => rfl

/-- One operation that leaves a known value. -/
theorem gLex_val (hp : plainB ops o G = true) (hw : Region.wanted o (yielded ops a.tmps) = true)
    (h : ∀ K : Act → Prop, (∀ a, gLex P ops w0 Q rest a G → K a) → ∃ v, (∀ x : Later w0, runsTo P (fun u w' => Grows x.now w' ∧ u = v) ((execOp a.eval o).run P x.now)) ∧ K (a.put o.dst v)) :
    gLex P ops w0 Q (o :: rest) a G := by
  obtain ⟨h1, h2, h3, h4⟩ := plain_spec hp
  obtain ⟨v, hv, hK⟩ := h _ (fun _ h => h)
  refine ⟨.inl v, ⟨h1, h2, .inl ⟨hw, trivial, trivial, fun w hg a' ha' => ?_⟩⟩, ?_⟩
  · rw [exec_same h4 h3 ha']
    exact hv ⟨w, hg⟩
  · have : putG G o.dst (.inl v) = G := by cases o.dst <;> rfl
    rw [this]
    exact hK

theorem gLex_skip (hp : plainB ops o G = true) (hw : Region.wanted o (yielded ops a.tmps) = false) (h : gLex P ops w0 Q rest (a.put o.dst undef) G) : gLex P ops w0 Q (o :: rest) a G := by
  obtain ⟨h1, h2, _, _⟩ := plain_spec hp
  refine ⟨.inl undef, ⟨h1, h2, .inr ⟨hw, rfl⟩⟩, ?_⟩
  have : putG G o.dst (.inl undef) = G := by cases o.dst <;> rfl
  rw [this]
  exact h

theorem wanted_of {g : Nat} {want b : Bool} {t : Tmp} (hg : o.guard = some (g, want)) (ht : (ops[g]?).bind (·.dst) = some t) (hb : a.tmps[t]? = some (.bool b)) :
    Region.wanted o (yielded ops a.tmps) = (b == want) := by
  unfold Region.wanted yielded
  rw [hg]
  simp only [ht, Option.bind_some, hb]
  cases b <;> cases want <;> rfl

theorem gLex_val0 (hg : o.guard = none) (hp : plainB ops o G = true)
    (h : ∀ K : Act → Prop, (∀ a, gLex P ops w0 Q rest a G → K a) → ∃ v, (∀ x : Later w0, runsTo P (fun u w' => Grows x.now w' ∧ u = v) ((execOp a.eval o).run P x.now)) ∧ K (a.put o.dst v)) :
    gLex P ops w0 Q (o :: rest) a G := gLex_val hp (by unfold Region.wanted; rw [hg]) h

/-- A guarded operation whose guard was itself passed over. -/
theorem gLex_undef {g : Nat} {want : Bool} {t : Tmp} (hg : o.guard = some (g, want)) (ht : (ops[g]?).bind (·.dst) = some t) (hb : a.tmps[t]? = some undef) (hp : plainB ops o G = true)
    (h : ∀ K : Act → Prop, (∀ a, gLex P ops w0 Q rest a G → K a) → K (a.put o.dst undef)) : gLex P ops w0 Q (o :: rest) a G := by
  refine gLex_skip hp ?_ (h _ fun _ h => h)
  unfold Region.wanted yielded
  rw [hg]
  simp only [ht, Option.bind_some, hb]
  cases want <;> rfl

structure gAsk (P : Program) (ops : Array Oper) (w0 : World) (Q : Act → Env → Prop) (o : Oper) (rest : List Oper) (a : Act) (G : Env) (t : Tmp) (b want : Bool) : Prop where
  go : ∀ g, o.guard = some (g, want) → (ops[g]?).bind (·.dst) = some t → a.tmps[t]? = some (.bool b) → gLex P ops w0 Q (o :: rest) a G

/-- A guarded operation: what does its guard say? -/
theorem gLex_ask {g : Nat} {want b : Bool} {t : Tmp} (hg : o.guard = some (g, want)) (ht : (ops[g]?).bind (·.dst) = some t) (hb : a.tmps[t]? = some (.bool b)) (h : gAsk P ops w0 Q o rest a G t b want) :
    gLex P ops w0 Q (o :: rest) a G := h.go g hg ht hb
theorem gAsk_yes {b : Bool} {t : Tmp} (hp : plainB ops o G = true)
    (h : ∀ K : Act → Prop, (∀ a, gLex P ops w0 Q rest a G → K a) → ∃ v, (∀ x : Later w0, runsTo P (fun u w' => Grows x.now w' ∧ u = v) ((execOp a.eval o).run P x.now)) ∧ K (a.put o.dst v)) :
    gAsk P ops w0 Q o rest a G t b b := ⟨fun _ hg ht hb => gLex_val hp (by rw [wanted_of hg ht hb]; exact beq_self_eq_true _) h⟩
theorem gAsk_no1 {t : Tmp} (hp : plainB ops o G = true) (h : ∀ K : Act → Prop, (∀ a, gLex P ops w0 Q rest a G → K a) → K (a.put o.dst undef)) : gAsk P ops w0 Q o rest a G t false true :=
  ⟨fun _ hg ht hb => gLex_skip hp (by rw [wanted_of hg ht hb]; rfl) (h _ fun _ h => h)⟩
theorem gAsk_no2 {t : Tmp} (hp : plainB ops o G = true) (h : ∀ K : Act → Prop, (∀ a, gLex P ops w0 Q rest a G → K a) → K (a.put o.dst undef)) : gAsk P ops w0 Q o rest a G t true false :=
  ⟨fun _ hg ht hb => gLex_skip hp (by rw [wanted_of hg ht hb]; rfl) (h _ fun _ h => h)⟩

theorem gLex_nil (h : Q a G) : gLex P ops w0 Q [] a G := h

theorem put_same {a : Act} {t : Tmp} {v : Value} (hv : a.tmps[t]? = some v) : a.put (some t) v = a := by
  unfold Act.put
  have : a.tmps.setIfInBounds t v = a.tmps := by
    apply Array.ext_getElem?
    intro i
    by_cases hi : t = i
    · subst hi
      rw [Array.getElem?_setIfInBounds_self, hv]
      obtain ⟨hlt, _⟩ := Array.getElem?_eq_some_iff.1 hv
      rw [if_pos hlt]
    · rw [Array.getElem?_setIfInBounds_ne hi]
  simp only [this]

/-- A guard that is not decided: both ways. -/
theorem gAsk_part {t : Tmp} {b want : Bool} (hp : plainB ops o G = true)
    (h1 : b = want → ∀ K : Act → Prop, (∀ a, gLex P ops w0 Q rest a G → K a) → ∃ v, (∀ x : Later w0, runsTo P (fun u w' => Grows x.now w' ∧ u = v) ((execOp (a.put (some t) (.bool want)).eval o).run P x.now)) ∧ K ((a.put (some t) (.bool want)).put o.dst v))
    (h2 : b = !want → ∀ K : Act → Prop, (∀ a, gLex P ops w0 Q rest a G → K a) → K ((a.put (some t) (.bool !want)).put o.dst undef)) :
    gAsk P ops w0 Q o rest a G t b want := by
  refine ⟨fun g hg ht hb => ?_⟩
  by_cases hbw : b = want
  · have h := h1 hbw
    subst hbw
    rw [put_same hb] at h
    exact gLex_val hp (by rw [wanted_of hg ht hb]; exact beq_self_eq_true _) h
  · have hbn : b = !want := by cases b <;> cases want <;> simp_all
    have h := h2 hbn
    rw [← hbn, put_same hb] at h
    exact gLex_skip hp (by rw [wanted_of hg ht hb, hbn]; cases want <;> rfl) (h _ fun _ h => h)

theorem conc_no {a a' : Act} {w : World} (h : Conc Env.no a a' w) : a' = a := by
  obtain ⟨h1, h2⟩ := h
  obtain ⟨t, d⟩ := a
  obtain ⟨t', d'⟩ := a'
  simp only at h1
  subst h1
  congr 1
  exact Array.ext_getElem? h2

theorem conc_upd {a a' : Act} {w : World} {t : Tmp} {p : Pr} (h : Conc (G.upd t p) a a' w) (hlt : t < a.tmps.size) : ∃ v, p v w ∧ Conc G (a.put (some t) v) a' w ∨ G t ≠ none := by
  by_cases hG : G t = none
  · have ht := h.2 t
    unfold relAt Env.upd at ht
    simp only [if_pos] at ht
    obtain ⟨v, e, hv⟩ := ht
    refine ⟨v, .inl ⟨hv, h.1, fun s => ?_⟩⟩
    unfold relAt
    by_cases hs : s = t
    · subst hs
      rw [hG]
      simp only [Act.put, Array.getElem?_setIfInBounds_self, if_pos hlt, e]
    · have h0 := h.2 s
      unfold relAt Env.upd at h0
      rw [if_neg hs] at h0
      have hne : t ≠ s := fun e => hs e.symm
      simpa [Act.put, Array.getElem?_setIfInBounds_ne hne] using h0
  · exact ⟨undef, .inr hG⟩

/-- The end of the region: no value that hangs on the world is left. -/
theorem gLex_end {Q : Exit → Act → World → Prop} (h : ∀ x : Later w0, Q .normal a x.now) : gLex P ops w0 (fun a G => ∀ w', Grows w0 w' → ∀ a', Conc G a a' w' → Q .normal a' w') [] a Env.no :=
  fun w' hw a' hc => by rw [conc_no hc]; exact h ⟨w', hw⟩
/-- The region in a world of which all that is known is what an earlier one held. -/
theorem wp_region_gen2 {id : Nat} {Q : Exit → Act → World → Prop} {w : World} {x : Later w} {l : List Oper} (hm : P.follows .mixedOrders = true) (hB : Region.lexB .any l.toArray = true)
    (h : gLex P l.toArray w (fun a G => ∀ w', Grows w w' → ∀ a', Conc G a a' w' → Q .normal a' w') l a Env.no) : (Code.region id l.toArray true).wp P Q a x.now :=
  wp_region_from hm hB x.grows h
end

theorem calls_same {P : Program} {f : FuncId} {args : Array Value} {w : World} {v : Value} (h : Calls P f args w fun e w' => e = .returned v ∧ w = w') :
    Calls P f args w fun e w' => e = .returned v ∧ Grows w w' := h.mono fun _ _ ⟨h1, h2⟩ => ⟨h1, by rw [h2]; exact Grows.refl _⟩
theorem ret_bool {a b : Bool} (h : a = b) : Ending.returned (.bool a) = .returned (.bool b) := by rw [h]
theorem ret_int {k : IntKind} {a b : Int} (h : a = b) : Ending.returned (.int k a) = .returned (.int k b) := by rw [h]
theorem bool_ext {a b : Bool} (h : a = true ↔ b = true) : a = b := Bool.eq_iff_iff.2 h

/-- A number of 64 bits. -/
def U64 (n : Int) : Prop := 0 ≤ n ∧ n < 18446744073709551616
theorem U64.nat {n : Int} (h : U64 n) : ∃ k : Nat, n = (k : Int) ∧ k < 18446744073709551616 := by
  obtain ⟨h1, h2⟩ := h
  exact ⟨n.toNat, by omega, by omega⟩

theorem alloc_some (w : World) (o : Obj) {p : Addr} (h : (w.cell? p).isSome = true) : (w.alloc o).cell? p = w.cell? p := World.cell?_alloc_lt w o p (cell_lt h)

/-- A call of a Go function by its number. -/
theorem run_callGo {P : Program} {f : FuncId} {fn : Func} (hf : P.funcs[f]? = some fn) (hn : (fn.name == "runtime.NumGoroutine") = false) (hb : fn.body.isNone = false) (args : Array Value) (w : World) :
    (callFunc f args).run P w = .ok (.enter f args) w := by
  have hn' : ¬ fn.name = "runtime.NumGoroutine" := by simpa using hn
  have hb' : ¬ fn.body = none := fun e => by rw [e] at hb; cases hb
  simp [callFunc, hf, hn', hb']

attribute [go_sem] alloc_some
attribute [go_sem] runsTo Later.cell Later.frozen Grows.self

end Go.Proofs.Ytpnncadglhlclaa
