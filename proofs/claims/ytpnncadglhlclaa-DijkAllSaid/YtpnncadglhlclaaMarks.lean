/- Loops by a measure of one's own; functions that hold ranges over functions: the marks that these leave. -/
import Derived.Test.YtpnncadglhlclaaRange
namespace Go.Proofs.Ytpnncadglhlclaa
open Go Go.RowKit

theorem least {p : Nat → Prop} (h : ∃ m, p m) : ∃ m, p m ∧ ∀ k, p k → m ≤ k := by
  obtain ⟨m, hm⟩ := h
  induction m using Nat.strongRecOn with
  | _ m ih =>
    by_cases hk : ∃ k, k < m ∧ p k
    · obtain ⟨k, h1, h2⟩ := hk
      exact ih k h1 h2
    · exact ⟨m, hm, fun k hp => Nat.le_of_not_lt fun h => hk ⟨k, h, hp⟩⟩
theorem least_fn (Inv : Nat → Act → World → Prop) : ∃ μ : Act → World → Nat, ∀ a w, (∃ m, Inv m a w) → Inv (μ a w) a w ∧ ∀ k, Inv k a w → μ a w ≤ k := by
  have h : ∀ a w, ∃ m, (∃ m, Inv m a w) → Inv m a w ∧ ∀ k, Inv k a w → m ≤ k := fun a w => by
    by_cases he : ∃ m, Inv m a w
    · obtain ⟨m, hm⟩ := least he
      exact ⟨m, fun _ => hm⟩
    · exact ⟨0, fun h => absurd h he⟩
  exact ⟨fun a w => Classical.choose (h a w), fun a w => Classical.choose_spec (h a w)⟩
/-- A loop: each round takes an invariant to one of a lesser measure. -/
theorem wpIn_loop_m {F : Fence} {n : Nat} {P : Program} {c : Code} {Q : Exit → Act → World → Prop} {a : Act} {w : World} (Inv : Nat → Act → World → Prop) (h0 : ∃ m, Inv m a w)
    (hr : ∀ m a w, Inv m a w → c.wpIn F n P (Exit.then (fun a' w' => ∃ m', m' < m ∧ Inv m' a' w') Q) a w) : (Code.loop c).wpIn F n P Q a w := by
  obtain ⟨μ, hμ⟩ := least_fn Inv
  refine wpIn_loop (fun a w => ∃ m, Inv m a w) μ h0 fun a w h => ?_
  refine wpIn_mono (hr _ a w (hμ a w h).1) fun e a' w' hq => ?_
  cases e <;> first | exact hq | skip
  obtain ⟨m', h1, h2⟩ := hq
  exact ⟨⟨m', h2⟩, Nat.lt_of_le_of_lt ((hμ a' w' ⟨m', h2⟩).2 m' h2) h1⟩
theorem wp_loop_m {P : Program} {c : Code} {Q : Exit → Act → World → Prop} {a : Act} {w : World} (Inv : Nat → Act → World → Prop) (h0 : ∃ m, Inv m a w)
    (hr : ∀ m a w, Inv m a w → c.wp P (Exit.then (fun a' w' => ∃ m', m' < m ∧ Inv m' a' w') Q) a w) : (Code.loop c).wp P Q a w := by
  obtain ⟨μ, hμ⟩ := least_fn Inv
  refine wp_loop (fun a w => ∃ m, Inv m a w) μ h0 fun a w h => ?_
  refine wp_mono (hr _ a w (hμ a w h).1) fun e a' w' hq => ?_
  cases e <;> first | exact hq | skip
  obtain ⟨m', h1, h2⟩ := hq
  exact ⟨⟨m', h2⟩, Nat.lt_of_le_of_lt ((hμ a' w' ⟨m', h2⟩).2 m' h2) h1⟩

/-- The marks of loops that are over. -/
def marks (Ds : List Nat) : List Deferred := Ds.map fun D => { target := .collected D, args := #[] }
/-- They are there, each once. -/
def Marks (Ds : List Nat) (W : World) : Prop := Ds.Nodup ∧ ∀ D ∈ Ds, W.heap[D]? = some (.deferred (some []))
theorem Marks.nil (W : World) : Marks [] W := ⟨List.nodup_nil, fun D h => by cases h⟩
theorem Marks.touch {Ds : List Nat} {W W' : World} {S : Nat → Prop} (h : Marks Ds W) (ht : Touch S W W') (hs : ∀ D ∈ Ds, ¬ S D) : Marks Ds W' := ⟨h.1, fun D hD => ht.at (hs D hD) (h.2 D hD)⟩
theorem Marks.keeps {Ds : List Nat} {W W' : World} {B M : Nat → Prop} (h : Marks Ds W) (ht : Keeps B M W W') (hs : ∀ D ∈ Ds, M D) : Marks Ds W' := ⟨h.1, fun D hD => ht.at (.inr (hs D hD)) (h.2 D hD)⟩
theorem Marks.cons {Ds : List Nat} {W : World} {D : Nat} (h : Marks Ds W) (hD : W.heap[D]? = some (.deferred (some []))) (hn : D ∉ Ds) : Marks (D :: Ds) W :=
  ⟨List.nodup_cons.2 ⟨hn, h.1⟩, fun E hE => by
    rcases List.mem_cons.1 hE with rfl | hE
    · exact hD
    · exact h.2 E hE⟩
theorem marks_leave {F : Fence} {n : Nat} {P : Program} {fn : Func} {tmps : Array Value} {R : Ending → World → Prop} : ∀ (Ds : List Nat) (W : World), Marks Ds W →
    (∀ W', Touch (fun k => k ∈ Ds) W W' → ∃ v, (results fn tmps).run P W' = .ok v W' ∧ R (.returned v) W') → LeavesInM F n P fn tmps R (marks Ds) .returning W
  | [], W, _, h => h W (Touch.refl _ _)
  | D :: Ds, W, hM, h => by
    have hnd := List.nodup_cons.1 hM.1
    have hk := hM.2 D (by simp)
    refine ⟨by simp, .inl ⟨D, _, rfl, run_takeDeferred hk, ?_⟩⟩
    refine marks_leave Ds _ ⟨hnd.2, fun E hE => ?_⟩ fun W' ht => h W' ?_
    · rw [World.putObj_heap_other (fun e => by subst e; exact hnd.1 hE)]
      exact hM.2 E (by simp [hE])
    · exact ((Touch.refl _ W).put (.inl (by simp)) _).trans2 ht fun k hk => .inl (by simp [hk])
theorem marks_ret {n : Nat} {P : Program} {fn : Func} {R : Ending → World → Prop} {a : Act} {W : World} (Ds : List Nat) (hd : a.defers = marks Ds) (hM : Marks Ds W)
    (h : ∀ W', Touch (fun k => k ∈ Ds) W W' → ∃ v, (results fn a.tmps).run P W' = .ok v W' ∧ R (.returned v) W') : bodyPostM Fence.wide n P fn R .ret a W := by
  show LeavesInM _ _ _ _ _ _ a.defers _ _
  rw [hd]
  exact marks_leave Ds W hM h
theorem marks_end {n : Nat} {P : Program} {fn : Func} {R : Ending → World → Prop} {a : Act} {W : World} (Ds : List Nat) (hd : a.defers = marks Ds) (hM : Marks Ds W)
    (h : ∀ W', Touch (fun k => k ∈ Ds) W W' → ∃ v, (results fn a.tmps).run P W' = .ok v W' ∧ R (.returned v) W') : bodyPostM Fence.wide n P fn R .normal a W := by
  show LeavesInM _ _ _ _ _ _ a.defers _ _
  rw [hd]
  exact marks_leave Ds W hM h
/-- A function that holds ranges over functions, walked as any other. -/
theorem calls_of_marks {P : Program} {f : FuncId} {fn : Func} {c : Code} {args : Array Value} {w : World} {R : Ending → World → Prop} (hf : P.funcs[f]? = some fn) (hb : fn.body = some c)
    (h : c.wp P (bodyPostM Fence.wide 0 P fn R) { tmps := args ++ Array.replicate (fn.ntmps - args.size) undef, defers := [] } w) : Calls P f args w R :=
  callsIn_wide.1 (callsIn_of_wp_marks (n := 0) hf hb trivial (wpIn_wide.2 h) rfl)
end Go.Proofs.Ytpnncadglhlclaa
