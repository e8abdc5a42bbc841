/- A range over a function whose iterator keeps memory of its own: the contract of such an iterator, and the law of the loop. -/
import Derived.Test.YtpnncadglhlclaaTouch
import Derived.RangeFuncSeq
import Derived.RangeFuncLeaves
import Derived.RangeFuncRecord
import Derived.RangeFuncCalls
namespace Go.Proofs.Ytpnncadglhlclaa
open Go Go.RowKit

/-- An invariant that abides what the owner of the blocks M does: it turns its own blocks, and lays new ones for itself. -/
def Yields' {α : Type} (J : List α → (Nat → Prop) → World → Prop) : Prop :=
  ∀ pre M W M' W', J pre M W → Touch M W W' → (∀ k, M' k → (M k ∨ W.heap.size ≤ k) ∧ k < W'.heap.size) → J pre M' W'

/-- The iterator 'g' (with what it has captured) hands over the values of xs, one by one: of whatever rounds that keep the blocks of B, which it reads, and the iterator's own blocks (at first M0). -/
def Gives {α : Type} (P : Program) (g : Nat) (lb : Array Value) (encs : α → Array Value) (B M0 : Nat → Prop) (xs : List α) (w : World) : Prop :=
  ∀ (l : Nat) (J Jx : List α → (Nat → Prop) → World → Prop) (W : World), Keeps B M0 w W → Yields' J → Yields' Jx →
    (∀ pre x rest M W1, xs = pre ++ x :: rest → J pre M W1 → YieldAt Fence.wide 0 P l (encs x) W1 fun e W' =>
      (e = .returned (.bool true) ∧ J (pre ++ [x]) M W' ∧ Keeps B M W1 W') ∨ (e = .returned (.bool false) ∧ Jx (pre ++ [x]) M W' ∧ Keeps B M W1 W')) →
    J [] M0 W →
    CallsIn Fence.wide 0 P g (#[.func (.yield l) #[] #[]] ++ lb) W fun e W' => (∃ v, e = .returned v) ∧ ((∃ M, J xs M W') ∨ (∃ pre x rest M, xs = pre ++ x :: rest ∧ Jx (pre ++ [x]) M W'))

/-- How a round may end. -/
def roundEnd {α : Type} (B M : Nat → Prop) (I : List α → (Nat → Prop) → World → Prop) (Ix : Code → List α → (Nat → Prop) → World → Prop) (xs : List α) (W : World) : Exit → Act → World → Prop
  | .normal, _, W' => Keeps B M W W' ∧ I xs M W'
  | .ret, _, W' => Keeps B M W W' ∧ Ix .ret xs M W'
  | .exit id, _, W' => Keeps B M W W' ∧ Ix (.exit id) xs M W'
  | .goto t, _, W' => Keeps B M W W' ∧ Ix (.goto t) xs M W'
  | .panic _, _, _ => False
  | .outgrown, _, _ => False

/-- The blocks M, and two more. -/
def With2 (M : Nat → Prop) (d l : Nat) (k : Nat) : Prop := M k ∨ k = d ∨ k = l
/-- The loop's own two blocks: its record, and that for deferred calls. -/
def Book (M : Nat → Prop) (D l : Nat) (o : Obj) (W : World) : Prop :=
  W.heap[l]? = some o ∧ W.heap[D]? = some (.deferred (some [])) ∧ ¬ M l ∧ ¬ M D ∧ D ≠ l ∧ ∀ k, M k → k < W.heap.size

theorem Yields'.book {α : Type} {I : List α → (Nat → Prop) → World → Prop} (hI : Yields' I) (D l : Nat) (o : Obj) : Yields' (fun pre M W => I pre (With2 M D l) W ∧ Book M D l o W) := by
  rintro pre M W M' W' ⟨h1, h2, h3, h4, h5, h6, h7⟩ ht hM
  have l2 := (Array.getElem?_eq_some_iff.1 h2).1
  have l3 := (Array.getElem?_eq_some_iff.1 h3).1
  have hs := ht.size
  refine ⟨hI pre (With2 M D l) W (With2 M' D l) W' h1 (ht.mono fun k h => .inl h) (fun k hk => ?_), ht.at h4 h2, ht.at h5 h3, fun e => ?_, fun e => ?_, h6, fun k hk => (hM k hk).2⟩
  · rcases hk with hk | hk
    · obtain ⟨h6 | h6, h7⟩ := hM k hk
      · exact ⟨.inl (.inl h6), h7⟩
      · exact ⟨.inr h6, h7⟩
    · refine ⟨.inl (.inr hk), ?_⟩
      rcases hk with rfl | rfl <;> omega
  · rcases (hM _ e).1 with h | h
    · exact h4 h
    · omega
  · rcases (hM _ e).1 with h | h
    · exact h5 h
    · omega
theorem Yields'.ex {α β : Type} {J : β → List α → (Nat → Prop) → World → Prop} (h : ∀ c, Yields' (J c)) : Yields' (fun pre M W => ∃ c, J c pre M W) :=
  fun pre M W M' W' ⟨c, h1⟩ ht hM => ⟨c, h c pre M W M' W' h1 ht hM⟩
theorem Yields'.and {α : Type} {I J : List α → (Nat → Prop) → World → Prop} (h : Yields' I) (k : Yields' J) : Yields' (fun pre M W => I pre M W ∧ J pre M W) :=
  fun pre M W M' W' ⟨h1, h2⟩ ht hM => ⟨h pre M W M' W' h1 ht hM, k pre M W M' W' h2 ht hM⟩
theorem Yields'.pure {α : Type} (p : List α → Prop) : Yields' (fun pre _ _ => p pre) := fun _ _ _ _ _ h _ _ => h
theorem Book.turn {M : Nat → Prop} {D l : Nat} {o : Obj} {W : World} (h : Book M D l o W) (o' : Obj) : Book M D l o' (W.putObj l o') := by
  obtain ⟨h2, h3, h4, h5, h6, h7⟩ := h
  exact ⟨World.putObj_heap_same (Array.getElem?_eq_some_iff.1 h2).1, (World.putObj_heap_other h6).trans h3, h4, h5, h6, fun k hk => by simp; exact h7 k hk⟩
theorem Book.inv {α : Type} {M : Nat → Prop} {D l : Nat} {o : Obj} {W : World} (h : Book M D l o W) {I : List α → (Nat → Prop) → World → Prop} (hI : Yields' I) {pre : List α} (hi : I pre (With2 M D l) W) (o' : Obj) : I pre (With2 M D l) (W.putObj l o') := by
  obtain ⟨h2, h3, h4, h5, h6, h7⟩ := h
  have l2 := (Array.getElem?_eq_some_iff.1 h2).1
  have l3 := (Array.getElem?_eq_some_iff.1 h3).1
  refine hI pre _ W _ _ hi ((Touch.refl _ W).put (.inl (.inr (.inr rfl))) o') fun k hk => ⟨.inl hk, ?_⟩
  rw [World.putObj_size]
  rcases hk with hk | rfl | rfl
  · exact h7 k hk
  · exact l3
  · exact l2
theorem Book.keeps {M : Nat → Prop} {D l : Nat} {B : Nat → Prop} {o : Obj} {W W' : World} (h : Book M D l o W) (hk : Keeps B (With2 M D l) W W') : Book M D l o W' := by
  obtain ⟨h2, h3, h4, h5, h6, h7⟩ := h
  exact ⟨hk.at (.inr (.inr (.inr rfl))) h2, hk.at (.inr (.inr (.inl rfl))) h3, h4, h5, h6, fun k hk' => Nat.lt_of_lt_of_le (h7 k hk') hk.size⟩

section
variable {α : Type} {P : Program} {g : Operand} {ps : Array Tmp} {assign body : Code} {Q : Exit → Act → World → Prop} {a : Act} {w w0 : World}

theorem wp_rangeG {gf : Nat} {lb : Array Value} (hg : a.eval g = .func (.func gf) #[] lb) (eg : ∀ args w, (callFunc gf args).run P w = .ok (.enter gf args) w)
    {encs : α → Array Value} {B M0 : Nat → Prop} {xs : List α} (hseq : Gives P gf lb encs B M0 xs w0) (hw0 : Keeps B M0 w0 w) (hB : ∀ k, B k → k < w.heap.size) (hM0 : ∀ k, M0 k → k < w.heap.size)
    (hps : ∀ x, (encs x).size = ps.size) (I : List α → (Nat → Prop) → World → Prop) (Ix : Code → List α → (Nat → Prop) → World → Prop) (hI : Yields' I) (hIx : ∀ c, Yields' (Ix c))
    (h0 : I [] M0 w) (Ib : α → Act → List α → (Nat → Prop) → World → Prop) (hIb : ∀ x a, Yields' (Ib x a))
    (hassign : ∀ (l : Nat) (pre : List α) (x : α) (rest : List α) (M : Nat → Prop) (W : World), xs = pre ++ x :: rest → I pre M W →
      assign.wpIn (Fence.wide.inRound l) 0 P (Exit.then (fun a' W' => Ib x a' pre M W' ∧ Keeps B M W W') (fun _ _ _ => False)) { tmps := (ps.zip (encs x)).foldl (fun t (p, v) => t.setIfInBounds p v) a.tmps, defers := [] } W)
    (hbody : ∀ (l : Nat) (pre : List α) (x : α) (rest : List α) (M : Nat → Prop) (a' : Act) (W : World), xs = pre ++ x :: rest → w.heap.size ≤ l → M l → (∃ r, W.heap[l]? = some (.loop r)) → Ib x a' pre M W →
      body.wpIn (Fence.wide.inRound l) 0 P (roundEnd B M I Ix (pre ++ [x]) W) a' W)
    (hdone : ∀ (D : Nat) (M : Nat → Prop) (W : World), w.heap.size ≤ D → M D → I xs M W → W.heap[D]? = some (.deferred (some [])) → Q .normal { a with defers := { target := .collected D, args := #[] } :: a.defers } W)
    (hstop : ∀ (D : Nat) (c : Code) (pre : List α) (x : α) (rest : List α) (M : Nat → Prop) (W : World), w.heap.size ≤ D → M D → xs = pre ++ x :: rest → Ix c (pre ++ [x]) M W → W.heap[D]? = some (.deferred (some [])) →
      c.wpIn Fence.wide 0 P Q { a with defers := { target := .collected D, args := #[] } :: a.defers } W) :
    (Code.rangeFunc g ps assign body).wpIn Fence.wide 0 P Q a w := by
  refine wpIn_rangeFunc fun fn hfn => ?_
  obtain ⟨rec, hrec⟩ : ∃ rec : LoopState → Option Code → Loop, rec = fun st pe => { state := st, pending := pe, fn, tmps := a.tmps, params := ps, assign, body, defers := w.heap.size } := ⟨_, rfl⟩
  obtain ⟨W1, hW1⟩ : ∃ W1, (w.alloc (.deferred (some []))).alloc (.loop (rec .ready none)) = W1 := ⟨_, rfl⟩
  have hs1 : W1.heap.size = w.heap.size + 1 + 1 := by rw [← hW1]; simp
  have hg1 : Grows w W1 := by rw [← hW1]; exact ((Grows.refl w).new _).new _
  have hL1 : W1.heap[w.heap.size + 1]? = some (.loop (rec .ready none)) := by
    have := World.alloc_heap_new (w.alloc (.deferred (some []))) (.loop (rec .ready none))
    rw [World.size_alloc] at this
    rw [← hW1]; exact this
  have hK1 : W1.heap[w.heap.size]? = some (.deferred (some [])) := by
    rw [← hW1]; exact (Below.heap_alloc _ _ _ (by simp)).trans (World.alloc_heap_new w _)
  have hB1 : Book M0 w.heap.size (w.heap.size + 1) (.loop (rec .ready none)) W1 :=
    ⟨hL1, hK1, fun e => by have := hM0 _ e; omega, fun e => by have := hM0 _ e; omega, by omega, fun k hk => by have := hM0 k hk; omega⟩
  have hI1 : I [] (With2 M0 w.heap.size (w.heap.size + 1)) W1 := by
    refine hI [] M0 w _ W1 h0 (hg1.touch _) fun k hk => ?_
    rcases hk with hk | rfl | rfl
    · exact ⟨.inl hk, by have := hM0 k hk; omega⟩
    · exact ⟨.inr (Nat.le_refl _), by omega⟩
    · exact ⟨.inr (by omega), by omega⟩
  refine ⟨w.heap.size + 1, [{ target := .collected w.heap.size, args := #[] }], W1, { target := .fn (.func gf) lb, args := #[.func (.yield (w.heap.size + 1)) #[] #[]] }, W1, gf,
    #[.func (.yield (w.heap.size + 1)) #[] #[]] ++ lb, W1, ?_, ?_, fun _ _ => trivial, ?_, fun h => by simp [Fence.wide] at h, ?_⟩
  · rw [← hW1, hrec]; exact run_enterLoop_outer _ _ _ _ _
  · simp only [resolve, hg]
    simp [go_sem]
  · simp [invoke, go_sem, eg]
  · obtain ⟨D, hD⟩ : ∃ D, w.heap.size = D := ⟨_, rfl⟩
    obtain ⟨l, hl⟩ : ∃ l, D + 1 = l := ⟨_, rfl⟩
    rw [hD, hl] at hB1 hI1
    rw [hD, hl]
    have hnl : ¬ B l := fun e => by have := hB l e; omega
    refine (hseq l (fun pre M W => I pre (With2 M D l) W ∧ Book M D l (.loop (rec .ready none)) W) (fun pre M W => ∃ c, Ix c pre (With2 M D l) W ∧ Book M D l (.loop (rec .done (some c))) W)
      W1 (hw0.trans (hg1.touch _)) (hI.book _ _ _) (Yields'.ex fun c => (hIx c).book _ _ _) ?_ ⟨hI1, hB1⟩).mono ?_
    · rintro pre x rest M W hx ⟨hi, hb⟩
      have hy := run_yield (P := P) (args := encs x) hb.1 (by rw [hrec]; exact hps x)
      rw [hrec] at hy
      refine ⟨fn, _, assign, body, hy, roundIn_of_wpIn hfn ?_⟩
      clear hy
      refine wpIn_mono (hassign l pre x rest (With2 M D l) W hx hi) ?_
      rintro e a2 W2 hp
      cases e <;> first | exact hp.elim | skip
      obtain ⟨hib, hk2⟩ := hp
      have hb2 := hb.keeps hk2
      refine ⟨_, run_beginRound hb2.1 (by rw [hrec]), ?_⟩
      have hb3 := hb2.turn (.loop { rec .ready none with state := .busy })
      have hi3 := hb2.inv (hIb x a2) hib (.loop { rec .ready none with state := .busy })
      refine wpIn_mono (hbody l pre x rest (With2 M D l) a2 _ hx (by omega) (.inr (.inr rfl)) ⟨_, hb3.1⟩ hi3) ?_
      have hkA : Keeps B M W (W2.putObj l (.loop { rec .ready none with state := .busy })) :=
        Touch.put (hk2.mono fun k h => .inl h) (.inl (fun e => e.elim hnl hb2.2.2.1)) _
      have fin : ∀ (jump : Option Code) (W4 : World), Keeps B (With2 M D l) (W2.putObj l (.loop { rec .ready none with state := .busy })) W4 →
          (Instr.endRound l jump).run P W4 = .ok (.bool jump.isNone) (W4.putObj l (.loop (rec (if jump.isNone then .ready else .done) jump))) ∧ Book M D l (.loop { rec .ready none with state := .busy }) W4 := fun jump W4 hk4 => by
        have hb4 := hb3.keeps hk4
        have := run_endRound (P := P) jump hb4.1
        rw [hrec] at this ⊢
        exact ⟨this, by rw [hrec] at hb4; exact hb4⟩
      rintro e a3 W4 hp
      cases e with
      | normal =>
        obtain ⟨hk4, hi4⟩ := hp
        obtain ⟨hr, hb4⟩ := fin none W4 hk4
        exact ⟨_, _, hr, .inl ⟨rfl, ⟨hb4.inv hI hi4 _, hb4.turn _⟩, Touch.put (hkA.trans (hk4.mono fun k h => .inl h)) (.inl (fun e => e.elim hnl hb4.2.2.1)) _⟩⟩
      | ret =>
        obtain ⟨hk4, hi4⟩ := hp
        obtain ⟨hr, hb4⟩ := fin (some .ret) W4 hk4
        exact ⟨_, _, hr, .inr ⟨rfl, ⟨.ret, hb4.inv (hIx _) hi4 _, hb4.turn _⟩, Touch.put (hkA.trans (hk4.mono fun k h => .inl h)) (.inl (fun e => e.elim hnl hb4.2.2.1)) _⟩⟩
      | exit id =>
        obtain ⟨hk4, hi4⟩ := hp
        obtain ⟨hr, hb4⟩ := fin (some (.exit id)) W4 hk4
        exact ⟨_, _, hr, .inr ⟨rfl, ⟨.exit id, hb4.inv (hIx _) hi4 _, hb4.turn _⟩, Touch.put (hkA.trans (hk4.mono fun k h => .inl h)) (.inl (fun e => e.elim hnl hb4.2.2.1)) _⟩⟩
      | goto t =>
        obtain ⟨hk4, hi4⟩ := hp
        obtain ⟨hr, hb4⟩ := fin (some (.goto t)) W4 hk4
        exact ⟨_, _, hr, .inr ⟨rfl, ⟨.goto t, hb4.inv (hIx _) hi4 _, hb4.turn _⟩, Touch.put (hkA.trans (hk4.mono fun k h => .inl h)) (.inl (fun e => e.elim hnl hb4.2.2.1)) _⟩⟩
      | panic ch => exact hp.elim
      | outgrown => exact hp.elim
    · rintro e W2 ⟨⟨v, rfl⟩, (⟨M, hi, hb⟩ | ⟨pre, x, rest, M, hx, c, hi, hb⟩)⟩
      · have he := run_endLoop (P := P) hb.1 (by rw [hrec]; simp)
        refine ⟨_, _, he, ?_⟩
        rw [show (rec .ready none).pending = none by rw [hrec]]
        exact hdone D _ _ (by omega) (.inr (.inl rfl)) (hb.inv hI hi _) (hb.turn _).2.1
      · have he := run_endLoop (P := P) hb.1 (by rw [hrec]; simp)
        refine ⟨_, _, he, ?_⟩
        rw [show (rec .done (some c)).pending = some c by rw [hrec]]
        exact hstop D c pre x rest _ _ (by omega) (.inr (.inl rfl)) hx (hb.inv (hIx c) hi _) (hb.turn _).2.1
end
end Go.Proofs.Ytpnncadglhlclaa
