/- Searches to which all counts; what lies within a number, in their order; append in a round. -/
import Derived.Test.YtkhbiaifhoknpaaQNearMore12
import Derived.Maps.AppendAt
import Derived.Test.YtkhbiaifhoknpaaQNearMore04
import Derived.Test.YtkhbiaifhoknpaaQNearMore02
import Derived.Sort.OwnSortedInts
import Derived.Test.YtkhbiaifhoknpaaQNearMore01
import Derived.Test.YtkhbiaifhoknpaaQNearMore06
/- Searches to which all counts; what lies within a number, in their order; append in a round. -/
namespace Go.Proofs.Ytkhbiaifhoknpaa
open Go Go.RowKit
attribute [local go_sem] Oper.semAt_some
section
variable {F : Fence} {m : Nat} {w : World} {e : TypeId} {ops : Array Oper} {rest : List Oper} {o : Oper} {a : Act} {Q : Exit → Act → World → Prop}
/-- append of one element of one cell, inside a round; where the row lies behind it. -/
theorem wp_appIn {t : TypeId} (E : Elem t e 1) (hgd : o.guard = none) (s x : Operand) (ho : o.op = .call { callee := .builtin .append, args := #[s, x], argTypes := #[t, t] })
    (lo : Nat) (hlo : lo ≤ w.heap.size) (n c : Nat) (A : Option Addr) (xs : List Value) (hs : a.eval s = .slice A n c) (hown : Own w lo e 1 A n c xs) (g c' : Nat) (v : Value) (hx : a.eval x = .slice (some ⟨g, 0, none⟩) 1 c')
    (hv : Holds w ⟨g, 0, none⟩ v) (h1 : v.oneCell' = true) (hnm : n + 1 ≤ 1000000000000)
    (h : ∀ A' c'' w', Own w' lo e 1 A' (n + 1) c'' (xs ++ [v]) → Touch (fun k => ∃ p, A = some p ∧ p.block = k) w w' → (∀ p, A' = some p → (∃ q, A = some q ∧ q.block = p.block) ∨ New w w' p.block) → wpListIn F m Try.prog ops Q rest (a.put o.dst (.slice A' (n + 1) c'')) w') :
    wpListIn F m Try.prog ops Q (o :: rest) a w := by
  obtain ⟨i, z, bytes, hi, hz, hsz, hby, hzs, hb64⟩ := E.info
  refine wpListIn_plain hgd fun K hK' => ?_
  obtain ⟨v', w', hr, hown', hgr, _, hat⟩ := run_append_own_at (P := Try.prog) w lo t o.type e i z 1 bytes E.under hi hz hsz hby hzs E.pos (.slice A n c) n xs hown ⟨g, 0, none⟩ 1 c' [v] rfl (fun j u hu => by
    have hj : j = 0 := by
      have := (List.getElem?_eq_some_iff.1 hu).1
      simpa using this
    subst hj
    simp at hu
    subst hu
    simpa [Addr.add] using hv.cell) (by intro u hu; simp at hu; rw [hu]; exact h1) (by unfold maxLen; omega) (Nat.le_trans (Nat.mul_le_mul hnm hb64) (by omega)) hlo
  obtain ⟨A', c'', rfl⟩ := own_form hown'
  have ht : Touch (fun k => ∃ p, A = some p ∧ p.block = k) w w' := (Touch.refl _ w).grown hgr fun k hk => .inl (by
    cases A with
    | none => simp [Value.ownBlock] at hk
    | some p => simp [Value.ownBlock] at hk; exact ⟨p, rfl, hk⟩)
  have hloc : ∀ p, A' = some p → (∃ q, A = some q ∧ q.block = p.block) ∨ New w w' p.block := fun p hp => by
    have hlt := (hown'.lt p.block (by subst hp; rfl)).2
    subst hp
    simp only [Value.ownBlock] at hat
    rcases hat with hat | hat
    · left
      cases A with
      | none => simp at hat
      | some q => exact ⟨q, rfl, by simpa using hat.symm⟩
    · right
      have e9 : p.block = w.heap.size := by simpa using hat
      exact ⟨Nat.le_of_eq e9.symm, hlt⟩
  unfold Oper.wpIn
  refine ⟨?_, ?_⟩
  · simp [Oper.about, ho, resolve, Target.leads, Sem.run_pure]
  · rw [Oper.semAt_plain F _ _ (by rw [ho]; intro c hc'; cases hc')]
    simp [execOp, ho, resolve, invoke, builtin, hs, hx, hr, Result.andThen]
    exact hK' _ _ (h A' c'' w' hown' ht hloc)
end
def ordL (xs : List (Nat × Nat)) : List Int := xs.map fun p => (p.1 : Int)
theorem ordL_snoc (xs : List (Nat × Nat)) (p : Nat × Nat) : ordL (xs ++ [p]) = ordL xs ++ [(p.1 : Int)] := by simp [ordL]
/-- All counts, from s on. -/
def oN : DOpt := ⟨false, [], [], [], 0⟩
structure SeaN (NN s : Nat) (E : List Edg) (xs : List (Nat × Nat)) : Prop where
  ok : WalkOk NN s E oN
  dc : dcF NN s E [] = 0
  tr : if (s : Int) ∈ oN.nn then xs = [] else Trace (srchOf NN E oN) (reachS 0 (st0 NN) s 0) xs
  lt : ∀ p, p ∈ xs → p.1 < NN
  far : Far (srchOf NN E oN) s 17592186044416 xs
theorem sea_n {NN s : Nat} {E : List Edg} (hr : rightF NN E = 0) (hs : s < NN) : ∃ xs, SeaN NN s E xs := by
  obtain ⟨r1, r2, r3, r4, r5⟩ := right_in hr
  have hd : dcF NN s E [] = 0 := by
    unfold dcF
    rw [if_neg (by omega), if_neg (by unfold nodeB; simp; omega), if_neg (by simp)]
    rfl
  obtain ⟨_, _, _, _, hwb⟩ := dc_ok hd
  have hok : WalkOk NN s E oN := ⟨hr, hs, .inl rfl, by show (0 : Nat) < _; omega, by show 0 ≤ _; omega, by show 0 ≤ _; omega⟩
  obtain ⟨xs, h1, h2, h3⟩ := walk_is hok hwb (Nat.le_refl _) (by simp [oN])
  exact ⟨xs, hok, hd, h1, h3, h2⟩
theorem SeaN.len {NN s : Nat} {E : List Edg} {xs : List (Nat × Nat)} (h : SeaN NN s E xs) : xs.length ≤ NN := by
  have h1 : (xs.map Prod.fst).length ≤ (List.range NN).length := by
    refine List.Nodup.length_le_of_subset h.far.nodup ?_
    intro v hv
    obtain ⟨p, hp, rfl⟩ := List.mem_map.1 hv
    exact List.mem_range.2 (h.lt p hp)
  simpa using h1
theorem SeaN.small {NN s : Nat} {E : List Edg} {xs : List (Nat × Nat)} (h : SeaN NN s E xs) : ∀ p ∈ xs, p.2 ≤ 72057594037927936 := by
  rintro ⟨v, f⟩ hp
  have h1 : f ≤ NN * 17592186044416 := (h.far.way v f hp).2.2.2
  have h2 : NN ≤ 4096 := by have := (right_in h.ok.right).2.1; omega
  have h3 : NN * 17592186044416 ≤ 4096 * 17592186044416 := Nat.mul_le_mul_right _ h2
  simp only
  omega
def inB (r : Nat) (p : Nat × Nat) : Bool := decide (p.2 ≤ r)
/-- The nodes within r, in the order of a search. -/
def within (xs : List (Nat × Nat)) (r : Nat) : List (Nat × Nat) := xs.takeWhile (inB r)
theorem within_mem {xs : List (Nat × Nat)} {r r' : Nat} (h : r ≤ r') : ∀ p, p ∈ within xs r → p ∈ within xs r' := by
  induction xs with
  | nil => intro p hp; exact hp
  | cons x xs ih =>
    intro p hp
    unfold within at *
    rw [List.takeWhile_cons] at hp ⊢
    by_cases hx : inB r x = true
    · have hx' : inB r' x = true := decide_eq_true (by have := of_decide_eq_true hx; omega)
      rw [if_pos hx] at hp
      rw [if_pos hx']
      rcases List.mem_cons.1 hp with rfl | hp
      · simp
      · exact List.mem_cons_of_mem _ (ih p hp)
    · rw [if_neg hx] at hp
      cases hp
theorem within_split (xs : List (Nat × Nat)) (r : Nat) : within xs r = xs ∨ ∃ y rest, xs = within xs r ++ y :: rest ∧ r < y.2 := by
  induction xs with
  | nil => exact .inl rfl
  | cons x xs ih =>
    unfold within at *
    rw [List.takeWhile_cons]
    by_cases hx : inB r x = true
    · rw [if_pos hx]
      rcases ih with h | ⟨y, rest, h, hy⟩
      · exact .inl (by rw [h])
      · exact .inr ⟨y, rest, by rw [List.cons_append, ← h], hy⟩
    · rw [if_neg hx]
      exact .inr ⟨x, xs, rfl, by
        have : ¬ x.2 ≤ r := fun h => hx (decide_eq_true h)
        omega⟩
theorem within_all {xs : List (Nat × Nat)} {r : Nat} : ∀ p ∈ within xs r, p.2 ≤ r := by
  induction xs with
  | nil => intro p hp; cases hp
  | cons x xs ih =>
    intro p hp
    unfold within at *
    rw [List.takeWhile_cons] at hp
    by_cases hx : inB r x = true
    · rw [if_pos hx] at hp
      rcases List.mem_cons.1 hp with rfl | hp
      · exact of_decide_eq_true hx
      · exact ih p hp
    · rw [if_neg hx] at hp
      cases hp
/-- The nodes within a number at which the k-th one (counted from 0) lies are more than k. -/
theorem within_many {xs : List (Nat × Nat)} (hs : xs.Pairwise fun a b => ahead a b = true) : ∀ {k : Nat} {v f : Nat}, xs[k]? = some (v, f) → k < (within xs f).length ∧ (0 < f → (within xs (f - 1)).length ≤ k) := by
  induction xs with
  | nil => intro k v f h; simp at h
  | cons x xs ih =>
    intro k v f h
    rw [List.pairwise_cons] at hs
    cases k with
    | zero =>
      simp at h
      subst h
      unfold within
      rw [List.takeWhile_cons, List.takeWhile_cons]
      rw [if_pos (show inB f (v, f) = true from decide_eq_true (Nat.le_refl _))]
      refine ⟨by simp, fun h0 => ?_⟩
      rw [if_neg (by show ¬ inB (f - 1) (v, f) = true; unfold inB; simp; omega)]
      simp
    | succ k =>
      have h' : xs[k]? = some (v, f) := by simpa using h
      obtain ⟨h1, h2⟩ := ih hs.2 h'
      have hm : (v, f) ∈ xs := List.mem_of_getElem? h'
      have hx := ahead_yes.1 (hs.1 _ hm)
      unfold within at *
      rw [List.takeWhile_cons, List.takeWhile_cons]
      rw [if_pos (show inB f x = true from decide_eq_true (by simp only at hx; omega))]
      refine ⟨by simp only [List.length_cons]; omega, fun h0 => ?_⟩
      have h3 := h2 h0
      split
      · simp only [List.length_cons]; omega
      · simp
theorem within_mem_iff {xs : List (Nat × Nat)} (hs : xs.Pairwise fun a b => ahead a b = true) {r : Nat} {p : Nat × Nat} : p ∈ within xs r ↔ p ∈ xs ∧ p.2 ≤ r := by
  constructor
  · exact fun h => ⟨(List.takeWhile_sublist _).subset h, within_all p h⟩
  · rintro ⟨h, hr⟩
    induction xs with
    | nil => cases h
    | cons x xs ih =>
      rw [List.pairwise_cons] at hs
      unfold within
      rw [List.takeWhile_cons]
      rcases List.mem_cons.1 h with rfl | h
      · rw [if_pos (show inB r p = true from decide_eq_true hr)]
        simp
      · have h1 := ahead_yes.1 (hs.1 _ h)
        have hx : inB r x = true := decide_eq_true (by omega)
        rw [if_pos hx]
        exact List.mem_cons_of_mem _ (ih hs.2 h)
theorem within_len_le (xs : List (Nat × Nat)) (r : Nat) : (within xs r).length ≤ xs.length := (List.takeWhile_sublist _).length_le
/-- A break behind pre: those are all that lie within. -/
theorem within_cut {pre rest : List (Nat × Nat)} {y : Nat × Nat} {r : Nat} (h : ∀ p ∈ pre, p.2 ≤ r) (hy : r < y.2) : within (pre ++ y :: rest) r = pre := by
  unfold within
  induction pre with
  | nil =>
    rw [List.nil_append, List.takeWhile_cons, if_neg]
    unfold inB
    simp
    omega
  | cons x pre ih =>
    rw [List.cons_append, List.takeWhile_cons, if_pos (show inB r x = true from decide_eq_true (h x (by simp))), ih (fun p hp => h p (by simp [hp]))]
theorem within_whole {xs : List (Nat × Nat)} {r : Nat} (h : ∀ p ∈ xs, p.2 ≤ r) : within xs r = xs := by
  unfold within
  induction xs with
  | nil => rfl
  | cons x xs ih => rw [List.takeWhile_cons, if_pos (show inB r x = true from decide_eq_true (h x (by simp))), ih (fun p hp => h p (by simp [hp]))]
theorem all_one {α : Type} {l : List α} {a : α} (h : ∀ x ∈ l, x = a) (ha : a ∈ l) (hn : l.Nodup) : l = [a] := by
  match l, h, ha, hn with
  | [x], h, _, _ => rw [h x (by simp)]
  | x :: y :: l, h, _, hn =>
    exfalso
    have h1 := h x (by simp)
    have h2 := h y (by simp)
    rw [List.nodup_cons] at hn
    exact hn.1 (by rw [h1, ← h2]; simp)
end Go.Proofs.Ytkhbiaifhoknpaa

/- Contract: an own row is sorted. -/
namespace Go.Proofs.Ytkhbiaifhoknpaa
open Go Go.RowKit
def srtI (xs : List Int) : List Int := xs.mergeSort fun x y => decide (x ≤ y)
theorem srtI_len (xs : List Int) : (srtI xs).length = xs.length := List.length_mergeSort _
theorem srtI_mem {xs : List Int} {x : Int} : x ∈ srtI xs ↔ x ∈ xs := List.mem_mergeSort
theorem sortOwnT (B : Nat) (w : World) (A : Option Addr) (n c : Nat) (xs : List Int) (ho : Own w B 3 1 A n c (xs.map (.int .i64))) (hn : n ≤ 1000000) :
    Calls Try.prog 12 #[.slice A n c] w fun e w' => e = .returned (.tuple #[]) ∧ Touch (fun k => ∃ p, A = some p ∧ p.block = k) w w' ∧ Own w' B 3 1 A n c ((srtI xs).map (.int .i64)) := by
  have hl : xs.length = n := by simpa using ho.len
  rcases Nat.eq_zero_or_pos n with h0 | h0
  · subst h0
    have hx : xs = [] := List.eq_nil_of_length_eq_zero hl
    subst hx
    refine (Try.slices_Sort_int_none A c w).mono ?_
    rintro e w' ⟨rfl, rfl⟩
    exact ⟨rfl, Touch.refl _ _, by simpa [srtI] using ho⟩
  · obtain ⟨g, cur, rfl, hB, hh, hc, hs, ht⟩ := ho.at_ h0
    have hm : c ≤ maxLen := by
      rcases ho.2 with ⟨h1, _⟩ | ⟨g2, cap, cur2, h1, _, _, _, h5, _⟩
      · cases h1
      · injection h1 with _ _ h7; subst h7; exact h5
    subst hl
    have hH := holds_of_blockI (ss := xs) hh (by rw [Nat.mul_one] at ht; exact ht)
    refine (Try.slices_Sort_int g 0 c xs w hH (Array.getElem?_eq_some_iff.1 hh).1 (by omega)).mono ?_
    rintro e w' ⟨rfl, k, os, rfl⟩
    have hg1 := grownBy_sortedI (w := w) (g := g) (n := k) (os := os) (srtI xs).toArray
    have ho1 := ownsRow_sortedI (w := w) (base := B) (g := g) (n := k) (cap := c) (os := os) (ss := xs) (ts := srtI xs) (srtI_len xs) hB hh hc hm hs
    exact ⟨rfl, (Touch.refl _ w).grown hg1 (fun k hk => .inl ⟨_, rfl, by simpa using hk⟩), ho1⟩
end Go.Proofs.Ytkhbiaifhoknpaa

/- Contract: which nodes lie within a number, by the program. -/
namespace Go.Proofs.Ytkhbiaifhoknpaa
open Go Go.RowKit
attribute [local go_sem] Oper.semAt_some
/-- Between two nodes. -/
def WtI (w : World) (lo b5 b6 r : Nat) (p : List (Nat × Nat)) (Mi : Nat → Prop) (W : World) : Prop :=
  ∃ A c, (∃ y : Later w, W = y.now) ∧ (Arr W b6 28 [.slice A p.length c] ∧ Arr W b5 25 [.int .u64 (r : Int)] ∧ ∀ q ∈ p, q.2 ≤ r) ∧ Own W lo 3 1 A p.length c ((ordL p).map (.int .i64)) ∧ (∀ q, A = some q → ¬ Mi q.block) ∧ (∀ k, Mi k → lo ≤ k ∧ k < W.heap.size) ∧ lo ≤ W.heap.size
theorem WtI.yields {w : World} {lo b5 b6 r : Nat} (h1 : b6 < lo) (h2 : b5 < lo) (hlo : w.heap.size ≤ lo) : Yields' (WtI w lo b5 b6 r) := by
  rintro p Mi W Mi' W' ⟨A, c, ⟨y, rfl⟩, ⟨a1, b1, b2⟩, a2, a3, a4, a5⟩ ht hM'
  refine ⟨A, c, ⟨⟨W', ht.later y.grows (fun k hk => Nat.le_trans hlo (a4 k hk).1)⟩, rfl⟩, ⟨a1.touch ht (fun e => by have := (a4 _ e).1; omega), b1.touch ht (fun e => by have := (a4 _ e).1; omega), b2⟩, a2.touch ht a3, fun q hq e => ?_, fun k hk => ?_, Nat.le_trans a5 ht.size⟩
  · rcases (hM' _ e).1 with h | h
    · exact a3 q hq h
    · have := (a2.ty q hq).2.lt; omega
  · obtain ⟨h | h, h'⟩ := hM' k hk
    · exact ⟨(a4 k h).1, h'⟩
    · exact ⟨by omega, h'⟩
/-- Behind a break. -/
def WtX (w : World) (lo b5 b6 r : Nat) (cd : Code) (c : Code) (p : List (Nat × Nat)) (Mi : Nat → Prop) (W : World) : Prop :=
  c = cd ∧ ∃ pre y, p = pre ++ [y] ∧ r < y.2 ∧ WtI w lo b5 b6 r pre Mi W
theorem WtX.yields {w : World} {lo b5 b6 r : Nat} {cd : Code} (h1 : b6 < lo) (h2 : b5 < lo) (hlo : w.heap.size ≤ lo) (c : Code) : Yields' (WtX w lo b5 b6 r cd c) := by
  rintro p Mi W Mi' W' ⟨e, pre, y, e2, h3, h4⟩ ht hM'
  exact ⟨e, pre, y, e2, h3, WtI.yields h1 h2 hlo pre Mi W Mi' W' h4 ht hM'⟩
def FrameWt (b5 b6 v far : Nat) (a' : Act) : Prop := ∃ u0 u1 u2 u3 u4 u8 u11 u12 u13 u14 u15 u16 u17 u18 u19 u20 u21 u22 u23 u24 u25 u26 u27 u28 u29 u30 u31 u32 u33 : Value, a' = { tmps := #[u0, u1, u2, u3, u4, .pointer (some ⟨b5, 0, none⟩), .pointer (some ⟨b6, 0, none⟩), .int .i64 0, u8, .int .i64 (v : Int), .int .u64 (far : Int), u11, u12, u13, u14, u15, u16, u17, u18, u19, u20, u21, u22, u23, u24, u25, u26, u27, u28, u29, u30, u31, u32, u33], defers := [] }
def WtB (w : World) (lo b5 b6 r : Nat) (x : Nat × Nat) (a' : Act) (p : List (Nat × Nat)) (Mi : Nat → Prop) (W : World) : Prop := FrameWt b5 b6 x.1 x.2 a' ∧ WtI w lo b5 b6 r p Mi W
/-- What is told. -/
def GiveWt (xs : List (Nat × Nat)) (r : Nat) (w : World) (e : Ending) (w' : World) : Prop :=
  ∃ A c, e = .returned (.tuple #[.slice A (within xs r).length c, .int .i64 0]) ∧ Rd w' A 1 (within xs r).length ((srtI (ordL (within xs r))).map (.int .i64)) ∧ Grows w w'
set_option maxRecDepth 40000 in
set_option maxHeartbeats 8000000 in
theorem nrWithin (N s r : Nat) (A : Option Addr) (c : Nat) (E : List Edg) (xs : List (Nat × Nat)) (w : World) (h : Rd w A 3 E.length (esCells E)) (hx : SeaN N s E xs) (hr : r < 18446744073709551616) :
    Calls Try.prog 6 #[.agg #[.int .i64 (N : Int), .slice A E.length c], .int .i64 (s : Int), .int .u64 (r : Int)] w (GiveWt xs r w) := by
  obtain ⟨r1, r2, r3, r4, r5⟩ := right_in hx.ok.right
  have C1 := hide (fun (W : World) (g : Grows w W) => djCheck (N : Int) s A E.length c E false (.slice none 0 0) (.slice none 0 0) none 0 0 0 [] W (h.grows g) ⟨rfl, fun h => absurd h (by simp)⟩ (by omega) (by omega))
  rw [hx.dc] at C1
  unfold oVal at C1
  have C3 := hide (fun (W : World) => djWalk (.agg #[.int .i64 (N : Int), .slice A E.length c]) (.int .i64 (s : Int)) (.agg #[.bool false, .slice none 0 0, .slice none 0 0, .slice none 0 0, .int .u64 0]) (N : Int) (.slice A E.length c) rfl (s : Int) rfl _ _ _ _ _ rfl W)
  have HM := hide h
  have HX := hide hx
  have HXL := hide (show xs.length ≤ 1000000 from by have := hx.len; omega)
  have HXS := hide hx.small
  clear h hx r1 r2 r3 r4 r5
  refine calls_of_marks Try.func6 rfl ?_
  simp only [Try.ntmps6, List.size_toArray, List.length_cons, List.length_nil, Nat.reduceAdd, Nat.reduceSub, Array.replicate_succ, Array.replicate_zero, List.push_toArray, List.append_toArray, List.nil_append, List.cons_append]
  go_wp2_with fail
  refine (C1.out _ (by repeat (first | exact Grows.refl _ | refine Grows.now ?_ _ | refine Grows.new ?_ _ | refine Grows.drewN ?_ _ | refine Grows.drew ?_ | assumption | (refine Grows.set ?_ (by first | omega | (simp; done) | (simp; omega)) _)))).mono ?_; rintro e w' ⟨rfl, hg⟩; obtain ⟨x1, rfl⟩ := hg.later; clear hg
  go_wp2_with fail
  refine (C3.out _).mono ?_; rintro e W0 ⟨b, rfl, hb, z1, z2, z3, hg⟩
  have hx2 := x1.size
  have hs5 : w.heap.size + 1 + 1 < b := by rw [← hb]; simp at hx2; omega
  have q5 : Arr W0 (w.heap.size + 1) 25 [.int .u64 (r : Int)] := Arr.grow ⟨by simp [heap_push, Array.getElem_push, Array.getElem?_push, eq_add2]⟩ (x1.grows.trans hg)
  have q6 : Arr W0 (w.heap.size + 1 + 1) 28 [.slice none 0 0] := Arr.grow ⟨by simp [heap_push, Array.getElem_push]⟩ (x1.grows.trans hg)
  have hgw : Grows w W0 := Grows.trans (by show Grows w x1.now; exact (by repeat (first | exact Grows.refl _ | refine Grows.now ?_ _ | refine Grows.new ?_ _ | refine Grows.drewN ?_ _ | refine Grows.drew ?_ | assumption | (refine Grows.set ?_ (by first | omega | (simp; done) | (simp; omega)) _)))) hg
  have hW0 := z3.lt
  have hsz0 := hgw.size
  have g6 : w.heap.size ≤ w.heap.size + 1 + 1 := by omega
  have g56 : w.heap.size + 1 < w.heap.size + 1 + 1 := by omega
  clear hb hg C1 C3 hx2
  generalize w.heap.size + 1 + 1 = b6 at *
  generalize w.heap.size + 1 = b5 at *
  have hwalk : WalkAt (fun k => k < w.heap.size ∨ (b ≤ k ∧ k ≤ b + 1 + 1)) W0 b (b + 1 + 1) (b + 1) N s E oN :=
    ⟨A, c, none, 0, none, 0, none, 0, z1, z3, z2, HM.out.grows hgw, ⟨rfl, fun h => absurd h (by simp [oN])⟩, ⟨rfl, fun h => absurd h (by simp [oN])⟩, ⟨rfl, fun h => absurd h (by simp [oN])⟩, .inr ⟨by omega, by omega⟩, .inr ⟨by omega, by omega⟩, .inr ⟨by omega, by omega⟩, fun h p hp => .inl (HM.out.block_lt (by omega) h p hp), fun h => absurd h (by simp [oN]), fun h => absurd h (by simp [oN]), fun h => absurd h (by simp [oN])⟩
  have hBW : ∀ k, (k < w.heap.size ∨ (b ≤ k ∧ k ≤ b + 1 + 1)) → k < W0.heap.size := fun k hk => by rcases hk with hk | hk <;> omega
  have hGV := djWalk1 (fun k => k < w.heap.size ∨ (b ≤ k ∧ k ≤ b + 1 + 1)) (fun k => k < w.heap.size ∨ (b ≤ k ∧ k ≤ b + 1 + 1)) (fun _ => False) b (b + 1 + 1) (b + 1) N s E oN xs W0 hwalk (fun k hk => .inl hk) (fun k hk => hk.elim) hBW HX.out.ok HX.out.tr
  have h0 : WtI w W0.heap.size b5 b6 r [] (fun _ => False) W0 := ⟨none, 0, ⟨⟨W0, hgw⟩, rfl⟩, ⟨q6, q5, fun q hq => (by cases hq)⟩, Own.nil _ _ _ _, fun q hq => (by cases hq), fun k hk => hk.elim, Nat.le_refl _⟩
  have hIy := WtI.yields (w := w) (lo := W0.heap.size) (b5 := b5) (b6 := b6) (r := r) (by omega) (by omega) hsz0
  have HGV := hide hGV
  have H0 := hide h0
  clear hGV h0 hwalk q6 q5 z1 z2 z3 HM HX
  go_wp2_with fail
  refine (wpIn_wide (n := 0)).1 ?_
  have hGV := HGV.out
  have h0 := H0.out
  have hXy := fun c => WtX.yields (w := w) (lo := W0.heap.size) (b5 := b5) (b6 := b6) (r := r) (cd := (.exit 0)) (by omega) (by omega) hsz0 c
  clear HGV H0
  refine wp_rangeG (w0 := W0) (gf := 17) rfl (enters_of Try.func17 (by kernel_rfl) rfl) hGV (Keeps.refl _ _ _) hBW (fun k hk => hk.elim) (fun _ => rfl)
    (WtI w W0.heap.size b5 b6 r) (WtX w W0.heap.size b5 b6 r (.exit 0)) hIy hXy h0 (WtB w W0.heap.size b5 b6 r) ?hIb ?assign ?body ?done ?stop
  case hIb =>
    rintro x a' p Mi W1 Mi' W' ⟨hf, hI⟩ ht hM'
    exact ⟨hf, hIy p Mi W1 Mi' W' hI ht hM'⟩
  case assign =>
    intro l2 p x rest Mi W1 hsp hI
    have HI := hide hI
    clear hI
    unfold encD
    gi_wp2
    refine ⟨⟨?_, HI.out⟩, Keeps.refl _ _ _⟩
    unfold FrameWt
    (repeat apply Exists.intro)
    rfl
  case body =>
    rintro l2 p ⟨v, far⟩ rest Mi a' W1 hsp hl2 hMl hrec ⟨⟨u0, u1, u2, u3, u4, u8, u11, u12, u13, u14, u15, u16, u17, u18, u19, u20, u21, u22, u23, u24, u25, u26, u27, u28, u29, u30, u31, u32, u33, rfl⟩, ⟨A9, c9, ⟨y, rfl⟩, ⟨q6, q5, hall⟩, ho, hnM, hm, hlo⟩⟩
    have hpl : p.length < 1000000 := by
      have := HXL.out
      rw [hsp] at this
      simp at this
      omega
    have hfs : far ≤ 72057594037927936 := HXS.out (v, far) (by rw [hsp]; simp)
    have HO := hide ho
    have HNM := hide hnM
    have HMM := hide hm
    have HAL := hide hall
    have HSN := hide (ordL_snoc p (v, far))
    have HIY := hide hIy
    clear hsp hl2 hMl hrec hm h0 hIy hXy hGV ho hnM hall
    simp only
    have HNB : Hid (∀ q, A9 = some q → q.block ≠ b6) := fun q hq e => by
      have h1 := (HO.out.ty q hq).2.one (by rw [e]; exact q6.ty)
      exact absurd h1 (by decide)
    have hyo : W0.heap.size ≤ (y.now.alloc (.cells #[.int .i64 (v : Int)] 3)).heap.size := by simp; omega
    obtain ⟨fi, hfi⟩ : ∃ z : Int, (far : Int) = z := ⟨_, rfl⟩
    obtain ⟨ri, hri⟩ : ∃ z : Int, (r : Int) = z := ⟨_, rfl⟩
    by_cases hfr : r < far
    · have hd : decide (ri < fi) = true := decide_eq_true (by omega)
      have HRI := hide hri
      have HFR := hide hfr
      rw [hri] at q5
      rw [hfi]
      clear hfi hri hfr hfs
      gi_wp2
      exact ⟨Keeps.refl _ _ _, rfl, p, (v, far), rfl, HFR.out, A9, c9, ⟨y, rfl⟩, ⟨q6, by rw [HRI.out]; exact q5, HAL.out⟩, HO.out, HNM.out, HMM.out, hlo⟩
    · have hd : decide (ri < fi) = false := decide_eq_false (by omega)
      have HRI := hide hri
      have HFR := hide (show far ≤ r by omega)
      have HQ5 := hide q5
      rw [hri] at q5
      rw [hfi]
      clear hfi hri hfr hfs
      gi_wp2_with (refine wp_appIn elemInt rfl _ _ rfl W0.heap.size hyo p.length c9 A9 _ rfl (HO.out.new _) _ _ _ rfl inferInstance rfl (by omega) ?_; intro A3 c3 w3 ho3 ht3 hn3; have q63 : Arr w3 b6 28 [.slice A9 p.length c9] := (q6.grow ((Grows.refl _).new _)).touch ht3 (fun e => by obtain ⟨q, hq, e2⟩ := e; exact HNB.out q hq e2); have HO3 := hide ho3; have HT3 := hide ht3; have HN3 := hide hn3; clear ho3 ht3 hn3)
      have htt : Touch (fun k => ¬ ((k < w.heap.size ∨ (b ≤ k ∧ k ≤ b + 1 + 1)) ∨ Mi k)) y.now w3 := Touch.trans2 (((Grows.refl y.now).new _).touch _) HT3.out (fun k hk => by
        obtain ⟨q, hq, e2⟩ := hk
        have h1 := (HO.out.ty q hq).1
        refine .inl (fun e => ?_)
        rcases e with (e | e) | e
        · omega
        · omega
        · exact HNM.out q hq (by rw [e2]; exact e))
      have hsz3 := htt.size
      have hyg3 : Grows w w3 := htt.later y.grows (fun k hk => by
        rcases Nat.lt_or_ge k w.heap.size with h | h
        · exact absurd (.inl (.inl h)) hk
        · exact h)
      have hb6n : ¬ ((b6 < w.heap.size ∨ (b ≤ b6 ∧ b6 ≤ b + 1 + 1)) ∨ Mi b6) := fun e => by
        rcases e with (e | e) | e
        · omega
        · omega
        · have := (HMM.out _ e).1; omega
      have q53 : Arr w3 b5 25 [.int .u64 (r : Int)] := (HQ5.out.grow ((Grows.refl _).new _)).touch HT3.out (fun e => by
        obtain ⟨q, hq, e2⟩ := e
        have h1 := (HO.out.ty q hq).1
        omega)
      refine ⟨htt.set (.inl hb6n) _, A3, c3, ⟨⟨_, hyg3.set g6 _⟩, rfl⟩, ⟨?_, q53.other (p := ⟨b6, 0, none⟩) (by show b6 ≠ b5; omega) _, fun q hq => ?_⟩, ?_, fun q hq e => ?_, fun k hk => ?_, ?_⟩
      · have := q63.set 0 (.slice A3 (p.length + 1) c3)
        rw [List.length_append, List.length_singleton]
        exact this
      · rcases List.mem_append.1 hq with hq | hq
        · exact HAL.out q hq
        · rw [List.mem_singleton.1 hq]; exact HFR.out
      · rw [HSN.out, List.length_append, List.length_singleton, List.map_append]
        exact HO3.out.low (q := ⟨b6, 0, none⟩) (by show b6 < _; omega) _
      · rcases HN3.out q hq with ⟨q2, hq2, e2⟩ | hnew
        · exact HNM.out q2 hq2 (by rw [e2]; exact e)
        · have h1 := (HMM.out _ e).2
          have h2 := hnew.1
          simp at h2
          omega
      · rw [size_setCell]
        have := HMM.out k hk
        exact ⟨this.1, by omega⟩
      · rw [size_setCell]; omega
  case done =>
    intro D Mi W1 hlD hMD hI hDW
    obtain ⟨A9, c9, ⟨y, rfl⟩, ⟨q6, _, hall⟩, ho, hnM, hm, hlo⟩ := hI
    have HV : Hid (within xs r = xs) := within_whole hall
    have HO := hide ho
    have HDW := hide hDW
    have HNB : Hid (∀ q, A9 = some q → q.block ≠ D) := fun q hq e => hnM q hq (by rw [e]; exact hMD)
    have HNB6 : Hid (∀ q, A9 = some q → q.block ≠ b6) := fun q hq e => by
      have h1 := (HO.out.ty q hq).2.one (by rw [e]; exact q6.ty)
      exact absurd h1 (by decide)
    have HPL := hide (show (xs).length ≤ 1000000 from by have := HXL.out; exact this)
    clear hm hDW hIy hXy h0 hGV ho hnM hall
    gi_wp2
    go_wp2_with (go_at_call 12; refine (sortOwnT W0.heap.size y.now A9 (xs).length c9 (ordL (xs)) HO.out HPL.out).mono ?_; rintro e w5 ⟨rfl, ht5, ho5⟩; have q65 := q6.touch ht5 (fun e => by obtain ⟨q, hq, e2⟩ := e; exact HNB6.out q hq e2); have HT5 := hide ht5; have HO5 := hide ho5; clear ht5 ho5 q6)
    have hDl : w.heap.size ≤ D ∧ b6 ≠ D := by omega
    have e6 : Arr (w5.setCell ⟨b6, 0, none⟩ (.slice A9 (xs).length c9)) b6 28 [.slice A9 (xs).length c9] := q65.set 0 _
    have hyg : Grows w (w5.setCell ⟨b6, 0, none⟩ (.slice A9 (xs).length c9)) := (HT5.out.later y.grows (fun k hk => by obtain ⟨q, hq, e2⟩ := hk; have := (HO.out.ty q hq).1; omega)).set g6 _
    have hD3 : (w5.setCell ⟨b6, 0, none⟩ (.slice A9 (xs).length c9)).heap[D]? = some (.deferred (some [])) := by
      rw [heap_setCell _ _ _ _ (Ne.symm hDl.2)]
      exact HT5.out.at (fun e => by obtain ⟨q, hq, e2⟩ := e; exact HNB.out q hq e2) HDW.out
    have ho2 := HO5.out.low (q := ⟨b6, 0, none⟩) (by show b6 < _; omega) (.slice A9 (xs).length c9)
    refine marks_ret [D] rfl ((Marks.nil _).cons hD3 (by simp)) (fun W' htt => ?_)
    have k6 := (e6.touch htt (fun e => hDl.2 (List.mem_singleton.1 e))).cell 0
    refine ⟨.tuple #[.slice A9 (xs).length c9, .int .i64 0], by simp (maxDischargeDepth := 6) [results, Try.results6, go_sem, k6], A9, c9, by rw [HV.out], ?_, htt.later hyg (fun k hk => by rw [List.mem_singleton.1 hk]; exact hDl.1)⟩
    rw [HV.out]
    exact ho2.rd.touch htt (fun q hq e => HNB.out q hq (List.mem_singleton.1 e))
  case stop =>
    intro D c' p i rest Mi W1 hlD hMD hsp hX hDW
    obtain ⟨rfl, pre, z, he, hz, hI⟩ := hX
    obtain ⟨rfl, hiz⟩ := List.append_inj' he rfl
    have hiz2 : i = z := by simpa using hiz
    subst hiz2
    obtain ⟨A9, c9, ⟨y, rfl⟩, ⟨q6, _, hall⟩, ho, hnM, hm, hlo⟩ := hI
    have HV : Hid (within xs r = p) := by show within xs r = p; rw [hsp]; exact within_cut hall hz
    have HO := hide ho
    have HDW := hide hDW
    have HNB : Hid (∀ q, A9 = some q → q.block ≠ D) := fun q hq e => hnM q hq (by rw [e]; exact hMD)
    have HNB6 : Hid (∀ q, A9 = some q → q.block ≠ b6) := fun q hq e => by
      have h1 := (HO.out.ty q hq).2.one (by rw [e]; exact q6.ty)
      exact absurd h1 (by decide)
    have HPL := hide (show (p).length ≤ 1000000 from by have := HXL.out; rw [hsp] at this; simp at this; omega)
    clear hm hDW hIy hXy h0 hGV ho hnM hall hsp he hz hiz
    gi_wp2
    go_wp2_with (go_at_call 12; refine (sortOwnT W0.heap.size y.now A9 (p).length c9 (ordL (p)) HO.out HPL.out).mono ?_; rintro e w5 ⟨rfl, ht5, ho5⟩; have q65 := q6.touch ht5 (fun e => by obtain ⟨q, hq, e2⟩ := e; exact HNB6.out q hq e2); have HT5 := hide ht5; have HO5 := hide ho5; clear ht5 ho5 q6)
    have hDl : w.heap.size ≤ D ∧ b6 ≠ D := by omega
    have e6 : Arr (w5.setCell ⟨b6, 0, none⟩ (.slice A9 (p).length c9)) b6 28 [.slice A9 (p).length c9] := q65.set 0 _
    have hyg : Grows w (w5.setCell ⟨b6, 0, none⟩ (.slice A9 (p).length c9)) := (HT5.out.later y.grows (fun k hk => by obtain ⟨q, hq, e2⟩ := hk; have := (HO.out.ty q hq).1; omega)).set g6 _
    have hD3 : (w5.setCell ⟨b6, 0, none⟩ (.slice A9 (p).length c9)).heap[D]? = some (.deferred (some [])) := by
      rw [heap_setCell _ _ _ _ (Ne.symm hDl.2)]
      exact HT5.out.at (fun e => by obtain ⟨q, hq, e2⟩ := e; exact HNB.out q hq e2) HDW.out
    have ho2 := HO5.out.low (q := ⟨b6, 0, none⟩) (by show b6 < _; omega) (.slice A9 (p).length c9)
    refine marks_ret [D] rfl ((Marks.nil _).cons hD3 (by simp)) (fun W' htt => ?_)
    have k6 := (e6.touch htt (fun e => hDl.2 (List.mem_singleton.1 e))).cell 0
    refine ⟨.tuple #[.slice A9 (p).length c9, .int .i64 0], by simp (maxDischargeDepth := 6) [results, Try.results6, go_sem, k6], A9, c9, by rw [HV.out], ?_, htt.later hyg (fun k hk => by rw [List.mem_singleton.1 hk]; exact hDl.1)⟩
    rw [HV.out]
    exact ho2.rd.touch htt (fun q hq e => HNB.out q hq (List.mem_singleton.1 e))
end Go.Proofs.Ytkhbiaifhoknpaa

/- Contract: within which number so many nodes lie, by the program. -/
namespace Go.Proofs.Ytkhbiaifhoknpaa
open Go Go.RowKit
attribute [local go_sem] Oper.semAt_some
/-- Between two nodes. -/
def RaI (w : World) (lo b6 b7 b9 M : Nat) (p : List (Nat × Nat)) (Mi : Nat → Prop) (W : World) : Prop :=
  (∃ y : Later w, W = y.now) ∧ (Arr W b6 25 [.int .u64 0] ∧ Arr W b7 29 [.int .i64 0] ∧ Arr W b9 3 [.int .i64 ((M : Int) - p.length)] ∧ p.length < M) ∧ (∀ k, Mi k → lo ≤ k ∧ k < W.heap.size) ∧ lo ≤ W.heap.size
theorem RaI.yields {w : World} {lo b6 b7 b9 M : Nat} (h6 : b6 < lo) (h7 : b7 < lo) (h9 : b9 < lo) (hlo : w.heap.size ≤ lo) : Yields' (RaI w lo b6 b7 b9 M) := by
  rintro p Mi W Mi' W' ⟨⟨y, rfl⟩, ⟨a1, a2, a3, a6⟩, a4, a5⟩ ht hM'
  have nb : ∀ k, k < lo → ¬ Mi k := fun k hk e => by have := (a4 _ e).1; omega
  refine ⟨⟨⟨W', ht.later y.grows (fun k hk => Nat.le_trans hlo (a4 k hk).1)⟩, rfl⟩, ⟨a1.touch ht (nb _ h6), a2.touch ht (nb _ h7), a3.touch ht (nb _ h9), a6⟩, fun k hk => ?_, Nat.le_trans a5 ht.size⟩
  obtain ⟨h | h, h'⟩ := hM' k hk
  · exact ⟨(a4 k h).1, h'⟩
  · exact ⟨by omega, h'⟩
/-- Behind the return. -/
def RaX (w : World) (lo b6 b7 M : Nat) (c : Code) (p : List (Nat × Nat)) (Mi : Nat → Prop) (W : World) : Prop :=
  c = .ret ∧ p.length = M ∧ (∃ y : Later w, W = y.now) ∧ (∃ q pre, p = pre ++ [q] ∧ Arr W b6 25 [.int .u64 (q.2 : Int)] ∧ Arr W b7 29 [.int .i64 0]) ∧ (∀ k, Mi k → lo ≤ k ∧ k < W.heap.size) ∧ lo ≤ W.heap.size
theorem RaX.yields {w : World} {lo b6 b7 M : Nat} (h6 : b6 < lo) (h7 : b7 < lo) (hlo : w.heap.size ≤ lo) (c : Code) : Yields' (RaX w lo b6 b7 M c) := by
  rintro p Mi W Mi' W' ⟨e, e2, ⟨y, rfl⟩, ⟨q, pre, e3, a1, a2⟩, a4, a5⟩ ht hM'
  have nb : ∀ k, k < lo → ¬ Mi k := fun k hk e => by have := (a4 _ e).1; omega
  refine ⟨e, e2, ⟨⟨W', ht.later y.grows (fun k hk => Nat.le_trans hlo (a4 k hk).1)⟩, rfl⟩, ⟨q, pre, e3, a1.touch ht (nb _ h6), a2.touch ht (nb _ h7)⟩, fun k hk => ?_, Nat.le_trans a5 ht.size⟩
  obtain ⟨h | h, h'⟩ := hM' k hk
  · exact ⟨(a4 k h).1, h'⟩
  · exact ⟨by omega, h'⟩
def FrameRa (b6 b7 b9 far : Nat) (a' : Act) : Prop := ∃ u0 u1 u2 u3 u4 u5 u8 u10 u12 u13 u14 u15 u16 u17 u18 u19 u20 u21 u22 u23 u24 u25 u26 u27 u28 u29 u30 u31 : Value, a' = { tmps := #[u0, u1, u2, u3, u4, u5, .pointer (some ⟨b6, 0, none⟩), .pointer (some ⟨b7, 0, none⟩), u8, .pointer (some ⟨b9, 0, none⟩), u10, .int .u64 (far : Int), u12, u13, u14, u15, u16, u17, u18, u19, u20, u21, u22, u23, u24, u25, u26, u27, u28, u29, u30, u31], defers := [] }
def RaB (w : World) (lo b6 b7 b9 M : Nat) (x : Nat × Nat) (a' : Act) (p : List (Nat × Nat)) (Mi : Nat → Prop) (W : World) : Prop := FrameRa b6 b7 b9 x.2 a' ∧ RaI w lo b6 b7 b9 M p Mi W
/-- What is told. -/
def radV (xs : List (Nat × Nat)) (M : Nat) : Int × Int :=
  match xs[M - 1]? with
  | some p => ((p.2 : Int), 0)
  | none => (0, 9)
theorem radV_yes {pre rest : List (Nat × Nat)} {q : Nat × Nat} {M : Nat} (h : pre.length + 1 = M) : radV (pre ++ q :: rest) M = ((q.2 : Int), 0) := by
  unfold radV
  have : (pre ++ q :: rest)[M - 1]? = some q := by rw [← h]; simp
  rw [this]
theorem radV_no {xs : List (Nat × Nat)} {M : Nat} (h : xs.length < M) : radV xs M = (0, 9) := by
  unfold radV
  have : xs[M - 1]? = none := List.getElem?_eq_none (by omega)
  rw [this]
set_option maxRecDepth 40000 in
set_option maxHeartbeats 8000000 in
theorem nrRadius (N s : Nat) (n : Int) (A : Option Addr) (c : Nat) (E : List Edg) (xs : List (Nat × Nat)) (w : World) (h : Rd w A 3 E.length (esCells E)) (hx : SeaN N s E xs) (hn : n < 9223372036854775808) :
    Calls Try.prog 8 #[.agg #[.int .i64 (N : Int), .slice A E.length c], .int .i64 (s : Int), .int .i64 n] w fun e w' => e = .returned (.tuple #[.int .u64 (radV xs (max n 1).toNat).1, .int .i64 (radV xs (max n 1).toNat).2]) ∧ Grows w w' := by
  obtain ⟨M, hM⟩ : ∃ M, (max n 1).toNat = M := ⟨_, rfl⟩
  rw [hM]
  have hmx : max n 1 = (M : Int) := by omega
  have hM1 : 1 ≤ M := by omega
  have hM2 : (M : Int) < 9223372036854775808 := by omega
  obtain ⟨r1, r2, r3, r4, r5⟩ := right_in hx.ok.right
  have C1 := hide (fun (W : World) (g : Grows w W) => djCheck (N : Int) s A E.length c E false (.slice none 0 0) (.slice none 0 0) none 0 0 0 [] W (h.grows g) ⟨rfl, fun h => absurd h (by simp)⟩ (by omega) (by omega))
  rw [hx.dc] at C1
  unfold oVal at C1
  have C3 := hide (fun (W : World) => djWalk (.agg #[.int .i64 (N : Int), .slice A E.length c]) (.int .i64 (s : Int)) (.agg #[.bool false, .slice none 0 0, .slice none 0 0, .slice none 0 0, .int .u64 0]) (N : Int) (.slice A E.length c) rfl (s : Int) rfl _ _ _ _ _ rfl W)
  have HM := hide h
  have HX := hide hx
  have HM1 := hide (And.intro hM1 hM2)
  clear h hx r1 r2 r3 r4 r5 hM1 hM2 hM hn
  refine calls_of_marks Try.func8 rfl ?_
  simp only [Try.ntmps8, List.size_toArray, List.length_cons, List.length_nil, Nat.reduceAdd, Nat.reduceSub, Array.replicate_succ, Array.replicate_zero, List.push_toArray, List.append_toArray, List.nil_append, List.cons_append]
  go_wp2_with fail
  refine (C1.out _ (by repeat (first | exact Grows.refl _ | refine Grows.now ?_ _ | refine Grows.new ?_ _ | refine Grows.drewN ?_ _ | refine Grows.drew ?_ | assumption | (refine Grows.set ?_ (by first | omega | (simp; done) | (simp; omega)) _)))).mono ?_; rintro e w' ⟨rfl, hg⟩; obtain ⟨x1, rfl⟩ := hg.later; clear hg
  go_wp2_with fail
  refine (C3.out _).mono ?_; rintro e W0 ⟨b, rfl, hb, z1, z2, z3, hg⟩
  have hx2 := x1.size
  have hb2 : x1.now.heap.size < b := by rw [← hb]; simp
  have hs5 : w.heap.size + 1 + 1 < x1.now.heap.size := by simp at hx2; omega
  have hgx : Grows x1.now W0 := ((Grows.refl _).new _).trans hg
  have q6 : Arr W0 (w.heap.size + 1) 25 [.int .u64 0] := Arr.grow ⟨by simp [heap_push, Array.getElem_push, Array.getElem?_push, eq_add2]⟩ (x1.grows.trans hgx)
  have q7 : Arr W0 (w.heap.size + 1 + 1) 29 [.int .i64 0] := Arr.grow ⟨by simp [heap_push, Array.getElem_push]⟩ (x1.grows.trans hgx)
  have q9 : Arr W0 x1.now.heap.size 3 [.int .i64 (M : Int)] := Arr.grow (Arr.make _ _ _) hg
  have hgw : Grows w W0 := Grows.trans (by show Grows w x1.now; exact (by repeat (first | exact Grows.refl _ | refine Grows.now ?_ _ | refine Grows.new ?_ _ | refine Grows.drewN ?_ _ | refine Grows.drew ?_ | assumption | (refine Grows.set ?_ (by first | omega | (simp; done) | (simp; omega)) _)))) hgx
  have hW0 := z3.lt
  have hsz0 := hgw.size
  have g6 : w.heap.size ≤ w.heap.size + 1 := by omega
  have g67 : w.heap.size + 1 < w.heap.size + 1 + 1 := by omega
  clear hb hg C1 C3 hx2 hgx
  generalize w.heap.size + 1 + 1 = b7 at *
  generalize w.heap.size + 1 = b6 at *
  generalize x1.now.heap.size = b9 at *
  have hwalk : WalkAt (fun k => k < w.heap.size ∨ (b ≤ k ∧ k ≤ b + 1 + 1)) W0 b (b + 1 + 1) (b + 1) N s E oN :=
    ⟨A, c, none, 0, none, 0, none, 0, z1, z3, z2, HM.out.grows hgw, ⟨rfl, fun h => absurd h (by simp [oN])⟩, ⟨rfl, fun h => absurd h (by simp [oN])⟩, ⟨rfl, fun h => absurd h (by simp [oN])⟩, .inr ⟨by omega, by omega⟩, .inr ⟨by omega, by omega⟩, .inr ⟨by omega, by omega⟩, fun h p hp => .inl (HM.out.block_lt (by have := (right_in HX.out.ok.right).2.2.1; omega) h p hp), fun h => absurd h (by simp [oN]), fun h => absurd h (by simp [oN]), fun h => absurd h (by simp [oN])⟩
  have hBW : ∀ k, (k < w.heap.size ∨ (b ≤ k ∧ k ≤ b + 1 + 1)) → k < W0.heap.size := fun k hk => by rcases hk with hk | hk <;> omega
  have hGV := djWalk1 (fun k => k < w.heap.size ∨ (b ≤ k ∧ k ≤ b + 1 + 1)) (fun k => k < w.heap.size ∨ (b ≤ k ∧ k ≤ b + 1 + 1)) (fun _ => False) b (b + 1 + 1) (b + 1) N s E oN xs W0 hwalk (fun k hk => .inl hk) (fun k hk => hk.elim) hBW HX.out.ok HX.out.tr
  have h0 : RaI w W0.heap.size b6 b7 b9 M [] (fun _ => False) W0 := ⟨⟨⟨W0, hgw⟩, rfl⟩, ⟨q6, q7, by simpa using q9, by have := HM1.out.1; simp; omega⟩, fun k hk => hk.elim, Nat.le_refl _⟩
  have hIy := RaI.yields (w := w) (lo := W0.heap.size) (b6 := b6) (b7 := b7) (b9 := b9) (M := M) (by omega) (by omega) (by omega) hsz0
  have hXy := fun c => RaX.yields (w := w) (lo := W0.heap.size) (b6 := b6) (b7 := b7) (M := M) (by omega) (by omega) hsz0 c
  have HGV := hide hGV
  have H0 := hide h0
  have HXY := hide hXy
  clear hGV h0 hwalk q6 q7 q9 z1 z2 z3 HM hXy
  go_wp2_with fail
  refine (wpIn_wide (n := 0)).1 ?_
  have hGV := HGV.out
  have h0 := H0.out
  have hXy := HXY.out
  clear HGV H0
  refine wp_rangeG (w0 := W0) (gf := 17) rfl (enters_of Try.func17 (by kernel_rfl) rfl) hGV (Keeps.refl _ _ _) hBW (fun k hk => hk.elim) (fun _ => rfl)
    (RaI w W0.heap.size b6 b7 b9 M) (RaX w W0.heap.size b6 b7 M) hIy hXy h0 (RaB w W0.heap.size b6 b7 b9 M) ?hIb ?assign ?body ?done ?stop
  case hIb =>
    rintro x a' p Mi W1 Mi' W' ⟨hf, hI⟩ ht hM'
    exact ⟨hf, hIy p Mi W1 Mi' W' hI ht hM'⟩
  case assign =>
    intro l2 p x rest Mi W1 hsp hI
    have HI := hide hI
    clear hI
    unfold encD
    gi_wp2
    refine ⟨⟨?_, HI.out⟩, Keeps.refl _ _ _⟩
    unfold FrameRa
    (repeat apply Exists.intro)
    rfl
  case body =>
    rintro l2 p ⟨v, far⟩ rest Mi a' W1 hsp hl2 hMl hrec ⟨⟨u0, u1, u2, u3, u4, u5, u8, u10, u12, u13, u14, u15, u16, u17, u18, u19, u20, u21, u22, u23, u24, u25, u26, u27, u28, u29, u30, u31, rfl⟩, ⟨⟨y, rfl⟩, ⟨q6, q7, q9, hpM⟩, hm, hlo⟩⟩
    have HMM := hide hm
    have hL1 : 1 ≤ (M : Int) - p.length ∧ (M : Int) - p.length < 9223372036854775808 := by have := HM1.out; omega
    obtain ⟨L, hL⟩ : ∃ L : Int, (M : Int) - p.length = L := ⟨_, rfl⟩
    rw [hL] at hL1 q9
    have HL := hide hL
    have HPM := hide hpM
    have nb : ∀ k, (k = b6 ∨ k = b7 ∨ k = b9) → ¬ ((k < w.heap.size ∨ (b ≤ k ∧ k ≤ b + 1 + 1)) ∨ Mi k) := fun k hk e => by
      rcases e with (e | e) | e
      · omega
      · omega
      · have := (HMM.out _ e).1; omega
    have NB := hide nb
    have HIY := hide hIy
    clear hsp hl2 hMl hrec hm h0 hIy hXy hGV hL hpM nb
    simp only
    have HQ := hide (And.intro q6 (And.intro q7 q9))
    by_cases h1 : L = 1
    · have hd : (L - 1 == 0) = true := by simp; omega
      have H1 := hide h1
      clear h1
      gi_wp2
      obtain ⟨q6, q7, q9⟩ := HQ.out
      refine ⟨(((Touch.refl _ y.now).set (p := ⟨b9, 0, none⟩) (.inl (NB.out b9 (.inr (.inr rfl)))) _).set (p := ⟨b6, 0, none⟩) (.inl (NB.out b6 (.inl rfl))) _).set (p := ⟨b7, 0, none⟩) (.inl (NB.out b7 (.inr (.inl rfl)))) _, rfl, ?_, ⟨⟨_, ((y.grows.set (p := ⟨b9, 0, none⟩) (show w.heap.size ≤ b9 by omega) _).set (p := ⟨b6, 0, none⟩) (show w.heap.size ≤ b6 by omega) _).set (p := ⟨b7, 0, none⟩) (show w.heap.size ≤ b7 by omega) _⟩, rfl⟩, ⟨(v, far), p, rfl, ?_, ?_⟩, ?_, ?_⟩
      · have := HL.out
        have := H1.out
        rw [List.length_append, List.length_singleton]
        omega
      · exact ((q6.other (p := ⟨b9, 0, none⟩) (by show b9 ≠ b6; omega) _).set 0 _).other (p := ⟨b7, 0, none⟩) (by show b7 ≠ b6; omega) _
      · exact ((q7.other (p := ⟨b9, 0, none⟩) (by show b9 ≠ b7; omega) _).other (p := ⟨b6, 0, none⟩) (by show b6 ≠ b7; omega) _).set 0 _
      · intro k hk
        rw [size_setCell, size_setCell, size_setCell]
        exact HMM.out k hk
      · rw [size_setCell, size_setCell, size_setCell]
        exact hlo
    · have hd : (L - 1 == 0) = false := by simp; omega
      have H1 := hide h1
      clear h1
      gi_wp2
      obtain ⟨q6, q7, q9⟩ := HQ.out
      have hl2 : L - 1 = (M : Int) - ((p ++ [(v, far)]).length : Nat) := by
        have := HL.out
        rw [List.length_append, List.length_singleton]
        omega
      refine ⟨(Touch.refl _ y.now).set (p := ⟨b9, 0, none⟩) (.inl (NB.out b9 (.inr (.inr rfl)))) _, ⟨⟨_, y.grows.set (p := ⟨b9, 0, none⟩) (show w.heap.size ≤ b9 by omega) _⟩, rfl⟩, ⟨q6.other (p := ⟨b9, 0, none⟩) (by show b9 ≠ b6; omega) _, q7.other (p := ⟨b9, 0, none⟩) (by show b9 ≠ b7; omega) _, by rw [← hl2]; exact q9.set 0 _, ?_⟩, ?_, ?_⟩
      · have := HL.out
        have := H1.out
        have := HPM.out
        rw [List.length_append, List.length_singleton]
        omega
      · intro k hk
        rw [size_setCell]
        exact HMM.out k hk
      · rw [size_setCell]
        exact hlo
  case done =>
    intro D Mi W1 hlD hMD hI hDW
    obtain ⟨⟨y, rfl⟩, ⟨q6, q7, _, hpM⟩, hm, hlo⟩ := hI
    have HV : Hid (radV xs M = (0, 9)) := radV_no hpM
    have HDW := hide hDW
    clear hm hDW hIy hXy h0 hGV hpM
    gi_wp2
    go_wp2_with fail
    have hDl : w.heap.size ≤ D ∧ b6 ≠ D ∧ b7 ≠ D := by omega
    have e6 : Arr ((y.now.setCell ⟨b6, 0, none⟩ (.int .u64 0)).setCell ⟨b7, 0, none⟩ (.int .i64 9)) b6 25 [.int .u64 0] := (q6.set 0 _).other (p := ⟨b7, 0, none⟩) (by show b7 ≠ b6; omega) _
    have e7 : Arr ((y.now.setCell ⟨b6, 0, none⟩ (.int .u64 0)).setCell ⟨b7, 0, none⟩ (.int .i64 9)) b7 29 [.int .i64 9] := (q7.other (p := ⟨b6, 0, none⟩) (by show b6 ≠ b7; omega) _).set 0 _
    have hyg : Grows w ((y.now.setCell ⟨b6, 0, none⟩ (.int .u64 0)).setCell ⟨b7, 0, none⟩ (.int .i64 9)) := (y.grows.set (p := ⟨b6, 0, none⟩) (show w.heap.size ≤ b6 by omega) _).set (p := ⟨b7, 0, none⟩) (show w.heap.size ≤ b7 by omega) _
    have hD3 : ((y.now.setCell ⟨b6, 0, none⟩ (.int .u64 0)).setCell ⟨b7, 0, none⟩ (.int .i64 9)).heap[D]? = some (.deferred (some [])) := by
      rw [heap_setCell _ _ _ _ (Ne.symm hDl.2.2), heap_setCell _ _ _ _ (Ne.symm hDl.2.1)]
      exact HDW.out
    refine marks_ret [D] rfl ((Marks.nil _).cons hD3 (by simp)) (fun W' htt => ?_)
    have k6 := (e6.touch htt (fun e => hDl.2.1 (List.mem_singleton.1 e))).cell 0
    have k7 := (e7.touch htt (fun e => hDl.2.2 (List.mem_singleton.1 e))).cell 0
    refine ⟨.tuple #[.int .u64 0, .int .i64 9], by simp (maxDischargeDepth := 6) [results, Try.results8, go_sem, k6, k7], by rw [HV.out], htt.later hyg (fun k hk => by rw [List.mem_singleton.1 hk]; exact hDl.1)⟩
  case stop =>
    intro D c' p i rest Mi W1 hlD hMD hsp hX hDW
    obtain ⟨rfl, hpM, ⟨y, rfl⟩, ⟨z, pre, he, q6, q7⟩, hm, hlo⟩ := hX
    obtain ⟨rfl, hiz⟩ := List.append_inj' he rfl
    have hiz2 : i = z := by simpa using hiz
    subst hiz2
    obtain ⟨v, far⟩ := i
    have HV : Hid (radV xs M = ((far : Int), 0)) := by show radV xs M = _; rw [hsp]; exact radV_yes (by simpa using hpM)
    have HDW := hide hDW
    clear hm hDW hIy hXy h0 hGV hpM hsp he hiz
    gi_wp2
    have hDl : w.heap.size ≤ D ∧ b6 ≠ D ∧ b7 ≠ D := by omega
    refine marks_ret [D] rfl ((Marks.nil _).cons HDW.out (by simp)) (fun W' htt => ?_)
    have k6 := (q6.touch htt (fun e => hDl.2.1 (List.mem_singleton.1 e))).cell 0
    have k7 := (q7.touch htt (fun e => hDl.2.2 (List.mem_singleton.1 e))).cell 0
    refine ⟨.tuple #[.int .u64 (far : Int), .int .i64 0], by simp (maxDischargeDepth := 6) [results, Try.results8, go_sem, k6, k7], by rw [HV.out], htt.later y.grows (fun k hk => by rw [List.mem_singleton.1 hk]; exact hDl.1)⟩
end Go.Proofs.Ytkhbiaifhoknpaa

/- Contract: are two rows of numbers the same? -/
namespace Go.Proofs.Ytkhbiaifhoknpaa
open Go Go.RowKit
set_option maxHeartbeats 1000000 in
theorem r1Same (A : Option Addr) (n c : Nat) (l : List Int) (B : Option Addr) (m d : Nat) (l' : List Int) (w : World) (h : Rd w A 1 n (l.map (.int .i64))) (hn : n ≤ 1000000) (h' : Rd w B 1 m (l'.map (.int .i64))) (hm : m ≤ 1000000) :
    Calls Try.prog 9 #[.slice A n c, .slice B m d] w fun e w' => e = .returned (.bool (decide (l = l'))) ∧ Grows w w' := by
  have HL := hide (show l.length = n by simpa using h.len)
  have HM := hide (show l'.length = m by simpa using h'.len)
  have HR := hide h
  have HS := hide h'
  clear h h'
  by_cases hnm : n = m
  · subst hnm
    go_enter Try.func9, Try.ntmps9
    go_wp2
    go_loopw [5] (fun i wr => ∃ k : Nat, k ≤ n ∧ i = .int .i64 (k : Int) ∧ (∃ y : Later w, wr = y.now) ∧ ∀ j, j < k → gi l j = gi l' j) (fun i _ => n - (intOf i).toNat)
    case atStart => exact ⟨0, by omega, by go_num, ⟨⟨w, Grows.refl w⟩, rfl⟩, fun j h => by omega⟩
    case round =>
      obtain ⟨k, hk, rfl, ⟨y, rfl⟩, hall⟩ := hrel
      have HA := hide hall
      clear hall
      by_cases hend : n ≤ k
      · have HV : Hid (l = l') := by
          apply List.ext_getElem (by rw [HL.out, HM.out])
          intro j h1 h2
          have := HA.out j (by have := HL.out; omega)
          simpa [gi, h1, h2] using this
        go_wp2
        go_ret
        exact ⟨ret_bool (decide_eq_true HV.out).symm, (by repeat (first | exact Grows.refl _ | refine Grows.now ?_ _ | refine Grows.new ?_ _ | refine Grows.drewN ?_ _ | refine Grows.drew ?_ | assumption | (refine Grows.set ?_ (by first | omega | (simp; done) | (simp; omega)) _)))⟩
      · obtain ⟨b, off, rfl, hc⟩ := HR.out.intsH (by omega)
        obtain ⟨b2, off2, rfl, hc2⟩ := HS.out.intsH (by omega)
        have c1 := hc k (by omega)
        have c2 := hc2 k (by omega)
        clear hc hc2
        by_cases he : gi l k = gi l' k
        · have HE : Hid (∀ j, j < k + 1 → gi l j = gi l' j) := fun j hj => by
            by_cases e : j = k
            · rw [e]; exact he
            · exact HA.out j (by omega)
          have hd : (gi l k == gi l' k) = true := by simpa using he
          clear he
          generalize gi l k = u at *
          generalize gi l' k = v at *
          go_wp2_with fail
          ((first | refine wp_region_gen (by kernel_rfl) (by kernel_rfl) ?_); (repeat' (first | (refine gLex_val0 rfl (by kernel_rfl) (fun K hK => ?_); (go_simp; (try (simp only [↓IntWalk.iteOmega]; try go_simp)); (try simp (disch := omega) only [IntWalk.i64_in]); (try simp (disch := omega) only [IntWalk.u64_in]); first | (refine hK _ ?_; clear hK K) | (apply Exists.intro; refine ⟨fun x => ?_, hK _ ?_⟩; (first | fail); clear hK K))) | (refine gLex_undef rfl rfl rfl (by kernel_rfl) (fun K hK => ?_); go_simp; refine hK _ ?_; clear hK K) | (refine gLex_ask rfl rfl rfl ?_; first | (apply gAsk_yes; kernel_rfl; intro K hK; (go_simp; (try (simp only [↓IntWalk.iteOmega]; try go_simp)); (try simp (disch := omega) only [IntWalk.i64_in]); (try simp (disch := omega) only [IntWalk.u64_in]); first | (refine hK _ ?_; clear hK K) | (apply Exists.intro; refine ⟨fun x => ?_, hK _ ?_⟩; (first | fail); clear hK K))) | ((first | apply gAsk_no1 | apply gAsk_no2); kernel_rfl; intro K hK; simp [go_sem]; refine hK _ ?_; clear hK K) | (apply gAsk_part; kernel_rfl; all_goals (intro h K hK; (try simp only [Bool.not_true] at h); (try simp only [Bool.not_false] at h); (try simp only [decide_eq_true_eq] at h); (try simp only [decide_eq_false_iff_not] at h); first | (exfalso; first | contradiction | omega) | (go_simp; (try (simp only [↓IntWalk.iteOmega]; try go_simp)); (try simp (disch := omega) only [IntWalk.i64_in]); (try simp (disch := omega) only [IntWalk.u64_in]); first | (refine hK _ ?_; clear hK K) | (apply Exists.intro; refine ⟨fun x => ?_, hK _ ?_⟩; (first | fail); clear hK K))))))); all_goals ((apply gLex_end); intro x))
          go_wp2
          refine ⟨⟨k + 1, by omega, by go_num, Grows.later (by repeat (first | exact Grows.refl _ | refine Grows.now ?_ _ | refine Grows.new ?_ _ | refine Grows.drewN ?_ _ | refine Grows.drew ?_ | assumption | (refine Grows.set ?_ (by first | omega | (simp; done) | (simp; omega)) _))), HE.out⟩, by simp [intOf]; omega⟩
        · have HV : Hid (¬ l = l') := fun e => he (by rw [e])
          have hd : (gi l k == gi l' k) = false := by simpa using he
          clear he
          go_wp2_with fail
          ((first | refine wp_region_gen (by kernel_rfl) (by kernel_rfl) ?_); (repeat' (first | (refine gLex_val0 rfl (by kernel_rfl) (fun K hK => ?_); (go_simp; (try (simp only [↓IntWalk.iteOmega]; try go_simp)); (try simp (disch := omega) only [IntWalk.i64_in]); (try simp (disch := omega) only [IntWalk.u64_in]); first | (refine hK _ ?_; clear hK K) | (apply Exists.intro; refine ⟨fun x => ?_, hK _ ?_⟩; (first | fail); clear hK K))) | (refine gLex_undef rfl rfl rfl (by kernel_rfl) (fun K hK => ?_); go_simp; refine hK _ ?_; clear hK K) | (refine gLex_ask rfl rfl rfl ?_; first | (apply gAsk_yes; kernel_rfl; intro K hK; (go_simp; (try (simp only [↓IntWalk.iteOmega]; try go_simp)); (try simp (disch := omega) only [IntWalk.i64_in]); (try simp (disch := omega) only [IntWalk.u64_in]); first | (refine hK _ ?_; clear hK K) | (apply Exists.intro; refine ⟨fun x => ?_, hK _ ?_⟩; (first | fail); clear hK K))) | ((first | apply gAsk_no1 | apply gAsk_no2); kernel_rfl; intro K hK; simp [go_sem]; refine hK _ ?_; clear hK K) | (apply gAsk_part; kernel_rfl; all_goals (intro h K hK; (try simp only [Bool.not_true] at h); (try simp only [Bool.not_false] at h); (try simp only [decide_eq_true_eq] at h); (try simp only [decide_eq_false_iff_not] at h); first | (exfalso; first | contradiction | omega) | (go_simp; (try (simp only [↓IntWalk.iteOmega]; try go_simp)); (try simp (disch := omega) only [IntWalk.i64_in]); (try simp (disch := omega) only [IntWalk.u64_in]); first | (refine hK _ ?_; clear hK K) | (apply Exists.intro; refine ⟨fun x => ?_, hK _ ?_⟩; (first | fail); clear hK K))))))); all_goals ((apply gLex_end); intro x))
          go_wp2
          go_ret
          exact ⟨ret_bool (decide_eq_false HV.out).symm, (by repeat (first | exact Grows.refl _ | refine Grows.now ?_ _ | refine Grows.new ?_ _ | refine Grows.drewN ?_ _ | refine Grows.drew ?_ | assumption | (refine Grows.set ?_ (by first | omega | (simp; done) | (simp; omega)) _)))⟩
  · have HV : Hid (¬ l = l') := fun e => hnm (by rw [← HL.out, ← HM.out, e])
    have hd : ((n : Int) == (m : Int)) = false := beq_eq_false_iff_ne.2 (by omega)
    go_enter Try.func9, Try.ntmps9
    go_wp2
    go_ret
    exact ⟨ret_bool (decide_eq_false HV.out).symm, (by repeat (first | exact Grows.refl _ | refine Grows.now ?_ _ | refine Grows.new ?_ _ | refine Grows.drewN ?_ _ | refine Grows.drew ?_ | assumption | (refine Grows.set ?_ (by first | omega | (simp; done) | (simp; omega)) _)))⟩
end Go.Proofs.Ytkhbiaifhoknpaa

/- Contracts: the answer's rows of edges; whether a number is there. -/
namespace Go.Proofs.Ytkhbiaifhoknpaa
open Go Go.RowKit
set_option maxHeartbeats 1000000 in
theorem r1Has (A : Option Addr) (n c : Nat) (l : List Int) (v : Int) (w : World) (h : Rd w A 1 n (l.map (.int .i64))) (hn : n ≤ 1000000) :
    Calls Try.prog 7 #[.slice A n c, .int .i64 v] w fun e w' => e = .returned (.bool (decide (v ∈ l))) ∧ w = w' := by
  have HL := hide (show l.length = n by simpa using h.len)
  have HR := hide h
  clear h
  go_enter Try.func7, Try.ntmps7
  go_wp2
  go_loop [5] (fun i => ∃ k : Nat, k ≤ n ∧ i = .int .i64 (k : Int) ∧ ∀ j, j < k → gi l j ≠ v) (fun i => n - (intOf i).toNat)
  case atStart => exact ⟨0, by omega, by go_num, fun j h1 => by omega⟩
  case round =>
    obtain ⟨q, hq, rfl, hall⟩ := hrel
    have HA := hide hall
    clear hall
    by_cases hend : n ≤ q
    · go_wp2
      go_ret
      refine ⟨ret_bool (decide_eq_false fun hm => ?_).symm, rfl⟩
      obtain ⟨j, hj, e⟩ := mem_gi hm
      exact HA.out j (by have := HL.out; omega) e
    · obtain ⟨b, off, rfl, hc⟩ := HR.out.ints (by omega)
      have hc1 := hc q (by omega)
      clear hc
      by_cases hv : gi l q = v
      · have HV := hide (show v ∈ l from hv ▸ gi_mem (by have := HL.out; omega))
        have hd : (gi l q == v) = true := by simpa using hv
        clear hv
        go_wp2
        go_ret
        exact ⟨ret_bool (decide_eq_true HV.out).symm, rfl⟩
      · have HV := hide hv
        have hd : (gi l q == v) = false := by simpa using hv
        clear hv
        go_wp2
        go_round
        case measure => simp [intOf]; omega
        case rel =>
          refine ⟨q + 1, by omega, by go_num, fun j h1 => ?_⟩
          by_cases hj : j = q
          · rw [hj]; exact HV.out
          · exact HA.out j (by omega)

theorem anyI_false {l : List Int} {p : Int → Bool} {n : Nat} (hl : l.length = n) (h : ∀ j, j < n → p (gi l j) = false) : l.any p = false := by
  rw [List.any_eq_false]
  intro e he
  obtain ⟨j, hj, rfl⟩ := mem_gi he
  rw [h j (by omega)]
  simp
theorem anyI_true {l : List Int} {p : Int → Bool} {j : Nat} (hj : j < l.length) (h : p (gi l j) = true) : l.any p = true := by
  rw [List.any_eq_true]
  exact ⟨gi l j, gi_mem hj, h⟩

end Go.Proofs.Ytkhbiaifhoknpaa
