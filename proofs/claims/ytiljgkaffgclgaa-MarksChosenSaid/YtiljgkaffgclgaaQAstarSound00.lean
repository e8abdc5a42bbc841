/- Contracts: a search that goes towards where it lies. -/
import Derived.Test.YtiljgkaffgclgaaQMarksBounds11
import Derived.Test.YtiljgkaffgclgaaQMarksSound00
import Derived.Test.YtiljgkaffgclgaaQMarksBounds17
/- Plain law: a search that goes by keys which are how far a node is and a consistent bound from there: the end is taken when it is as near as it can be, and no node is taken twice. -/
namespace Go.Proofs.Ytiljgkaffgclgaa
open Go Go.RowKit
/-- A node is so far, or nearer; its key is that and its bound. -/
def reachA (H : List Nat) (st : St) (v f : Nat) : St := if lessB (stD st.1 v) f then (st.1.set v (f, 1), (st.2.put v (f + gn H v)).1) else st
def stepA (x : Srch) (H : List Nat) (f : Nat) (st : St) (i : Nat) : St := reachA H st (toE x i) (f + gn x.W i)
def stepsA (x : Srch) (H : List Nat) (f : Nat) (st : St) (l : List Nat) : St := l.foldl (stepA x H f) st
theorem stepsA_snoc (x : Srch) (H : List Nat) (f : Nat) (st : St) (l : List Nat) (i : Nat) : stepsA x H f st (l ++ [i]) = stepA x H f (stepsA x H f st l) i := by simp [stepsA, List.foldl_append]
/-- What such a search may be given. -/
structure AIn (x : Srch) (H : List Nat) (mw : Nat) : Prop where
  ends : ∀ i, i < x.E.length → toE x i < x.N
  cnt : ∀ i, i < x.E.length → cntE x i = true
  high : ∀ i, i < x.E.length → gn x.W i ≤ mw
  cons : ∀ i, i < x.E.length → gn H (nN x.E x.back i) ≤ gn x.W i + gn H (toE x i)
  top : ∀ v, v < x.N → gn H v ≤ 1152921504606846976
structure AInv (x : Srch) (H : List Nat) (s mw : Nat) (pre : List (Nat × Nat)) (C : Nat → Prop) (st : St) : Prop where
  lk : st.2.Lk x.N
  ord : st.2.Or
  len : st.1.length = x.N
  start : stD st.1 s = some 0
  heap : ∀ v k, st.2.Mem (v, k) → v < x.N ∧ (∃ d, stD st.1 v = some d ∧ k = d + gn H v) ∧ ∀ g, (v, g) ∉ pre
  seen : ∀ v d, v < x.N → stD st.1 v = some d → (v, d) ∈ pre ∨ st.2.Mem (v, d + gn H v)
  popped : ∀ v f, (v, f) ∈ pre → v < x.N ∧ stD st.1 v = some f
  way : ∀ v k, v < x.N → stD st.1 v = some k → Way x s v k ∧ k ≤ pre.length * mw
  done : ∀ i, i < x.E.length → C i → ∀ f, (nN x.E x.back i, f) ∈ pre → ∃ k, stD st.1 (toE x i) = some k ∧ k ≤ f + gn x.W i
  asc : ∀ p q, p ∈ pre → st.2.Mem q → p.2 + gn H p.1 ≤ q.2
  nodup : (pre.map Prod.fst).Nodup
theorem AInv.edge {x : Srch} {H : List Nat} {s mw v f i : Nat} {pre : List (Nat × Nat)} {C : Nat → Prop} {st : St} (hx : AIn x H mw) (h : AInv x H s mw pre C st) (hv : (v, f) ∈ pre) (hlast : ∀ p, p ∈ pre → p.2 + gn H p.1 ≤ f + gn H v)
    (hb : f + mw ≤ pre.length * mw) (hi : i < x.E.length) (hn : nN x.E x.back i = v) : AInv x H s mw pre (fun j => C j ∨ j = i) (stepA x H f st i) := by
  have hto := hx.ends i hi
  have hhi := hx.high i hi
  have hco := hx.cons i hi
  rw [hn] at hco
  have hpv := h.popped v f hv
  unfold stepA reachA
  cases hl : lessB (stD st.1 (toE x i)) (f + gn x.W i) with
  | false =>
    rw [if_neg Bool.false_ne_true]
    refine { h with done := fun j hj hC f' hf' => ?_ }
    rcases hC with hC | rfl
    · exact h.done j hj hC f' hf'
    · rw [hn] at hf'
      have := (h.popped v f' hf').2
      rw [hpv.2] at this
      obtain rfl : f = f' := Option.some.inj this
      cases hd : stD st.1 (toE x j) with
      | none => rw [hd] at hl; cases hl
      | some k =>
        rw [hd] at hl
        have : ¬ f + gn x.W j < k := by simpa [lessB] using hl
        exact ⟨k, rfl, by omega⟩
  | true =>
    rw [if_pos rfl]
    generalize hg : f + gn x.W i = g at *
    have hlt : ∀ k, stD st.1 (toE x i) = some k → g < k := fun k hk => by
      rw [hk] at hl
      simpa [lessB] using hl
    have hnp : ∀ k, (toE x i, k) ∉ pre := fun k hk => by
      have h1 := hlt k (h.popped _ _ hk).2
      have h2 := hlast _ hk
      simp only at h2
      omega
    have hns : s ≠ toE x i := fun e => by
      have := hlt 0 (by rw [← e]; exact h.start)
      omega
    obtain ⟨p1, p2, p3⟩ := HS.put_ok (v := toE x i) (f := g + gn H (toE x i)) h.lk h.ord hto (fun k hk => by
      obtain ⟨_, ⟨d, hd, rfl⟩, _⟩ := h.heap _ _ hk
      have := hlt d hd
      omega)
    have sD := fun u => stD_set st.1 (toE x i) u g (by rw [h.len]; exact hto)
    refine ⟨p1, p2, by simp [h.len], ?_, ?_, ?_, ?_, ?_, ?_, ?_, h.nodup⟩
    · show stD (st.1.set (toE x i) (g, 1)) s = _
      rw [sD, if_neg hns]
      exact h.start
    · intro u k hk
      rcases (p3 (u, k)).1 hk with ⟨h1, h2⟩ | h1
      · obtain ⟨h3, ⟨d, h4, h5⟩, h6⟩ := h.heap u k h1
        refine ⟨h3, ⟨d, ?_, h5⟩, h6⟩
        show stD (st.1.set (toE x i) (g, 1)) u = _
        rw [sD, if_neg h2]
        exact h4
      · obtain ⟨rfl, rfl⟩ := Prod.mk.inj h1
        refine ⟨hto, ⟨g, ?_, rfl⟩, hnp⟩
        show stD (st.1.set (toE x i) (g, 1)) (toE x i) = _
        rw [sD, if_pos rfl]
    · intro u k hu hk
      have hk : stD (st.1.set (toE x i) (g, 1)) u = some k := hk
      rw [sD] at hk
      by_cases e : u = toE x i
      · rw [if_pos e] at hk
        obtain rfl := Option.some.inj hk
        exact .inr ((p3 _).2 (.inr (by rw [e])))
      · rw [if_neg e] at hk
        rcases h.seen u k hu hk with h1 | h1
        · exact .inl h1
        · exact .inr ((p3 _).2 (.inl ⟨h1, e⟩))
    · intro u k hk
      have h1 := h.popped u k hk
      refine ⟨h1.1, ?_⟩
      show stD (st.1.set (toE x i) (g, 1)) u = _
      rw [sD, if_neg (fun e => hnp k (by rw [← e]; exact hk))]
      exact h1.2
    · intro u k hu hk
      have hk : stD (st.1.set (toE x i) (g, 1)) u = some k := hk
      rw [sD] at hk
      by_cases e : u = toE x i
      · rw [if_pos e] at hk
        obtain rfl := Option.some.inj hk
        have h1 := h.way v f hpv.1 hpv.2
        refine ⟨?_, by omega⟩
        rw [e, ← hg]
        exact Way.step (by rw [hn]; exact h1.1) hi (hx.cnt i hi)
      · rw [if_neg e] at hk
        exact h.way u k hu hk
    · intro j hj hC f' hf'
      show ∃ k, stD (st.1.set (toE x i) (g, 1)) (toE x j) = some k ∧ _
      rw [sD]
      rcases hC with hC | rfl
      · obtain ⟨k, h1, h2⟩ := h.done j hj hC f' hf'
        by_cases e : toE x j = toE x i
        · rw [if_pos e]
          rw [e] at h1
          exact ⟨g, rfl, by have := hlt k h1; omega⟩
        · rw [if_neg e]
          exact ⟨k, h1, h2⟩
      · rw [hn] at hf'
        have := (h.popped v f' hf').2
        rw [hpv.2] at this
        obtain rfl : f = f' := Option.some.inj this
        rw [if_pos rfl]
        exact ⟨g, rfl, by omega⟩
    · intro p q hp hq
      rcases (p3 q).1 hq with ⟨h1, h2⟩ | rfl
      · exact h.asc p q hp h1
      · have := hlast p hp
        show p.2 + gn H p.1 ≤ g + gn H (toE x i)
        omega
theorem AInv.mono {x : Srch} {H : List Nat} {s mw : Nat} {pre : List (Nat × Nat)} {C C' : Nat → Prop} {st : St} (h : AInv x H s mw pre C st) (hC : ∀ i, i < x.E.length → C' i → C i) : AInv x H s mw pre C' st :=
  { h with done := fun i hi hc => h.done i hi (hC i hi hc) }
theorem AInv.edges {x : Srch} {H : List Nat} {s mw v f : Nat} {pre : List (Nat × Nat)} (hx : AIn x H mw) (hv : (v, f) ∈ pre) (hlast : ∀ p, p ∈ pre → p.2 + gn H p.1 ≤ f + gn H v) (hb : f + mw ≤ pre.length * mw) (l : List Nat) :
    ∀ (C : Nat → Prop) (st : St), AInv x H s mw pre C st → (∀ i, i ∈ l → i < x.E.length ∧ nN x.E x.back i = v) → AInv x H s mw pre (fun j => C j ∨ j ∈ l) (stepsA x H f st l) := by
  induction l with
  | nil => exact fun C st h _ => h.mono (fun i _ hi => by rcases hi with hi | hi; exact hi; cases hi)
  | cons i l ih =>
    intro C st h hl
    have h1 := h.edge hx hv hlast hb (hl i (by simp)).1 (hl i (by simp)).2
    exact (ih _ _ h1 (fun j hj => hl j (by simp [hj]))).mono (fun j _ hj => by
      rcases hj with hj | hj
      · exact .inl (.inl hj)
      · rcases List.mem_cons.1 hj with hj | hj
        · exact .inl (.inr hj)
        · exact .inr hj)
theorem AInv.pre_len {x : Srch} {H : List Nat} {s mw : Nat} {pre : List (Nat × Nat)} {C : Nat → Prop} {st : St} (h : AInv x H s mw pre C st) : pre.length ≤ x.N := by
  have h1 : (pre.map Prod.fst).length ≤ (List.range x.N).length := by
    refine List.Nodup.length_le_of_subset h.nodup ?_
    intro v hv
    obtain ⟨⟨u, f⟩, hp, rfl⟩ := List.mem_map.1 hv
    exact List.mem_range.2 (h.popped _ _ hp).1
  simpa using h1
theorem AInv.take {x : Srch} {H : List Nat} {s mw v k : Nat} {pre : List (Nat × Nat)} {C : Nat → Prop} {st : St} (h : AInv x H s mw pre C st) (hC : ∀ i, i < x.E.length → C i → ∃ g, (nN x.E x.back i, g) ∈ pre) (h0 : 0 < st.2.L.length) (ht : gi2 st.2.L 0 = (v, k)) :
    ∃ f, k = f + gn H v ∧ stD st.1 v = some f ∧ AInv x H s mw (pre ++ [(v, f)]) C (st.1, st.2.drop v) ∧ (∀ p, p ∈ pre ++ [(v, f)] → p.2 + gn H p.1 ≤ f + gn H v) ∧ f ≤ pre.length * mw ∧ v < x.N ∧ ∀ g, (v, g) ∉ pre := by
  obtain ⟨d1, d2, d3⟩ := HS.drop_ok h.lk h.ord h0 ht
  have hm : st.2.Mem (v, k) := ⟨0, h0, ht⟩
  obtain ⟨hvN, ⟨f, hf, rfl⟩, hvp⟩ := h.heap v k hm
  have hw := h.way v f hvN hf
  have hlast : ∀ p, p ∈ pre ++ [(v, f)] → p.2 + gn H p.1 ≤ f + gn H v := by
    intro p hp
    rcases List.mem_append.1 hp with hp | hp
    · exact h.asc p _ hp hm
    · rw [List.mem_singleton.1 hp]; exact Nat.le_refl _
  have hmul : (pre ++ [(v, f)]).length * mw = pre.length * mw + mw := by rw [List.length_append, List.length_singleton, Nat.add_mul, Nat.one_mul]
  refine ⟨f, rfl, hf, ⟨d1, d2, h.len, h.start, ?_, ?_, ?_, ?_, ?_, ?_, ?_⟩, hlast, hw.2, hvN, hvp⟩
  · intro u k hk
    obtain ⟨h1, h2⟩ := (d3 _).1 hk
    have h3 := h.heap u k h1
    refine ⟨h3.1, h3.2.1, fun g hg => ?_⟩
    rcases List.mem_append.1 hg with hg | hg
    · exact h3.2.2 g hg
    · exact h2 (Prod.mk.inj (List.mem_singleton.1 hg)).1
  · intro u k hu hk
    rcases h.seen u k hu hk with h1 | h1
    · exact .inl (List.mem_append.2 (.inl h1))
    · by_cases e : u = v
      · subst e
        have h2 : stD st.1 u = some k := hk
        rw [hf] at h2
        obtain rfl := Option.some.inj h2
        exact .inl (by simp)
      · exact .inr ((d3 _).2 ⟨h1, e⟩)
  · intro u k hk
    rcases List.mem_append.1 hk with hk | hk
    · exact h.popped u k hk
    · obtain ⟨rfl, rfl⟩ := Prod.mk.inj (List.mem_singleton.1 hk)
      exact ⟨hvN, hf⟩
  · intro u k hu hk
    have h1 := h.way u k hu hk
    exact ⟨h1.1, by rw [hmul]; omega⟩
  · intro i hi hc f' hf'
    refine h.done i hi hc f' ?_
    rcases List.mem_append.1 hf' with hk | hk
    · exact hk
    · obtain ⟨g, hg⟩ := hC i hi hc
      rw [(Prod.mk.inj (List.mem_singleton.1 hk)).1] at hg
      exact absurd hg (hvp g)
  · intro p q hp hq
    obtain ⟨h1, h2⟩ := (d3 _).1 hq
    rcases List.mem_append.1 hp with hp | hp
    · exact h.asc p q hp h1
    · rw [List.mem_singleton.1 hp]
      obtain ⟨i, hi, rfl⟩ := h1
      have h3 := h.ord.least i hi
      rw [ht] at h3
      have h4 := ahead_no.1 h3
      simp only at h4 ⊢
      omega
  · rw [List.map_append, List.nodup_append]
    refine ⟨h.nodup, by simp, fun a ha b hb => ?_⟩
    obtain ⟨⟨u, g⟩, hp, rfl⟩ := List.mem_map.1 ha
    simp at hb
    subst hb
    rintro rfl
    exact hvp g hp
/-- On each way stands a node that waits, or all of it is taken. -/
theorem AInv.front {x : Srch} {H : List Nat} {s mw : Nat} {pre : List (Nat × Nat)} {st : St} (hx : AIn x H mw) (h : AInv x H s mw pre (fun i => ∃ g, (nN x.E x.back i, g) ∈ pre) st) (hs : s < x.N) {v k : Nat} (hw : Way x s v k) :
    (∃ d, (v, d) ∈ pre ∧ d ≤ k) ∨ ∃ q, st.2.Mem q ∧ q.2 ≤ k + gn H v := by
  induction hw with
  | here =>
    rcases h.seen s 0 hs h.start with h1 | h1
    · exact .inl ⟨0, h1, Nat.le_refl _⟩
    · exact .inr ⟨_, h1, Nat.le_refl _⟩
  | @step f i hw hi hc ih =>
    have hco := hx.cons i hi
    rcases ih with ⟨d, hd, hle⟩ | ⟨q, hq, hle⟩
    · obtain ⟨k, hk, hk2⟩ := h.done i hi ⟨d, hd⟩ d hd
      rcases h.seen _ k (hx.ends i hi) hk with h1 | h1
      · exact .inl ⟨k, h1, by omega⟩
      · exact .inr ⟨_, h1, by simp only; omega⟩
    · exact .inr ⟨q, hq, by omega⟩
/-- A node is taken, and what comes of it can be reckoned. -/
structure StepOkA (x : Srch) (H : List Nat) (st : St) (v f : Nat) : Prop where
  top : (gi2 st.2.L 0).1 = v
  far : stD st.1 v = some f
  pos : 0 < st.2.L.length
  lies : ∃ i : Nat, gz st.2.T v = (i : Int) ∧ i < st.2.L.length
  len : st.2.L.length ≤ 90000
  node : v < x.N
  rounds : ∀ l r, rowX x v = l ++ r → HOk (stepsA x H f (st.1, st.2.drop v) l).2 x.N ∧ (stepsA x H f (st.1, st.2.drop v) l).1.length = x.N
  small : f ≤ 281474976710656
/-- The nodes as they are taken, till the end is, or none is left. -/
inductive TraceA (x : Srch) (H : List Nat) (t : Nat) : St → List (Nat × Nat) → Prop
  | none {st : St} : st.2.L.length = 0 → TraceA x H t st []
  | found {st : St} {f : Nat} : StepOkA x H st t f → TraceA x H t st [(t, f)]
  | step {st : St} {v f : Nat} {xs : List (Nat × Nat)} : StepOkA x H st v f → v ≠ t → TraceA x H t (stepsA x H f (st.1, st.2.drop v) (rowX x v)) xs → TraceA x H t st ((v, f) :: xs)
/-- What comes out: the end, as near as it can be; or there is no way. -/
def EndA (x : Srch) (s t : Nat) (xs : List (Nat × Nat)) : Prop :=
  (∃ ys f, xs = ys ++ [(t, f)] ∧ (∀ p ∈ ys, p.1 ≠ t) ∧ Way x s t f ∧ ∀ g, Way x s t g → f ≤ g) ∨ ((∀ p ∈ xs, p.1 ≠ t) ∧ ∀ g, ¬ Way x s t g)
theorem traceA_is {x : Srch} {H : List Nat} {s t mw : Nat} (hx : AIn x H mw) (hN : x.N ≤ 4096) (hs : s < x.N) (hmw : mw ≤ 4294967296) (n : Nat) :
    ∀ (pre : List (Nat × Nat)) (st : St), x.N - pre.length = n → (∀ p ∈ pre, p.1 ≠ t) → AInv x H s mw pre (fun i => ∃ g, (nN x.E x.back i, g) ∈ pre) st → ∃ xs, TraceA x H t st xs ∧ EndA x s t (pre ++ xs) ∧ pre.length + xs.length ≤ x.N := by
  have empty : ∀ (pre : List (Nat × Nat)) (st : St), (∀ p ∈ pre, p.1 ≠ t) → AInv x H s mw pre (fun i => ∃ g, (nN x.E x.back i, g) ∈ pre) st → st.2.L.length = 0 → ∃ xs, TraceA x H t st xs ∧ EndA x s t (pre ++ xs) ∧ pre.length + xs.length ≤ x.N := by
    intro pre st ht h h0
    refine ⟨[], .none h0, .inr ⟨by simpa using ht, fun g hw => ?_⟩, by simpa using h.pre_len⟩
    rcases h.front hx hs hw with ⟨d, hd, _⟩ | ⟨q, ⟨i, hi, _⟩, _⟩
    · exact ht _ hd rfl
    · omega
  induction n with
  | zero =>
    intro pre st hn ht h
    rcases Nat.eq_zero_or_pos st.2.L.length with h0 | h0
    · exact empty pre st ht h h0
    · obtain ⟨⟨v, k⟩, htop⟩ : ∃ p, gi2 st.2.L 0 = p := ⟨_, rfl⟩
      obtain ⟨f, _, _, h1, _⟩ := h.take (fun i _ hc => hc) h0 htop
      have h1 := h1.pre_len
      rw [List.length_append, List.length_singleton] at h1
      omega
  | succ n ih =>
    intro pre st hn ht h
    rcases Nat.eq_zero_or_pos st.2.L.length with h0 | h0
    · exact empty pre st ht h h0
    · obtain ⟨⟨v, k⟩, htop⟩ : ∃ p, gi2 st.2.L 0 = p := ⟨_, rfl⟩
      obtain ⟨f, rfl, hf, t1, t2, t3, t4, t5⟩ := h.take (fun i _ hc => hc) h0 htop
      have hmul : (pre ++ [(v, f)]).length * mw = pre.length * mw + mw := by rw [List.length_append, List.length_singleton, Nat.add_mul, Nat.one_mul]
      have hb : f + mw ≤ (pre ++ [(v, f)]).length * mw := by omega
      have hpl := t1.pre_len
      have hrow : ∀ l, (∀ i, i ∈ l → i ∈ rowX x v) → AInv x H s mw (pre ++ [(v, f)]) (fun j => (∃ g, (nN x.E x.back j, g) ∈ pre) ∨ j ∈ l) (stepsA x H f (st.1, st.2.drop v) l) := fun l hl =>
        t1.edges hx (by simp) t2 hb l (fun j => ∃ g, (nN x.E x.back j, g) ∈ pre) _ (fun i hi => rowX_mem.1 (hl i hi))
      have hfin := (hrow (rowX x v) (fun i hi => hi)).mono (C' := fun i => ∃ g, (nN x.E x.back i, g) ∈ pre ++ [(v, f)]) (fun i hi hc => by
        obtain ⟨g, hg⟩ := hc
        rcases List.mem_append.1 hg with hg | hg
        · exact .inl ⟨g, hg⟩
        · exact .inr (rowX_mem.2 ⟨hi, (Prod.mk.inj (List.mem_singleton.1 hg)).1⟩))
      have hok : StepOkA x H st v f := by
        refine ⟨by rw [htop], hf, h0, ?_, ?_, t4, ?_, ?_⟩
        · have := (h.lk.at_ 0 h0).2
          rw [htop] at this
          exact ⟨0, this, h0⟩
        · have := h.lk.small; omega
        · intro l r hr
          have := hrow l (fun i hi => by rw [hr]; simp [hi])
          exact ⟨Lk.hok this.lk (by omega), this.len⟩
        · have h2 : pre.length * mw ≤ 4096 * 4294967296 := Nat.mul_le_mul (by have := h.pre_len; omega) hmw
          omega
      by_cases hvt : v = t
      · subst hvt
        refine ⟨[(v, f)], .found hok, .inl ⟨pre, f, rfl, ht, (h.way v f t4 hf).1, fun g hw => ?_⟩, by rw [List.length_append, List.length_singleton] at hpl; simpa using hpl⟩
        rcases h.front hx hs hw with ⟨d, hd, _⟩ | ⟨q, ⟨i, hi, rfl⟩, hle⟩
        · exact absurd hd (t5 d)
        · have h3 := h.ord.least i hi
          rw [htop] at h3
          have h4 := ahead_no.1 h3
          simp only at h4
          omega
      · obtain ⟨xs, hx1, hx2, hx3⟩ := ih (pre ++ [(v, f)]) _ (by rw [List.length_append, List.length_singleton] at hpl ⊢; omega) (fun p hp => by
          rcases List.mem_append.1 hp with hp | hp
          · exact ht p hp
          · rw [List.mem_singleton.1 hp]; exact hvt) hfin
        refine ⟨(v, f) :: xs, .step hok hvt hx1, by simpa using hx2, by rw [List.length_append, List.length_singleton] at hx3; simpa [Nat.add_assoc, Nat.add_comm 1] using hx3⟩
theorem traceA_begins {x : Srch} {H : List Nat} {s mw : Nat} (hs : s < x.N) : AInv x H s mw [] (fun i => ∃ g, (nN x.E x.back i, g) ∈ ([] : List (Nat × Nat))) (reachA H (st0 x.N) s 0) := by
  have hno : ∀ p, ¬ (st0 x.N).2.Mem p := fun p ⟨i, hi, _⟩ => by simp [st0] at hi
  have hor : (st0 x.N).2.Or := fun j _ hj => by simp [st0] at hj
  obtain ⟨p1, p2, p3⟩ := HS.put_ok (v := s) (f := 0 + gn H s) (st0_lk x.N) hor hs (fun k hk => absurd hk (hno _))
  have e : reachA H (st0 x.N) s 0 = ((st0 x.N).1.set s (0, 1), ((st0 x.N).2.put s (0 + gn H s)).1) := by
    unfold reachA
    rw [st0_D]
    rfl
  have sD := fun u => stD_set (st0 x.N).1 s u 0 (by simp [st0]; exact hs)
  rw [e]
  refine ⟨p1, p2, by simp [st0], ?_, ?_, ?_, ?_, ?_, ?_, ?_, by simp⟩
  · show stD ((st0 x.N).1.set s (0, 1)) s = _
    rw [sD, if_pos rfl]
  · intro v k hk
    rcases (p3 _).1 hk with ⟨h1, _⟩ | h1
    · exact absurd h1 (hno _)
    · obtain ⟨rfl, rfl⟩ := Prod.mk.inj h1
      refine ⟨hs, ⟨0, ?_, rfl⟩, fun g hg => by cases hg⟩
      show stD ((st0 x.N).1.set v (0, 1)) v = _
      rw [sD, if_pos rfl]
  · intro v k hv hk
    have hk : stD ((st0 x.N).1.set s (0, 1)) v = some k := hk
    rw [sD, st0_D] at hk
    by_cases e : v = s
    · rw [if_pos e] at hk
      obtain rfl := Option.some.inj hk
      exact .inr ((p3 _).2 (.inr (by rw [e])))
    · rw [if_neg e] at hk
      cases hk
  · intro v f hv; cases hv
  · intro v k hv hk
    have hk : stD ((st0 x.N).1.set s (0, 1)) v = some k := hk
    rw [sD, st0_D] at hk
    by_cases e : v = s
    · rw [if_pos e] at hk
      obtain rfl := Option.some.inj hk
      rw [e]
      exact ⟨.here, Nat.zero_le _⟩
    · rw [if_neg e] at hk
      cases hk
  · rintro i _ ⟨g, hg⟩; cases hg
  · intro p q hp; cases hp
theorem traceA_whole {x : Srch} {H : List Nat} {s t mw : Nat} (hx : AIn x H mw) (hN : x.N ≤ 4096) (hs : s < x.N) (hmw : mw ≤ 4294967296) : ∃ xs, TraceA x H t (reachA H (st0 x.N) s 0) xs ∧ EndA x s t xs ∧ xs.length ≤ x.N := by
  obtain ⟨xs, h1, h2, h3⟩ := traceA_is (t := t) hx hN hs hmw _ [] _ rfl (by simp) (traceA_begins hs)
  exact ⟨xs, h1, h2, by simpa using h3⟩
end Go.Proofs.Ytiljgkaffgclgaa

/- Contracts: a search that goes towards where it lies. -/
namespace Go.Proofs.Ytiljgkaffgclgaa
open Go Go.RowKit
/-- What such a search works with: what is fixed lies in F, what turns in S. -/
def AsAt (F S : Nat → Prop) (w : World) (N : Nat) (H : List Nat) (bA bB bC : Nat) (L : List (Nat × Nat)) (s : HS) : Prop :=
  ∃ bf gf bh S2 A c, (Arr w bA 150 [.pointer (some ⟨bf, 0, none⟩)] ∧ Arr w bB 152 [.pointer (some ⟨bh, 0, none⟩)] ∧ Arr w bC 40 [.slice A N c]) ∧ (Rd w A 1 N (wv H) ∧ ∀ p, A = some p → F p.block) ∧ (F bA ∧ F bB ∧ F bC) ∧
    (∃ m, StL w bf gf L m) ∧ HpAt w S2 bh s ∧ (S bf ∧ S gf ∧ (∀ k, S2 k → S k ∧ ¬ (k = bf ∨ k = gf))) ∧ (∀ k, F k → ¬ S k ∧ k < w.heap.size) ∧ (∀ k, S k → k < w.heap.size) ∧ L.length = N ∧ s.In N
theorem AsAt.touch {F S S' : Nat → Prop} {w w' : World} {N : Nat} {H : List Nat} {bA bB bC : Nat} {L : List (Nat × Nat)} {s : HS} (h : AsAt F S w N H bA bB bC L s) (ht : Touch S' w w') (h1 : ∀ k, F k → ¬ S' k) (h2 : ∀ k, S k → ¬ S' k) : AsAt F S w' N H bA bB bC L s := by
  obtain ⟨bf, gf, bh, S2, A, c, ⟨a1, a2, a3⟩, ⟨r1, r2⟩, ⟨f1, f2, f3⟩, ⟨m, q2⟩, q3, ⟨q4, q5, q6⟩, q7, q8, q9, q10⟩ := h
  exact ⟨bf, gf, bh, S2, A, c, ⟨a1.touch ht (h1 _ f1), a2.touch ht (h1 _ f2), a3.touch ht (h1 _ f3)⟩, ⟨r1.touch ht (fun p hp => h1 _ (r2 p hp)), r2⟩, ⟨f1, f2, f3⟩, ⟨m, q2.touch ht (h2 _ q4) (h2 _ q5)⟩, q3.touch ht (fun k hk => h2 k (q6 k hk).1), ⟨q4, q5, q6⟩, fun k hk => ⟨(q7 k hk).1, Nat.lt_of_lt_of_le (q7 k hk).2 ht.size⟩, fun k hk => Nat.lt_of_lt_of_le (q8 k hk) ht.size, q9, q10⟩
theorem AsAt.grow {F S : Nat → Prop} {w w' : World} {N : Nat} {H : List Nat} {bA bB bC : Nat} {L : List (Nat × Nat)} {s : HS} (h : AsAt F S w N H bA bB bC L s) (hg : Grows w w') : AsAt F S w' N H bA bB bC L s := h.touch (hg.touch (fun _ => False)) (fun _ _ => id) (fun _ _ => id)
def GiveA (F S : Nat → Prop) (w : World) (N : Nat) (H : List Nat) (bA bB bC : Nat) (st : St) (e : Ending) (w' : World) : Prop :=
  e = .returned (.tuple #[]) ∧ AsAt F (fun k => S k ∨ New w w' k) w' N H bA bB bC st.1 st.2 ∧ Touch S w w'
theorem AsAt.more {F S : Nat → Prop} {w w' : World} {N : Nat} {H : List Nat} {bA bB bC : Nat} {L : List (Nat × Nat)} {s : HS} (h : AsAt F S w N H bA bB bC L s) (hg : Grows w w') : AsAt F (fun k => S k ∨ New w w' k) w' N H bA bB bC L s := by
  obtain ⟨bf, gf, bh, S2, A, c, ⟨a1, a2, a3⟩, ⟨r1, r2⟩, fs, ⟨m, q2⟩, q3, ⟨q4, q5, q6⟩, q7, q8, q9, q10⟩ := h
  refine ⟨bf, gf, bh, S2, A, c, ⟨a1.grow hg, a2.grow hg, a3.grow hg⟩, ⟨r1.grows hg, r2⟩, fs, ⟨m, q2.grow hg⟩, q3.grow hg, ⟨.inl q4, .inl q5, fun k hk => ⟨.inl (q6 k hk).1, (q6 k hk).2⟩⟩, fun k hk => ⟨fun e => ?_, Nat.lt_of_lt_of_le (q7 k hk).2 hg.size⟩, fun k hk => ?_, q9, q10⟩
  · rcases e with e | ⟨e, _⟩
    · exact (q7 k hk).1 e
    · have := (q7 k hk).2; omega
  · rcases hk with e | ⟨_, e⟩
    · exact Nat.lt_of_lt_of_le (q8 k e) hg.size
    · exact e
theorem as_put {F S S2 : Nat → Prop} {w w1 w2 : World} {N : Nat} {H : List Nat} {bA bB bC bf gf bh c : Nat} {A : Option Addr} {L L' : List (Nat × Nat)} {s' : HS} {m' : Int}
    (a : Arr w bA 150 [.pointer (some ⟨bf, 0, none⟩)] ∧ Arr w bB 152 [.pointer (some ⟨bh, 0, none⟩)] ∧ Arr w bC 40 [.slice A N c]) (r : Rd w A 1 N (wv H) ∧ ∀ p, A = some p → F p.block) (fs : F bA ∧ F bB ∧ F bC)
    (q4 : S bf) (q5 : S gf) (q6 : ∀ k, S2 k → S k ∧ ¬ (k = bf ∨ k = gf)) (q7 : ∀ k, F k → ¬ S k ∧ k < w.heap.size) (q8 : ∀ k, S k → k < w.heap.size)
    (ht1 : Touch (fun k => k = bf ∨ k = gf) w w1) (hs1 : StL w1 bf gf L' m') (hp2 : HpAt w2 (fun k => S2 k ∨ New w1 w2 k) bh s') (ht2 : Touch S2 w1 w2) (hl : L'.length = N) (hi : s'.In N) : AsAt F (fun k => S k ∨ New w w2 k) w2 N H bA bB bC L' s' ∧ Touch S w w2 := by
  have hF1 : ∀ k, F k → ¬ (k = bf ∨ k = gf) := fun k hk e => by
    rcases e with rfl | rfl
    · exact (q7 _ hk).1 q4
    · exact (q7 _ hk).1 q5
  have hF2 : ∀ k, F k → ¬ S2 k := fun k hk e => (q7 k hk).1 (q6 k e).1
  have z1 := ht1.size
  have z2 := ht2.size
  obtain ⟨a1, a2, a3⟩ := a
  obtain ⟨r1, r2⟩ := r
  obtain ⟨f1, f2, f3⟩ := fs
  refine ⟨⟨bf, gf, bh, fun k => S2 k ∨ New w1 w2 k, A, c, ⟨(a1.touch ht1 (hF1 _ f1)).touch ht2 (hF2 _ f1), (a2.touch ht1 (hF1 _ f2)).touch ht2 (hF2 _ f2), (a3.touch ht1 (hF1 _ f3)).touch ht2 (hF2 _ f3)⟩, ⟨(r1.touch ht1 (fun p hp => hF1 _ (r2 p hp))).touch ht2 (fun p hp => hF2 _ (r2 p hp)), r2⟩, ⟨f1, f2, f3⟩, ⟨m', hs1.touch ht2 (fun e => (q6 _ e).2 (.inl rfl)) (fun e => (q6 _ e).2 (.inr rfl))⟩, hp2, ⟨.inl q4, .inl q5, fun k hk => ?_⟩, fun k hk => ⟨fun e => ?_, ?_⟩, fun k hk => ?_, hl, hi⟩, ?_⟩
  · rcases hk with hk | ⟨hk, hk2⟩
    · exact ⟨.inl (q6 k hk).1, (q6 k hk).2⟩
    · refine ⟨.inr ⟨by omega, hk2⟩, fun e => ?_⟩
      have h1 := q8 _ q4
      have h2 := q8 _ q5
      rcases e with rfl | rfl <;> omega
  · rcases e with e | ⟨e, _⟩
    · exact (q7 k hk).1 e
    · have := (q7 k hk).2; omega
  · have := (q7 k hk).2; omega
  · rcases hk with e | ⟨_, e⟩
    · have := q8 k e; omega
    · exact e
  · refine (ht1.mono fun k hk => ?_).trans (ht2.mono fun k hk => (q6 k hk).1)
    rcases hk with rfl | rfl
    · exact q4
    · exact q5
set_option maxRecDepth 20000 in
set_option maxHeartbeats 4000000 in
theorem asReach (F S : Nat → Prop) (N : Nat) (H : List Nat) (bA bB bC v f : Nat) (u : Int) (hu : u = (f : Int)) (L : List (Nat × Nat)) (s : HS) (w : World) (h : AsAt F S w N H bA bB bC L s) (hv : v < N) (hk : HOk s N) (hf : f ≤ 562949953421312) (hH : gn H v ≤ 1152921504606846976) :
    Calls Try.prog 123 #[.int .i64 (v : Int), .int .u64 u, .pointer (some ⟨bA, 0, none⟩), .pointer (some ⟨bB, 0, none⟩), .pointer (some ⟨bC, 0, none⟩)] w (GiveA F S w N H bA bB bC (reachA H (L, s) v f)) := by
  subst hu
  have HD := hide h
  obtain ⟨bf, gf, bh, S2, A, c, ⟨a1, a2, a3⟩, ⟨r1, r2⟩, ⟨f1, f2, f3⟩, ⟨m, q2⟩, q3, ⟨q4, q5, q6⟩, q7, q8, q9, q10⟩ := h
  have HA := hide (And.intro a1 (And.intro a2 a3))
  have HRR := hide (And.intro r1 r2)
  have HFS := hide (And.intro f1 (And.intro f2 f3))
  have Q6 := hide q6
  have Q7 := hide q7
  have Q8 := hide q8
  have Q9 := hide q9
  have HIP : Hid ((s.put v (f + gn H v)).1.In N) := put_keep_in q10 hk hv
  have Q10 := hide q10
  have hne : ∀ k, F k → ¬ (k = bf ∨ k = gf) := fun k hk e => by
    rcases e with rfl | rfl
    · exact (q7 _ hk).1 q4
    · exact (q7 _ hk).1 q5
  have HNE := hide hne
  have CL := hide (stLeast bf gf L m v f w q2 (by omega))
  have HS2 := hide q3
  have HR : Hid (reachA H (L, s) v f = if lessB (stD L v) f then (L.set v (f, 1), (s.put v (f + gn H v)).1) else (L, s)) := rfl
  have CP := hide (fun (W : World) (hq : HpAt W S2 bh s) (hs : w.heap.size ≤ W.heap.size) => by
    have := hpPut bh N s v (f + gn H v) S2 W hq (fun k hk => Nat.lt_of_lt_of_le (q8 k (q6 k hk).1) hs) q10 hv (hk.1 v hv) hk.2
    rw [Int.natCast_add] at this
    exact this)
  have hS2n : ∀ k, S2 k → ¬ (k = bf ∨ k = gf) := fun k hk => (q6 k hk).2
  have HSN := hide hS2n
  have hlen : H.length = N := r1.wlen
  obtain ⟨bH, oH, rfl, hcH⟩ := r1.at_ (by omega)
  have ck : Holds w ⟨bH, oH + v, none⟩ (.int .u64 (gn H v : Int)) := ⟨hcH v _ (wv_at (by omega))⟩
  have hFH : ¬ (bH = bf ∨ bH = gf) := hne _ (r2 _ rfl)
  have hFA := hne _ f1
  have hFB := hne _ f2
  have hFC := hne _ f3
  have HFN := hide (And.intro hFA (And.intro hFB (And.intro hFC hFH)))
  clear q2 q3 q6 q7 q8 q9 q10 hk hne hS2n hcH hlen r1 r2 f1 f2 f3 hFA hFB hFC hFH
  cases hr : lessB (stD L v) f with
  | true =>
    rw [hr] at CL HR
    clear hr
    generalize gn H v = hv' at *
    go_enter Try.func123, Try.ntmps123
    go_wp2_with (go_at_call 124; refine (CL.out).mono ?_; rintro e w1 ⟨rfl, ⟨m', hs1⟩, ht1⟩; have ha1 := a1.touch ht1 HFN.out.1; have ha2 := a2.touch ht1 HFN.out.2.1; have ha3 := a3.touch ht1 HFN.out.2.2.1; have ck1 := ck.touch ht1 HFN.out.2.2.2; have HS1 := hide hs1; have HT1 := hide ht1; have HP1 := hide (HS2.out.touch ht1 HSN.out); clear hs1 ht1 a1 a2 a3 ck)
    refine wp_region_tail1 8 (by kernel_rfl) (by kernel_rfl) ?_; simp only [List.take_succ_cons, List.take_zero, List.drop_succ_cons, List.drop_zero]
    (repeat' (first | (refine gLex_val0 rfl (by kernel_rfl) (fun K hK => ?_); (go_simp; (try (simp only [↓IntWalk.iteOmega]; try go_simp)); (try simp (disch := omega) only [IntWalk.i64_in]); (try simp (disch := omega) only [IntWalk.u64_in]); first | (refine hK _ ?_; clear hK K) | (apply Exists.intro; refine ⟨fun x => ?_, hK _ ?_⟩; (first | fail); clear hK K))) | (refine gLex_undef rfl rfl rfl (by kernel_rfl) (fun K hK => ?_); go_simp; refine hK _ ?_; clear hK K) | (refine gLex_ask rfl rfl rfl ?_; first | (apply gAsk_yes; kernel_rfl; intro K hK; (go_simp; (try (simp only [↓IntWalk.iteOmega]; try go_simp)); (try simp (disch := omega) only [IntWalk.i64_in]); (try simp (disch := omega) only [IntWalk.u64_in]); first | (refine hK _ ?_; clear hK K) | (apply Exists.intro; refine ⟨fun x => ?_, hK _ ?_⟩; (first | fail); clear hK K))) | ((first | apply gAsk_no1 | apply gAsk_no2); kernel_rfl; intro K hK; simp [go_sem]; refine hK _ ?_; clear hK K))))
    refine gLex_endT (fun x => ?_)
    go_wp2_with (go_at_call 125; refine (CP.out _ (HP1.out.grow x.grows) (Nat.le_trans HT1.out.size x.size)).mono ?_; rintro e w2 ⟨rfl, hp2, ht2⟩; have HP2 := hide hp2; have HT2 := hide ht2; clear hp2 ht2)
    all_goals
      go_end0
      rw [HR.out]
      have hz := as_put (L := L) HA.out HRR.out HFS.out q4 q5 Q6.out Q7.out Q8.out (HT1.out.grows x.grows) (HS1.out.grow x.grows) HP2.out HT2.out (by simp; exact Q9.out) HIP.out
      exact ⟨rfl, hz.1, hz.2⟩
  | false =>
    rw [hr] at CL HR
    clear hr CP
    go_enter Try.func123, Try.ntmps123
    go_wp2_with (go_at_call 124; refine (CL.out).mono ?_; rintro e w1 ⟨rfl, ⟨m', hs1⟩, ht1⟩; have HS1 := hide hs1; have HT1 := hide ht1; have HP1 := hide (HS2.out.touch ht1 HSN.out); clear hs1 ht1)
    all_goals
      go_end0
      rw [HR.out]
      have hz := as_put (S2 := S2) (L := L) HA.out HRR.out HFS.out q4 q5 Q6.out Q7.out Q8.out HT1.out HS1.out (HP1.out.mono (fun k hk => .inl hk)) (Touch.refl S2 _) Q9.out Q10.out
      exact ⟨rfl, hz.1, hz.2⟩
/-- Where two new things are made and put into boxes in one statement: what is known in the midst of it. -/
structure R7 (W : World) (N b4 : Nat) (D : Nat → Bool) (g : Nat → Value) (w : World) : Prop where
  grows : Grows W w
  c0 : D 0 = true → g 0 = .pointer (some ⟨b4, 0, none⟩)
  c1 : D 1 = true → g 1 = .int .i64 (N : Int)
  c3 : D 3 = true → g 3 = .pointer (some ⟨b4, 0, none⟩)
  c4 : D 4 = true → g 4 = .int .i64 (N : Int)
  st : D 2 = true → StP W.heap.size N (g 2) w
  hp : D 5 = true → HpP W.heap.size N (g 5) w
  bA : D 6 = true → ∃ b, g 6 = .pointer (some ⟨b, 0, none⟩) ∧ W.heap.size ≤ b ∧ Arr w b 150 [if D 8 = true then g 2 else .pointer none]
  bB : D 7 = true → ∃ b, g 7 = .pointer (some ⟨b, 0, none⟩) ∧ W.heap.size ≤ b ∧ Arr w b 152 [if D 9 = true then g 5 else .pointer none]
section
variable {W w w' : World} {N b4 : Nat} {D : Nat → Bool} {g : Nat → Value}
theorem R7.next (h : R7 W N b4 D g w) (hg : Grows w w') {i : Nat} {v : Value} (hi : i ≠ 8 ∧ i ≠ 9) (h0 : i = 0 ∨ i = 3 → v = .pointer (some ⟨b4, 0, none⟩)) (h1 : i = 1 ∨ i = 4 → v = .int .i64 (N : Int))
    (h2 : i = 2 → D 8 = false ∧ StP W.heap.size N v w') (h5 : i = 5 → D 9 = false ∧ HpP W.heap.size N v w')
    (h6 : i = 6 → D 8 = false ∧ ∃ b, v = .pointer (some ⟨b, 0, none⟩) ∧ W.heap.size ≤ b ∧ Arr w' b 150 [.pointer none]) (h7 : i = 7 → D 9 = false ∧ ∃ b, v = .pointer (some ⟨b, 0, none⟩) ∧ W.heap.size ≤ b ∧ Arr w' b 152 [.pointer none]) :
    R7 W N b4 (fun j => if j = i then true else D j) (updG g i v) w' := by
  obtain ⟨n8, n9⟩ := hi
  have e8 : (8 : Nat) ≠ i := Ne.symm n8
  have e9 : (9 : Nat) ≠ i := Ne.symm n9
  have key : ∀ j, (if j = i then true else D j) = true → j = i ∨ (j ≠ i ∧ D j = true) := fun j hj => by
    by_cases e : j = i
    · exact .inl e
    · rw [if_neg e] at hj; exact .inr ⟨e, hj⟩
  have up : ∀ j, j ≠ i → updG g i v j = g j := fun j hj => if_neg hj
  have eq : updG g i v i = v := if_pos rfl
  refine ⟨h.grows.trans hg, fun hD => ?_, fun hD => ?_, fun hD => ?_, fun hD => ?_, fun hD => ?_, fun hD => ?_, fun hD => ?_, fun hD => ?_⟩
  · rcases key _ hD with e | ⟨e, hd⟩
    · subst e; rw [eq]; exact h0 (.inl rfl)
    · rw [up _ e]; exact h.c0 hd
  · rcases key _ hD with e | ⟨e, hd⟩
    · subst e; rw [eq]; exact h1 (.inl rfl)
    · rw [up _ e]; exact h.c1 hd
  · rcases key _ hD with e | ⟨e, hd⟩
    · subst e; rw [eq]; exact h0 (.inr rfl)
    · rw [up _ e]; exact h.c3 hd
  · rcases key _ hD with e | ⟨e, hd⟩
    · subst e; rw [eq]; exact h1 (.inr rfl)
    · rw [up _ e]; exact h.c4 hd
  · rcases key _ hD with e | ⟨e, hd⟩
    · subst e; rw [eq]; exact (h2 rfl).2
    · rw [up _ e]; exact StP.lasts _ _ _ _ _ hg (h.st hd)
  · rcases key _ hD with e | ⟨e, hd⟩
    · subst e; rw [eq]; exact (h5 rfl).2
    · rw [up _ e]; exact HpP.lasts _ _ _ _ _ hg (h.hp hd)
  · simp only [if_neg e8]
    rcases key _ hD with e | ⟨e, hd⟩
    · obtain ⟨d8, b, e1, e2, e3⟩ := h6 e.symm
      subst e
      rw [eq, d8]
      exact ⟨b, e1, e2, e3⟩
    · rw [up _ e]
      obtain ⟨b, e1, e2, e3⟩ := h.bA hd
      refine ⟨b, e1, e2, ?_⟩
      by_cases e22 : 2 = i
      · rw [(h2 e22.symm).1] at e3 ⊢
        exact e3.grow hg
      · rw [up _ e22]
        exact e3.grow hg
  · simp only [if_neg e9]
    rcases key _ hD with e | ⟨e, hd⟩
    · obtain ⟨d8, b, e1, e2, e3⟩ := h7 e.symm
      subst e
      rw [eq, d8]
      exact ⟨b, e1, e2, e3⟩
    · rw [up _ e]
      obtain ⟨b, e1, e2, e3⟩ := h.bB hd
      refine ⟨b, e1, e2, ?_⟩
      by_cases e22 : 5 = i
      · rw [(h5 e22.symm).1] at e3 ⊢
        exact e3.grow hg
      · rw [up _ e22]
        exact e3.grow hg
theorem StP.off {lo : Nat} {u v : Value} {b : Nat} {t : TypeId} (h : StP lo N u w) (hb : Ty w b t) (h1 : t ≠ 193) (h2 : t ≠ 203) : StP lo N u (w.setCell ⟨b, 0, none⟩ v) := by
  obtain ⟨b', k, e, hs, l⟩ := h
  have ht : Touch (fun k => k = b) w (w.setCell ⟨b, 0, none⟩ v) := (Touch.refl (fun k => k = b) w).set (p := ⟨b, 0, none⟩) (.inl rfl) _
  refine ⟨b', k, e, hs.touch ht (fun e => ?_) (fun e => ?_), l⟩
  · subst e; exact h1 (hb.one hs.row.ty)
  · subst e; exact h2 (hb.one hs.cells.ty)
theorem HpP.off {lo : Nat} {u v : Value} {b : Nat} {t : TypeId} (h : HpP lo N u w) (hb : Ty w b t) (h1 : t ≠ 196) (h2 : t ≠ 3) (h3 : t ≠ 198) : HpP lo N u (w.setCell ⟨b, 0, none⟩ v) := by
  obtain ⟨b', S2, e, hs, l⟩ := h
  have ht : Touch (fun k => k = b) w (w.setCell ⟨b, 0, none⟩ v) := (Touch.refl (fun k => k = b) w).set (p := ⟨b, 0, none⟩) (.inl rfl) _
  refine ⟨b', S2, e, hs.touch ht (fun k hk e => ?_), fun k hk => ?_⟩
  · subst e
    obtain ⟨_, t', h4, h5⟩ := l _ hk
    have := hb.one h4
    subst this
    rcases h5 with h5 | h5 | h5
    · exact h1 h5
    · exact h2 h5
    · exact h3 h5
  · obtain ⟨h3, t', h4, h5⟩ := l k hk
    refine ⟨h3, t', ?_, h5⟩
    obtain ⟨cs, hc⟩ := h4
    by_cases e : k = b
    · subst e
      exact ⟨_, by simp [World.setCell, Array.getElem?_modify, hc]; rfl⟩
    · exact ⟨cs, by rw [heap_setCell _ _ _ _ e]; exact hc⟩
end
section
variable {W w w' : World} {N b4 : Nat} {D : Nat → Bool} {g : Nat → Value}
theorem R7.s8 (h : R7 W N b4 D g w) {b : Nat} {u : Value} (hb : g 6 = .pointer (some ⟨b, 0, none⟩)) (hlo : W.heap.size ≤ b) (q : Arr w b 150 [u]) (v : Value) :
    R7 W N b4 (fun j => if j = 8 then true else D j) (updG g 8 v) (w.setCell ⟨b, 0, none⟩ (g 2)) := by
  have up : ∀ j, j ≠ 8 → updG g 8 v j = g j := fun j hj => if_neg hj
  refine ⟨h.grows.set hlo _, fun hD => ?_, fun hD => ?_, fun hD => ?_, fun hD => ?_, fun hD => ?_, fun hD => ?_, fun hD => ?_, fun hD => ?_⟩
  · rw [up _ (by decide)]; exact h.c0 (by simpa using hD)
  · rw [up _ (by decide)]; exact h.c1 (by simpa using hD)
  · rw [up _ (by decide)]; exact h.c3 (by simpa using hD)
  · rw [up _ (by decide)]; exact h.c4 (by simpa using hD)
  · rw [up _ (by decide)]; exact (h.st (by simpa using hD)).off q.ty (by decide) (by decide)
  · rw [up _ (by decide)]; exact (h.hp (by simpa using hD)).off q.ty (by decide) (by decide) (by decide)
  · rw [up 6 (by decide), up 2 (by decide)]
    refine ⟨b, hb, hlo, ?_⟩
    rw [if_pos (by simp)]
    have := q.set 0 (g 2)
    simpa using this
  · rw [up 7 (by decide), up 5 (by decide)]
    obtain ⟨b', e1, e2, e3⟩ := h.bB (by simpa using hD)
    refine ⟨b', e1, e2, ?_⟩
    simp only [show ((9 : Nat) = 8) = False by decide, if_false]
    exact e3.other (fun e => by
      simp only at e
      subst e
      exact absurd (q.ty.one e3.ty) (by decide)) _
theorem R7.s9 (h : R7 W N b4 D g w) {b : Nat} {u : Value} (hb : g 7 = .pointer (some ⟨b, 0, none⟩)) (hlo : W.heap.size ≤ b) (q : Arr w b 152 [u]) (v : Value) :
    R7 W N b4 (fun j => if j = 9 then true else D j) (updG g 9 v) (w.setCell ⟨b, 0, none⟩ (g 5)) := by
  have up : ∀ j, j ≠ 9 → updG g 9 v j = g j := fun j hj => if_neg hj
  refine ⟨h.grows.set hlo _, fun hD => ?_, fun hD => ?_, fun hD => ?_, fun hD => ?_, fun hD => ?_, fun hD => ?_, fun hD => ?_, fun hD => ?_⟩
  · rw [up _ (by decide)]; exact h.c0 (by simpa using hD)
  · rw [up _ (by decide)]; exact h.c1 (by simpa using hD)
  · rw [up _ (by decide)]; exact h.c3 (by simpa using hD)
  · rw [up _ (by decide)]; exact h.c4 (by simpa using hD)
  · rw [up _ (by decide)]; exact (h.st (by simpa using hD)).off q.ty (by decide) (by decide)
  · rw [up _ (by decide)]; exact (h.hp (by simpa using hD)).off q.ty (by decide) (by decide) (by decide)
  · rw [up 6 (by decide), up 2 (by decide)]
    obtain ⟨b', e1, e2, e3⟩ := h.bA (by simpa using hD)
    refine ⟨b', e1, e2, ?_⟩
    simp only [show ((8 : Nat) = 9) = False by decide, if_false]
    exact e3.other (fun e => by
      simp only at e
      subst e
      exact absurd (q.ty.one e3.ty) (by decide)) _
  · rw [up 7 (by decide), up 5 (by decide)]
    refine ⟨b, hb, hlo, ?_⟩
    rw [if_pos (by simp)]
    have := q.set 0 (g 5)
    simpa using this
end
/-- The three boxes that turn slowly: the report, the closure, and how far the node is. -/
def Bx3 (b8 b15 b19 : Nat) (r8 : List Value) (cl : Value) (f : Nat) (W : World) : Prop := Arr W b8 50 r8 ∧ Arr W b15 155 [cl] ∧ Arr W b19 33 [.int .u64 (f : Int)]
theorem Bx3.touch {b8 b15 b19 : Nat} {r8 : List Value} {cl : Value} {f : Nat} {W W' : World} {S : Nat → Prop} (h : Bx3 b8 b15 b19 r8 cl f W) (ht : Touch S W W') (hn : ¬ S b8 ∧ ¬ S b15 ∧ ¬ S b19) : Bx3 b8 b15 b19 r8 cl f W' := ⟨h.1.touch ht hn.1, h.2.1.touch ht hn.2.1, h.2.2.touch ht hn.2.2⟩
/-- Between two edges of a node. -/
def InA (F : Nat → Prop) (x : Srch) (H : List Nat) (ba bA bB bC b8 b15 b19 f lo : Nat) (r8 : List Value) (cl : Value) (S0 : Nat → Prop) (w : World) (Ds : List Nat) (st0 : St) (p : List Nat) (Mi : Nat → Prop) (W : World) : Prop :=
  ∃ S, AsAt F S W x.N H bA bB bC (stepsA x H f st0 p).1 (stepsA x H f st0 p).2 ∧ (∀ k, Mi k → lo ≤ k ∧ k < W.heap.size ∧ ¬ S k) ∧ (∀ k, S k → S0 k ∨ lo ≤ k) ∧ Bx3 b8 b15 b19 r8 cl f W ∧ Marks Ds W ∧ lo ≤ W.heap.size ∧ Grows w W ∧ AdjAt F W ba x.N x.E
/-- What is known of the blocks ahead. -/
structure InB (F : Nat → Prop) (b8 b15 b19 lo : Nat) (S0 : Nat → Prop) (w : World) (Ds : List Nat) : Prop where
  f : ∀ k, F k → k < lo
  b8 : b8 < lo ∧ ¬ S0 b8
  b15 : b15 < lo ∧ ¬ S0 b15
  b19 : b19 < lo ∧ ¬ S0 b19
  ds : ∀ D ∈ Ds, D < lo ∧ ¬ S0 D
  s : ∀ k, S0 k → w.heap.size ≤ k
  w : w.heap.size ≤ lo
theorem InA.yields {F : Nat → Prop} {x : Srch} {H : List Nat} {ba bA bB bC b8 b15 b19 f lo : Nat} {r8 : List Value} {cl : Value} {S0 : Nat → Prop} {w : World} {Ds : List Nat} {st0 : St} (hb : InB F b8 b15 b19 lo S0 w Ds) : Yields' (InA F x H ba bA bB bC b8 b15 b19 f lo r8 cl S0 w Ds st0) := by
  rintro p Mi W Mi' W' ⟨S, d, a1, a2, a3, a4, a5, a6, a7⟩ ht hM'
  have hs := ht.size
  have nb : ∀ k, k < lo → ¬ Mi k := fun k hk e => by have := (a1 _ e).1; omega
  refine ⟨S, d.touch ht (fun k hk => nb k (hb.f k hk)) (fun k hk e => (a1 k e).2.2 hk), fun k hk => ?_, a2, a3.touch ht ⟨nb _ hb.b8.1, nb _ hb.b15.1, nb _ hb.b19.1⟩, a4.touch ht (fun D hD => nb _ (hb.ds D hD).1), Nat.le_trans a5 hs, ht.later a6 (fun k hk => Nat.le_trans hb.w (a1 k hk).1), a7.touch ht (fun k hk => nb k (hb.f k hk))⟩
  obtain ⟨h | h, h'⟩ := hM' k hk
  · exact ⟨(a1 k h).1, h', (a1 k h).2.2⟩
  · refine ⟨by omega, h', fun e => ?_⟩
    obtain ⟨_, _, _, _, _, _, _, _, _, _, _, _, _, q, _⟩ := d
    have := q k e
    omega
/-- An edge: its end is reached. -/
theorem InA.reached {F : Nat → Prop} {x : Srch} {H : List Nat} {ba bA bB bC b8 b15 b19 f lo : Nat} {r8 : List Value} {cl : Value} {S0 : Nat → Prop} {w : World} {Ds : List Nat} {st0 : St} {p : List Nat} {i : Nat} {Mi : Nat → Prop} {W : World} (hb : InB F b8 b15 b19 lo S0 w Ds)
    (h : InA F x H ba bA bB bC b8 b15 b19 f lo r8 cl S0 w Ds st0 p Mi W) (b1 : Nat) (u : Int) (hu : u = ((f + gn x.W i : Nat) : Int)) (hto : toE x i < x.N) (hok : HOk (stepsA x H f st0 p).2 x.N) (hf : f + gn x.W i ≤ 562949953421312) (hH : gn H (toE x i) ≤ 1152921504606846976) (hB : b1 + 1 + 1 < lo) (hSb : ∀ k, S0 k → k < b1) :
    ∀ W', Grows W W' → Calls Try.prog 123 #[.int .i64 (toE x i : Int), .int .u64 u, .pointer (some ⟨bA, 0, none⟩), .pointer (some ⟨bB, 0, none⟩), .pointer (some ⟨bC, 0, none⟩)] W' fun e w' => e = .returned (.tuple #[]) ∧ Keeps (fun k => F k ∨ (b1 ≤ k ∧ k ≤ b1 + 1 + 1)) Mi W w' ∧ InA F x H ba bA bB bC b8 b15 b19 f lo r8 cl S0 w Ds st0 (p ++ [i]) Mi w' := by
  intro W' hg
  obtain ⟨S, d, a1, a2, a3, a4, a5, a6, a7⟩ := h
  have hq := d
  obtain ⟨_, _, _, _, _, _, _, _, _, _, _, _, q7, q8, _⟩ := hq
  have he : stepsA x H f st0 (p ++ [i]) = reachA H (stepsA x H f st0 p) (toE x i) (f + gn x.W i) := stepsA_snoc x H f st0 p i
  refine (asReach F S x.N H bA bB bC (toE x i) (f + gn x.W i) u hu _ _ W' (d.grow hg) hto hok hf hH).mono ?_
  rintro e w' ⟨rfl, d', ht'⟩
  have hlow : ∀ k, k < lo → ¬ S0 k → ¬ S k := fun k hk hn e => by
    rcases a2 k e with h | h
    · exact hn h
    · omega
  have ht : Touch S W w' := (hg.touch S).trans ht'
  have hgs := hg.size
  refine ⟨rfl, ht.keeps fun k hk e => ?_, fun k => S k ∨ New W' w' k, ?_, fun k hk => ⟨(a1 k hk).1, Nat.lt_of_lt_of_le (a1 k hk).2.1 ht.size, fun e => ?_⟩, fun k hk => ?_, a3.touch ht ⟨hlow _ hb.b8.1 hb.b8.2, hlow _ hb.b15.1 hb.b15.2, hlow _ hb.b19.1 hb.b19.2⟩, a4.touch ht (fun D hD => hlow _ (hb.ds D hD).1 (hb.ds D hD).2), Nat.le_trans a5 ht.size, ht.later a6 (fun k hk => ?_), a7.touch ht (fun k hk => (q7 k hk).1)⟩
  · rcases e with (e | e) | e
    · exact (q7 k e).1 hk
    · exact hlow k (by omega) (fun h => by have := hSb k h; omega) hk
    · exact (a1 k e).2.2 hk
  · rw [he]
    exact d'
  · rcases e with e | e
    · exact (a1 k hk).2.2 e
    · have := (a1 k hk).2.1; have := e.1; omega
  · rcases hk with hk | hk
    · exact a2 k hk
    · exact .inr (Nat.le_trans a5 (Nat.le_trans hgs hk.1))
  · rcases a2 k hk with h | h
    · exact hb.s k h
    · exact Nat.le_trans hb.w h
/-- As such a search begins. -/
theorem as_made {N : Nat} {H : List Nat} {lo b8 bA bB bC bf gf bh b15 cb : Nat} {S2 : Nat → Prop} {B : Option Addr} {W : World} {m : Int} (a1 : Arr W bA 150 [.pointer (some ⟨bf, 0, none⟩)]) (a2 : Arr W bB 152 [.pointer (some ⟨bh, 0, none⟩)]) (a3 : Arr W bC 40 [.slice B N cb]) (l3 : bC < b8)
    (hB : Rd W B 1 N (wv H)) (hBl : ∀ p, B = some p → p.block < b8) (hl8 : b8 < lo) (l1 : lo ≤ bA) (l2 : lo ≤ bB) (hst : StL W bf gf (List.replicate N (0, 0)) m) (lf : lo ≤ bf) (lg : lo ≤ gf) (hhp : HpAt W S2 bh (st0 N).2) (hT : HpT W lo S2) {u : Value} (a15 : Arr W b15 155 [u]) (l15 : lo ≤ b15) :
    AsAt (fun k => (k < lo ∧ k ≠ b8) ∨ k = bA ∨ k = bB ∨ k = b15) (fun k => k = bf ∨ k = gf ∨ S2 k) W N H bA bB bC (st0 N).1 (st0 N).2 := by
  have nS : ∀ k, Ty W k 150 ∨ Ty W k 152 ∨ Ty W k 155 → ¬ (k = bf ∨ k = gf ∨ S2 k) := fun k hk e => by
    have h1 : ∃ t, Ty W k t ∧ (t = 193 ∨ t = 203 ∨ t = 196 ∨ t = 3 ∨ t = 198) := by
      rcases e with rfl | rfl | e
      · exact ⟨_, hst.row.ty, .inl rfl⟩
      · exact ⟨_, hst.cells.ty, .inr (.inl rfl)⟩
      · obtain ⟨_, t, h1, h2⟩ := hT k e
        exact ⟨t, h1, by rcases h2 with h | h | h <;> simp [h]⟩
    obtain ⟨t, h1, h2⟩ := h1
    rcases hk with hk | hk | hk <;> (have := hk.one h1; subst this; revert h2; decide)
  have hin : (st0 N).2.In N := (st0_lk N).isIn
  refine ⟨bf, gf, bh, S2, B, cb, ⟨a1, a2, a3⟩, ⟨hB, fun p hp => .inl ⟨by have := hBl p hp; omega, by have := hBl p hp; omega⟩⟩, ⟨.inr (.inl rfl), .inr (.inr (.inl rfl)), .inl ⟨by omega, by omega⟩⟩, ⟨m, hst⟩, hhp, ⟨.inl rfl, .inr (.inl rfl), fun k hk => ⟨.inr (.inr hk), fun e => ?_⟩⟩, fun k hk => ?_, fun k hk => ?_, by simp [st0], hin⟩
  · obtain ⟨_, t, h1, h2⟩ := hT k hk
    rcases e with rfl | rfl
    · have := h1.one hst.row.ty; subst this; revert h2; decide
    · have := h1.one hst.cells.ty; subst this; revert h2; decide
  · rcases hk with ⟨hk, _⟩ | rfl | rfl | rfl
    · refine ⟨fun e => ?_, by have := a1.lt; omega⟩
      rcases e with rfl | rfl | e
      · omega
      · omega
      · have := (hT k e).1; omega
    · exact ⟨nS _ (.inl a1.ty), a1.lt⟩
    · exact ⟨nS _ (.inr (.inl a2.ty)), a2.lt⟩
    · exact ⟨nS _ (.inr (.inr a15.ty)), a15.lt⟩
  · rcases hk with rfl | rfl | hk
    · exact hst.row.lt
    · exact hst.cells.ty.lt
    · obtain ⟨_, t, h1, _⟩ := hT k hk; exact h1.lt
theorem TraceA.inv {x : Srch} {H : List Nat} {t : Nat} {st : St} {xs : List (Nat × Nat)} (h : TraceA x H t st xs) :
    (xs = [] ∧ st.2.L.length = 0) ∨ ∃ v f ys, xs = (v, f) :: ys ∧ StepOkA x H st v f ∧ ((v = t ∧ ys = []) ∨ (v ≠ t ∧ TraceA x H t (stepsA x H f (st.1, st.2.drop v) (rowX x v)) ys)) := by
  cases h with
  | none h => exact .inl ⟨rfl, h⟩
  | found h => exact .inr ⟨_, _, _, rfl, h, .inl ⟨rfl, rfl⟩⟩
  | step h hn ht => exact .inr ⟨_, _, _, rfl, h, .inr ⟨hn, ht⟩⟩
/-- Between two nodes. -/
def WI (F : Nat → Prop) (x : Srch) (H : List Nat) (t ba bA bB bC b8 b15 lo : Nat) (cl : Value) (w0 : World) (all : List (Nat × Nat)) (Ds : List Nat) (m : Nat) (wr : World) : Prop :=
  ∃ st pre xs S, m = xs.length ∧ (all = pre ++ xs ∧ ∀ p ∈ pre, p.1 ≠ t) ∧ TraceA x H t st xs ∧ AsAt F S wr x.N H bA bB bC st.1 st.2 ∧ (Arr wr b8 50 [.int .u64 0, .int .i64 (pre.length : Int)] ∧ Arr wr b15 155 [cl]) ∧ AdjAt F wr ba x.N x.E ∧
    Marks Ds wr ∧ (∀ D ∈ Ds, lo ≤ D ∧ ¬ S D ∧ D ≠ b8) ∧ (¬ S b8 ∧ ¬ S b15) ∧ (∀ k, S k → lo ≤ k) ∧ Grows w0 wr
end Go.Proofs.Ytiljgkaffgclgaa
