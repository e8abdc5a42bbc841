/- Plain law: what a search takes, node by node, is each node's least way, rising. -/
import Derived.Test.YtpnncadglhlclaaTrace
import Derived.Test.YtpnncadglhlclaaHeapLaw
namespace Go.Proofs.Ytpnncadglhlclaa
open Go Go.RowKit
/-- Does an edge count, for one who stands at its near end? -/
def cntE (x : Srch) (i : Nat) : Bool := !x.ne i && !x.nn (toE x i)
/-- A way from s to a node, and what it weighs. -/
inductive Way (x : Srch) (s : Nat) : Nat → Nat → Prop
  | here : Way x s s 0
  | step {f i : Nat} : Way x s (nN x.E x.back i) f → i < x.E.length → cntE x i = true → Way x s (toE x i) (f + gn x.W i)
theorem stD_set (L : List (Nat × Nat)) (v u g : Nat) (h : v < L.length) : stD (L.set v (g, 1)) u = if u = v then some g else stD L u := by
  unfold stD
  rw [gp_set _ _ _ _ h]
  by_cases e : u = v <;> simp [e]
/-- What stands in the midst of a search: 'pre' are taken, the edges of C are done. -/
structure DInv (x : Srch) (s mw : Nat) (pre : List (Nat × Nat)) (C : Nat → Prop) (st : St) : Prop where
  lk : st.2.Lk x.N
  ord : st.2.Or
  len : st.1.length = x.N
  start : stD st.1 s = some 0
  heap : ∀ v k, st.2.Mem (v, k) → v < x.N ∧ stD st.1 v = some k ∧ ∀ g, (v, g) ∉ pre
  seen : ∀ v k, v < x.N → stD st.1 v = some k → (v, k) ∈ pre ∨ st.2.Mem (v, k)
  popped : ∀ v f, (v, f) ∈ pre → v < x.N ∧ stD st.1 v = some f
  way : ∀ v k, v < x.N → stD st.1 v = some k → Way x s v k ∧ (0 < x.most → k ≤ x.most) ∧ k ≤ pre.length * mw
  done : ∀ i, i < x.E.length → C i → cntE x i = true → ∀ f, (nN x.E x.back i, f) ∈ pre → (0 < x.most → f + gn x.W i ≤ x.most) → ∃ k, stD st.1 (toE x i) = some k ∧ k ≤ f + gn x.W i
  asc : ∀ p q, p ∈ pre → st.2.Mem q → ahead p q = true
  sorted : pre.Pairwise fun a b => ahead a b = true
/-- What a search may be given. -/
structure SrchIn (x : Srch) (mw : Nat) : Prop where
  ends : ∀ i, i < x.E.length → toE x i < x.N
  low : ∀ i, i < x.E.length → 1 ≤ gn x.W i
  high : ∀ i, i < x.E.length → gn x.W i ≤ mw
theorem DInv.edge {x : Srch} {s mw v f i : Nat} {pre : List (Nat × Nat)} {C : Nat → Prop} {st : St} (hx : SrchIn x mw) (h : DInv x s mw pre C st) (hv : (v, f) ∈ pre) (hlast : ∀ p, p ∈ pre → ahead (v, f) p = false)
    (hb : f + mw ≤ pre.length * mw) (hi : i < x.E.length) (hn : nN x.E x.back i = v) : DInv x s mw pre (fun j => C j ∨ j = i) (stepE x f st i) := by
  have hto := hx.ends i hi
  have hlo := hx.low i hi
  have hhi := hx.high i hi
  have hpv := h.popped v f hv
  have same : (cntE x i = true → (0 < x.most → f + gn x.W i ≤ x.most) → ∃ k, stD st.1 (toE x i) = some k ∧ k ≤ f + gn x.W i) → DInv x s mw pre (fun j => C j ∨ j = i) st := by
    intro hd
    refine { h with done := fun j hj hC hc f' hf' hm => ?_ }
    rcases hC with hC | rfl
    · exact h.done j hj hC hc f' hf' hm
    · rw [hn] at hf'
      have := (h.popped v f' hf').2
      rw [hpv.2] at this
      obtain rfl : f = f' := Option.some.inj this
      exact hd hc hm
  unfold stepE
  by_cases hc : cntE x i = true
  · have hc2 : (!x.ne i && !x.nn (toE x i)) = true := hc
    rw [if_pos hc2]
    unfold reachS
    by_cases hm : 0 < x.most ∧ x.most < f + gn x.W i
    · rw [if_pos hm]
      exact same (fun _ h2 => by have := h2 hm.1; omega)
    · rw [if_neg hm]
      cases hl : lessB (stD st.1 (toE x i)) (f + gn x.W i) with
      | false =>
        rw [if_neg Bool.false_ne_true]
        refine same (fun _ _ => ?_)
        cases hd : stD st.1 (toE x i) with
        | none => rw [hd] at hl; cases hl
        | some k =>
          rw [hd] at hl
          have : ¬ f + gn x.W i < k := by simpa [lessB] using hl
          exact ⟨k, rfl, by omega⟩
      | true =>
        rw [if_pos rfl]
        generalize hg : f + gn x.W i = g at *
        have hlt : ∀ k, stD st.1 (toE x i) = some k → g < k := fun k hk => by
          rw [hk] at hl
          simpa [lessB] using hl
        have hle : ∀ p, p ∈ pre → p.2 ≤ f := fun p hp => by
          have := ahead_no.1 (hlast p hp)
          simp only at this
          omega
        have hnp : ∀ k, (toE x i, k) ∉ pre := fun k hk => by
          have h1 := hlt k (h.popped _ _ hk).2
          have h2 := hle _ hk
          simp only at h2
          omega
        have hns : s ≠ toE x i := fun e => by
          have := hlt 0 (by rw [← e]; exact h.start)
          omega
        obtain ⟨p1, p2, p3⟩ := HS.put_ok (v := toE x i) (f := g) h.lk h.ord hto (fun k hk => hlt k (h.heap _ _ hk).2.1)
        have sD := fun u => stD_set st.1 (toE x i) u g (by rw [h.len]; exact hto)
        refine ⟨p1, p2, by simp [h.len], ?_, ?_, ?_, ?_, ?_, ?_, ?_, h.sorted⟩
        · show stD (st.1.set (toE x i) (g, 1)) s = _
          rw [sD, if_neg hns]
          exact h.start
        · intro u k hk
          rcases (p3 (u, k)).1 hk with ⟨h1, h2⟩ | h1
          · have h3 := h.heap u k h1
            refine ⟨h3.1, ?_, h3.2.2⟩
            show stD (st.1.set (toE x i) (g, 1)) u = _
            rw [sD, if_neg h2]
            exact h3.2.1
          · obtain ⟨rfl, rfl⟩ := Prod.mk.inj h1
            refine ⟨hto, ?_, hnp⟩
            show stD (st.1.set (toE x i) (k, 1)) (toE x i) = _
            rw [sD, if_pos rfl]
        · intro u k hu hk
          have hk : stD (st.1.set (toE x i) (g, 1)) u = some k := hk
          rw [sD] at hk
          by_cases e : u = toE x i
          · rw [if_pos e] at hk
            obtain rfl := Option.some.inj hk
            exact .inr ((p3 _).2 (.inr (by rw [e])))
          · rw [if_neg e] at hk
            rcases h.seen u k hu hk with h1 | h1
            · exact .inl h1
            · exact .inr ((p3 _).2 (.inl ⟨h1, e⟩))
        · intro u k hk
          have h1 := h.popped u k hk
          refine ⟨h1.1, ?_⟩
          show stD (st.1.set (toE x i) (g, 1)) u = _
          rw [sD, if_neg (fun e => hnp k (by rw [← e]; exact hk))]
          exact h1.2
        · intro u k hu hk
          have hk : stD (st.1.set (toE x i) (g, 1)) u = some k := hk
          rw [sD] at hk
          by_cases e : u = toE x i
          · rw [if_pos e] at hk
            obtain rfl := Option.some.inj hk
            have h1 := h.way v f hpv.1 hpv.2
            refine ⟨?_, fun h2 => by omega, by omega⟩
            rw [e, ← hg]
            exact Way.step (by rw [hn]; exact h1.1) hi hc
          · rw [if_neg e] at hk
            exact h.way u k hu hk
        · intro j hj hC hcj f' hf' hmj
          show ∃ k, stD (st.1.set (toE x i) (g, 1)) (toE x j) = some k ∧ _
          rw [sD]
          rcases hC with hC | rfl
          · obtain ⟨k, h1, h2⟩ := h.done j hj hC hcj f' hf' hmj
            by_cases e : toE x j = toE x i
            · rw [if_pos e]
              rw [e] at h1
              exact ⟨g, rfl, by have := hlt k h1; omega⟩
            · rw [if_neg e]
              exact ⟨k, h1, h2⟩
          · rw [hn] at hf'
            have := (h.popped v f' hf').2
            rw [hpv.2] at this
            obtain rfl : f = f' := Option.some.inj this
            rw [if_pos rfl]
            exact ⟨g, rfl, by omega⟩
        · intro p q hp hq
          rcases (p3 q).1 hq with ⟨h1, h2⟩ | rfl
          · exact h.asc p q hp h1
          · have := hle p hp
            exact ahead_yes.2 (.inl (by show p.2 < g; omega))
  · have hc2 : ¬ (!x.ne i && !x.nn (toE x i)) = true := hc
    rw [if_neg hc2]
    exact same (fun h1 => absurd h1 hc)
theorem DInv.mono {x : Srch} {s mw : Nat} {pre : List (Nat × Nat)} {C C' : Nat → Prop} {st : St} (h : DInv x s mw pre C st) (hC : ∀ i, i < x.E.length → C' i → C i) : DInv x s mw pre C' st :=
  { h with done := fun i hi hc => h.done i hi (hC i hi hc) }
theorem DInv.edges {x : Srch} {s mw v f : Nat} {pre : List (Nat × Nat)} (hx : SrchIn x mw) (hv : (v, f) ∈ pre) (hlast : ∀ p, p ∈ pre → ahead (v, f) p = false) (hb : f + mw ≤ pre.length * mw) (l : List Nat) :
    ∀ (C : Nat → Prop) (st : St), DInv x s mw pre C st → (∀ i, i ∈ l → i < x.E.length ∧ nN x.E x.back i = v) → DInv x s mw pre (fun j => C j ∨ j ∈ l) (stepK x f st l) := by
  induction l with
  | nil => exact fun C st h _ => h.mono (fun i _ hi => by rcases hi with hi | hi; exact hi; cases hi)
  | cons i l ih =>
    intro C st h hl
    have h1 := h.edge hx hv hlast hb (hl i (by simp)).1 (hl i (by simp)).2
    exact (ih _ _ h1 (fun j hj => hl j (by simp [hj]))).mono (fun j _ hj => by
      rcases hj with hj | hj
      · exact .inl (.inl hj)
      · rcases List.mem_cons.1 hj with hj | hj
        · exact .inl (.inr hj)
        · exact .inr hj)
theorem DInv.pre_len {x : Srch} {s mw : Nat} {pre : List (Nat × Nat)} {C : Nat → Prop} {st : St} (h : DInv x s mw pre C st) : (pre.map Prod.fst).Nodup ∧ pre.length ≤ x.N := by
  have h0 : (pre.map Prod.fst).Nodup := by
    unfold List.Nodup
    rw [List.pairwise_map]
    refine List.Pairwise.imp_of_mem ?_ h.sorted
    intro a b ha hb hab e
    obtain ⟨a1, a2⟩ := a
    obtain ⟨b1, b2⟩ := b
    simp only at e
    subst e
    have h1 := (h.popped _ _ ha).2
    rw [(h.popped _ _ hb).2] at h1
    obtain rfl := Option.some.inj h1
    rw [ahead_irr] at hab
    cases hab
  refine ⟨h0, ?_⟩
  have h1 : (pre.map Prod.fst).length ≤ (List.range x.N).length := by
    refine List.Nodup.length_le_of_subset h0 ?_
    intro v hv
    obtain ⟨⟨u, f⟩, hp, rfl⟩ := List.mem_map.1 hv
    exact List.mem_range.2 (h.popped _ _ hp).1
  simpa using h1
theorem DInv.take {x : Srch} {s mw v f : Nat} {pre : List (Nat × Nat)} {C : Nat → Prop} {st : St} (h : DInv x s mw pre C st) (hC : ∀ i, i < x.E.length → C i → ∃ g, (nN x.E x.back i, g) ∈ pre) (h0 : 0 < st.2.L.length) (ht : gi2 st.2.L 0 = (v, f)) :
    DInv x s mw (pre ++ [(v, f)]) C (st.1, st.2.drop v) ∧ (∀ p, p ∈ pre ++ [(v, f)] → ahead (v, f) p = false) ∧ f ≤ pre.length * mw ∧ v < x.N := by
  obtain ⟨d1, d2, d3⟩ := HS.drop_ok h.lk h.ord h0 ht
  have hm : st.2.Mem (v, f) := ⟨0, h0, ht⟩
  have hvf := h.heap v f hm
  have hw := h.way v f hvf.1 hvf.2.1
  have hlast : ∀ p, p ∈ pre ++ [(v, f)] → ahead (v, f) p = false := by
    intro p hp
    rcases List.mem_append.1 hp with hp | hp
    · exact ahead_asym (h.asc p (v, f) hp hm)
    · rw [List.mem_singleton.1 hp]; exact ahead_irr _
  have hmul : (pre ++ [(v, f)]).length * mw = pre.length * mw + mw := by rw [List.length_append, List.length_singleton, Nat.add_mul, Nat.one_mul]
  refine ⟨⟨d1, d2, h.len, h.start, ?_, ?_, ?_, ?_, ?_, ?_, ?_⟩, hlast, hw.2.2, hvf.1⟩
  · intro u k hk
    obtain ⟨h1, h2⟩ := (d3 _).1 hk
    have h3 := h.heap u k h1
    refine ⟨h3.1, h3.2.1, fun g hg => ?_⟩
    rcases List.mem_append.1 hg with hg | hg
    · exact h3.2.2 g hg
    · exact h2 (Prod.mk.inj (List.mem_singleton.1 hg)).1
  · intro u k hu hk
    rcases h.seen u k hu hk with h1 | h1
    · exact .inl (List.mem_append.2 (.inl h1))
    · by_cases e : u = v
      · subst e
        have h2 : stD st.1 u = some k := hk
        rw [hvf.2.1] at h2
        obtain rfl := Option.some.inj h2
        exact .inl (by simp)
      · exact .inr ((d3 _).2 ⟨h1, e⟩)
  · intro u k hk
    rcases List.mem_append.1 hk with hk | hk
    · exact h.popped u k hk
    · obtain ⟨rfl, rfl⟩ := Prod.mk.inj (List.mem_singleton.1 hk)
      exact ⟨hvf.1, hvf.2.1⟩
  · intro u k hu hk
    have h1 := h.way u k hu hk
    exact ⟨h1.1, h1.2.1, by rw [hmul]; omega⟩
  · intro i hi hc hcn f' hf' hm'
    refine h.done i hi hc hcn f' ?_ hm'
    rcases List.mem_append.1 hf' with hk | hk
    · exact hk
    · obtain ⟨g, hg⟩ := hC i hi hc
      rw [(Prod.mk.inj (List.mem_singleton.1 hk)).1] at hg
      exact absurd hg (hvf.2.2 g)
  · intro p q hp hq
    obtain ⟨h1, h2⟩ := (d3 _).1 hq
    rcases List.mem_append.1 hp with hp | hp
    · exact h.asc p q hp h1
    · rw [List.mem_singleton.1 hp]
      obtain ⟨i, hi, rfl⟩ := h1
      have h3 := h.ord.least i hi
      rw [ht] at h3
      have h4 := ahead_no.1 h3
      refine ahead_yes.2 ?_
      simp only at h4 h2 ⊢
      omega
  · rw [List.pairwise_append]
    refine ⟨h.sorted, by simp, fun a ha b hb => ?_⟩
    rw [List.mem_singleton.1 hb]
    exact h.asc a _ ha hm
/-- What a search takes, whole. -/
structure Far (x : Srch) (s mw : Nat) (tr : List (Nat × Nat)) : Prop where
  sorted : tr.Pairwise fun a b => ahead a b = true
  nodup : (tr.map Prod.fst).Nodup
  way : ∀ v f, (v, f) ∈ tr → v < x.N ∧ Way x s v f ∧ (0 < x.most → f ≤ x.most) ∧ f ≤ x.N * mw
  all : ∀ v f, Way x s v f → (0 < x.most → f ≤ x.most) → ∃ g, (v, g) ∈ tr ∧ g ≤ f
theorem DInv.end_ {x : Srch} {s mw : Nat} {pre : List (Nat × Nat)} {st : St} (hx : SrchIn x mw) (h : DInv x s mw pre (fun i => ∃ g, (nN x.E x.back i, g) ∈ pre) st) (h0 : st.2.L.length = 0) (hs : s < x.N) : Far x s mw pre := by
  have hno : ∀ p, ¬ st.2.Mem p := fun p ⟨i, hi, _⟩ => by omega
  obtain ⟨n1, n2⟩ := h.pre_len
  refine ⟨h.sorted, n1, fun v f hv => ?_, fun v f hw => ?_⟩
  · have h1 := h.popped v f hv
    have h2 := h.way v f h1.1 h1.2
    exact ⟨h1.1, h2.1, h2.2.1, Nat.le_trans h2.2.2 (Nat.mul_le_mul_right _ n2)⟩
  · induction hw with
    | here =>
      intro _
      rcases h.seen s 0 hs h.start with h1 | h1
      · exact ⟨0, h1, Nat.le_refl _⟩
      · exact absurd h1 (hno _)
    | @step f i hw hi hc ih =>
      intro hm
      obtain ⟨g, hg, hgf⟩ := ih (fun h1 => by have := hm h1; omega)
      obtain ⟨k, hk, hk2⟩ := h.done i hi ⟨g, hg⟩ hc g hg (fun h1 => by have := hm h1; omega)
      rcases h.seen _ k (hx.ends i hi) hk with h1 | h1
      · exact ⟨k, h1, by omega⟩
      · exact absurd h1 (hno _)
theorem Lk.hok {s : HS} {N : Nat} (h : s.Lk N) (hN : N ≤ 65536) : HOk s N := by
  refine ⟨fun v hv => ?_, by have := h.small; omega⟩
  rcases h.no v hv with h1 | ⟨i, hi, h1, _⟩
  · exact .inl h1
  · exact .inr (by omega)
theorem rowX_mem {x : Srch} {v i : Nat} : i ∈ rowX x v ↔ i < x.E.length ∧ nN x.E x.back i = v := by
  unfold rowX rowN
  simp [List.mem_filter]
/-- There is such a trace. -/
theorem trace_is {x : Srch} {s mw : Nat} (hx : SrchIn x mw) (hN : x.N ≤ 65536) (hs : s < x.N) (hmw : mw ≤ 281474976710656 / 2) (n : Nat) :
    ∀ (pre : List (Nat × Nat)) (st : St), x.N - pre.length = n → DInv x s mw pre (fun i => ∃ g, (nN x.E x.back i, g) ∈ pre) st → ∃ xs, Trace x st xs ∧ Far x s mw (pre ++ xs) := by
  induction n with
  | zero =>
    intro pre st hn h
    rcases Nat.eq_zero_or_pos st.2.L.length with h0 | h0
    · exact ⟨[], .done h0, by rw [List.append_nil]; exact h.end_ hx h0 hs⟩
    · obtain ⟨⟨v, f⟩, ht⟩ : ∃ p, gi2 st.2.L 0 = p := ⟨_, rfl⟩
      have h1 := (h.take (fun i _ hc => hc) h0 ht).1.pre_len.2
      rw [List.length_append, List.length_singleton] at h1
      omega
  | succ n ih =>
    intro pre st hn h
    rcases Nat.eq_zero_or_pos st.2.L.length with h0 | h0
    · exact ⟨[], .done h0, by rw [List.append_nil]; exact h.end_ hx h0 hs⟩
    · obtain ⟨⟨v, f⟩, ht⟩ : ∃ p, gi2 st.2.L 0 = p := ⟨_, rfl⟩
      obtain ⟨t1, t2, t3, t4⟩ := h.take (fun i _ hc => hc) h0 ht
      have hmul : (pre ++ [(v, f)]).length * mw = pre.length * mw + mw := by rw [List.length_append, List.length_singleton, Nat.add_mul, Nat.one_mul]
      have hb : f + mw ≤ (pre ++ [(v, f)]).length * mw := by omega
      have hpl := h.pre_len.2
      have hrow : ∀ l, (∀ i, i ∈ l → i ∈ rowX x v) → DInv x s mw (pre ++ [(v, f)]) (fun j => (∃ g, (nN x.E x.back j, g) ∈ pre) ∨ j ∈ l) (stepK x f (st.1, st.2.drop v) l) := fun l hl =>
        t1.edges hx (by simp) t2 hb l (fun j => ∃ g, (nN x.E x.back j, g) ∈ pre) _ (fun i hi => rowX_mem.1 (hl i hi))
      have hfin := (hrow (rowX x v) (fun i hi => hi)).mono (C' := fun i => ∃ g, (nN x.E x.back i, g) ∈ pre ++ [(v, f)]) (fun i hi hc => by
        obtain ⟨g, hg⟩ := hc
        rcases List.mem_append.1 hg with hg | hg
        · exact .inl ⟨g, hg⟩
        · exact .inr (rowX_mem.2 ⟨hi, (Prod.mk.inj (List.mem_singleton.1 hg)).1⟩))
      obtain ⟨xs, hx1, hx2⟩ := ih (pre ++ [(v, f)]) _ (by rw [List.length_append, List.length_singleton]; omega) hfin
      refine ⟨(v, f) :: xs, .step ⟨ht, h0, ?_, ?_, ?_, ?_⟩ hx1, by simpa using hx2⟩
      · have := (h.lk.at_ 0 h0).2
        rw [ht] at this
        exact ⟨0, this, h0⟩
      · have := h.lk.small; omega
      · intro l r hr
        exact Lk.hok (hrow l (fun i hi => by rw [hr]; simp [hi])).lk hN
      · intro i hi
        have h1 := hx.high i hi
        have h2 : pre.length * mw ≤ 65536 * (281474976710656 / 2) := Nat.mul_le_mul (by omega) hmw
        omega
/-- As a search begins. -/
def st0 (N : Nat) : St := (List.replicate N (0, 0), ⟨[], List.replicate N (-1)⟩)
theorem st0_lk (N : Nat) : (st0 N).2.Lk N := ⟨by simp [st0], fun i hi => by simp [st0] at hi, fun v hv => .inl (by simp [st0, gz, List.getD_eq_getElem?_getD, hv])⟩
theorem st0_D (N v : Nat) : stD (st0 N).1 v = none := by
  unfold stD gp st0
  by_cases h : v < N <;> simp [List.getD_eq_getElem?_getD, h]
theorem trace_begins {x : Srch} {s mw : Nat} (hs : s < x.N) : DInv x s mw [] (fun i => ∃ g, (nN x.E x.back i, g) ∈ ([] : List (Nat × Nat))) (reachS x.most (st0 x.N) s 0) := by
  have hno : ∀ p, ¬ (st0 x.N).2.Mem p := fun p ⟨i, hi, _⟩ => by simp [st0] at hi
  have hor : (st0 x.N).2.Or := fun j _ hj => by simp [st0] at hj
  obtain ⟨p1, p2, p3⟩ := HS.put_ok (v := s) (f := 0) (st0_lk x.N) hor hs (fun k hk => absurd hk (hno _))
  have e : reachS x.most (st0 x.N) s 0 = ((st0 x.N).1.set s (0, 1), ((st0 x.N).2.put s 0).1) := by
    unfold reachS
    rw [if_neg (by omega), st0_D]
    rfl
  have sD := fun u => stD_set (st0 x.N).1 s u 0 (by simp [st0]; exact hs)
  rw [e]
  refine ⟨p1, p2, by simp [st0], ?_, ?_, ?_, ?_, ?_, ?_, ?_, List.Pairwise.nil⟩
  · show stD ((st0 x.N).1.set s (0, 1)) s = _
    rw [sD, if_pos rfl]
  · intro v k hk
    rcases (p3 _).1 hk with ⟨h1, _⟩ | h1
    · exact absurd h1 (hno _)
    · obtain ⟨rfl, rfl⟩ := Prod.mk.inj h1
      refine ⟨hs, ?_, fun g hg => by cases hg⟩
      show stD ((st0 x.N).1.set v (0, 1)) v = _
      rw [sD, if_pos rfl]
  · intro v k hv hk
    have hk : stD ((st0 x.N).1.set s (0, 1)) v = some k := hk
    rw [sD, st0_D] at hk
    by_cases e : v = s
    · rw [if_pos e] at hk
      obtain rfl := Option.some.inj hk
      exact .inr ((p3 _).2 (.inr (by rw [e])))
    · rw [if_neg e] at hk
      cases hk
  · intro v f hv; cases hv
  · intro v k hv hk
    have hk : stD ((st0 x.N).1.set s (0, 1)) v = some k := hk
    rw [sD, st0_D] at hk
    by_cases e : v = s
    · rw [if_pos e] at hk
      obtain rfl := Option.some.inj hk
      rw [e]
      exact ⟨.here, fun _ => Nat.zero_le _, Nat.zero_le _⟩
    · rw [if_neg e] at hk
      cases hk
  · rintro i _ ⟨g, hg⟩; cases hg
  · intro p q hp; cases hp
theorem trace_whole {x : Srch} {s mw : Nat} (hx : SrchIn x mw) (hN : x.N ≤ 65536) (hs : s < x.N) (hmw : mw ≤ 281474976710656 / 2) : ∃ xs, Trace x (reachS x.most (st0 x.N) s 0) xs ∧ Far x s mw xs :=
  trace_is hx hN hs hmw _ [] _ rfl (trace_begins hs)
end Go.Proofs.Ytpnncadglhlclaa
