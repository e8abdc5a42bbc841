/- Which edges many need: an edge is told (a region that draws its order, in a round): what is known in its midst. -/
import Derived.Test.YtomednfddpggaaaQBridgeFarther11
/- Which edges many need: an edge is told (a region that draws its order, in a round): what is known in its midst. -/
namespace Go.Proofs.Ytomednfddpggaaa
open Go Go.RowKit
structure BwR (b : BwB) (A : Option Addr) (c : Nat) (s : BwS) (i : Nat) (W : World) (V : Nat → Option Value) (D : Nat → Bool) (g : Nat → Value) (w : World) : Prop where
  cs : ∀ j u, V j = some u → D j = true → g j = u
  touch : Touch (fun k => k = b.bx ∨ ∃ p, A = some p ∧ p.block = k) W w
  lit : D 6 = true → D 7 = false → ∃ q, g 6 = .slice (some ⟨q, 0, none⟩) 1 1 ∧ Holds w ⟨q, 0, none⟩ (.int .i64 (i : Int)) ∧ W.heap.size ≤ q
  old : D 7 = false → Own w 0 3 1 A s.cuts.length c (nv s.cuts)
  new : D 7 = true → ∃ A2 c2, g 7 = .slice A2 (s.cuts.length + 1) c2 ∧ Own w 0 3 1 A2 (s.cuts.length + 1) c2 (nv s.cuts ++ [.int .i64 (i : Int)]) ∧ ∀ p, A2 = some p → (∃ q, A = some q ∧ q.block = p.block) ∨ W.heap.size ≤ p.block
  x : Arr w b.bx 82 [.pointer (some ⟨b.ba, 0, none⟩), .slice (some ⟨b.bm, 0, none⟩) b.N b.N, .slice (some ⟨b.bl, 0, none⟩) b.N b.N, .int .i64 s.now, if D 10 = true then g 7 else .slice A s.cuts.length c]
section
variable {b : BwB} {A : Option Addr} {c i0 : Nat} {s : BwS} {W w w' : World} {V : Nat → Option Value} {D : Nat → Bool} {g : Nat → Value}
theorem updB_no (g : Nat → Value) {i j : Nat} (u : Value) (h : j ≠ i) : updG g i u j = g j := if_neg h
theorem updB_yes (g : Nat → Value) (i : Nat) (u : Value) : updG g i u i = u := if_pos rfl
theorem BwR.plain (h : BwR b A c s i0 W V D g w) (hg : Grows w w') {i : Nat} {u : Value} (hi : i ≠ 6 ∧ i ≠ 7 ∧ i ≠ 10) (hv : ∀ x, V i = some x → u = x) :
    BwR b A c s i0 W V (fun j => if j = i then true else D j) (updG g i u) w' := by
  obtain ⟨n11, n12, n15⟩ := hi
  have ne : ∀ j : Nat, j ≠ i → (if j = i then true else D j) = D j := fun j hj => if_neg hj
  refine ⟨fun j x hx hD => ?_, h.touch.grows hg, ?_, ?_, ?_, ?_⟩
  · by_cases e : j = i
    · subst e; rw [updB_yes]; exact hv x hx
    · rw [updB_no _ _ e]; exact h.cs j x hx (by rwa [ne j e] at hD)
  · simp only [ne 6 (Ne.symm n11), ne 7 (Ne.symm n12), updB_no g u (Ne.symm n11)]
    intro p q
    obtain ⟨x, y, z, t⟩ := h.lit p q
    exact ⟨x, y, ⟨hg.keeps z.cell⟩, t⟩
  · simp only [ne 7 (Ne.symm n12)]
    exact fun p => (h.old p).grows hg
  · simp only [ne 7 (Ne.symm n12), updB_no g u (Ne.symm n12)]
    intro p
    obtain ⟨x, y, z, t, r⟩ := h.new p
    exact ⟨x, y, z, t.grows hg, r⟩
  · simp only [ne 10 (Ne.symm n15), updB_no g u (Ne.symm n12)]
    exact h.x.grow hg
theorem BwR.litS (h : BwR b A c s i0 W V D g w) (hV : V 6 = none) :
    BwR b A c s i0 W V (fun j => if j = 6 then true else D j) (updG g 6 (.slice (some ⟨w.heap.size, 0, none⟩) 1 1)) (w.alloc (.cells #[.int .i64 (i0 : Int)] 3)) := by
  have hg : Grows w (w.alloc (.cells #[.int .i64 (i0 : Int)] 3)) := (Grows.refl w).new _
  refine ⟨fun j x hx hD => ?_, h.touch.grows hg, ?_, ?_, ?_, ?_⟩
  · by_cases e : j = 6
    · subst e; rw [hV] at hx; cases hx
    · rw [updB_no _ _ e]; exact h.cs j x hx (by simpa [e] using hD)
  · intro _ _
    exact ⟨w.heap.size, updB_yes _ _ _, inferInstance, h.touch.size⟩
  · simp only [show ((7 : Nat) = 6) = False by decide, if_false]
    exact fun p => (h.old p).grows hg
  · simp only [show ((7 : Nat) = 6) = False by decide, if_false, updB_no g _ (show (7 : Nat) ≠ 6 by decide)]
    intro p
    obtain ⟨x, y, z, t, r⟩ := h.new p
    exact ⟨x, y, z, t.grows hg, r⟩
  · simp only [show ((10 : Nat) = 6) = False by decide, if_false, updB_no g _ (show (7 : Nat) ≠ 6 by decide)]
    exact h.x.grow hg
theorem BwR.appS (hW : BwAt W b A c s) (h : BwR b A c s i0 W V D g w) (hV : V 7 = none) (h15 : D 10 = false) {A2 : Option Addr} {c2 : Nat}
    (ho : Own w' 0 3 1 A2 (s.cuts.length + 1) c2 (nv s.cuts ++ [.int .i64 (i0 : Int)])) (ht : Touch (fun k => ∃ p, A = some p ∧ p.block = k) w w') (hl : ∀ p, A2 = some p → (∃ q, A = some q ∧ q.block = p.block) ∨ New w w' p.block) :
    BwR b A c s i0 W V (fun j => if j = 7 then true else D j) (updG g 7 (.slice A2 (s.cuts.length + 1) c2)) w' := by
  obtain ⟨_, n8⟩ := hW.nes
  refine ⟨fun j x hx hD => ?_, h.touch.trans (ht.mono fun k hk => .inr hk), ?_, ?_, ?_, ?_⟩
  · by_cases e : j = 7
    · subst e; rw [hV] at hx; cases hx
    · rw [updB_no _ _ e]; exact h.cs j x hx (by simpa [e] using hD)
  · intro _ q
    simp at q
  · intro q
    simp at q
  · intro _
    exact ⟨A2, c2, updB_yes _ _ _, ho, fun p hp => (hl p hp).imp id fun hn => Nat.le_trans h.touch.size hn.1⟩
  · simp only [show ((10 : Nat) = 7) = False by decide, if_false, h15, Bool.false_eq_true]
    have := h.x
    rw [h15] at this
    simp only [Bool.false_eq_true, if_false] at this
    exact this.touch ht (by rintro ⟨p, hp, e⟩; exact n8 p hp e)
theorem BwR.stS (h : BwR b A c s i0 W V D g w) (hV : V 10 = none) (h12 : D 7 = true) {u : Value} :
    BwR b A c s i0 W V (fun j => if j = 10 then true else D j) (updG g 10 u) (w.setCell ⟨b.bx, 4, none⟩ (g 7)) := by
  refine ⟨fun j x hx hD => ?_, h.touch.set (.inl (.inl rfl)) _, ?_, ?_, ?_, ?_⟩
  · by_cases e : j = 10
    · subst e; rw [hV] at hx; cases hx
    · rw [updB_no _ _ e]; exact h.cs j x hx (by simpa [e] using hD)
  · intro _ q
    simp [h12] at q
  · intro q
    simp [h12] at q
  · intro _
    obtain ⟨x, y, z, t, r⟩ := h.new h12
    exact ⟨x, y, by rw [updB_no g _ (show (7 : Nat) ≠ 10 by decide)]; exact z, t.othr (fun p hp => t.not_arr h.x (by decide) p hp) _, r⟩
  · simp only [updB_no g _ (show (7 : Nat) ≠ 10 by decide), if_true]
    have := h.x.set 4 (g 7)
    simpa using this
theorem BwR.fin (hW : BwAt W b A c s) (h : BwR b A c s i0 W V D g w) (hD : ∀ j, j < 11 → D j = true) :
    ∃ A2 c2, BwAt w b A2 c2 { s with cuts := s.cuts ++ [i0] } ∧ Touch (BwOwn b A) W w ∧ ∀ k, BwOwn b A2 k → BwOwn b A k ∨ W.heap.size ≤ k := by
  obtain ⟨⟨n1, n2⟩, n8⟩ := hW.nes
  obtain ⟨A2, c2, e, ho, hl⟩ := h.new (hD 7 (by decide))
  have out : ∀ {k}, (k = b.bm ∨ k = b.bl) → ¬ (k = b.bx ∨ ∃ p, A = some p ∧ p.block = k) := by
    rintro k hk (e | ⟨p, hp, e⟩)
    · rcases hk with rfl | rfl
      · exact n1 e.symm
      · exact n2 e.symm
    · obtain ⟨a1, a2⟩ := hW.disA p hp
      rcases hk with rfl | rfl
      · exact a1 e
      · exact a2 e
  have e1 : (s.cuts ++ [i0]).length = s.cuts.length + 1 := by simp
  have e2 : nv (s.cuts ++ [i0]) = nv s.cuts ++ [.int .i64 (i0 : Int)] := by simp [nv]
  have q1 := h.x
  rw [hD 10 (by decide), if_pos rfl, e] at q1
  refine ⟨A2, c2, ⟨?_, hW.m.touch h.touch (out (.inl rfl)), hW.l.touch h.touch (out (.inr rfl)), ?_, hW.dis, fun p hp => ?_⟩, h.touch.mono ?_, ?_⟩
  · show Arr _ _ _ [_, _, _, _, .slice A2 (s.cuts ++ [i0]).length c2]
    rw [e1]; exact q1
  · show Own _ _ _ _ _ (s.cuts ++ [i0]).length _ (nv (s.cuts ++ [i0]))
    rw [e1, e2]; exact ho
  · rcases hl p hp with ⟨q, hq, e3⟩ | hge
    · rw [← e3]; exact hW.disA q hq
    · have a1 := hW.m.lt; have a2 := hW.l.lt
      omega
  · rintro k (rfl | hk)
    · exact .inl (.inl rfl)
    · exact .inr hk
  · rintro k (hk | ⟨p, hp, rfl⟩)
    · exact .inl (.inl hk)
    · rcases hl p hp with ⟨q, hq, e3⟩ | hge
      · exact .inl (.inr ⟨q, hq, e3⟩)
      · exact .inr hge
end
section
variable {F : Fence} {m : Nat} {w : World} {e : TypeId} {ops : Array Oper} {o : Oper} {a : Act} {Q : Exit → Act → World → Prop} {K : Act → World → Prop} {R : Prop}
/-- append of one element of one cell, as a step of a region in a round. -/
theorem step_appIn (hF : WideF F) {t : TypeId} (T : Elem t e 1) (hgd : o.guard = none) (s x : Operand) (ho : o.op = .call { callee := .builtin .append, args := #[s, x], argTypes := #[t, t] })
    (n c : Nat) (A : Option Addr) (xs : List Value) (hs : a.eval s = .slice A n c) (hown : Own w 0 e 1 A n c xs) (g c' : Nat) (v : Value) (hx : a.eval x = .slice (some ⟨g, 0, none⟩) 1 c')
    (hv : Holds w ⟨g, 0, none⟩ v) (h1 : v.oneCell' = true) (hnm : n + 1 ≤ 1000000000000)
    (h : ∀ A' c'' w', Own w' 0 e 1 A' (n + 1) c'' (xs ++ [v]) → Touch (fun k => ∃ p, A = some p ∧ p.block = k) w w' → (∀ p, A' = some p → (∃ q, A = some q ∧ q.block = p.block) ∨ New w w' p.block) → K (a.put o.dst (.slice A' (n + 1) c'')) w') :
    if Region.wanted o (yielded ops a.tmps) = true then Oper.wpIn F m Try.prog o a w K Q else R := by
  have hw : Region.wanted o (yielded ops a.tmps) = true := by simp [Region.wanted, hgd]
  rw [if_pos hw]
  obtain ⟨i, z, bytes, hi, hz, hsz, hby, hzs, hb64⟩ := T.info
  obtain ⟨v', w', hr, hown', hgr, _, hat⟩ := run_append_own_at (P := Try.prog) w 0 t o.type e i z 1 bytes T.under hi hz hsz hby hzs T.pos (.slice A n c) n xs hown ⟨g, 0, none⟩ 1 c' [v] rfl (fun j u hu => by
    have hj : j = 0 := by
      have := (List.getElem?_eq_some_iff.1 hu).1
      simpa using this
    subst hj
    simp at hu
    subst hu
    simpa [Addr.add] using hv.cell) (by intro u hu; simp at hu; rw [hu]; exact h1) (by unfold maxLen; omega) (Nat.le_trans (Nat.mul_le_mul hnm hb64) (by omega)) (Nat.zero_le _)
  obtain ⟨A', c'', rfl⟩ := own_form hown'
  have ht : Touch (fun k => ∃ p, A = some p ∧ p.block = k) w w' := (Touch.refl _ w).grown hgr fun k hk => .inl (by
    cases A with
    | none => simp [Value.ownBlock] at hk
    | some p => simp [Value.ownBlock] at hk; exact ⟨p, rfl, hk⟩)
  have hloc : ∀ p, A' = some p → (∃ q, A = some q ∧ q.block = p.block) ∨ New w w' p.block := fun p hp => by
    have hlt := (hown'.lt p.block (by subst hp; rfl)).2
    subst hp
    simp only [Value.ownBlock] at hat
    rcases hat with hat | hat
    · left
      cases A with
      | none => simp at hat
      | some q => exact ⟨q, rfl, by simpa using hat.symm⟩
    · right
      have e9 : p.block = w.heap.size := by simpa using hat
      exact ⟨Nat.le_of_eq e9.symm, hlt⟩
  refine wpIn_of_runs (q := fun u w1 => u = .slice A' (n + 1) c'' ∧ w1 = w') hF (by rw [ho]) ?_ fun u w1 hq => ?_
  · unfold execOp
    simp only [ho, resolve, invoke, builtin, Sem.run_bind, Sem.run_pure, Result.andThen_ok, List.map_toArray, List.map_cons, List.map_nil, hs, hx, hr]
    exact ⟨rfl, rfl⟩
  · obtain ⟨rfl, rfl⟩ := hq
    exact h A' c'' w1 hown' ht hloc
end
end Go.Proofs.Ytomednfddpggaaa
