/- Who comes to whom (Tarjan): what the parts are. -/
import Derived.Test.YtomednfddpggaaaGreatQStatFar16
import Derived.Test.YtomednfddpggaaaGreatQStatFar08
import Derived.Test.YtomednfddpggaaaGreatQStatFar19
/- Who comes to whom (Tarjan): what the parts are. -/
namespace Go.Proofs.YtomednfddpggaaaGreat
open Go Go.RowKit
inductive Rw (row : Nat → List Nat) (a : Nat) : Nat → Prop
  | here : Rw row a a
  | step {b c : Nat} : Rw row a b → c ∈ row b → Rw row a c
theorem Rw.trans {row : Nat → List Nat} {a b c : Nat} (h : Rw row a b) (k : Rw row b c) : Rw row a c := by
  induction k with
  | here => exact h
  | step _ hc ih => exact ih.step hc
theorem Rw.one {row : Nat → List Nat} {a b : Nat} (h : b ∈ row a) : Rw row a b := Rw.here.step h
def TjS.done (s : TjS) (x : Nat) : Prop := gi s.met x ≠ 0 ∧ x ∉ s.stk
structure TjV (row : Nat → List Nat) (N : Nat) (G : Nat → Prop) (s : TjS) : Prop where
  ok : TjOk N s
  und : ∀ u, gbo s.und u = true ↔ u ∈ s.stk
  pos : ∀ u, 0 ≤ gi s.met u ∧ gi s.met u ≤ s.now
  srt : s.stk.Pairwise fun a b => gi s.met a < gi s.met b
  gs : ∀ u, G u → u ∈ s.stk
  up : ∀ g x, G g → x ∈ s.stk → gi s.met g ≤ gi s.met x → Rw row g x
  down : ∀ x ∈ s.stk, ∃ g, G g ∧ gi s.met g ≤ gi s.met x ∧ Rw row x g
  blk : ∀ x, gi s.met x ≠ 0 → ¬ G x → ∀ y ∈ row x, gi s.met y ≠ 0
  cl : ∀ x, s.done x → ∀ y ∈ row x, s.done y
  prep : ∀ x, s.done x → ∃ r : Nat, gi s.part x = (r : Int) ∧ s.done r ∧ Rw row x r ∧ Rw row r x
  part : ∀ x y, s.done x → s.done y → Rw row x y → Rw row y x → gi s.part x = gi s.part y
section
variable {row : Nat → List Nat} {N : Nat} {G : Nat → Prop} {s s' : TjS} {v : Nat}
theorem TjV.reach (h : TjV row N G s) {x y : Nat} (hx : s.done x) (hr : Rw row x y) : s.done y := by
  induction hr with
  | here => exact hx
  | step _ hc ih => exact h.cl _ ih _ hc
theorem TjV.lower (h : TjV row N G s) (v : Nat) (x : Int) : TjV row N G (s.lower v x) :=
  ⟨h.ok.lower v x, h.und, h.pos, h.srt, h.gs, h.up, h.down, h.blk, h.cl, h.prep, h.part⟩
theorem gbo_set (l : List Bool) (j k : Nat) (b : Bool) (hj : j < l.length) : gbo (l.set j b) k = if k = j then b else gbo l k := by
  unfold gbo
  by_cases h : k = j
  · subst h; simp [hj]
  · rw [if_neg h]
    simp [List.getElem?_set, Ne.symm h]
theorem TjV.enter (h : TjV row N G s) (hv : v < N) (h0 : gi s.met v = 0) (hG : ∀ g, G g → Rw row g v) : TjV row N (fun g => G g ∨ g = v) (s.enter v) := by
  have hvl : v < s.met.length := by rw [h.ok.m]; exact hv
  have hvu : v < s.und.length := by rw [h.ok.u]; exact hv
  have hle := h.ok.le
  have hns : v ∉ s.stk := fun e => (h.ok.stk v e).2 h0
  have em : ∀ u, gi (s.enter v).met u = if u = v then s.now + 1 else gi s.met u := fun u => gi_set2 _ _ _ _ hvl
  have ne : ∀ u, gi s.met u ≠ 0 → u ≠ v := fun u hu e => hu (by rw [e]; exact h0)
  have es : ∀ u, u ∈ (s.enter v).stk ↔ u ∈ s.stk ∨ u = v := fun u => by simp [TjS.enter]
  have ed : ∀ u, (s.enter v).done u ↔ s.done u := fun u => by
    unfold TjS.done
    rw [em, es]
    by_cases e : u = v
    · subst e
      simp [h0]
    · simp [e]
  refine ⟨(h.ok.enter hv h0).1, fun u => ?_, fun u => ?_, ?_, fun u hu => ?_, fun g x hg hx hgx => ?_, fun x hx => ?_, fun x hx hg y hy => ?_, fun x hx y hy => ?_, fun x hx => ?_, fun x y hx hy => ?_⟩
  · rw [es]
    show gbo (s.und.set v true) u = true ↔ _
    rw [gbo_set _ _ _ _ hvu]
    split
    · rename_i e; simp [e]
    · rename_i e; rw [h.und]; simp [e]
  · rw [em]
    have := h.pos u
    show _ ∧ _ ≤ s.now + 1
    split <;> omega
  · show (s.stk ++ [v]).Pairwise _
    rw [List.pairwise_append]
    refine ⟨h.srt.imp_of_mem fun {a b} ha hb hab => ?_, List.pairwise_singleton _ _, fun a ha b hb => ?_⟩
    · rw [em, em, if_neg (ne a (h.ok.stk a ha).2), if_neg (ne b (h.ok.stk b hb).2)]
      exact hab
    · rw [List.mem_singleton] at hb
      rw [em, em, if_neg (ne a (h.ok.stk a ha).2), if_pos hb]
      have := h.pos a
      omega
  · rw [es]
    exact hu.imp (h.gs u) id
  · rw [es] at hx
    rw [em, em] at hgx
    rcases hx with hx | hx
    · rw [if_neg (ne x (h.ok.stk x hx).2)] at hgx
      rcases hg with hg | hg
      · rw [if_neg (ne g (h.ok.stk g (h.gs g hg)).2)] at hgx
        exact h.up g x hg hx hgx
      · rw [if_pos hg] at hgx
        have := h.pos x
        omega
    · subst hx
      rcases hg with hg | hg
      · exact hG g hg
      · subst hg; exact .here
  · rw [es] at hx
    rcases hx with hx | hx
    · obtain ⟨g, h1, h2, h3⟩ := h.down x hx
      refine ⟨g, .inl h1, ?_, h3⟩
      rw [em, em, if_neg (ne g (h.ok.stk g (h.gs g h1)).2), if_neg (ne x (h.ok.stk x hx).2)]
      exact h2
    · exact ⟨x, .inr hx, Int.le_refl _, .here⟩
  · have hxv : x ≠ v := fun e => hg (.inr e)
    rw [em, if_neg hxv] at hx
    have := h.blk x hx (fun e => hg (.inl e)) y hy
    rw [em]
    split
    · omega
    · exact this
  · rw [ed] at hx ⊢
    exact h.cl x hx y hy
  · rw [ed] at hx
    obtain ⟨r, h1, h2, h3⟩ := h.prep x hx
    exact ⟨r, h1, (ed r).2 h2, h3⟩
  · rw [ed] at hx hy
    exact h.part x y hx hy
structure TjP (row : Nat → List Nat) (N : Nat) (G : Nat → Prop) (v : Nat) (s s' : TjS) : Prop where
  is : TjV row N G s'
  x : TjX s s'
  here : gi s'.met v ≠ 0
  low : ∀ u, gi s.met u ≠ 0 → gi s'.low u = gi s.low u
  new : ∀ u, gi s.met u = 0 → gi s'.met u ≠ 0 → s.now < gi s'.met u
  back : (gi s'.low v = gi s'.met v) ∨ ∃ x ∈ s.stk, gi s.met x = gi s'.low v ∧ Rw row v x
  edges : ∀ x ∈ s'.stk, x ∉ s.stk → ∀ y ∈ row x, y ∈ s.stk → gi s'.low v ≤ gi s.met y
structure TjE (row : Nat → List Nat) (N : Nat) (G : Nat → Prop) (v : Nat) (s0 : TjS) (p : List Nat) (s : TjS) : Prop where
  is : TjV row N (fun g => G g ∨ g = v) s
  x : TjX (s0.enter v) s
  low : ∀ u, gi s0.met u ≠ 0 → gi s.low u = gi s0.low u
  new : ∀ u, gi s0.met u = 0 → gi s.met u ≠ 0 → s0.now < gi s.met u
  le : gi s.low v ≤ gi s.met v
  back : ∃ x ∈ s.stk, gi s.met x = gi s.low v ∧ Rw row v x
  edges : ∀ x ∈ s.stk, x ∉ (s0.enter v).stk → ∀ y ∈ row x, y ∈ s0.stk → gi s.low v ≤ gi s.met y
  own : ∀ y ∈ p, gi s.met y ≠ 0 ∧ (y ∈ s0.stk → gi s.low v ≤ gi s.met y)
end
section
variable {row : Nat → List Nat} {N : Nat} {G : Nat → Prop} {s s' s0 : TjS} {v : Nat} {p : List Nat}
theorem TjE.start (h : TjV row N G s0) (hv : v < N) (h0 : gi s0.met v = 0) (hG : ∀ g, G g → Rw row g v) : TjE row N G v s0 [] (s0.enter v) := by
  have hvl : v < s0.met.length := by rw [h.ok.m]; exact hv
  have hvw : v < s0.low.length := by rw [h.ok.l]; exact hv
  have em : ∀ u, gi (s0.enter v).met u = if u = v then s0.now + 1 else gi s0.met u := fun u => gi_set2 _ _ _ _ hvl
  have el : ∀ u, gi (s0.enter v).low u = if u = v then s0.now + 1 else gi s0.low u := fun u => gi_set2 _ _ _ _ hvw
  refine ⟨h.enter hv h0 hG, TjX.refl _, fun u hu => ?_, fun u hu hu' => ?_, ?_, ⟨v, by simp [TjS.enter], ?_, .here⟩, fun x hx hx' => absurd hx hx', fun y hy => by cases hy⟩
  · rw [el, if_neg (fun e => hu (by rw [e]; exact h0))]
  · rw [em] at hu' ⊢
    split at hu'
    · rename_i e; rw [if_pos e]; omega
    · exact absurd hu hu'
  · rw [em, el]; simp
  · rw [em, el]; simp
theorem gi_low (h : v < s.low.length) (x : Int) (u : Nat) : gi (s.lower v x).low u = if u = v then min (gi s.low v) x else gi s.low u := gi_set2 _ _ _ _ h
theorem TjE.step (hv : v < N) (h0 : gi s0.met v = 0) (hV : TjV row N G s0) (hG : ∀ g, G g → Rw row g v) (h : TjE row N G v s0 p s) {u : Nat} (hu : u ∈ row v) {rec : Nat → TjS → TjS}
    (hrec : gi s.met u = 0 → TjP row N (fun g => G g ∨ g = v) u s (rec u s)) : TjE row N G v s0 (p ++ [u]) (s.edge rec v u) := by
  have hvm : gi (s0.enter v).met v = s0.now + 1 := by
    show gi (s0.met.set v (s0.now + 1)) v = _
    rw [gi_set2 _ _ _ _ (by rw [hV.ok.m]; exact hv), if_pos rfl]
  have hle0 := hV.ok.le
  have hvs : gi s.met v = s0.now + 1 := by rw [h.x.met v (by rw [hvm]; omega), hvm]
  have old : ∀ y, y ∈ s0.stk → gi s.met y = gi s0.met y ∧ gi s0.met y ≠ 0 ∧ y ∈ s.stk := fun y hy => by
    have h1 := (hV.ok.stk y hy).2
    have h2 : y ≠ v := fun e => h1 (by rw [e]; exact h0)
    have h3 : gi (s0.enter v).met y = gi s0.met y := by
      show gi (s0.met.set v (s0.now + 1)) y = _
      rw [gi_set2 _ _ _ _ (by rw [hV.ok.m]; exact hv), if_neg h2]
    exact ⟨by rw [h.x.met y (by rw [h3]; exact h1), h3], h1, h.x.stk.subset (by simp [TjS.enter, hy])⟩
  obtain ⟨x0, hx0, hx1, hx2⟩ := h.back
  unfold TjS.edge
  split
  · rename_i hu0
    have P := hrec hu0
    have hll : v < (rec u s).low.length := by rw [P.is.ok.l]; exact hv
    have hvne : gi s.met v ≠ 0 := by rw [hvs]; omega
    have hlv : gi (rec u s).low v = gi s.low v := P.low v hvne
    have el : gi ((rec u s).lower v (gi (rec u s).low u)).low v = min (gi s.low v) (gi (rec u s).low u) := by rw [gi_low hll, if_pos rfl, hlv]
    refine ⟨P.is.lower _ _, h.x.trans (P.x.trans (TjX.lower _ _ _)), fun y hy => ?_, fun y hy hy' => ?_, ?_, ?_, fun x hx hx' y hy hy' => ?_, fun y hy => ?_⟩
    · have h1 : y ≠ v := fun e => hy (by rw [e]; exact h0)
      have h2 : gi s.met y ≠ 0 := by
        have h3 : gi (s0.enter v).met y = gi s0.met y := by
          show gi (s0.met.set v (s0.now + 1)) y = _
          rw [gi_set2 _ _ _ _ (by rw [hV.ok.m]; exact hv), if_neg h1]
        rw [h.x.met y (by rw [h3]; exact hy), h3]; exact hy
      rw [gi_low hll, if_neg h1, P.low y h2]
      exact h.low y hy
    · show s0.now < gi (rec u s).met y
      by_cases h1 : gi s.met y = 0
      · have := P.new y h1 hy'
        have h3 : s0.now ≤ s.now := by
          have := (h.is.pos v).2
          omega
        omega
      · rw [P.x.met y h1]
        exact h.new y hy h1
    · rw [el]
      show _ ≤ gi (rec u s).met v
      rw [P.x.met v hvne]
      have := h.le
      omega
    · rw [el]
      show ∃ x ∈ (rec u s).stk, gi (rec u s).met x = _ ∧ _
      have hx3 := h.is.ok.stk x0 hx0
      rcases P.back with hb | ⟨x, hb1, hb2, hb3⟩
      · have h4 := P.new u hu0 P.here
        have h5 := (h.is.pos x0).2
        refine ⟨x0, P.x.stk.subset hx0, ?_, hx2⟩
        rw [P.x.met x0 hx3.2, hx1, hb]
        omega
      · by_cases hc : gi s.low v ≤ gi (rec u s).low u
        · refine ⟨x0, P.x.stk.subset hx0, ?_, hx2⟩
          rw [P.x.met x0 hx3.2, hx1]
          omega
        · refine ⟨x, P.x.stk.subset hb1, ?_, (Rw.one hu).trans hb3⟩
          rw [P.x.met x (h.is.ok.stk x hb1).2, hb2]
          omega
    · rw [el]
      show _ ≤ gi (rec u s).met y
      have h1 := old y hy'
      rw [P.x.met y (by rw [h1.1]; exact h1.2.1)]
      by_cases hxs : x ∈ s.stk
      · have := h.edges x hxs hx' y hy hy'
        omega
      · have := P.edges x hx hxs y hy h1.2.2
        omega
    · rw [el]
      show gi (rec u s).met y ≠ 0 ∧ (_ → _ ≤ gi (rec u s).met y)
      rw [List.mem_append, List.mem_singleton] at hy
      rcases hy with hy | rfl
      · have h1 := h.own y hy
        rw [P.x.met y h1.1]
        exact ⟨h1.1, fun hs => by have := h1.2 hs; omega⟩
      · refine ⟨P.here, fun hs => ?_⟩
        have := old y hs
        rw [hu0] at this
        exact absurd this.1.symm this.2.1
  · rename_i hu0
    split
    · rename_i hun
      have hus := (h.is.und u).1 hun
      have hll : v < s.low.length := by rw [h.is.ok.l]; exact hv
      have el : gi (s.lower v (gi s.met u)).low v = min (gi s.low v) (gi s.met u) := by rw [gi_low hll, if_pos rfl]
      refine ⟨h.is.lower _ _, h.x.trans (TjX.lower _ _ _), fun y hy => ?_, h.new, ?_, ?_, fun x hx hx' y hy hy' => ?_, fun y hy => ?_⟩
      · rw [gi_low hll, if_neg (fun e => hy (by rw [e]; exact h0))]
        exact h.low y hy
      · rw [el]
        show _ ≤ gi s.met v
        have := h.le
        omega
      · rw [el]
        show ∃ x ∈ s.stk, gi s.met x = _ ∧ _
        by_cases hc : gi s.low v ≤ gi s.met u
        · exact ⟨x0, hx0, by rw [hx1]; omega, hx2⟩
        · exact ⟨u, hus, by omega, Rw.one hu⟩
      · rw [el]
        have := h.edges x hx hx' y hy hy'
        show _ ≤ gi s.met y
        omega
      · rw [el]
        show gi s.met y ≠ 0 ∧ (_ → _ ≤ gi s.met y)
        rw [List.mem_append, List.mem_singleton] at hy
        rcases hy with hy | rfl
        · have h1 := h.own y hy
          exact ⟨h1.1, fun hs => by have := h1.2 hs; omega⟩
        · exact ⟨hu0, fun _ => by omega⟩
    · rename_i hun
      refine ⟨h.is, h.x, h.low, h.new, h.le, h.back, h.edges, fun y hy => ?_⟩
      rw [List.mem_append, List.mem_singleton] at hy
      rcases hy with hy | rfl
      · exact h.own y hy
      · exact ⟨hu0, fun hs => absurd ((h.is.und y).2 (old y hs).2.2) hun⟩
end
theorem setAll_gi (x : Int) (u : Nat) : ∀ (l : List Nat) (p : List Int), (∀ y ∈ l, y < p.length) → gi (setAll p l x) u = if u ∈ l then x else gi p u
  | [], p, _ => by simp [setAll]
  | y :: l, p, h => by
    have := setAll_gi x u l (p.set y x) (fun z hz => by rw [List.length_set]; exact h z (by simp [hz]))
    show gi (setAll (p.set y x) l x) u = _
    rw [this, gi_set2 _ _ _ _ (h y (by simp))]
    by_cases h1 : u ∈ l
    · simp [h1]
    · by_cases h2 : u = y <;> simp [h1, h2]
theorem setAll_gbo (x : Bool) (u : Nat) : ∀ (l : List Nat) (p : List Bool), (∀ y ∈ l, y < p.length) → gbo (setAll p l x) u = if u ∈ l then x else gbo p u
  | [], p, _ => by simp [setAll]
  | y :: l, p, h => by
    have := setAll_gbo x u l (p.set y x) (fun z hz => by rw [List.length_set]; exact h z (by simp [hz]))
    show gbo (setAll (p.set y x) l x) u = _
    rw [this, gbo_set _ _ _ _ (h y (by simp))]
    by_cases h1 : u ∈ l
    · simp [h1]
    · by_cases h2 : u = y <;> simp [h1, h2]
theorem gn_mem {l : List Nat} {k : Nat} (h : k < l.length) : gn l k ∈ l := by
  have : gn l k = l[k] := by simp [gn, h]
  rw [this]
  exact List.getElem_mem h
theorem minT_mem {l : List Nat} (h : 0 < l.length) : ∀ k, k ≤ l.length → minT l k ∈ l
  | 0, _ => gn_mem h
  | k + 1, hk => by
    show min (minT l k) (gn l k) ∈ l
    rcases Nat.le_total (minT l k) (gn l k) with h1 | h1
    · rw [Nat.min_eq_left h1]; exact minT_mem h k (by omega)
    · rw [Nat.min_eq_right h1]; exact gn_mem (by omega)
section
variable {row : Nat → List Nat} {N : Nat} {G : Nat → Prop} {s s' s0 : TjS} {v : Nat} {p : List Nat}
theorem TjE.close (hv : v < N) (h0 : gi s0.met v = 0) (hV : TjV row N G s0) (h : TjE row N G v s0 (row v) s) : TjP row N G v s0 (s.close v) := by
  have hvm : gi (s0.enter v).met v = s0.now + 1 := by
    show gi (s0.met.set v (s0.now + 1)) v = _
    rw [gi_set2 _ _ _ _ (by rw [hV.ok.m]; exact hv), if_pos rfl]
  have hle0 := hV.ok.le
  have hvs : gi s.met v = s0.now + 1 := by rw [h.x.met v (by rw [hvm]; omega), hvm]
  have hvne : gi s.met v ≠ 0 := by omega
  have hns : v ∉ s0.stk := fun e => (hV.ok.stk v e).2 h0
  have em0 : ∀ y, gi s0.met y ≠ 0 → gi s.met y = gi s0.met y := fun y h1 => by
    have h2 : y ≠ v := fun e => h1 (by rw [e]; exact h0)
    have h3 : gi (s0.enter v).met y = gi s0.met y := by
      show gi (s0.met.set v (s0.now + 1)) y = _
      rw [gi_set2 _ _ _ _ (by rw [hV.ok.m]; exact hv), if_neg h2]
    rw [h.x.met y (by rw [h3]; exact h1), h3]
  have old : ∀ y, y ∈ s0.stk → gi s.met y = gi s0.met y ∧ gi s.met y ≤ s0.now := fun y hy => by
    have h1 := (hV.ok.stk y hy).2
    have := em0 y h1
    have := hV.pos y
    omega
  have hGv : ∀ g, G g → g ≠ v := fun g hg e => hns (by rw [← e]; exact hV.gs g hg)
  obtain ⟨r, hr⟩ : ∃ r, s.stk = s0.stk ++ v :: r := by
    obtain ⟨r, hr⟩ := h.x.stk
    exact ⟨r, by rw [← hr]; simp [TjS.enter]⟩
  have hsrt := h.is.srt
  rw [hr, List.pairwise_append, List.pairwise_cons] at hsrt
  obtain ⟨hs1, ⟨hs2, hs3⟩, hs4⟩ := hsrt
  have hvin : v ∈ s.stk := by rw [hr]; simp
  have vge : ∀ x ∈ v :: r, gi s.met v ≤ gi s.met x := fun x hx => by
    rcases List.mem_cons.1 hx with rfl | hx
    · exact Int.le_refl _
    · exact Int.le_of_lt (hs2 x hx)
  have hX : TjX s0 s := ⟨em0, by rw [hr]; exact List.prefix_append _ _, by have := (hV.ok.enter hv h0).2; have := h.x.cnt; omega⟩
  have hedge : ∀ x ∈ v :: r, ∀ y ∈ row x, gi s.met y ≠ 0 ∧ (y ∈ s0.stk → gi s.low v ≤ gi s.met y) := fun x hx y hy => by
    rcases List.mem_cons.1 hx with rfl | hx
    · exact h.own y hy
    · have hxv : x ≠ v := fun e => by have := hs2 x hx; rw [e] at this; omega
      have hxs : x ∈ s.stk := by rw [hr]; simp [hx]
      have hxn : x ∉ s0.stk := fun e => by have := hs4 x e v (by simp); have := hs2 x hx; omega
      refine ⟨h.is.blk x (h.is.ok.stk x hxs).2 (fun e => ?_) y hy, fun hs => h.edges x hxs (fun e => ?_) y hy hs⟩
      · rcases e with e | e
        · exact hxn (hV.gs x e)
        · exact hxv e
      · simp only [TjS.enter, List.mem_append, List.mem_singleton] at e
        exact e.elim hxn hxv
  unfold TjS.close
  split
  · rename_i hlt
    obtain ⟨z, hz1, hz2, hz3⟩ := h.back
    have hz0 : z ∈ s0.stk := by
      rw [hr, List.mem_append] at hz1
      rcases hz1 with hz1 | hz1
      · exact hz1
      · have := vge z hz1; omega
    refine ⟨⟨h.is.ok, h.is.und, h.is.pos, h.is.srt, fun u hu => h.is.gs u (.inl hu), fun g x hg hx hgx => h.is.up g x (.inl hg) hx hgx, fun x hx => ?_, fun x hx hg y hy => ?_, h.is.cl, h.is.prep, h.is.part⟩, hX, hvne, h.low, h.new, .inr ⟨z, hz0, ?_, hz3⟩, fun x hx hx' y hy hy' => ?_⟩
    · obtain ⟨g, h1, h2, h3⟩ := h.is.down x hx
      rcases h1 with h1 | rfl
      · exact ⟨g, h1, h2, h3⟩
      · obtain ⟨g2, h4, h5, h6⟩ := h.is.down z hz1
        rcases h4 with h4 | rfl
        · exact ⟨g2, h4, by omega, (h3.trans hz3).trans h6⟩
        · omega
    · by_cases e : x = v
      · subst e; exact (h.own y hy).1
      · exact h.is.blk x hx (fun e2 => e2.elim hg e) y hy
    · rw [← (old z hz0).1]; exact hz2
    · rw [← (old y hy').1]
      rw [hr, List.mem_append] at hx
      rcases hx with hx | hx
      · exact absurd hx hx'
      · exact (hedge x hx y hy).2 hy'
  · rename_i hge
    have hlv : gi s.low v = gi s.met v := by have := h.le; omega
    have hix : ixOf s.stk v = s0.stk.length := by
      unfold ixOf
      rw [hr, List.findIdx_append]
      have e1 : List.findIdx (fun x => x == v) s0.stk = s0.stk.length := by
        rw [List.findIdx_eq_length]
        intro x hx
        simp
        exact fun e => hns (e ▸ hx)
      rw [e1, if_neg (by omega)]
      simp [List.findIdx_cons]
    have hdrop : s.stk.drop (ixOf s.stk v) = v :: r := by rw [hix, hr]; simp
    have htake : s.stk.take (ixOf s.stk v) = s0.stk := by rw [hix, hr]; simp
    have hmem : ∀ x ∈ v :: r, x < N := fun x hx => (h.is.ok.stk x (by rw [hr]; exact List.mem_append_right _ hx)).1
    have hnin : ∀ x ∈ v :: r, x ∉ s0.stk := fun x hx e => by have := vge x hx; have := old x e; omega
    obtain ⟨m, hm⟩ : ∃ m, m = minL (v :: r) := ⟨_, rfl⟩
    have hmin : m ∈ v :: r := by rw [hm]; exact minT_mem (by simp) _ (Nat.le_refl _)
    have ep : ∀ u, gi (s.cut v).part u = if u ∈ v :: r then (m : Int) else gi s.part u := fun u => by
      show gi (setAll s.part (s.stk.drop (ixOf s.stk v)) (minL (s.stk.drop (ixOf s.stk v)) : Int)) u = _
      rw [hdrop, setAll_gi _ _ _ _ (fun y hy => by rw [h.is.ok.p]; exact hmem y hy), hm]
    have eu : ∀ u, gbo (s.cut v).und u = if u ∈ v :: r then false else gbo s.und u := fun u => by
      show gbo (setAll s.und (s.stk.drop (ixOf s.stk v)) false) u = _
      rw [hdrop, setAll_gbo _ _ _ _ (fun y hy => by rw [h.is.ok.u]; exact hmem y hy)]
    have es : (s.cut v).stk = s0.stk := htake
    have eo : ∀ x, (s.cut v).done x ↔ s.done x ∨ x ∈ v :: r := fun x => by
      unfold TjS.done
      rw [es, hr]
      show gi s.met x ≠ 0 ∧ _ ↔ _
      by_cases h1 : x ∈ v :: r
      · have h2 := hnin x h1
        have h3 := vge x h1
        simp only [h1, or_true, iff_true]
        exact ⟨by omega, h2⟩
      · simp only [List.mem_append, h1, or_false]
    have ecl : ∀ x, (s.cut v).done x → ∀ y ∈ row x, (s.cut v).done y := fun x hx y hy => by
      rw [eo] at hx
      rcases hx with hx | hx
      · exact (eo y).2 (.inl (h.is.cl x hx y hy))
      · obtain ⟨h1, h2⟩ := hedge x hx y hy
        refine ⟨h1, fun e => ?_⟩
        rw [es] at e
        have := h2 e
        have := old y e
        omega
    have ereach : ∀ x y, (s.cut v).done x → Rw row x y → (s.cut v).done y := fun x y hx hr => by
      induction hr with
      | here => exact hx
      | step _ hc ih => exact ecl _ ih _ hc
    have hv2 : ∀ x ∈ v :: r, Rw row v x ∧ Rw row x v := fun x hx => by
      have hxs : x ∈ s.stk := by rw [hr]; exact List.mem_append_right _ hx
      refine ⟨h.is.up v x (.inr rfl) hxs (vge x hx), ?_⟩
      obtain ⟨g, h1, h2, h3⟩ := h.is.down x hxs
      rcases h1 with h1 | rfl
      · have h4 := ereach x g ((eo x).2 (.inr hx)) h3
        have := h4.2
        rw [es] at this
        exact absurd (hV.gs g h1) this
      · exact h3
    have hclose : TjOk N (s.cut v) := by
      have := h.is.ok.close v
      unfold TjS.close at this
      rwa [if_neg hge] at this
    refine ⟨⟨hclose, fun u => ?_, h.is.pos, ?_, fun u hu => by rw [es]; exact hV.gs u hu, fun g x hg hx hgx => ?_, fun x hx => ?_, fun x hx hg y hy => ?_, ecl, fun x hx => ?_, fun x y hx hy hxy hyx => ?_⟩, ⟨hX.met, by rw [es]; exact List.prefix_refl _, hX.cnt⟩, hvne, h.low, h.new, .inl hlv, fun x hx hx' => ?_⟩
    · rw [es, eu]
      by_cases h1 : u ∈ v :: r
      · have := hnin u h1
        simp [h1, this]
      · rw [if_neg h1, h.is.und u, hr]
        simp only [List.mem_append, h1, or_false]
    · rw [es]; exact hs1
    · rw [es] at hx
      exact h.is.up g x (.inl hg) (by rw [hr]; exact List.mem_append_left _ hx) hgx
    · rw [es] at hx
      obtain ⟨g, h1, h2, h3⟩ := h.is.down x (by rw [hr]; exact List.mem_append_left _ hx)
      rcases h1 with h1 | rfl
      · exact ⟨g, h1, h2, h3⟩
      · have := old x hx
        have h2' : gi s.met g ≤ gi s.met x := h2
        omega
    · by_cases e : x = v
      · subst e; exact (h.own y hy).1
      · exact h.is.blk x hx (fun e2 => e2.elim hg e) y hy
    · rw [ep]
      by_cases h1 : x ∈ v :: r
      · rw [if_pos h1]
        exact ⟨m, rfl, (eo m).2 (.inr hmin), (hv2 x h1).2.trans (hv2 m hmin).1, (hv2 m hmin).2.trans (hv2 x h1).1⟩
      · rw [if_neg h1]
        obtain ⟨q, h2, h3, h4⟩ := h.is.prep x (((eo x).1 hx).resolve_right h1)
        exact ⟨q, h2, (eo q).2 (.inl h3), h4⟩
    · have key : ∀ x y, (s.cut v).done x → (s.cut v).done y → Rw row x y → x ∉ v :: r → y ∉ v :: r := fun x y hx hy hxy h1 h2 => by
        have h3 := h.is.reach (((eo x).1 hx).resolve_right h1) hxy
        exact h3.2 (by rw [hr]; exact List.mem_append_right _ h2)
      rw [ep, ep]
      by_cases h1 : x ∈ v :: r
      · by_cases h2 : y ∈ v :: r
        · rw [if_pos h1, if_pos h2]
        · exact absurd h1 (key y x hy hx hyx h2)
      · have h2 := key x y hx hy hxy h1
        rw [if_neg h1, if_neg h2]
        exact h.is.part x y (((eo x).1 hx).resolve_right h1) (((eo y).1 hy).resolve_right h2) hxy hyx
    · rw [es] at hx
      exact absurd hx hx'
end
section
variable {row : Nat → List Nat} {N : Nat}
theorem TjE.all {rec : Nat → TjS → TjS} {G : Nat → Prop} {s0 : TjS} {v n : Nat} (hrow : ∀ v, ∀ u ∈ row v, u < N) (hv : v < N) (h0 : gi s0.met v = 0) (hV : TjV row N G s0) (hG : ∀ g, G g → Rw row g v)
    (hrec : ∀ u s G, TjV row N G s → u < N → gi s.met u = 0 → s.met.count 0 ≤ n → (∀ g, G g → Rw row g u) → TjP row N G u s (rec u s)) :
    ∀ (l p : List Nat) (s : TjS), p ++ l = row v → s.met.count 0 ≤ n → TjE row N G v s0 p s → TjE row N G v s0 (row v) (l.foldl (fun s u => s.edge rec v u) s)
  | [], p, s, hp, _, h => by rw [List.append_nil] at hp; rw [← hp]; exact h
  | u :: l, p, s, hp, hc, h => by
    have hu : u ∈ row v := by rw [← hp]; simp
    have h1 := h.step hv h0 hV hG hu (rec := rec) (fun hu0 => hrec u s _ h.is (hrow v u hu) hu0 hc (fun g hg => by
      rcases hg with hg | rfl
      · exact (hG g hg).step hu
      · exact Rw.one hu))
    have hx : (s.edge rec v u).met.count 0 ≤ s.met.count 0 := by
      unfold TjS.edge
      split
      · rename_i hu0
        exact (hrec u s _ h.is (hrow v u hu) hu0 hc (fun g hg => by
          rcases hg with hg | rfl
          · exact (hG g hg).step hu
          · exact Rw.one hu)).x.cnt
      · split <;> exact Nat.le_refl _
    exact TjE.all hrow hv h0 hV hG hrec l (p ++ [u]) _ (by rw [← hp]; simp) (Nat.le_trans hx hc) h1
theorem tj_is (hrow : ∀ v, ∀ u ∈ row v, u < N) : ∀ n v s G, TjV row N G s → v < N → gi s.met v = 0 → s.met.count 0 ≤ n → (∀ g, G g → Rw row g v) → TjP row N G v s (tj row n v s)
  | 0, v, s, G, h, hv, h0, hc, _ => by
    exfalso
    have hvl : v < s.met.length := by rw [h.ok.m]; exact hv
    have e0 : s.met[v] = 0 := by simpa [gi, hvl] using h0
    have hpos : 0 < s.met.count 0 := List.count_pos_iff.2 (by rw [← e0]; exact List.getElem_mem _)
    omega
  | n + 1, v, s, G, h, hv, h0, hc, hG => by
    have hen := (h.ok.enter hv h0).2
    exact TjE.close hv h0 h (TjE.all hrow hv h0 h hG (fun u s G a b c d e => tj_is hrow n u s G a b c d e) (row v) [] (s.enter v) (by simp) (by omega) (TjE.start h hv h0 hG))
theorem TjV.none {s : TjS} (h : TjV row N (fun _ => False) s) : s.stk = [] := by
  rw [List.eq_nil_iff_forall_not_mem]
  intro x hx
  obtain ⟨g, hg, _⟩ := h.down x hx
  exact hg
end
end Go.Proofs.YtomednfddpggaaaGreat

/- Who is come to: round by round, till nothing changes. -/
namespace Go.Proofs.YtomednfddpggaaaGreat
open Go Go.RowKit
def oN (E : List Edg) (back : Bool) : Nat → Nat := if back then fN E else tN E
inductive Rch (E : List Edg) (back : Bool) (s : Nat) : Nat → Prop
  | here : Rch E back s s
  | step {v i : Nat} : Rch E back s v → i < E.length → nN E back i = v → Rch E back s (oN E back i)
def bb (l : List Bool) (i : Nat) : Bool := l.getD i false
theorem bb_set (l : List Bool) (i j : Nat) (b : Bool) (hi : i < l.length) : bb (l.set i b) j = if j = i then b else bb l j := by
  unfold bb
  by_cases h : j = i
  · subst h; simp [hi]
  · simp [h, Ne.symm h]
theorem bb_rep (n i : Nat) : bb (List.replicate n false) i = false := by
  unfold bb
  by_cases h : i < n
  · simp [h]
  · simp [h]
theorem bb_ge {l : List Bool} {i : Nat} (h : l.length ≤ i) : bb l i = false := by unfold bb; simp [h]
theorem bb_ext {a b : List Bool} (hl : a.length = b.length) (h : ∀ i, i < a.length → (bb a i = true ↔ bb b i = true)) : a = b := by
  refine List.ext_getElem hl fun i h1 h2 => ?_
  have e1 : bb a i = a[i] := by simp [bb, h1]
  have e2 : bb b i = b[i] := by simp [bb, h2]
  rw [← e1, ← e2]
  exact Bool.eq_iff_iff.2 (h i h1)
theorem cnt_mono : ∀ (a b : List Bool), a.length = b.length → (∀ i, bb a i = true → bb b i = true) → a.count true ≤ b.count true ∧ ((∃ i, bb a i = false ∧ bb b i = true) → a.count true < b.count true) := by
  intro a
  induction a with
  | nil =>
    intro b hl h
    have : b = [] := List.eq_nil_of_length_eq_zero (by simpa using hl.symm)
    subst this
    exact ⟨Nat.le_refl _, fun ⟨i, _, h2⟩ => by simp [bb] at h2⟩
  | cons x a ih =>
    intro b hl h
    cases b with
    | nil => simp at hl
    | cons y b =>
      obtain ⟨h1, h2⟩ := ih b (by simpa using hl) (fun i hi => by have := h (i + 1); simp only [bb, List.getD_cons_succ] at this ⊢; exact this hi)
      have h0 := h 0
      simp only [bb, List.getD_cons_zero] at h0
      have key : (x :: a).count true ≤ (y :: b).count true := by
        rw [List.count_cons, List.count_cons]
        cases x <;> cases y <;> simp at h0 ⊢ <;> omega
      refine ⟨key, fun ⟨i, h3, h4⟩ => ?_⟩
      cases i with
      | zero =>
        simp only [bb, List.getD_cons_zero] at h3 h4
        subst h3 h4
        rw [List.count_cons, List.count_cons]
        simp
        omega
      | succ i =>
        simp only [bb, List.getD_cons_succ] at h3 h4
        have := h2 ⟨i, h3, h4⟩
        rw [List.count_cons, List.count_cons]
        cases x <;> cases y <;> simp at h0 ⊢ <;> omega
def rlB (E : List Edg) (back : Bool) (d : List Bool) (i : Nat) : List Bool := if bb d (nN E back i) = true then d.set (oN E back i) true else d
def rlKB (E : List Edg) (back : Bool) (d : List Bool) (k : Nat) : List Bool := (List.range k).foldl (rlB E back) d
def rnB (E : List Edg) (back : Bool) (d : List Bool) : List Bool := rlKB E back d E.length
def rnKB (E : List Edg) (back : Bool) (d : List Bool) : Nat → List Bool
  | 0 => d
  | k + 1 => rnB E back (rnKB E back d k)
section
variable {E : List Edg} {back : Bool} {N s : Nat}
theorem rlKB_succ (d : List Bool) (k : Nat) : rlKB E back d (k + 1) = rlB E back (rlKB E back d k) k := by simp [rlKB, List.range_succ, List.foldl_append]
theorem rlB_len (d : List Bool) (i : Nat) : (rlB E back d i).length = d.length := by unfold rlB; split <;> simp
theorem rlKB_len (d : List Bool) (k : Nat) : (rlKB E back d k).length = d.length := by
  induction k with
  | zero => rfl
  | succ k ih => rw [rlKB_succ, rlB_len, ih]
theorem rnKB_len (d : List Bool) (k : Nat) : (rnKB E back d k).length = d.length := by
  induction k with
  | zero => rfl
  | succ k ih => exact (rlKB_len _ _).trans ih
theorem oN_lt (h : InN N E) {i : Nat} (hi : i < E.length) : oN E back i < N := by
  unfold oN
  split
  · exact (h.f i hi).1
  · exact (h.t i hi).1
theorem nN_lt2 (h : InN N E) {i : Nat} (hi : i < E.length) : nN E back i < N := by
  unfold nN
  split
  · exact (h.t i hi).1
  · exact (h.f i hi).1
theorem rlB_mono (d : List Bool) (i v : Nat) (h : bb d v = true) : bb (rlB E back d i) v = true := by
  unfold rlB
  split
  · by_cases ho : oN E back i < d.length
    · rw [bb_set _ _ _ _ ho]; split
      · rfl
      · exact h
    · rw [List.set_eq_of_length_le (by omega)]; exact h
  · exact h
theorem rlKB_mono (d : List Bool) (v j k : Nat) (hjk : j ≤ k) (h : bb (rlKB E back d j) v = true) : bb (rlKB E back d k) v = true := by
  induction k with
  | zero => have : j = 0 := by omega
            subst this; exact h
  | succ k ih =>
    by_cases e : j = k + 1
    · rw [← e]; exact h
    · rw [rlKB_succ]; exact rlB_mono _ _ _ (ih (by omega))
theorem rnB_mono (d : List Bool) (v : Nat) (h : bb d v = true) : bb (rnB E back d) v = true := rlKB_mono d v 0 _ (Nat.zero_le _) h
theorem rnB_edge (d : List Bool) (i : Nat) (hi : i < E.length) (ho : oN E back i < d.length) (h : bb d (nN E back i) = true) : bb (rnB E back d) (oN E back i) = true := by
  refine rlKB_mono d _ (i + 1) _ (by omega) ?_
  rw [rlKB_succ]
  have h1 : bb (rlKB E back d i) (nN E back i) = true := rlKB_mono d _ 0 i (Nat.zero_le _) h
  unfold rlB
  rw [if_pos h1, bb_set _ _ _ _ (by rw [rlKB_len]; exact ho), if_pos rfl]
def ClosedB (E : List Edg) (back : Bool) (d : List Bool) : Prop := ∀ i, i < E.length → bb d (nN E back i) = true → bb d (oN E back i) = true
theorem rlB_closed {d : List Bool} (h : ClosedB E back d) {i : Nat} (hi : i < E.length) (ho : oN E back i < d.length) : rlB E back d i = d := by
  unfold rlB
  split
  · rename_i h1
    have h2 := h i hi h1
    refine bb_ext (by simp) fun j hj => ?_
    rw [bb_set _ _ _ _ ho]
    split
    · rename_i e; rw [e, h2]
    · exact Iff.rfl
  · rfl
theorem rnB_closed {d : List Bool} (h : ClosedB E back d) (hE : InN d.length E) : rnB E back d = d := by
  have : ∀ k, k ≤ E.length → rlKB E back d k = d := fun k => by
    induction k with
    | zero => intro _; rfl
    | succ k ih =>
      intro hk
      rw [rlKB_succ, ih (by omega)]
      exact rlB_closed h (by omega) (oN_lt hE (by omega))
  exact this _ (Nat.le_refl _)
theorem rnKB_closed {d : List Bool} (hE : InN d.length E) (h1 : 1 ≤ d.count true) : ∀ k, ClosedB E back (rnKB E back d k) ∨ k + 1 ≤ (rnKB E back d k).count true := by
  intro k
  induction k with
  | zero => exact .inr h1
  | succ k ih =>
    have hl : (rnKB E back d k).length = d.length := rnKB_len d k
    by_cases hc : ClosedB E back (rnKB E back d k)
    · left
      show ClosedB E back (rnB E back (rnKB E back d k))
      rw [rnB_closed hc (by rw [hl]; exact hE)]
      exact hc
    · right
      have h2 : k + 1 ≤ (rnKB E back d k).count true := ih.resolve_left hc
      unfold ClosedB at hc
      have ⟨i, hi⟩ := Classical.not_forall.1 hc
      have ⟨h3, h4⟩ := Classical.not_imp.1 hi
      have ⟨h5, h6⟩ := Classical.not_imp.1 h4
      have h7 : bb (rnKB E back d k) (oN E back i) = false := by simpa using h6
      have := (cnt_mono (rnKB E back d k) (rnB E back (rnKB E back d k)) (rlKB_len _ _).symm (fun v hv => rnB_mono _ v hv)).2 ⟨oN E back i, h7, rnB_edge _ i h3 (by rw [hl]; exact oN_lt hE h3) h5⟩
      show k + 1 + 1 ≤ (rnB E back (rnKB E back d k)).count true
      omega
def SoundB (E : List Edg) (back : Bool) (s : Nat) (d : List Bool) : Prop := ∀ v, bb d v = true → Rch E back s v
theorem rlB_sound {d : List Bool} (h : SoundB E back s d) {i : Nat} (hi : i < E.length) : SoundB E back s (rlB E back d i) := by
  intro v hv
  unfold rlB at hv
  split at hv
  · rename_i h1
    by_cases ho : oN E back i < d.length
    · rw [bb_set _ _ _ _ ho] at hv
      split at hv
      · rename_i e
        subst e
        exact .step (h _ h1) hi rfl
      · exact h v hv
    · rw [List.set_eq_of_length_le (by omega)] at hv; exact h v hv
  · exact h v hv
theorem rnKB_sound {d : List Bool} (h : SoundB E back s d) (k : Nat) : SoundB E back s (rnKB E back d k) := by
  induction k with
  | zero => exact h
  | succ k ih =>
    have : ∀ j, j ≤ E.length → SoundB E back s (rlKB E back (rnKB E back d k) j) := fun j => by
      induction j with
      | zero => intro _; exact ih
      | succ j ih2 => intro hj; rw [rlKB_succ]; exact rlB_sound (ih2 (by omega)) (by omega)
    exact this _ (Nat.le_refl _)
theorem closed_is {d : List Bool} (h1 : bb d s = true) (h2 : ClosedB E back d) (h3 : SoundB E back s d) (v : Nat) : bb d v = true ↔ Rch E back s v := by
  refine ⟨h3 v, fun h => ?_⟩
  induction h with
  | here => exact h1
  | step _ hi hn ih => exact h2 _ hi (by rw [hn]; exact ih)
def begB (N s : Nat) : List Bool := (List.replicate N false).set s true
theorem rounds_is (hE : InN N E) (hs : s < N) (v : Nat) : bb (rnKB E back (begB N s) N) v = true ↔ Rch E back s v := by
  have hl : (begB N s).length = N := by simp [begB]
  have h0 : bb (begB N s) s = true := by unfold begB; rw [bb_set _ _ _ _ (by simpa using hs), if_pos rfl]
  have hsnd : SoundB E back s (begB N s) := fun v hv => by
    unfold begB at hv
    rw [bb_set _ _ _ _ (by simpa using hs)] at hv
    split at hv
    · rename_i e; rw [e]; exact .here
    · rw [bb_rep] at hv; cases hv
  have hc1 : 1 ≤ (begB N s).count true := by
    unfold begB
    refine List.count_pos_iff.2 ?_
    exact List.mem_iff_getElem.2 ⟨s, by simpa using hs, by simp⟩
  have hmono : ∀ k, bb (rnKB E back (begB N s) k) s = true := fun k => by
    induction k with
    | zero => exact h0
    | succ k ih => exact rnB_mono _ _ ih
  refine closed_is (hmono N) ?_ (rnKB_sound hsnd N) v
  rcases rnKB_closed (back := back) (d := begB N s) (by rw [hl]; exact hE) hc1 N with h | h
  · exact h
  · have := List.count_le_length (a := true) (l := rnKB E back (begB N s) N)
    rw [rnKB_len, hl] at this
    omega
end
end Go.Proofs.YtomednfddpggaaaGreat

/- Who is come to: node by node, from a row of those that wait. -/
namespace Go.Proofs.YtomednfddpggaaaGreat
open Go Go.RowKit
def rq (s : List Bool × List Nat) (u : Nat) : List Bool × List Nat := if bb s.1 u = true then s else (s.1.set u true, s.2 ++ [u])
def rqF (E : List Edg) (back : Bool) (p : List Nat) (s : List Bool × List Nat) : List Bool × List Nat := (p.map (oN E back)).foldl rq s
theorem rqF_snoc (E : List Edg) (back : Bool) (p : List Nat) (i : Nat) (s : List Bool × List Nat) : rqF E back (p ++ [i]) s = rq (rqF E back p s) (oN E back i) := by simp [rqF]
structure RqI (E : List Edg) (back : Bool) (N s v m : Nat) (p : List Nat) (d : List Bool × List Nat) : Prop where
  len : d.1.length = N
  here : bb d.1 s = true
  snd : SoundB E back s d.1
  at_ : bb d.1 v = true
  q : ∀ u ∈ d.2, u < N ∧ bb d.1 u = true
  cl : ∀ i, i < E.length → bb d.1 (nN E back i) = true → nN E back i ∈ d.2 ∨ bb d.1 (oN E back i) = true ∨ (nN E back i = v ∧ i ∉ p)
  m : d.1.count false + d.2.length = m
structure RqO (E : List Edg) (back : Bool) (N s m : Nat) (d : List Bool × List Nat) : Prop where
  len : d.1.length = N
  here : bb d.1 s = true
  snd : SoundB E back s d.1
  q : ∀ u ∈ d.2, u < N ∧ bb d.1 u = true
  cl : ∀ i, i < E.length → bb d.1 (nN E back i) = true → nN E back i ∈ d.2 ∨ bb d.1 (oN E back i) = true
  m : d.1.count false + d.2.length = m
section
variable {E : List Edg} {back : Bool} {N s v m : Nat} {p : List Nat} {d : List Bool × List Nat}
theorem cnt_set {l : List Bool} {u : Nat} (h : u < l.length) (h0 : bb l u = false) : (l.set u true).count false + 1 = l.count false := by
  have e0 : l[u] = false := by simpa [bb, h] using h0
  have : 0 < l.count false := List.count_pos_iff.2 (by rw [← e0]; exact List.getElem_mem _)
  rw [List.count_set h, e0]
  simp
  omega
theorem RqI.step (hE : InN N E) (h : RqI E back N s v m p d) {i : Nat} (hi : i < E.length) (hv : nN E back i = v) : RqI E back N s v m (p ++ [i]) (rq d (oN E back i)) := by
  have ho : oN E back i < d.1.length := by rw [h.len]; exact oN_lt hE hi
  unfold rq
  split
  · rename_i h1
    refine ⟨h.len, h.here, h.snd, h.at_, h.q, fun j hj hd => ?_, h.m⟩
    rcases h.cl j hj hd with h2 | h2 | ⟨h2, h3⟩
    · exact .inl h2
    · exact .inr (.inl h2)
    · by_cases e : j = i
      · subst e; exact .inr (.inl h1)
      · exact .inr (.inr ⟨h2, by simp [h3, e]⟩)
  · rename_i h1
    have h1' : bb d.1 (oN E back i) = false := by simpa using h1
    have hmono : ∀ u, bb d.1 u = true → bb (d.1.set (oN E back i) true) u = true := fun u hu => by
      rw [bb_set _ _ _ _ ho]
      split
      · rfl
      · exact hu
    refine ⟨by simp [h.len], hmono _ h.here, fun u hu => ?_, hmono _ h.at_, fun u hu => ?_, fun j hj hd => ?_, ?_⟩
    · simp only at hu
      rw [bb_set _ _ _ _ ho] at hu
      split at hu
      · rename_i e; subst e
        exact .step (h.snd _ h.at_) hi hv
      · exact h.snd u hu
    · simp only at hu ⊢
      rcases List.mem_append.1 hu with hu | hu
      · exact ⟨(h.q u hu).1, hmono _ (h.q u hu).2⟩
      · rw [List.mem_singleton] at hu
        subst hu
        exact ⟨by rw [← h.len]; exact ho, by rw [bb_set _ _ _ _ ho, if_pos rfl]⟩
    · simp only at hd ⊢
      rw [bb_set _ _ _ _ ho] at hd
      split at hd
      · rename_i e
        left
        rw [e]
        simp
      · rcases h.cl j hj hd with h2 | h2 | ⟨h2, h3⟩
        · left; simp [h2]
        · right; left; exact hmono _ h2
        · by_cases e : j = i
          · subst e
            right; left
            rw [bb_set _ _ _ _ ho, if_pos rfl]
          · right; right
            exact ⟨h2, by simp [h3, e]⟩
    · have := cnt_set ho h1'
      have := h.m
      simp only [List.length_append, List.length_singleton]
      omega
theorem RqO.take {l : List Bool} {q : List Nat} (h : RqO E back N s (m + 1) (l, v :: q)) : RqI E back N s v m [] (l, q) := by
  refine ⟨h.len, h.here, h.snd, (h.q v (by simp)).2, fun u hu => h.q u (by simp only [List.mem_cons]; exact .inr hu), fun i hi hd => ?_, by have := h.m; simp only [List.length_cons] at this ⊢; omega⟩
  rcases h.cl i hi hd with h2 | h2
  · simp only [List.mem_cons] at h2
    rcases h2 with h2 | h2
    · exact .inr (.inr ⟨h2, by simp⟩)
    · exact .inl h2
  · exact .inr (.inl h2)
theorem RqI.done (h : RqI E back N s v m p d) (hp : ∀ i, i < E.length → nN E back i = v → i ∈ p) : RqO E back N s m d := by
  refine ⟨h.len, h.here, h.snd, h.q, fun i hi hd => ?_, h.m⟩
  rcases h.cl i hi hd with h2 | h2 | ⟨h2, h3⟩
  · exact .inl h2
  · exact .inr h2
  · exact absurd (hp i hi h2) h3
theorem RqO.start (hs : s < N) : RqO E back N s N (begB N s, [s]) := by
  have h0 : bb (begB N s) s = true := by unfold begB; rw [bb_set _ _ _ _ (by simpa using hs), if_pos rfl]
  have hb : ∀ u, bb (begB N s) u = true → u = s := fun u hu => by
    unfold begB at hu
    rw [bb_set _ _ _ _ (by simpa using hs)] at hu
    split at hu
    · rename_i e; exact e
    · rw [bb_rep] at hu; cases hu
  refine ⟨by simp [begB], h0, fun u hu => by rw [hb u hu]; exact .here, fun u hu => ?_, fun i _ hd => .inl (by simp only; rw [hb _ hd]; simp), ?_⟩
  · simp only [List.mem_singleton] at hu
    subst hu
    exact ⟨hs, h0⟩
  · have := cnt_set (l := List.replicate N false) (u := s) (by simpa using hs) (bb_rep _ _)
    simp only [begB, List.length_singleton]
    rw [this]
    simp
theorem RqO.le (h : RqO E back N s m d) : d.2.length ≤ m := by have := h.m; omega
theorem RqO.end_ (h : RqO E back N s m d) (h0 : d.2 = []) (v : Nat) : bb d.1 v = true ↔ Rch E back s v :=
  closed_is h.here (fun i hi hd => by
    rcases h.cl i hi hd with h2 | h2
    · rw [h0] at h2; cases h2
    · exact h2) h.snd v
end
def reachL (N : Nat) (E : List Edg) (s : Nat) (back : Bool) : List Bool := rnKB E back (begB N s) N
theorem reachL_len (N : Nat) (E : List Edg) (s : Nat) (back : Bool) : (reachL N E s back).length = N := by unfold reachL; rw [rnKB_len]; simp [begB]
theorem RqO.is {E : List Edg} {back : Bool} {N s m : Nat} {d : List Bool × List Nat} (hE : InN N E) (hs : s < N) (h : RqO E back N s m d) (h0 : d.2 = []) : d.1 = reachL N E s back :=
  bb_ext (by rw [h.len, reachL_len]) fun i _ => by rw [h.end_ h0 i, reachL, rounds_is hE hs i]
end Go.Proofs.YtomednfddpggaaaGreat

/- Who comes to whom: the strong parts of a graph (plain). -/
namespace Go.Proofs.YtomednfddpggaaaGreat
open Go Go.RowKit
def tjAll (E : List Edg) (N : Nat) : Nat → TjS → TjS
  | 0, s => s
  | k + 1, s => if gi (tjAll E N k s).met k = 0 then tj (tjRow E) N k (tjAll E N k s) else tjAll E N k s
def tjZero (N : Nat) : TjS := ⟨List.replicate N 0, List.replicate N 0, List.replicate N 0, [], 0, List.replicate N false⟩
def strongL (N : Nat) (E : List Edg) : List Int := (tjAll E N N (tjZero N)).part
theorem tjZero_ok (N : Nat) : TjOk N (tjZero N) := ⟨by simp [tjZero], by simp [tjZero], by simp [tjZero], by simp [tjZero], fun u hu => by simp [tjZero] at hu, by simp [tjZero], by simp [tjZero]⟩
theorem tjAll_ok {N : Nat} {E : List Edg} (hE : InN N E) : ∀ k, k ≤ N → TjOk N (tjAll E N k (tjZero N))
  | 0, _ => tjZero_ok N
  | k + 1, hk => by
    have h := tjAll_ok hE k (by omega)
    unfold tjAll
    split
    · rename_i h0
      exact (tj_ok (fun v u hu => by
        unfold tjRow at hu
        rw [List.mem_map] at hu
        obtain ⟨i, hi, rfl⟩ := hu
        exact (hE.t i (by simp [rowN] at hi; exact hi.1)).1) N k _ h (by omega) h0 (by have := List.count_le_length (a := (0 : Int)) (l := (tjAll E N k (tjZero N)).met); rw [h.m] at this; exact this)).1
    · exact h
theorem tjRow_lt {N : Nat} {E : List Edg} (hE : InN N E) (v u : Nat) (hu : u ∈ tjRow E v) : u < N := by
  unfold tjRow at hu
  rw [List.mem_map] at hu
  obtain ⟨i, hi, rfl⟩ := hu
  exact (hE.t i (by simp [rowN] at hi; exact hi.1)).1
theorem tjZero_is (N : Nat) (E : List Edg) : TjV (tjRow E) N (fun _ => False) (tjZero N) := by
  have hm : ∀ u, gi (tjZero N).met u = 0 := fun u => by
    unfold gi tjZero
    by_cases h : u < N
    · simp [h]
    · simp [h]
  have hu : ∀ u, gbo (tjZero N).und u = false := fun u => by
    unfold gbo tjZero
    by_cases h : u < N
    · simp [h]
    · simp [h]
  refine ⟨tjZero_ok N, fun u => ?_, fun u => by rw [hm]; exact ⟨Int.le_refl _, Int.le_refl _⟩, List.Pairwise.nil, fun u h => h.elim, fun g x h => h.elim, fun x hx => (by cases hx), fun x h => absurd (hm x) h, fun x h => absurd (hm x) h.1, fun x h => absurd (hm x) h.1, fun x y h => absurd (hm x) h.1⟩
  rw [hu]
  simp [tjZero]
theorem tjAll_is {N : Nat} {E : List Edg} (hE : InN N E) : ∀ k, k ≤ N → TjV (tjRow E) N (fun _ => False) (tjAll E N k (tjZero N)) ∧ ∀ u, u < k → gi (tjAll E N k (tjZero N)).met u ≠ 0
  | 0, _ => ⟨tjZero_is N E, fun u hu => by omega⟩
  | k + 1, hk => by
    obtain ⟨h, hm⟩ := tjAll_is hE k (by omega)
    unfold tjAll
    split
    · rename_i h0
      have P := tj_is (row := tjRow E) (tjRow_lt hE) N k _ _ h (by omega) h0 (by have := List.count_le_length (a := (0 : Int)) (l := (tjAll E N k (tjZero N)).met); rw [h.ok.m] at this; exact this) (fun g hg => hg.elim)
      refine ⟨P.is, fun u hu => ?_⟩
      by_cases e : u = k
      · rw [e]; exact P.here
      · rw [P.x.met u (hm u (by omega))]; exact hm u (by omega)
    · rename_i h0
      exact ⟨h, fun u hu => by
        by_cases e : u = k
        · rw [e]; exact h0
        · exact hm u (by omega)⟩
theorem rw_rch {E : List Edg} (a b : Nat) : Rw (tjRow E) a b ↔ Rch E false a b := by
  constructor
  · intro h
    induction h with
    | here => exact .here
    | step _ hc ih =>
      unfold tjRow at hc
      rw [List.mem_map] at hc
      obtain ⟨i, hi, rfl⟩ := hc
      simp [rowN] at hi
      exact .step (i := i) ih hi.1 hi.2
  · intro h
    induction h with
    | here => exact .here
    | step _ hi hn ih =>
      refine ih.step ?_
      unfold tjRow
      exact List.mem_map.2 ⟨_, by simp [rowN]; exact ⟨hi, hn⟩, rfl⟩
theorem strongL_len {N : Nat} {E : List Edg} (hE : InN N E) : (strongL N E).length = N := (tjAll_ok hE N (Nat.le_refl _)).p
theorem strong_is {N : Nat} {E : List Edg} (hE : InN N E) {u v : Nat} (hu : u < N) (hv : v < N) : gi (strongL N E) u = gi (strongL N E) v ↔ Rch E false u v ∧ Rch E false v u := by
  obtain ⟨h, hm⟩ := tjAll_is hE N (Nat.le_refl _)
  have hd : ∀ x, x < N → (tjAll E N N (tjZero N)).done x := fun x hx => ⟨hm x hx, by rw [h.none]; simp⟩
  rw [← rw_rch, ← rw_rch]
  constructor
  · intro e
    obtain ⟨r, h1, h2, h3, h4⟩ := h.prep u (hd u hu)
    obtain ⟨q, k1, k2, k3, k4⟩ := h.prep v (hd v hv)
    have e2 : (r : Int) = (q : Int) := by rw [← h1, ← k1]; exact e
    have e3 : r = q := by omega
    subst e3
    exact ⟨h3.trans k4, k3.trans h4⟩
  · exact fun ⟨a, b⟩ => h.part u v (hd u hu) (hd v hv) a b
end Go.Proofs.YtomednfddpggaaaGreat

/- Plain law: who hangs together by which edges. -/
namespace Go.Proofs.YtomednfddpggaaaGreat
open Go Go.RowKit
def Inc (E : List Edg) (i x y : Nat) : Prop := i < E.length ∧ ((fN E i = x ∧ tN E i = y) ∨ (tN E i = x ∧ fN E i = y))
theorem Inc.symm {E : List Edg} {i x y : Nat} (h : Inc E i x y) : Inc E i y x := ⟨h.1, h.2.elim (fun k => .inr ⟨k.2, k.1⟩) (fun k => .inl ⟨k.2, k.1⟩)⟩
theorem Inc.two {E : List Edg} {i x y z w : Nat} (h : Inc E i x y) (k : Inc E i z w) : (z = x ∧ w = y) ∨ (z = y ∧ w = x) := by
  obtain ⟨_, h⟩ := h
  obtain ⟨_, k⟩ := k
  omega
theorem Inc.ends {E : List Edg} {i : Nat} (hi : i < E.length) : Inc E i (fN E i) (tN E i) := ⟨hi, .inl ⟨rfl, rfl⟩⟩
inductive Con (E : List Edg) (P : Nat → Prop) (x : Nat) : Nat → Prop
  | here : Con E P x x
  | step {y z i : Nat} : Con E P x y → Inc E i y z → P i → Con E P x z
theorem Con.trans {E : List Edg} {P : Nat → Prop} {x y z : Nat} (h : Con E P x y) (k : Con E P y z) : Con E P x z := by
  induction k with
  | here => exact h
  | step _ hi hp ih => exact ih.step hi hp
theorem Con.one {E : List Edg} {P : Nat → Prop} {x y i : Nat} (h : Inc E i x y) (hp : P i) : Con E P x y := Con.here.step h hp
theorem Con.symm {E : List Edg} {P : Nat → Prop} {x y : Nat} (h : Con E P x y) : Con E P y x := by
  induction h with
  | here => exact .here
  | step _ hi hp ih => exact (Con.one hi.symm hp).trans ih
theorem Con.mono {E : List Edg} {P Q : Nat → Prop} {x y : Nat} (h : Con E P x y) (hq : ∀ i, i < E.length → P i → Q i) : Con E Q x y := by
  induction h with
  | here => exact .here
  | step _ hi hp ih => exact ih.step hi (hq _ hi.1 hp)
theorem Con.stay {E : List Edg} {P : Nat → Prop} {S : Nat → Prop} {x y : Nat} (h : Con E P x y) (hx : S x) (hS : ∀ i a b, S a → Inc E i a b → P i → S b) : S y := by
  induction h with
  | here => exact hx
  | step _ hi hp ih => exact hS _ _ _ ih hi hp
def Brg (E : List Edg) (i : Nat) : Prop := ¬ Con E (fun j => j ≠ i) (fN E i) (tN E i)
theorem Brg.not {E : List Edg} {i x y : Nat} (hi : Inc E i x y) (h : Con E (fun j => j ≠ i) x y) : ¬ Brg E i := fun k => by
  rcases hi.2 with ⟨rfl, rfl⟩ | ⟨rfl, rfl⟩
  · exact k h
  · exact k h.symm
theorem Brg.of {E : List Edg} {i x y : Nat} (hi : Inc E i x y) (h : ¬ Con E (fun j => j ≠ i) x y) : Brg E i := fun k => by
  rcases hi.2 with ⟨rfl, rfl⟩ | ⟨rfl, rfl⟩
  · exact h k
  · exact h k.symm
abbrev All1 : Nat → Prop := fun _ => True
end Go.Proofs.YtomednfddpggaaaGreat
