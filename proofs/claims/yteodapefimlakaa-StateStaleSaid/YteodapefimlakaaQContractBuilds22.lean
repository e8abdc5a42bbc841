/- Plain: a rank, and the order in which nodes go by it; what is built is made of the graph, and full. -/
import Derived.Test.YteodapefimlakaaQContractBuilds13
import Derived.Test.YteodapefimlakaaQContractBuilds02
import Derived.Test.YteodapefimlakaaQContractBuilds01
import Derived.Test.YteodapefimlakaaQContractBuilds10
import Derived.Test.YteodapefimlakaaQContractBuilds06
import Derived.Test.YteodapefimlakaaQContractBuilds09
/- Plain: a rank, and the order in which nodes go by it; what is built is made of the graph, and full. -/
namespace Go.Proofs.Yteodapefimlakaa
open Go Go.RowKit
structure InvR (N : Nat) (r vs : List Nat) : Prop where
  rl : r.length = N
  vl : vs.length = N
  at_ : ∀ i, i < N → gn vs i < N ∧ gn r (gn vs i) = i
  of_ : ∀ v, v < N → gn r v < N ∧ gn vs (gn r v) = v
theorem gn_mem {l : List Nat} {i : Nat} (h : i < l.length) : gn l i ∈ l := by
  unfold gn
  rw [List.getD_eq_getElem?_getD, List.getElem?_eq_getElem h]
  exact List.getElem_mem h
theorem mem_gn {l : List Nat} {v : Nat} (h : v ∈ l) : ∃ i, i < l.length ∧ gn l i = v := by
  obtain ⟨i, hi, e⟩ := List.getElem_of_mem h
  exact ⟨i, hi, by unfold gn; rw [List.getD_eq_getElem?_getD, List.getElem?_eq_getElem hi]; exact e⟩
theorem InvR.nodup {N : Nat} {r vs : List Nat} (h : InvR N r vs) : vs.Nodup := by
  have e : vs = (List.range N).map (gn vs) := by
    apply List.ext_getElem?
    intro i
    rw [List.getElem?_map]
    by_cases hi : i < N
    · rw [List.getElem?_eq_getElem (by rw [h.vl]; exact hi)]
      simp [hi, gn, List.getD_eq_getElem?_getD, List.getElem?_eq_getElem (show i < vs.length by rw [h.vl]; exact hi)]
    · rw [List.getElem?_eq_none (by rw [h.vl]; omega)]
      simp [hi]
  rw [e]
  unfold List.Nodup
  rw [List.pairwise_map]
  refine List.Pairwise.imp_of_mem ?_ (List.nodup_range (n := N))
  intro a b ha hb hab hx
  have h1 := (h.at_ a (List.mem_range.1 ha)).2
  have h2 := (h.at_ b (List.mem_range.1 hb)).2
  rw [hx, h2] at h1
  exact hab h1.symm
theorem InvR.lt {N : Nat} {r vs : List Nat} (h : InvR N r vs) : ∀ v ∈ vs, v < N := by
  intro v hv
  obtain ⟨i, hi, rfl⟩ := mem_gn hv
  exact (h.at_ i (by rw [← h.vl]; exact hi)).1
theorem InvR.below {N : Nat} {r vs p q : List Nat} {m f : Nat} (h : InvR N r vs) (hp : vs = p ++ m :: q) (hf : f < N) (hn : f ∉ p ++ [m]) : gn r m < gn r f := by
  have hl : p.length < N := by rw [← h.vl, hp]; simp
  have em : gn vs p.length = m := by rw [hp]; simp [gn, List.getD_eq_getElem?_getD]
  have rm := (h.at_ _ hl).2
  rw [em] at rm
  rw [rm]
  obtain ⟨f1, f2⟩ := h.of_ f hf
  apply Decidable.byContradiction
  intro hle
  apply hn
  rw [← f2, hp]
  have e : p ++ m :: q = (p ++ [m]) ++ q := by simp
  rw [e]
  have hlt : gn r f < (p ++ [m]).length := by simp; omega
  unfold gn at hlt ⊢
  rw [List.getD_eq_getElem?_getD, List.getElem?_append_left hlt, List.getElem?_eq_getElem hlt]
  exact List.getElem_mem hlt
def nvI (l : List Nat) : List Int := l.map fun v : Nat => (v : Int)
theorem gn_take {l : List Nat} {k i : Nat} (h : i < k) : gn (l.take k) i = gn l i := by
  unfold gn
  rw [List.getD_eq_getElem?_getD, List.getD_eq_getElem?_getD, List.getElem?_take_of_lt h]
def scEdge (E : List Edg) (s : Sc) : Prop := ∃ e, e < E.length ∧ s = ⟨fN E e, tN E e, (ge E e).w.toNat, (e : Int), -1, -1⟩
def scTwo (r : List Nat) (S : List Sc) (i : Nat) : Prop :=
  (gs S i).e = -1 ∧ ∃ A B, (gs S i).a = (A : Nat) ∧ (gs S i).b = (B : Nat) ∧ A < i ∧ B < i ∧ (gs S A).f = (gs S i).f ∧ (gs S A).t = (gs S B).f ∧ (gs S B).t = (gs S i).t ∧ (gs S A).w + (gs S B).w = (gs S i).w ∧
    gn r (gs S A).t < gn r (gs S i).f ∧ gn r (gs S A).t < gn r (gs S i).t
structure MadeL (N : Nat) (E : List Edg) (r : List Nat) (S : List Sc) : Prop where
  ends : ∀ i, i < S.length → (gs S i).f < N ∧ (gs S i).t < N ∧ (gs S i).f ≠ (gs S i).t
  made : ∀ i, i < S.length → scEdge E (gs S i) ∨ scTwo r S i
def noBelow (N : Nat) (r : List Nat) (u w : Nat) : List Nat := (List.range N).filter fun v => decide (v ≠ u) && decide (v ≠ w) && decide (min (gn r u) (gn r w) ≤ gn r v)
theorem noBelow_len (N : Nat) (r : List Nat) (u w : Nat) : (noBelow N r u w).length ≤ N := by
  have := List.length_filter_le (fun v => decide (v ≠ u) && decide (v ≠ w) && decide (min (gn r u) (gn r w) ≤ gn r v)) (List.range N)
  simpa [noBelow] using this
def FullL (N : Nat) (E : List Edg) (r : List Nat) (S : List Sc) : Prop := ∀ u w, u < N → w < N → u ≠ w → dF N E u w < farV → gn (refL (srchOf N E (noN (nvI (noBelow N r u w)))) u) w = dF N E u w → ∃ i, i < S.length ∧ (gs S i).f = u ∧ (gs S i).t = w ∧ (gs S i).w = dF N E u w
section
variable {N : Nat} {E : List Edg} {r vs : List Nat} {hops settles : Nat}
theorem built_made (hr : rightF N E = 0) (hne : ∀ i, i < E.length → fN E i ≠ tN E i) (h : InvR N r vs) : MadeL N E r (Ctr.goAll hops settles vs (ctrG N E)).S := by
  have hI := goAll_ok hr hne (hops := hops) (settles := settles) vs h.nodup h.lt
  refine ⟨hI.net.ends, fun i hi => ?_⟩
  obtain ⟨e1, e2, _⟩ := hI.net.ends i hi
  rcases hI.made i hi with h1 | ⟨h1, A, B, h2, h3, h4, h5, h6, h7, h8, h9, p, q, h10, h11, h12⟩
  · exact .inl h1
  · exact .inr ⟨h1, A, B, h2, h3, h4, h5, h6, h7, h8, h9, h.below h10 e1 h11, h.below h10 e2 h12⟩
theorem built_fullL (hr : rightF N E = 0) (hne : ∀ i, i < E.length → fN E i ≠ tN E i) (h : InvR N r vs) : FullL N E r (Ctr.goAll hops settles vs (ctrG N E)).S := by
  intro u w hu hw huw hd hb
  have hN : N ≤ 4096 := by have := (right_in hr).2.1; omega
  obtain ⟨u1, u2⟩ := h.of_ u hu
  obtain ⟨w1, w2⟩ := h.of_ w hw
  have hsplit := List.take_append_drop (min (gn r u) (gn r w)) vs
  have hnin : ∀ x, x < N → min (gn r u) (gn r w) ≤ gn r x → x ∉ vs.take (min (gn r u) (gn r w)) := by
    intro x hx hle hm
    obtain ⟨i, hi, e⟩ := mem_gn hm
    rw [List.length_take] at hi
    have hi2 : i < min (gn r u) (gn r w) := by omega
    have e2 : gn vs i = x := by
      rw [← e, gn_take hi2]
    have := (h.at_ i (by rw [← h.vl]; omega)).2
    rw [e2] at this
    omega
  have hin : ∀ x, x < N → gn r x < min (gn r u) (gn r w) → x ∈ vs.take (min (gn r u) (gn r w)) := by
    intro x hx hlt
    obtain ⟨x1, x2⟩ := h.of_ x hx
    have e2 : gn (vs.take (min (gn r u) (gn r w))) (gn r x) = x := by
      rw [gn_take hlt, x2]
    rw [← e2]
    refine gn_mem ?_
    rw [List.length_take, h.vl]
    omega
  have hmem : ∀ x : Nat, ((x : Int) ∈ nvI (noBelow N r u w)) ↔ x ∈ noBelow N r u w := fun x => by
    unfold nvI
    rw [List.mem_map]
    exact ⟨fun ⟨y, h1, h2⟩ => by have : y = x := by omega
                                 rw [← this]; exact h1, fun h1 => ⟨x, h1, rfl⟩⟩
  have hwy := below_way (p := vs.take (min (gn r u) (gn r w))) hr hu hw huw (nn := nvI (noBelow N r u w)) (fun e => by
    have := (hmem u).1 e
    unfold noBelow at this
    rw [List.mem_filter] at this
    simp at this) (by have := noBelow_len N r u w; unfold nvI; rw [List.length_map]; omega) (fun x hx h1 h2 h3 => hin x hx (by
      apply Decidable.byContradiction
      intro hle
      apply h3
      rw [hmem]
      unfold noBelow
      rw [List.mem_filter]
      exact ⟨List.mem_range.2 hx, by simp [h1, h2]; omega⟩)) hd hb
  have := built_full hr hne (hops := hops) (settles := settles) (p := vs.take (min (gn r u) (gn r w))) (q := vs.drop (min (gn r u) (gn r w))) (by rw [hsplit]; exact h.nodup) (by rw [hsplit]; exact h.lt) hu hw (hnin u hu (Nat.min_le_left ..)) (hnin w hw (Nat.min_le_right ..)) huw hwy
  rwa [hsplit] at this
end
end Go.Proofs.Yteodapefimlakaa

/- Plain: is a row of numbers an order of nodes? Its inverse. -/
namespace Go.Proofs.Yteodapefimlakaa
open Go Go.RowKit
def rkB (l : List Int) : Bool := decide (∀ i, i < l.length → ((i : Nat) : Int) ∈ l)
theorem nodup_of_covers : ∀ (l m : List Int), m.Nodup → (∀ x ∈ m, x ∈ l) → l.length ≤ m.length → l.Nodup ∧ ∀ x ∈ l, x ∈ m
  | [], _, _, _, _ => ⟨List.nodup_nil, fun x h => absurd h (by simp)⟩
  | a :: l, m, hn, hs, hl => by
    by_cases ha : a ∈ m
    · have hml : (m.erase a).length = m.length - 1 := List.length_erase_of_mem ha
      have hm0 : 0 < m.length := List.length_pos_of_mem ha
      have h1 := nodup_of_covers l (m.erase a) (hn.erase a) (fun x hx => by
        obtain ⟨h1, h2⟩ := (hn.mem_erase_iff).1 hx
        rcases List.mem_cons.1 (hs x h2) with e | e
        · exact absurd e h1
        · exact e) (by rw [hml]; simp at hl; omega)
      refine ⟨List.nodup_cons.2 ⟨fun e => ?_, h1.1⟩, fun x hx => ?_⟩
      · exact ((hn.mem_erase_iff).1 (h1.2 a e)).1 rfl
      · rcases List.mem_cons.1 hx with e | e
        · rw [e]; exact ha
        · exact ((hn.mem_erase_iff).1 (h1.2 x e)).2
    · have : m.length ≤ l.length := List.Nodup.length_le_of_subset hn (fun x hx => by
        rcases List.mem_cons.1 (hs x hx) with e | e
        · rw [e] at hx; exact absurd hx ha
        · exact e)
      simp at hl
      omega
theorem rangeI_nodup (n : Nat) : ((List.range n).map fun i : Nat => (i : Int)).Nodup := List.Pairwise.map _ (fun (a b : Nat) (e : a ≠ b) => (by omega : (a : Int) ≠ (b : Int))) List.nodup_range
theorem rkB_of {l : List Int} (h : rkB l = true) : l.Nodup ∧ ∀ x ∈ l, 0 ≤ x ∧ x < l.length := by
  have h := of_decide_eq_true h
  obtain ⟨h1, h2⟩ := nodup_of_covers l ((List.range l.length).map fun i : Nat => (i : Int)) (rangeI_nodup _) (fun x hx => by
    obtain ⟨i, hi, rfl⟩ := List.mem_map.1 hx
    exact h i (List.mem_range.1 hi)) (by simp)
  refine ⟨h1, fun x hx => ?_⟩
  obtain ⟨i, hi, rfl⟩ := List.mem_map.1 (h2 x hx)
  have := List.mem_range.1 hi
  omega
theorem rkB_is {l : List Int} (hn : l.Nodup) (hr : ∀ x ∈ l, 0 ≤ x ∧ x < l.length) : rkB l = true := by
  refine decide_eq_true fun i hi => ?_
  obtain ⟨_, h2⟩ := nodup_of_covers ((List.range l.length).map fun i : Nat => (i : Int)) l hn (fun x hx => by
    have := hr x hx
    exact List.mem_map.2 ⟨x.toNat, List.mem_range.2 (by omega), by omega⟩) (by simp)
  exact h2 _ (List.mem_map.2 ⟨i, List.mem_range.2 hi, rfl⟩)
theorem gi_memR {l : List Int} {k : Nat} (h : k < l.length) : gi l k ∈ l := by
  unfold gi
  rw [List.getD_eq_getElem?_getD, List.getElem?_eq_getElem h]
  exact List.getElem_mem h
theorem take_gi {l : List Int} {k : Nat} (h : k < l.length) : l.take (k + 1) = l.take k ++ [gi l k] := by
  rw [List.take_add_one, List.getElem?_eq_getElem h]
  simp [gi, List.getD_eq_getElem?_getD, List.getElem?_eq_getElem h]
theorem take_has {l : List Int} {k : Nat} {x : Int} (h : x ∈ l.take k) : ∃ j, j < k ∧ j < l.length ∧ gi l j = x := by
  obtain ⟨j, hj, e⟩ := List.getElem_of_mem h
  rw [List.length_take] at hj
  refine ⟨j, by omega, by omega, ?_⟩
  rw [← e, List.getElem_take]
  simp [gi, List.getD_eq_getElem?_getD, List.getElem?_eq_getElem (show j < l.length by omega)]
theorem rkB_no {l : List Int} {k : Nat} (hk : k < l.length) (h : gi l k < 0 ∨ (l.length : Int) ≤ gi l k ∨ gi l k ∈ l.take k) : rkB l = false := by
  cases hb : rkB l with
  | false => rfl
  | true =>
    exfalso
    obtain ⟨h1, h2⟩ := rkB_of hb
    have h3 := h2 _ (gi_memR hk)
    rcases h with h | h | h
    · omega
    · omega
    · obtain ⟨j, j1, j2, j3⟩ := take_has h
      have := (List.getElem_inj (h₀ := j2) (h₁ := hk) h1).1 (by
        unfold gi at j3
        rw [List.getD_eq_getElem?_getD, List.getD_eq_getElem?_getD, List.getElem?_eq_getElem hk, List.getElem?_eq_getElem j2] at j3
        exact j3)
      omega
structure RkM (l : List Int) (k : Nat) (M : List Bool) : Prop where
  len : M.length = l.length
  met : ∀ j, j < l.length → (bb M j = true ↔ (j : Int) ∈ l.take k)
  nodup : (l.take k).Nodup
  lt : ∀ x ∈ l.take k, 0 ≤ x ∧ x < l.length
theorem RkM.start (l : List Int) : RkM l 0 (List.replicate l.length false) := by
  refine ⟨by simp, fun j hj => ?_, by simp, fun x hx => by simp at hx⟩
  simp [bb, hj]
theorem RkM.next {l : List Int} {k v : Nat} {M : List Bool} (h : RkM l k M) (hk : k < l.length) (hx : gi l k = (v : Int)) (hv : v < l.length) (hm : bb M v = false) : RkM l (k + 1) (M.set v true) := by
  have e := take_gi hk
  have hni : gi l k ∉ l.take k := by
    rw [hx]
    intro h1
    rw [(h.met v hv).2 h1] at hm
    cases hm
  refine ⟨by rw [List.length_set]; exact h.len, fun j hj => ?_, ?_, fun x hx2 => ?_⟩
  · have hset : bb (M.set v true) j = if j = v then true else bb M j := by
      unfold bb
      by_cases e : j = v
      · subst e; simp [h.len, hv]
      · simp [e, Ne.symm e]
    rw [hset, e, List.mem_append, List.mem_singleton, hx]
    by_cases ej : j = v
    · subst ej; simp
    · rw [if_neg ej, h.met j hj]
      constructor
      · exact .inl
      · rintro (h1 | h1)
        · exact h1
        · exact absurd (by omega) ej
  · rw [e, List.nodup_append]
    exact ⟨h.nodup, by simp, fun a ha b hb e2 => by rw [List.mem_singleton.1 hb] at e2; rw [e2] at ha; exact hni ha⟩
  · rw [e] at hx2
    rcases List.mem_append.1 hx2 with h1 | h1
    · exact h.lt x h1
    · rw [List.mem_singleton.1 h1, hx]
      omega
theorem RkM.all {l : List Int} {M : List Bool} (h : RkM l l.length M) : rkB l = true := by
  have e : l.take l.length = l := List.take_length
  exact rkB_is (by have := h.nodup; rwa [e] at this) (by have := h.lt; rwa [e] at this)
structure RkI (r : List Nat) (k : Nat) (V : List Nat) : Prop where
  len : V.length = r.length
  at_ : ∀ i, i < k → gn V (gn r i) = i
theorem gn_setR (V : List Nat) (v u x : Nat) (h : v < V.length) : gn (V.set v x) u = if u = v then x else gn V u := by
  unfold gn
  by_cases e : u = v
  · subst e; simp [h]
  · simp [e, Ne.symm e]
theorem RkI.next {r : List Nat} {k : Nat} {V : List Nat} (h : RkI r k V) (hd : r.Nodup) (hk : k < r.length) (hv : gn r k < r.length) : RkI r (k + 1) (V.set (gn r k) k) := by
  refine ⟨by rw [List.length_set]; exact h.len, fun i hi => ?_⟩
  rw [gn_setR _ _ _ _ (by rw [h.len]; exact hv)]
  by_cases e : i = k
  · subst e; rw [if_pos rfl]
  · rw [if_neg ?_]
    · exact h.at_ i (by omega)
    · intro e2
      have hi2 : i < r.length := by omega
      apply e
      refine (List.getElem_inj (h₀ := hi2) (h₁ := hk) hd).1 ?_
      unfold gn at e2
      rw [List.getD_eq_getElem?_getD, List.getD_eq_getElem?_getD, List.getElem?_eq_getElem hk, List.getElem?_eq_getElem hi2] at e2
      exact e2
theorem nvI_gi (r : List Nat) (i : Nat) (h : i < r.length) : gi (nvI r) i = (gn r i : Int) := by
  simp [gi, gn, nvI, List.getD_eq_getElem?_getD, h]
theorem nvI_nodup {r : List Nat} (h : (nvI r).Nodup) : r.Nodup := by
  unfold nvI List.Nodup at h
  rw [List.pairwise_map] at h
  exact h.imp (fun hab e => hab (by rw [e]))
theorem rk_nat {l : List Int} (h : rkB l = true) : ∃ r : List Nat, l = nvI r ∧ r.Nodup ∧ ∀ v ∈ r, v < r.length := by
  obtain ⟨h1, h2⟩ := rkB_of h
  have e : l = nvI (l.map Int.toNat) := by
    unfold nvI
    rw [List.map_map]
    conv => lhs; rw [← List.map_id l]
    refine List.map_congr_left fun x hx => ?_
    have := h2 x hx
    simp; omega
  refine ⟨l.map Int.toNat, e, nvI_nodup (by rw [← e]; exact h1), fun v hv => ?_⟩
  obtain ⟨x, hx, rfl⟩ := List.mem_map.1 hv
  have := h2 x hx
  simp; omega
theorem rkB_nat {r : List Nat} (hd : r.Nodup) (hl : ∀ v ∈ r, v < r.length) : rkB (nvI r) = true := by
  refine rkB_is ?_ fun x hx => ?_
  · unfold nvI
    exact List.Pairwise.map _ (fun (a b : Nat) (e : a ≠ b) => (by omega : (a : Int) ≠ (b : Int))) hd
  · unfold nvI at hx ⊢
    obtain ⟨v, hv, rfl⟩ := List.mem_map.1 hx
    have := hl v hv
    simp; omega
theorem covers_nat {r : List Nat} (hd : r.Nodup) (hl : ∀ v ∈ r, v < r.length) : ∀ v, v < r.length → v ∈ r := by
  intro v hv
  have := of_decide_eq_true (rkB_nat hd hl) v (by unfold nvI; rw [List.length_map]; exact hv)
  unfold nvI at this
  obtain ⟨u, hu, e⟩ := List.mem_map.1 this
  have : u = v := by omega
  rw [← this]; exact hu
theorem RkI.inv {r V : List Nat} (h : RkI r r.length V) (hd : r.Nodup) (hl : ∀ v ∈ r, v < r.length) : InvR r.length r V := by
  have hin : ∀ i, i < r.length → gn r i < r.length := fun i hi => hl _ (gn_mem hi)
  refine ⟨rfl, h.len, fun i hi => ?_, fun v hv => ⟨hin v hv, h.at_ v hv⟩⟩
  obtain ⟨j, hj, e⟩ := mem_gn (covers_nat hd hl i hi)
  rw [← e, h.at_ j hj]
  exact ⟨hj, rfl⟩
theorem InvR.symm {N : Nat} {r vs : List Nat} (h : InvR N r vs) : InvR N vs r := ⟨h.vl, h.rl, h.of_, h.at_⟩
theorem RkI.start (r : List Nat) : RkI r 0 (List.replicate r.length 0) := ⟨by simp, fun i hi => absurd hi (by omega)⟩
end Go.Proofs.Yteodapefimlakaa

/- Contracts: is a row of numbers an order of nodes? Its inverse. -/
namespace Go.Proofs.Yteodapefimlakaa
open Go Go.RowKit
attribute [local go_sem] Oper.semAt_some
theorem run_makeBoolsR (n : Nat) (hn : n ≤ 1000000000) (w : World) : (Instr.makeSlice 64 (.int .i64 (n : Int)) (.int .i64 (n : Int))).run Try.prog w = .ok (.slice (some ⟨w.heap.size, 0, none⟩) n n) (w.alloc (.cells (List.replicate n (Value.bool false)).toArray 4)) := by
  have h : (Try.prog.info? 4).map (fun i => (i.zero, i.size, i.bytes)) = some (some (.bool false), 1, 1) := by kernel_rfl
  obtain ⟨i, h1, h2, h3, h4⟩ := info_parts h
  have := run_make_row (P := Try.prog) 64 4 i (.bool false) Try.underlying64 h1 h2 h3 rfl .i64 .i64 n (by rw [h4]; omega) (by omega) w
  have e : madeCells #[Value.bool false] n = (List.replicate n (Value.bool false)).toArray := Array.ext' (by rw [toList_madeCells_one])
  rw [e] at this
  exact this
theorem bb_atR {L : List Bool} {j : Nat} (h : j < L.length) : (L.map Value.bool)[j]? = some (.bool (bb L j)) := by simp [bb, h]
def RowAt (W0 : World) (g : Nat) (t : TypeId) (xs : List Value) (wr : World) : Prop := ∃ y : Later W0, wr = y.now ∧ Arr y.now g t xs ∧ W0.heap.size ≤ g
theorem RowAt.grow {W0 : World} {g : Nat} {t : TypeId} {xs : List Value} {wr w2 : World} (h : RowAt W0 g t xs wr) (hg : Grows wr w2) : RowAt W0 g t xs w2 := by
  obtain ⟨y, rfl, h1, h2⟩ := h
  exact ⟨⟨w2, y.grows.trans hg⟩, rfl, h1.grow hg, h2⟩
theorem RowAt.put {W0 : World} {g : Nat} {t : TypeId} {xs : List Value} {wr w2 : World} (h : RowAt W0 g t xs wr) (hg : Grows wr w2) (j : Nat) (u : Value) : RowAt W0 g t (xs.set j u) (w2.setCell ⟨g, j, none⟩ u) := by
  obtain ⟨y, rfl, h1, h2⟩ := h.grow hg
  have hk : Grows W0 (y.now.setCell ⟨g, j, none⟩ u) := ((Touch.refl (fun k => k = g) _).set (.inl rfl) _).later y.grows (fun k hk => by rw [hk]; exact h2)
  exact ⟨⟨_, hk⟩, rfl, h1.set j _, h2⟩
theorem nvI_vals (V : List Nat) : nv V = (nvI V).map (.int .i64) := by simp [nv, nvI]
set_option maxRecDepth 20000 in
set_option maxHeartbeats 2000000 in
theorem rkRight (A : Option Addr) (n c : Nat) (l : List Int) (w : World) (h : Rd w A 1 n (l.map (.int .i64))) (hn : n ≤ 1000000) :
    Calls Try.prog 68 #[.slice A n c] w fun e w' => e = .returned (.bool (rkB l)) ∧ Grows w w' := by
  have hl : l.length = n := by simpa using h.len
  have HL := hide hl
  have HR := hide h
  have mb := fun (w : World) => run_makeBoolsR n (by omega) w
  clear h hl
  go_enter Try.func68, Try.ntmps68
  go_wp2_with fail
  have h0 : RowAt w w.heap.size 4 ((List.replicate n false).map .bool) (w.alloc (Obj.cells (Array.replicate n (Value.bool false)) 4)) := by
    rw [← List.toArray_replicate]
    exact ⟨⟨_, (Grows.refl _).new _⟩, rfl, by rw [List.map_replicate]; exact Arr.make _ _ _, Nat.le_refl _⟩
  have H0 := hide h0
  clear h0 mb
  generalize (w.alloc (Obj.cells (Array.replicate n (Value.bool false)) 4)) = W1 at *
  obtain ⟨g, hg⟩ : ∃ g, g = w.heap.size := ⟨_, rfl⟩
  rw [← hg] at H0 ⊢
  clear hg
  go_loopw [11] (fun i wr => ∃ k : Nat, k ≤ n ∧ i = .int .i64 (k : Int) ∧ ∃ M, Hid (RkM l k M) ∧ RowAt w g 4 (M.map .bool) wr) (fun i _ => n - (Go.RowKit.intOf i).toNat)
  case atStart => exact ⟨0, by omega, by go_num, List.replicate n false, hide (by have := RkM.start l; rwa [HL.out] at this), H0.out⟩
  case round =>
    obtain ⟨k, hk, rfl, M, HM, hrow⟩ := hrel
    obtain ⟨y, rfl, ha, _⟩ := id hrow
    have HROW := hide hrow
    clear hrow H0
    by_cases hlt : k < n
    · obtain ⟨b, off, rfl, hc⟩ := HR.out.intsH (by omega)
      have c1 := hc k (by omega)
      clear hc
      obtain ⟨x, hx⟩ : ∃ x, x = gi l k := ⟨_, rfl⟩
      have HX := hide hx
      rw [← hx] at c1
      clear hx
      have hkl : Hid (k < l.length) := hide (by rw [HL.out]; exact hlt)
      by_cases hneg : x < 0
      · have HB : Hid (rkB l = false) := rkB_no hkl.out (.inl (by rw [← HX.out]; exact hneg))
        clear ha
        go_wp2_with fail
        go_ret
        exact ⟨ret_bool HB.out.symm, GG⟩
      · by_cases hbig : (n : Int) ≤ x
        · have HB : Hid (rkB l = false) := rkB_no hkl.out (.inr (.inl (by rw [← HX.out, HL.out]; exact hbig)))
          clear ha
          go_wp2_with fail
          go_ret
          exact ⟨ret_bool HB.out.symm, GG⟩
        · obtain ⟨v, rfl⟩ : ∃ v : Nat, x = (v : Int) := ⟨x.toNat, by omega⟩
          have hv : v < n := by omega
          have m1 := ha.mine v (bb_atR (by rw [HM.out.len, HL.out]; exact hv))
          clear ha hneg hbig
          cases hb : bb M v with
          | true =>
            rw [hb] at m1
            have HB : Hid (rkB l = false) := rkB_no hkl.out (.inr (.inr (by rw [← HX.out]; exact (HM.out.met v (by rw [HL.out]; exact hv)).1 hb)))
            clear hb
            go_wp2_with fail
            go_ret
            exact ⟨ret_bool HB.out.symm, GG⟩
          | false =>
            rw [hb] at m1
            have HN : Hid (RkM l (k + 1) (M.set v true)) := HM.out.next hkl.out HX.out.symm (by rw [HL.out]; exact hv) hb
            clear hb
            go_wp2_with fail
            go_roundw
            case measure => simp [Go.RowKit.intOf]; omega
            case rel => exact ⟨k + 1, by omega, by go_num, _, HN, by rw [List.map_set]; exact HROW.out.put GG _ _⟩
    · obtain rfl : k = n := by omega
      have HB : Hid (rkB l = true) := hide (by have := HM.out; rw [← HL.out] at this; exact this.all)
      clear ha
      go_wp2_with fail
      go_ret
      exact ⟨ret_bool HB.out.symm, GG⟩
set_option maxRecDepth 20000 in
set_option maxHeartbeats 2000000 in
theorem rkInverseNo (A : Option Addr) (n c : Nat) (l : List Int) (w : World) (h : Rd w A 1 n (l.map (.int .i64))) (hn : n ≤ 1000000) (hb : rkB l = false) :
    Calls Try.prog 58 #[.slice A n c] w fun e w' => e = .returned (.slice none 0 0) ∧ Grows w w' := by
  have C := hide (fun (W : World) (g : Grows w W) => rkRight A n c l W (h.grows g) hn)
  rw [hb] at C
  clear h hb
  go_enter Try.func58, Try.ntmps58
  go_wp2_with (go_at_call 68; refine (C.out _ GG).mono ?_; rintro e w' ⟨rfl, hg⟩; obtain ⟨x1, rfl⟩ := hg.later; clear hg)
  go_ret
  exact ⟨rfl, GG⟩
set_option maxRecDepth 20000 in
set_option maxHeartbeats 2000000 in
theorem rkInverse (A : Option Addr) (n c : Nat) (r : List Nat) (w : World) (h : Rd w A 1 n (nv r)) (hn : n ≤ 1000000) (hd : r.Nodup) (hlt : ∀ v ∈ r, v < r.length) :
    Calls Try.prog 58 #[.slice A n c] w fun e w' => ∃ g V, e = .returned (.slice (some ⟨g, 0, none⟩) n n) ∧ InvR n r V ∧ Arr w' g 3 (nv V) ∧ w.heap.size ≤ g ∧ Grows w w' := by
  have hl : r.length = n := by simpa [nv] using h.len
  have C := hide (fun (W : World) (g : Grows w W) => by have := rkRight A n c (nvI r) W (by rw [← nvI_vals]; exact h.grows g) hn; rw [rkB_nat hd hlt] at this; exact this)
  have HL := hide hl
  have hr := h
  rw [nvI_vals] at hr
  have HR := hide hr
  have HD := hide (And.intro hd hlt)
  have mi := fun (w : World) => run_makeInts n (by omega) w
  clear h hl hr hd hlt
  go_enter Try.func58, Try.ntmps58
  go_upto_region 3 with (go_at_call 68; refine (C.out _ GG).mono ?_; rintro e w' ⟨rfl, hg⟩; obtain ⟨x1, rfl⟩ := hg.later; clear hg)
  have h0 : RowAt w x1.now.heap.size 3 (nv (List.replicate n 0)) (x1.now.alloc (Obj.cells (Array.replicate n (Value.int .i64 0)) 3)) := by
    rw [← List.toArray_replicate]
    exact ⟨⟨_, x1.grows.new _⟩, rfl, by rw [show nv (List.replicate n 0) = List.replicate n (Value.int .i64 0) by simp [nv]]; exact Arr.make _ _ _, x1.size⟩
  have H0 := hide h0
  clear h0 C
  go_wp2_with fail
  clear mi
  generalize (x1.now.alloc (Obj.cells (Array.replicate n (Value.int .i64 0)) 3)) = W1 at *
  have hsz := x1.size
  generalize x1.now.heap.size = g at *
  go_loopw [14] (fun i wr => ∃ k : Nat, k ≤ n ∧ i = .int .i64 (k : Int) ∧ ∃ V, Hid (RkI r k V) ∧ RowAt w g 3 (nv V) wr) (fun i _ => n - (Go.RowKit.intOf i).toNat)
  case atStart => exact ⟨0, by omega, by go_num, List.replicate n 0, hide (by have := RkI.start r; rwa [HL.out] at this), H0.out⟩
  case round =>
    obtain ⟨k, hk, rfl, V, HV, hrow⟩ := hrel
    obtain ⟨y, rfl, ha, _⟩ := id hrow
    have HROW := hide hrow
    clear hrow H0
    by_cases hlt : k < n
    · obtain ⟨b, off, rfl, hc⟩ := HR.out.intsH (by omega)
      have c1 := hc k (by omega)
      rw [nvI_gi _ _ (by rw [HL.out]; exact hlt)] at c1
      clear hc
      have hv : gn r k < n := by have := HD.out.2 _ (gn_mem (l := r) (i := k) (by rw [HL.out]; exact hlt)); rw [HL.out] at this; exact this
      have HN : Hid (RkI r (k + 1) (V.set (gn r k) k)) := HV.out.next HD.out.1 (by rw [HL.out]; exact hlt) (by rw [HL.out]; exact hv)
      have m1 := ha.mine (gn r k) (nv_at (by rw [HV.out.len, HL.out]; exact hv))
      clear ha
      generalize gn r k = v at *
      go_wp2_with fail
      go_roundw
      case measure => simp [Go.RowKit.intOf]; omega
      case rel => exact ⟨k + 1, by omega, by go_num, _, HN, by rw [show nv (V.set v k) = (nv V).set v (.int .i64 (k : Int)) by simp [nv, List.map_set]]; exact HROW.out.put GG _ _⟩
    · obtain rfl : k = n := by omega
      have HI : Hid (InvR k r V) := hide (by
        have h1 := HV.out
        rw [← HL.out] at h1 ⊢
        exact h1.inv HD.out.1 HD.out.2)
      obtain ⟨_, _, ha2, hg2⟩ := HROW.out
      go_wp2_with fail
      go_ret
      exact ⟨g, V, rfl, HI.out, by assumption, hg2, GG⟩
end Go.Proofs.Yteodapefimlakaa

/- Walk: each phase's name, and what a nil state says. -/
namespace Go.Proofs.Yteodapefimlakaa
open Go Go.RowKit
def light20B (N : Int) (n : Nat) : Bool := lightG N n && (decide (N ≤ 12) || decide (4096 < N)) && decide (n ≤ 40)
set_option maxHeartbeats 1000000 in
theorem lLight20 (N : Int) (A : Option Addr) (n c : Nat) (w : World) : Calls Try.prog 9 #[.agg #[.int .i64 N, .slice A n c]] w fun e w' => e = .returned (.bool (light20B N n)) ∧ Grows w w' := by
  have CL := hide (fun (W : World) => lLight N A n c W)
  have HD : Hid (light20B N n = (lightG N n && (decide (N ≤ 12) || decide (4096 < N)) && decide (n ≤ 40))) := rfl
  generalize lightG N n = q at *
  generalize light20B N n = r at *
  go_enter Try.func9, Try.ntmps9
  go_wp2_with (go_at_call 50; refine (CL.out _).mono ?_; rintro e w' ⟨rfl, hg⟩; obtain ⟨x1, rfl⟩ := hg.later; clear hg)
  all_goals go_ret
  all_goals exact ⟨ret_bool (by rw [HD.out]; first | rfl | (apply bool_ext; simp [*]; try omega)), GG⟩
theorem run_makeBools (n : Nat) (hn : n ≤ 1000000000) (w : World) : (Instr.makeSlice 64 (.int .i64 (n : Int)) (.int .i64 (n : Int))).run Try.prog w = .ok (.slice (some ⟨w.heap.size, 0, none⟩) n n) (w.alloc (.cells (List.replicate n (Value.bool false)).toArray 4)) := by
  have h : (Try.prog.info? 4).map (fun i => (i.zero, i.size, i.bytes)) = some (some (.bool false), 1, 1) := by kernel_rfl
  obtain ⟨i, h1, h2, h3, h4⟩ := info_parts h
  have := run_make_row (P := Try.prog) 64 4 i (.bool false) Try.underlying64 h1 h2 h3 rfl .i64 .i64 n (by rw [h4]; omega) (by omega) w
  have e : madeCells #[Value.bool false] n = (List.replicate n (Value.bool false)).toArray := Array.ext' (by rw [toList_madeCells_one])
  rw [e] at this
  exact this
set_option maxRecDepth 20000 in
set_option maxHeartbeats 1000000 in
theorem rkRightNil (w : World) : Calls Try.prog 68 #[.slice none 0 0] w fun e w' => e = .returned (.bool true) ∧ Grows w w' := by
  have mk : ∀ w : World, (Instr.makeSlice 64 (.int .i64 0) (.int .i64 0)).run Try.prog w = .ok (.slice (some ⟨w.heap.size, 0, none⟩) 0 0) (w.alloc (.cells #[] 4)) := fun w => run_makeBools 0 (by omega) w
  go_enter Try.func68, Try.ntmps68
  go_wp2_with fail
  go_loopw [11] (fun i wr => i = .int .i64 0 ∧ ∃ y : Later w, wr = y.now) (fun _ _ => 0)
  case atStart => exact ⟨rfl, ⟨_, GG⟩, rfl⟩
  case round =>
    obtain ⟨rfl, x, rfl⟩ := hrel
    go_wp2_with fail
    go_ret
    exact ⟨rfl, GG⟩
theorem coRight1 (n : Int) (w : World) : Calls Try.prog 67 #[.int .i64 n] w fun e w' => e = .returned (.bool (decide (1 ≤ n) && decide (n ≤ 1000))) ∧ w = w' := by
  go_enter Try.func67, Try.ntmps67
  go_wp2_with fail
  all_goals go_ret
  all_goals exact ⟨ret_bool (bool_ext (by simp_all; try omega)), rfl⟩
set_option maxHeartbeats 1000000 in
theorem coRightOne (w : World) : Calls Try.prog 33 #[.agg #[.int .i64 1, .int .i64 1, .slice none 0 0]] w fun e w' => e = .returned (.bool true) ∧ Grows w w' := by
  have C1 := hide (fun (W : World) => coRight1 1 W)
  have C2 := hide (fun (W : World) => rkRightNil W)
  have hd : (decide ((1 : Int) ≤ 1) && decide ((1 : Int) ≤ 1000)) = true := by decide
  rw [hd] at C1
  clear hd
  go_enter Try.func33, Try.ntmps33
  go_wp2_with (first | (go_at_call 67; refine (C1.out _).mono ?_; rintro e w' ⟨rfl, rfl⟩) | (go_at_call 68; refine (C2.out _).mono ?_; rintro e w' ⟨rfl, hg⟩; obtain ⟨x1, rfl⟩ := hg.later; clear hg))
  all_goals go_ret
  all_goals exact ⟨rfl, GG⟩
theorem cloneNil (w : World) : Calls Try.prog 55 #[.slice none 0 0] w fun e w' => e = .returned (.slice none 0 0) ∧ Grows w w' := by
  have hnil := fun (w : World) (a : Option Addr) (n c n' c' : Nat) => Lib.run_eql_slice_nil (P := Try.prog) w 25 3 a n c n' c' Try.underlying25
  go_enter Try.func55, Try.ntmps55
  go_wp2_with fail
  go_ret
  exact ⟨rfl, GG⟩
set_option maxHeartbeats 1000000 in
theorem stateNewOne (w : World) : Calls Try.prog 45 #[.agg #[.int .i64 1, .int .i64 1, .slice none 0 0]] w fun e w' => ∃ b, e = .returned (.tuple #[.pointer (some ⟨b, 0, none⟩), .int .i64 0]) ∧ Arr w' b 134 [.int .i64 1, .int .i64 1, .slice none 0 0, .int .i64 0, .int .i64 0, .slice none 0 0, .pointer none, .int .i64 0, .int .i64 0, .int .i64 0] ∧ w.heap.size ≤ b ∧ Grows w w' := by
  have C1 := hide (fun (W : World) => coRightOne W)
  have C2 := hide (fun (W : World) => cloneNil W)
  go_enter Try.func45, Try.ntmps45
  go_wp2_with (first | (go_at_call 33; refine (C1.out _).mono ?_; rintro e w' ⟨rfl, hg⟩; obtain ⟨x1, rfl⟩ := hg.later; clear hg) | (go_at_call 55; refine (C2.out _).mono ?_; rintro e w' ⟨rfl, hg⟩; obtain ⟨x2, rfl⟩ := hg.later; clear hg))
  refine bodyPost_ret (v := .tuple #[.pointer (some ⟨x2.now.heap.size, 0, none⟩), .int .i64 0]) (by simp (maxDischargeDepth := 6) [results, Try.results45, go_sem]) rfl ⟨x2.now.heap.size, rfl, ⟨by rw [show ∀ (w : World) (o : Obj), (w.alloc o).heap = w.heap.push o from fun _ _ => rfl, Array.getElem?_push, if_pos (by simp)]⟩, ?_, GG⟩
  have h1 := x1.size
  have h2 := x2.size
  simp at h1
  omega
section
variable {w : World} {g : Nat} {t : TypeId}
instance Arr.q6 {v0 v1 v2 v3 v4 v5 v : Value} {l : List Value} [h : Arr w g t (v0 :: v1 :: v2 :: v3 :: v4 :: v5 :: v :: l)] : Mine w ⟨g, 6, none⟩ v := h.mine 6 rfl
instance Arr.q7 {v0 v1 v2 v3 v4 v5 v6 v : Value} {l : List Value} [h : Arr w g t (v0 :: v1 :: v2 :: v3 :: v4 :: v5 :: v6 :: v :: l)] : Mine w ⟨g, 7, none⟩ v := h.mine 7 rfl
instance Arr.q8 {v0 v1 v2 v3 v4 v5 v6 v7 v : Value} {l : List Value} [h : Arr w g t (v0 :: v1 :: v2 :: v3 :: v4 :: v5 :: v6 :: v7 :: v :: l)] : Mine w ⟨g, 8, none⟩ v := h.mine 8 rfl
instance Arr.q9 {v0 v1 v2 v3 v4 v5 v6 v7 v8 v : Value} {l : List Value} [h : Arr w g t (v0 :: v1 :: v2 :: v3 :: v4 :: v5 :: v6 :: v7 :: v8 :: v :: l)] : Mine w ⟨g, 9, none⟩ v := h.mine 9 rfl
end
theorem mayLoad (b : Nat) (w : World) (h : Holds w ⟨b, 3, none⟩ (.int .i64 0)) : Calls Try.prog 77 #[.pointer (some ⟨b, 0, none⟩), .int .i64 0] w fun e w' => e = .returned (.int .i64 0) ∧ w = w' := by
  go_enter Try.func77, Try.ntmps77
  go_wp2_with fail
  go_ret
  exact ⟨rfl, rfl⟩
theorem mayReady (b : Nat) (w : World) (h : Holds w ⟨b, 3, none⟩ (.int .i64 1)) : Calls Try.prog 77 #[.pointer (some ⟨b, 0, none⟩), .int .i64 2] w fun e w' => e = .returned (.int .i64 12) ∧ w = w' := by
  go_enter Try.func77, Try.ntmps77
  go_wp2_with fail
  go_ret
  exact ⟨rfl, rfl⟩
theorem mayNil (n : Int) (w : World) : Calls Try.prog 77 #[.pointer none, .int .i64 n] w fun e w' => e = .returned (.int .i64 1) ∧ w = w' := by
  go_enter Try.func77, Try.ntmps77
  go_wp2_with fail
  go_ret
  exact ⟨rfl, rfl⟩
set_option maxRecDepth 20000 in
set_option maxHeartbeats 4000000 in
theorem stateLoadOne (b : Nat) (w : World) (h : Arr w b 134 [.int .i64 1, .int .i64 1, .slice none 0 0, .int .i64 0, .int .i64 0, .slice none 0 0, .pointer none, .int .i64 0, .int .i64 0, .int .i64 0]) :
    Calls Try.prog 46 #[.pointer (some ⟨b, 0, none⟩), .agg #[.int .i64 1, .slice none 0 0]] w fun e w' => e = .returned (.int .i64 0) ∧ (∃ v1 v2 c0, Arr w' b 134 [.int .i64 1, .int .i64 1, .slice none 0 0, .int .i64 1, v1, v2, .pointer none, c0, .int .i64 0, .int .i64 0]) ∧ Touch (fun k => k = b) w w' := by
  have hn : Rd w none 3 0 (esCells []) := ⟨by simp [esCells], fun h => absurd h (by simp)⟩
  have C1 := hide (fun (W : World) => gRight 1 none 0 0 [] W (show Rd W none 3 0 (esCells []) from ⟨by simp [esCells], fun h => absurd h (by simp)⟩) (by omega))
  have C2 := hide (fun (W : World) => gClone 1 none 0 0 [] W (show Rd W none 3 0 (esCells []) from ⟨by simp [esCells], fun h => absurd h (by simp)⟩) (by simp))
  have hr : rightF 1 [] = 0 := by decide
  rw [hr] at C1
  have CM := hide (fun (W : World) (h : Holds W ⟨b, 3, none⟩ (.int .i64 0)) => mayLoad b W h)
  clear hr hn
  go_enter Try.func46, Try.ntmps46
  go_wp2_with (first | (go_at_call 77; refine (CM.out _ inferInstance).mono ?_; rintro e w' ⟨rfl, rfl⟩) | (go_at_call 56; refine (C1.out _).mono ?_; rintro e w' ⟨rfl, hg⟩; obtain ⟨x1, rfl⟩ := hg.later; clear hg) | (go_at_call 52; refine (C2.out _).mono ?_; rintro e w' ⟨A1, c1, rfl, ho, hg⟩; obtain ⟨x2, rfl⟩ := hg.later; clear hg))
  have a1 : Arr x2.now b 134 [.int .i64 1, .int .i64 1, .slice none 0 0, .int .i64 0, .int .i64 0, .slice none 0 0, .pointer none, .int .i64 0, .int .i64 0, .int .i64 0] := inferInstance
  have a2 := (((a1.set 4 (.int .i64 1)).set 5 (.slice A1 0 c1)).set 6 (.pointer none)).set 3 (.int .i64 1)
  have ht : Touch (fun k => k = b) w ((((x2.now.setCell ⟨b, 4, none⟩ (.int .i64 1)).setCell ⟨b, 5, none⟩ (.slice A1 0 c1)).setCell ⟨b, 6, none⟩ (.pointer none)).setCell ⟨b, 3, none⟩ (.int .i64 1)) :=
    (((((((Grows.refl w).new _).trans x1.grows).trans x2.grows).touch (fun k => k = b)).set (.inl rfl) _).set (.inl rfl) _ |>.set (.inl rfl) _).set (.inl rfl) _
  simp only [List.set_cons_zero, List.set_cons_succ] at a2
  have HT := hide ht
  generalize ((((x2.now.setCell ⟨b, 4, none⟩ (.int .i64 1)).setCell ⟨b, 5, none⟩ (.slice A1 0 c1)).setCell ⟨b, 6, none⟩ (.pointer none)).setCell ⟨b, 3, none⟩ (.int .i64 1)) = W at *
  clear ht a1 ho h C1 C2 CM
  go_region_with fail
  all_goals go_wp2_with fail
  have a3 : Arr (W.setCell ⟨b, 7, none⟩ (.int .i64 (IntKind.i64.wrap 1))).drew b 134 _ := (a2.set 7 (.int .i64 (IntKind.i64.wrap 1))).drew
  simp only [List.set_cons_zero, List.set_cons_succ] at a3
  go_ret
  exact ⟨rfl, ⟨_, _, _, a3⟩, (HT.out.set (.inl rfl) _).grows ((Grows.refl _).drew)⟩
set_option maxHeartbeats 1000000 in
theorem alive39 (w : World) : Calls Try.prog 44 #[] w fun e w' => e = .returned (.bool true) ∧ Grows w w' := by
  have C1 := hide (fun (W : World) => stateNewOne W)
  have C2 := hide (fun (b : Nat) (W : World) (h : Arr W b 134 _) => stateLoadOne b W h)
  have C3 := hide (fun (b : Nat) (W : World) (h : Holds W ⟨b, 3, none⟩ (.int .i64 1)) => mayReady b W h)
  go_enter Try.func44, Try.ntmps44
  go_wp2_with fail
  refine (C1.out _).mono ?_; rintro e w' ⟨b, rfl, ha, hb, hg⟩
  go_wp2_with fail
  refine (C2.out _ _ ha).mono ?_; rintro e w2 ⟨rfl, ⟨v1, v2, c0, ha2⟩, ht⟩
  have hgw : Grows w w2 := ht.later hg (fun k hk => by subst hk; exact hb)
  clear ha hg ht C1 C2
  go_wp2_with fail
  refine Calls.mono (show Calls Try.prog 75 #[.pointer (some ⟨b, 0, none⟩)] w2 fun e w' => e = .returned (.int .i64 12) ∧ w2 = w' from ?_) ?_
  · clear hgw
    go_enter Try.func75, Try.ntmps75
    go_wp2_with (go_at_call 77; refine (C3.out _ _ inferInstance).mono ?_; rintro e w' ⟨rfl, rfl⟩)
    go_ret
    exact ⟨rfl, rfl⟩
  · rintro e w' ⟨rfl, rfl⟩
    go_wp2_with fail
    refine Calls.mono (show Calls Try.prog 76 #[.pointer (some ⟨b, 0, none⟩)] w2 fun e w' => e = .returned (.int .i64 1) ∧ w2 = w' from ?_) ?_
    · clear hgw
      go_enter Try.func76, Try.ntmps76
      go_wp2_with fail
      go_ret
      exact ⟨rfl, rfl⟩
    · rintro e w' ⟨rfl, rfl⟩
      go_wp2_with fail
      go_ret
      exact ⟨rfl, hgw⟩
theorem nilPhase (w : World) : Calls Try.prog 76 #[.pointer none] w fun e w' => e = .returned (.int .i64 0) ∧ w = w' := by
  go_enter Try.func76, Try.ntmps76
  go_wp2_with fail
  go_ret
  exact ⟨rfl, rfl⟩
theorem nilReady (w : World) : Calls Try.prog 75 #[.pointer none] w fun e w' => e = .returned (.int .i64 1) ∧ w = w' := by
  have C := hide (fun (W : World) => mayNil 2 W)
  go_enter Try.func75, Try.ntmps75
  go_wp2_with (go_at_call 77; refine (C.out _).mono ?_; rintro e w' ⟨rfl, rfl⟩)
  go_ret
  exact ⟨rfl, rfl⟩
theorem nilSet (w : World) : Calls Try.prog 49 #[.pointer none, .int .i64 0, .int .u64 1] w fun e w' => e = .returned (.int .i64 1) ∧ Grows w w' := by
  have C := hide (fun (W : World) => mayNil 1 W)
  go_enter Try.func49, Try.ntmps49
  go_wp2_with (go_at_call 77; refine (C.out _).mono ?_; rintro e w' ⟨rfl, rfl⟩)
  go_ret
  exact ⟨rfl, GG⟩
theorem nilBuild (w : World) : Calls Try.prog 47 #[.pointer none, .slice none 0 0] w fun e w' => e = .returned (.int .i64 1) ∧ Grows w w' := by
  have C := hide (fun (W : World) => mayNil 1 W)
  go_enter Try.func47, Try.ntmps47
  go_wp2_with (go_at_call 77; refine (C.out _).mono ?_; rintro e w' ⟨rfl, rfl⟩)
  go_ret
  exact ⟨rfl, GG⟩
theorem nilLoad (N : Int) (A : Option Addr) (n c : Nat) (w : World) : Calls Try.prog 46 #[.pointer none, .agg #[.int .i64 N, .slice A n c]] w fun e w' => e = .returned (.int .i64 1) ∧ Grows w w' := by
  have C := hide (fun (W : World) => mayNil 0 W)
  go_enter Try.func46, Try.ntmps46
  go_wp2_with (go_at_call 77; refine (C.out _).mono ?_; rintro e w' ⟨rfl, rfl⟩)
  go_ret
  exact ⟨rfl, GG⟩
theorem nilHier (w : World) : Calls Try.prog 48 #[.pointer none] w fun e w' => e = .returned (.tuple #[.pointer none, .int .i64 1]) ∧ w = w' := by
  have C := hide (fun (W : World) => nilReady W)
  go_enter Try.func48, Try.ntmps48
  go_wp2_with (go_at_call 75; refine (C.out _).mono ?_; rintro e w' ⟨rfl, rfl⟩)
  refine bodyPost_ret (v := .tuple #[.pointer none, .int .i64 1]) (by simp [results, Try.results48, go_sem]) rfl ⟨rfl, rfl⟩
def nameV (p : Int) : Value := if p = 0 then .string ⟨#[110, 111, 110, 101]⟩ else if p = 1 then .string ⟨#[108, 111, 97, 100, 101, 100]⟩ else if p = 2 then .string ⟨#[98, 117, 105, 108, 116]⟩ else if p = 3 then .string ⟨#[115, 116, 97, 108, 101]⟩ else if p = 4 then .string ⟨#[111, 118, 101, 114]⟩ else .string ⟨#[]⟩
end Go.Proofs.Yteodapefimlakaa

/- Contract: may an Opt be? -/
namespace Go.Proofs.Yteodapefimlakaa
open Go Go.RowKit
attribute [local go_sem] Oper.semAt_some
def coRB (hops settles : Int) (l : List Int) : Bool := decide (1 ≤ hops ∧ hops ≤ 1000 ∧ 1 ≤ settles ∧ settles ≤ 1000) && rkB l
set_option maxHeartbeats 1000000 in
theorem coRight (hops settles : Int) (A : Option Addr) (n c : Nat) (l : List Int) (w : World) (h : Rd w A 1 n (l.map (.int .i64))) (hn : n ≤ 1000000) :
    Calls Try.prog 33 #[.agg #[.int .i64 hops, .int .i64 settles, .slice A n c]] w fun e w' => e = .returned (.bool (coRB hops settles l)) ∧ Grows w w' := by
  have C1 := hide (fun (W : World) => coRight1 hops W)
  have C2 := hide (fun (W : World) => coRight1 settles W)
  have C3 := hide (fun (W : World) (g : Grows w W) => rkRight A n c l W (h.grows g) hn)
  have hv : coRB hops settles l = ((decide (1 ≤ hops) && decide (hops ≤ 1000)) && (decide (1 ≤ settles) && decide (settles ≤ 1000)) && rkB l) := by
    unfold coRB
    cases rkB l <;> simp [Bool.decide_and, Bool.and_assoc]
  rw [hv]
  clear h hv
  generalize (decide (1 ≤ hops) && decide (hops ≤ 1000)) = b1 at *
  generalize (decide (1 ≤ settles) && decide (settles ≤ 1000)) = b2 at *
  generalize rkB l = b3 at *
  cases b1 with
  | false =>
    go_enter Try.func33, Try.ntmps33
    go_wp2_with (go_at_call 67; refine (C1.out _).mono ?_; rintro e w' ⟨rfl, rfl⟩)
    all_goals go_ret
    all_goals exact ⟨rfl, GG⟩
  | true =>
    cases b2 with
    | false =>
      go_enter Try.func33, Try.ntmps33
      go_upto_region 1 with fail
      go_wp2_with fail
      case' _ => skip
      go_at_call 67
      refine (C1.out _).mono ?_
      rintro e w' ⟨rfl, rfl⟩
      go_wp2_with fail
      go_at_call 67
      refine (C2.out _).mono ?_
      rintro e w' ⟨rfl, rfl⟩
      go_wp2_with fail
      all_goals go_ret
      all_goals exact ⟨rfl, GG⟩
    | true =>
      go_enter Try.func33, Try.ntmps33
      go_wp2_with fail
      go_at_call 67
      refine (C1.out _).mono ?_
      rintro e w' ⟨rfl, rfl⟩
      go_wp2_with fail
      go_at_call 67
      refine (C2.out _).mono ?_
      rintro e w' ⟨rfl, rfl⟩
      go_wp2_with (go_at_call 68; refine (C3.out _ GG).mono ?_; rintro e w' ⟨rfl, hg⟩; obtain ⟨x1, rfl⟩ := hg.later; clear hg)
      all_goals go_ret
      all_goals exact ⟨rfl, GG⟩
end Go.Proofs.Yteodapefimlakaa
