/- Plain: how heavy, how many and how deep all gets while nodes go; in which order they go; the rank. -/
import Derived.Test.YtgplpgldhoelcaaQChangeAgain12
import Derived.Test.YtgplpgldhoelcaaQChangeAgain06
namespace Go.Proofs.Ytgplpgldhoelcaa
open Go Go.RowKit
structure CtB (W n0 L d : Nat) (c : Ctr) : Prop where
  w : ∀ v a, a ∈ ga c.O v → a.2 ≤ W
  row : ∀ u, (ga c.O u).length ≤ n0
  len : c.S.length ≤ L
  deep : ∀ v, gn c.D v ≤ d
  sw : ∀ i, i < c.S.length → (gs c.S i).w ≤ W
theorem ga_set_any (O : NetO) (u x : Nat) (l : List Itm) : ga (O.set u l) x = ga O x ∨ ga (O.set u l) x = l := by
  unfold ga
  rw [List.getD_eq_getElem?_getD, List.getElem?_set]
  by_cases e : u = x
  · subst e
    by_cases h : u < O.length
    · exact .inr (by simp [h])
    · exact .inl (by simp [h])
  · exact .inl (by simp [e, List.getD_eq_getElem?_getD])
theorem CtB.add {W n0 L d : Nat} {c : Ctr} (h : CtB W n0 L d c) {x : Sc} (hx : x.w ≤ W) : CtB W (n0 + 1) (L + 1) d (c.add x) := by
  have hsw := Ctr.add_all (c := c) (x := x) (P := fun _ s => s.w ≤ W) h.sw hx
  by_cases hh : c.has x.f x.t x.w = true
  · rw [Ctr.add_yes hh]
    exact ⟨h.w, fun u => Nat.le_succ_of_le (h.row u), Nat.le_succ_of_le h.len, h.deep, h.sw⟩
  · rw [Ctr.add_no hh] at hsw ⊢
    refine ⟨fun v a ha => ?_, fun u => ?_, ?_, h.deep, hsw⟩
    · rcases ga_set_any c.O x.f v ((ga c.O x.f).filter (fun a => !decide (a.1 = x.t)) ++ [(x.t, x.w)]) with e | e
      · exact h.w v a (by rw [← e]; exact ha)
      · have ha2 : a ∈ (ga c.O x.f).filter (fun a => !decide (a.1 = x.t)) ++ [(x.t, x.w)] := by rw [← e]; exact ha
        rcases List.mem_append.1 ha2 with h1 | h1
        · exact h.w x.f a (List.mem_filter.1 h1).1
        · rw [List.mem_singleton.1 h1]; exact hx
    · rcases ga_set_any c.O x.f u ((ga c.O x.f).filter (fun a => !decide (a.1 = x.t)) ++ [(x.t, x.w)]) with e | e
      · show (ga (c.O.set x.f _) u).length ≤ _
        rw [e]; exact Nat.le_succ_of_le (h.row u)
      · show (ga (c.O.set x.f _) u).length ≤ _
        rw [e, List.length_append, List.length_singleton]
        have h1 := List.length_filter_le (fun a : Itm => !decide (a.1 = x.t)) (ga c.O x.f)
        have h2 := h.row x.f
        omega
    · show (c.S ++ [x]).length ≤ _
      have := h.len
      simp; omega
theorem CtB.adds {W d : Nat} (v : Nat) : ∀ (l : List Kp) {n0 L : Nat} {c : Ctr}, CtB W n0 L d c → (∀ k ∈ l, k.2.2 ≤ W) → CtB W (n0 + l.length) (L + l.length) d (Ctr.adds v l c)
  | [], _, _, _, h, _ => h
  | k :: l, n0, L, c, h, hl => by
    have h1 := CtB.adds v l (h.add (x := kpSc c v k) (hl k (by simp))) (fun x hx => hl x (by simp [hx]))
    have e1 : n0 + (k :: l).length = n0 + 1 + l.length := by simp; omega
    have e2 : L + (k :: l).length = L + 1 + l.length := by simp; omega
    rw [e1, e2]
    exact h1
theorem kpt_w {c : Ctr} {W n0 L d hops settles v : Nat} (h : CtB W n0 L d c) : ∀ k ∈ keptL c.O c.G hops settles v, k.2.2 ≤ 2 * W := by
  intro k hk
  unfold keptL at hk
  obtain ⟨u, a, w, b, h1, h2, h3, h4, h5, h6, rfl⟩ := (kpAll_mem _).1 hk
  obtain ⟨l1, l2⟩ := lgAll_ok c.O c.G v c.O.length
  have q1 := h.w _ _ (l1.is u a h2).2.2.2
  have q2 := h.w _ _ (l2.is w b h4).2.2.2
  simp only at q1 q2
  show a + b ≤ _
  omega
theorem kpIn_le {O : NetO} {G : List Bool} {hops settles u a : Nat} {fr : LM} {acc : List Kp} (n : Nat) : (kpIn O G hops settles fr u a n acc).length ≤ acc.length + n := by
  induction n with
  | zero => exact Nat.le_refl _
  | succ n ih =>
    have : (kpIn O G hops settles fr u a (n + 1) acc).length ≤ (kpIn O G hops settles fr u a n acc).length + 1 := by
      show (kpW O G hops settles fr u a n _).length ≤ _
      unfold kpW
      split
      · exact Nat.le_succ _
      · split
        · exact Nat.le_succ _
        · split
          · exact Nat.le_succ _
          · simp
    omega
theorem kpAll_le {O : NetO} {G : List Bool} {hops settles N : Nat} {tf : LM × LM} (n : Nat) : (kpAll O G hops settles tf N n).length ≤ n * N := by
  induction n with
  | zero => simp [kpAll]
  | succ n ih =>
    unfold kpAll
    rw [Nat.succ_mul]
    split
    · omega
    · have := kpIn_le (O := O) (G := G) (hops := hops) (settles := settles) (u := n) (a := ‹Nat›) (fr := tf.2) (acc := kpAll O G hops settles tf N n) N
      omega
theorem kept_le {O : NetO} {G : List Bool} {hops settles v : Nat} : (keptL O G hops settles v).length ≤ O.length * O.length := kpAll_le _
theorem CtB.mono {W n0 L d W' n0' L' d' : Nat} {c : Ctr} (h : CtB W n0 L d c) (h1 : W ≤ W') (h2 : n0 ≤ n0') (h3 : L ≤ L') (h4 : d ≤ d') : CtB W' n0' L' d' c :=
  ⟨fun v a ha => Nat.le_trans (h.w v a ha) h1, fun u => Nat.le_trans (h.row u) h2, Nat.le_trans h.len h3, fun v => Nat.le_trans (h.deep v) h4, fun i hi => Nat.le_trans (h.sw i hi) h1⟩
theorem adds_D0 (v : Nat) : ∀ (l : List Kp) (c : Ctr), (Ctr.adds v l c).D = c.D
  | [], _ => rfl
  | k :: l, c => by
    show (Ctr.adds v l (c.add (kpSc c v k))).D = c.D
    rw [adds_D0 v l, (Ctr.add_G _ _).2]
theorem deepL_le {D : List Nat} {tf : LM × LM} {v d : Nat} (h : ∀ v, gn D v ≤ d) (x : Nat) : gn (deepL D tf v) x ≤ d + 1 := by
  unfold deepL
  by_cases hx : x < D.length
  · have e : gn ((List.range D.length).map fun u => if (tf.1 u).isSome = true ∨ (tf.2 u).isSome = true then max (gn D u) (gn D v + 1) else gn D u) x = if (tf.1 x).isSome = true ∨ (tf.2 x).isSome = true then max (gn D x) (gn D v + 1) else gn D x := by
      unfold gn
      simp [List.getD_eq_getElem?_getD, hx]
    rw [e]
    have h1 := h x
    have h2 := h v
    split <;> omega
  · have e : gn ((List.range D.length).map fun u => if (tf.1 u).isSome = true ∨ (tf.2 u).isSome = true then max (gn D u) (gn D v + 1) else gn D u) x = 0 := by
      unfold gn
      rw [List.getD_eq_getElem?_getD, List.getElem?_eq_none (by simp; omega)]
      rfl
    omega
theorem CtB.go {W n0 L d N hops settles v : Nat} {c : Ctr} (h : CtB W n0 L d c) (hN : c.O.length = N) : CtB (2 * W) (n0 + N * N) (L + N * N) (d + 1) (Ctr.go hops settles c v) := by
  have h1 : CtB (2 * W) n0 L d c := h.mono (by omega) (Nat.le_refl _) (Nat.le_refl _) (Nat.le_refl _)
  have h2 := h1.adds v (keptL c.O c.G hops settles v) (kpt_w h)
  have h3 := kept_le (O := c.O) (G := c.G) (hops := hops) (settles := settles) (v := v)
  rw [hN] at h3
  have hD := adds_D0 v (keptL c.O c.G hops settles v) c
  unfold Ctr.go
  refine ⟨h2.w, fun u => Nat.le_trans (h2.row u) (by omega), Nat.le_trans h2.len (by omega), fun x => ?_, h2.sw⟩
  show gn (deepL (Ctr.adds v _ c).D _ v) x ≤ _
  rw [hD]
  exact deepL_le h.deep x
theorem goAll_net {N : Nat} {E : List Edg} (hr : rightF N E = 0) (hne : ∀ i, i < E.length → fN E i ≠ tN E i) {hops settles : Nat} {vs : List Nat} (hd : vs.Nodup) (hv : ∀ v ∈ vs, v < N) : CtN N (Ctr.goAll hops settles vs (ctrG N E)) := (goAll_ok hr hne vs hd hv).net
theorem edges_b {E : List Edg} {N W : Nat} (hW : ∀ i, i < E.length → (ge E i).w.toNat ≤ W) : ∀ k, k ≤ E.length → CtB W k k 0 (Ctr.edges E k (ctr0 N))
  | 0, _ => by
    refine ⟨fun v a ha => ?_, fun u => ?_, Nat.le_refl _, fun v => ?_, fun i hi => by cases hi⟩
    · have : ga (ctr0 N).O v = [] := by
        show ga (List.replicate N []) v = []
        unfold ga
        rw [List.getD_eq_getElem?_getD, List.getElem?_replicate]
        split <;> rfl
      have ha2 : a ∈ ga (ctr0 N).O v := ha
      rw [this] at ha2
      cases ha2
    · show (ga (List.replicate N []) u).length ≤ 0
      unfold ga
      rw [List.getD_eq_getElem?_getD, List.getElem?_replicate]
      split <;> simp
    · show gn (List.replicate N 0) v ≤ 0
      unfold gn
      rw [List.getD_eq_getElem?_getD, List.getElem?_replicate]
      split <;> simp
  | k + 1, hk => (edges_b hW k (by omega)).add (hW k (by omega))
theorem goAll_b {N W : Nat} {E : List Edg} (hr : rightF N E = 0) (hne : ∀ i, i < E.length → fN E i ≠ tN E i) (hW : ∀ i, i < E.length → (ge E i).w.toNat ≤ W) {hops settles : Nat} : ∀ (n : Nat) (vs : List Nat), vs.length = n → vs.Nodup → (∀ v ∈ vs, v < N) →
    CtB (2 ^ n * W) (E.length + n * (N * N)) (E.length + n * (N * N)) n (Ctr.goAll hops settles vs (ctrG N E))
  | 0, vs, hl, _, _ => by
    have : vs = [] := List.length_eq_zero_iff.1 hl
    subst this
    have := edges_b (N := N) hW E.length (Nat.le_refl _)
    simpa [Ctr.goAll, ctrG] using this
  | n + 1, vs, hl, hd, hv => by
    obtain ⟨ws, v, rfl⟩ : ∃ ws v, vs = ws ++ [v] := ⟨vs.dropLast, vs.getLast (by intro e; rw [e] at hl; simp at hl), (List.dropLast_concat_getLast _).symm⟩
    have hl2 : ws.length = n := by simp at hl; exact hl
    obtain ⟨d1, _, _⟩ := List.nodup_append.1 hd
    have hw : ∀ v ∈ ws, v < N := fun x hx => hv x (by simp [hx])
    have h1 := goAll_b hr hne hW (hops := hops) (settles := settles) n ws hl2 d1 hw
    rw [goAll_snoc]
    have h2 := h1.go (hops := hops) (settles := settles) (v := v) (goAll_net hr hne d1 hw).olen
    refine h2.mono ?_ ?_ ?_ (Nat.le_refl _)
    · rw [Nat.pow_succ, Nat.mul_comm (2 ^ n) 2, Nat.mul_assoc]; exact Nat.le_refl _
    · rw [Nat.succ_mul]; omega
    · rw [Nat.succ_mul]; omega
end Go.Proofs.Ytgplpgldhoelcaa

namespace Go.Proofs.Ytgplpgldhoelcaa
open Go Go.RowKit
structure InvR (N : Nat) (r vs : List Nat) : Prop where
  rl : r.length = N
  vl : vs.length = N
  at_ : ∀ i, i < N → gn vs i < N ∧ gn r (gn vs i) = i
  of_ : ∀ v, v < N → gn r v < N ∧ gn vs (gn r v) = v
theorem gn_mem {l : List Nat} {i : Nat} (h : i < l.length) : gn l i ∈ l := by
  unfold gn
  rw [List.getD_eq_getElem?_getD, List.getElem?_eq_getElem h]
  exact List.getElem_mem h
theorem mem_gn {l : List Nat} {v : Nat} (h : v ∈ l) : ∃ i, i < l.length ∧ gn l i = v := by
  obtain ⟨i, hi, e⟩ := List.getElem_of_mem h
  exact ⟨i, hi, by unfold gn; rw [List.getD_eq_getElem?_getD, List.getElem?_eq_getElem hi]; exact e⟩
theorem InvR.nodup {N : Nat} {r vs : List Nat} (h : InvR N r vs) : vs.Nodup := by
  have e : vs = (List.range N).map (gn vs) := by
    apply List.ext_getElem?
    intro i
    rw [List.getElem?_map]
    by_cases hi : i < N
    · rw [List.getElem?_eq_getElem (by rw [h.vl]; exact hi)]
      simp [hi, gn, List.getD_eq_getElem?_getD, List.getElem?_eq_getElem (show i < vs.length by rw [h.vl]; exact hi)]
    · rw [List.getElem?_eq_none (by rw [h.vl]; omega)]
      simp [hi]
  rw [e]
  unfold List.Nodup
  rw [List.pairwise_map]
  refine List.Pairwise.imp_of_mem ?_ (List.nodup_range (n := N))
  intro a b ha hb hab hx
  have h1 := (h.at_ a (List.mem_range.1 ha)).2
  have h2 := (h.at_ b (List.mem_range.1 hb)).2
  rw [hx, h2] at h1
  exact hab h1.symm
theorem InvR.lt {N : Nat} {r vs : List Nat} (h : InvR N r vs) : ∀ v ∈ vs, v < N := by
  intro v hv
  obtain ⟨i, hi, rfl⟩ := mem_gn hv
  exact (h.at_ i (by rw [← h.vl]; exact hi)).1
theorem InvR.below {N : Nat} {r vs p q : List Nat} {m f : Nat} (h : InvR N r vs) (hp : vs = p ++ m :: q) (hf : f < N) (hn : f ∉ p ++ [m]) : gn r m < gn r f := by
  have hl : p.length < N := by rw [← h.vl, hp]; simp
  have em : gn vs p.length = m := by rw [hp]; simp [gn, List.getD_eq_getElem?_getD]
  have rm := (h.at_ _ hl).2
  rw [em] at rm
  rw [rm]
  obtain ⟨f1, f2⟩ := h.of_ f hf
  apply Decidable.byContradiction
  intro hle
  apply hn
  rw [← f2, hp]
  have e : p ++ m :: q = (p ++ [m]) ++ q := by simp
  rw [e]
  have hlt : gn r f < (p ++ [m]).length := by simp; omega
  unfold gn at hlt ⊢
  rw [List.getD_eq_getElem?_getD, List.getElem?_append_left hlt, List.getElem?_eq_getElem hlt]
  exact List.getElem_mem hlt
def nvI (l : List Nat) : List Int := l.map fun v : Nat => (v : Int)
theorem gn_take {l : List Nat} {k i : Nat} (h : i < k) : gn (l.take k) i = gn l i := by
  unfold gn
  rw [List.getD_eq_getElem?_getD, List.getD_eq_getElem?_getD, List.getElem?_take_of_lt h]
def scEdge (E : List Edg) (s : Sc) : Prop := ∃ e, e < E.length ∧ s = ⟨fN E e, tN E e, (ge E e).w.toNat, (e : Int), -1, -1⟩
def scTwo (r : List Nat) (S : List Sc) (i : Nat) : Prop :=
  (gs S i).e = -1 ∧ ∃ A B, (gs S i).a = (A : Nat) ∧ (gs S i).b = (B : Nat) ∧ A < i ∧ B < i ∧ (gs S A).f = (gs S i).f ∧ (gs S A).t = (gs S B).f ∧ (gs S B).t = (gs S i).t ∧ (gs S A).w + (gs S B).w = (gs S i).w ∧
    gn r (gs S A).t < gn r (gs S i).f ∧ gn r (gs S A).t < gn r (gs S i).t
structure MadeL (N : Nat) (E : List Edg) (r : List Nat) (S : List Sc) : Prop where
  ends : ∀ i, i < S.length → (gs S i).f < N ∧ (gs S i).t < N ∧ (gs S i).f ≠ (gs S i).t
  made : ∀ i, i < S.length → scEdge E (gs S i) ∨ scTwo r S i
def noBelow (N : Nat) (r : List Nat) (u w : Nat) : List Nat := (List.range N).filter fun v => decide (v ≠ u) && decide (v ≠ w) && decide (min (gn r u) (gn r w) ≤ gn r v)
theorem noBelow_len (N : Nat) (r : List Nat) (u w : Nat) : (noBelow N r u w).length ≤ N := by
  have := List.length_filter_le (fun v => decide (v ≠ u) && decide (v ≠ w) && decide (min (gn r u) (gn r w) ≤ gn r v)) (List.range N)
  simpa [noBelow] using this
def FullL (N : Nat) (E : List Edg) (r : List Nat) (S : List Sc) : Prop := ∀ u w, u < N → w < N → u ≠ w → dF N E u w < farV → gn (refL (srchOf N E (noN (nvI (noBelow N r u w)))) u) w = dF N E u w → ∃ i, i < S.length ∧ (gs S i).f = u ∧ (gs S i).t = w ∧ (gs S i).w = dF N E u w
section
variable {N : Nat} {E : List Edg} {r vs : List Nat} {hops settles : Nat}
theorem built_made (hr : rightF N E = 0) (hne : ∀ i, i < E.length → fN E i ≠ tN E i) (h : InvR N r vs) : MadeL N E r (Ctr.goAll hops settles vs (ctrG N E)).S := by
  have hI := goAll_ok hr hne (hops := hops) (settles := settles) vs h.nodup h.lt
  refine ⟨hI.net.ends, fun i hi => ?_⟩
  obtain ⟨e1, e2, _⟩ := hI.net.ends i hi
  rcases hI.made i hi with h1 | ⟨h1, A, B, h2, h3, h4, h5, h6, h7, h8, h9, p, q, h10, h11, h12⟩
  · exact .inl h1
  · exact .inr ⟨h1, A, B, h2, h3, h4, h5, h6, h7, h8, h9, h.below h10 e1 h11, h.below h10 e2 h12⟩
theorem built_fullL (hr : rightF N E = 0) (hne : ∀ i, i < E.length → fN E i ≠ tN E i) (h : InvR N r vs) : FullL N E r (Ctr.goAll hops settles vs (ctrG N E)).S := by
  intro u w hu hw huw hd hb
  have hN : N ≤ 4096 := by have := (right_in hr).2.1; omega
  obtain ⟨u1, u2⟩ := h.of_ u hu
  obtain ⟨w1, w2⟩ := h.of_ w hw
  have hsplit := List.take_append_drop (min (gn r u) (gn r w)) vs
  have hnin : ∀ x, x < N → min (gn r u) (gn r w) ≤ gn r x → x ∉ vs.take (min (gn r u) (gn r w)) := by
    intro x hx hle hm
    obtain ⟨i, hi, e⟩ := mem_gn hm
    rw [List.length_take] at hi
    have hi2 : i < min (gn r u) (gn r w) := by omega
    have e2 : gn vs i = x := by
      rw [← e, gn_take hi2]
    have := (h.at_ i (by rw [← h.vl]; omega)).2
    rw [e2] at this
    omega
  have hin : ∀ x, x < N → gn r x < min (gn r u) (gn r w) → x ∈ vs.take (min (gn r u) (gn r w)) := by
    intro x hx hlt
    obtain ⟨x1, x2⟩ := h.of_ x hx
    have e2 : gn (vs.take (min (gn r u) (gn r w))) (gn r x) = x := by
      rw [gn_take hlt, x2]
    rw [← e2]
    refine gn_mem ?_
    rw [List.length_take, h.vl]
    omega
  have hmem : ∀ x : Nat, ((x : Int) ∈ nvI (noBelow N r u w)) ↔ x ∈ noBelow N r u w := fun x => by
    unfold nvI
    rw [List.mem_map]
    exact ⟨fun ⟨y, h1, h2⟩ => by have : y = x := by omega
                                 rw [← this]; exact h1, fun h1 => ⟨x, h1, rfl⟩⟩
  have hwy := below_way (p := vs.take (min (gn r u) (gn r w))) hr hu hw huw (nn := nvI (noBelow N r u w)) (fun e => by
    have := (hmem u).1 e
    unfold noBelow at this
    rw [List.mem_filter] at this
    simp at this) (by have := noBelow_len N r u w; unfold nvI; rw [List.length_map]; omega) (fun x hx h1 h2 h3 => hin x hx (by
      apply Decidable.byContradiction
      intro hle
      apply h3
      rw [hmem]
      unfold noBelow
      rw [List.mem_filter]
      exact ⟨List.mem_range.2 hx, by simp [h1, h2]; omega⟩)) hd hb
  have := built_full hr hne (hops := hops) (settles := settles) (p := vs.take (min (gn r u) (gn r w))) (q := vs.drop (min (gn r u) (gn r w))) (by rw [hsplit]; exact h.nodup) (by rw [hsplit]; exact h.lt) hu hw (hnin u hu (Nat.min_le_left ..)) (hnin w hw (Nat.min_le_right ..)) huw hwy
  rwa [hsplit] at this
end
end Go.Proofs.Ytgplpgldhoelcaa

namespace Go.Proofs.Ytgplpgldhoelcaa
open Go Go.RowKit
def rkB (l : List Int) : Bool := decide (∀ i, i < l.length → ((i : Nat) : Int) ∈ l)
theorem nodup_of_covers : ∀ (l m : List Int), m.Nodup → (∀ x ∈ m, x ∈ l) → l.length ≤ m.length → l.Nodup ∧ ∀ x ∈ l, x ∈ m
  | [], _, _, _, _ => ⟨List.nodup_nil, fun x h => absurd h (by simp)⟩
  | a :: l, m, hn, hs, hl => by
    by_cases ha : a ∈ m
    · have hml : (m.erase a).length = m.length - 1 := List.length_erase_of_mem ha
      have hm0 : 0 < m.length := List.length_pos_of_mem ha
      have h1 := nodup_of_covers l (m.erase a) (hn.erase a) (fun x hx => by
        obtain ⟨h1, h2⟩ := (hn.mem_erase_iff).1 hx
        rcases List.mem_cons.1 (hs x h2) with e | e
        · exact absurd e h1
        · exact e) (by rw [hml]; simp at hl; omega)
      refine ⟨List.nodup_cons.2 ⟨fun e => ?_, h1.1⟩, fun x hx => ?_⟩
      · exact ((hn.mem_erase_iff).1 (h1.2 a e)).1 rfl
      · rcases List.mem_cons.1 hx with e | e
        · rw [e]; exact ha
        · exact ((hn.mem_erase_iff).1 (h1.2 x e)).2
    · have : m.length ≤ l.length := List.Nodup.length_le_of_subset hn (fun x hx => by
        rcases List.mem_cons.1 (hs x hx) with e | e
        · rw [e] at hx; exact absurd hx ha
        · exact e)
      simp at hl
      omega
theorem rangeI_nodup (n : Nat) : ((List.range n).map fun i : Nat => (i : Int)).Nodup := List.Pairwise.map _ (fun (a b : Nat) (e : a ≠ b) => (by omega : (a : Int) ≠ (b : Int))) List.nodup_range
theorem rkB_of {l : List Int} (h : rkB l = true) : l.Nodup ∧ ∀ x ∈ l, 0 ≤ x ∧ x < l.length := by
  have h := of_decide_eq_true h
  obtain ⟨h1, h2⟩ := nodup_of_covers l ((List.range l.length).map fun i : Nat => (i : Int)) (rangeI_nodup _) (fun x hx => by
    obtain ⟨i, hi, rfl⟩ := List.mem_map.1 hx
    exact h i (List.mem_range.1 hi)) (by simp)
  refine ⟨h1, fun x hx => ?_⟩
  obtain ⟨i, hi, rfl⟩ := List.mem_map.1 (h2 x hx)
  have := List.mem_range.1 hi
  omega
theorem rkB_is {l : List Int} (hn : l.Nodup) (hr : ∀ x ∈ l, 0 ≤ x ∧ x < l.length) : rkB l = true := by
  refine decide_eq_true fun i hi => ?_
  obtain ⟨_, h2⟩ := nodup_of_covers ((List.range l.length).map fun i : Nat => (i : Int)) l hn (fun x hx => by
    have := hr x hx
    exact List.mem_map.2 ⟨x.toNat, List.mem_range.2 (by omega), by omega⟩) (by simp)
  exact h2 _ (List.mem_map.2 ⟨i, List.mem_range.2 hi, rfl⟩)
theorem gi_memR {l : List Int} {k : Nat} (h : k < l.length) : gi l k ∈ l := by
  unfold gi
  rw [List.getD_eq_getElem?_getD, List.getElem?_eq_getElem h]
  exact List.getElem_mem h
theorem take_gi {l : List Int} {k : Nat} (h : k < l.length) : l.take (k + 1) = l.take k ++ [gi l k] := by
  rw [List.take_add_one, List.getElem?_eq_getElem h]
  simp [gi, List.getD_eq_getElem?_getD, List.getElem?_eq_getElem h]
theorem take_has {l : List Int} {k : Nat} {x : Int} (h : x ∈ l.take k) : ∃ j, j < k ∧ j < l.length ∧ gi l j = x := by
  obtain ⟨j, hj, e⟩ := List.getElem_of_mem h
  rw [List.length_take] at hj
  refine ⟨j, by omega, by omega, ?_⟩
  rw [← e, List.getElem_take]
  simp [gi, List.getD_eq_getElem?_getD, List.getElem?_eq_getElem (show j < l.length by omega)]
theorem rkB_no {l : List Int} {k : Nat} (hk : k < l.length) (h : gi l k < 0 ∨ (l.length : Int) ≤ gi l k ∨ gi l k ∈ l.take k) : rkB l = false := by
  cases hb : rkB l with
  | false => rfl
  | true =>
    exfalso
    obtain ⟨h1, h2⟩ := rkB_of hb
    have h3 := h2 _ (gi_memR hk)
    rcases h with h | h | h
    · omega
    · omega
    · obtain ⟨j, j1, j2, j3⟩ := take_has h
      have := (List.getElem_inj (h₀ := j2) (h₁ := hk) h1).1 (by
        unfold gi at j3
        rw [List.getD_eq_getElem?_getD, List.getD_eq_getElem?_getD, List.getElem?_eq_getElem hk, List.getElem?_eq_getElem j2] at j3
        exact j3)
      omega
structure RkM (l : List Int) (k : Nat) (M : List Bool) : Prop where
  len : M.length = l.length
  met : ∀ j, j < l.length → (bb M j = true ↔ (j : Int) ∈ l.take k)
  nodup : (l.take k).Nodup
  lt : ∀ x ∈ l.take k, 0 ≤ x ∧ x < l.length
theorem RkM.start (l : List Int) : RkM l 0 (List.replicate l.length false) := by
  refine ⟨by simp, fun j hj => ?_, by simp, fun x hx => by simp at hx⟩
  simp [bb, hj]
theorem RkM.next {l : List Int} {k v : Nat} {M : List Bool} (h : RkM l k M) (hk : k < l.length) (hx : gi l k = (v : Int)) (hv : v < l.length) (hm : bb M v = false) : RkM l (k + 1) (M.set v true) := by
  have e := take_gi hk
  have hni : gi l k ∉ l.take k := by
    rw [hx]
    intro h1
    rw [(h.met v hv).2 h1] at hm
    cases hm
  refine ⟨by rw [List.length_set]; exact h.len, fun j hj => ?_, ?_, fun x hx2 => ?_⟩
  · have hset : bb (M.set v true) j = if j = v then true else bb M j := by
      unfold bb
      by_cases e : j = v
      · subst e; simp [h.len, hv]
      · simp [e, Ne.symm e]
    rw [hset, e, List.mem_append, List.mem_singleton, hx]
    by_cases ej : j = v
    · subst ej; simp
    · rw [if_neg ej, h.met j hj]
      constructor
      · exact .inl
      · rintro (h1 | h1)
        · exact h1
        · exact absurd (by omega) ej
  · rw [e, List.nodup_append]
    exact ⟨h.nodup, by simp, fun a ha b hb e2 => by rw [List.mem_singleton.1 hb] at e2; rw [e2] at ha; exact hni ha⟩
  · rw [e] at hx2
    rcases List.mem_append.1 hx2 with h1 | h1
    · exact h.lt x h1
    · rw [List.mem_singleton.1 h1, hx]
      omega
theorem RkM.all {l : List Int} {M : List Bool} (h : RkM l l.length M) : rkB l = true := by
  have e : l.take l.length = l := List.take_length
  exact rkB_is (by have := h.nodup; rwa [e] at this) (by have := h.lt; rwa [e] at this)
structure RkI (r : List Nat) (k : Nat) (V : List Nat) : Prop where
  len : V.length = r.length
  at_ : ∀ i, i < k → gn V (gn r i) = i
theorem gn_setR (V : List Nat) (v u x : Nat) (h : v < V.length) : gn (V.set v x) u = if u = v then x else gn V u := by
  unfold gn
  by_cases e : u = v
  · subst e; simp [h]
  · simp [e, Ne.symm e]
theorem RkI.next {r : List Nat} {k : Nat} {V : List Nat} (h : RkI r k V) (hd : r.Nodup) (hk : k < r.length) (hv : gn r k < r.length) : RkI r (k + 1) (V.set (gn r k) k) := by
  refine ⟨by rw [List.length_set]; exact h.len, fun i hi => ?_⟩
  rw [gn_setR _ _ _ _ (by rw [h.len]; exact hv)]
  by_cases e : i = k
  · subst e; rw [if_pos rfl]
  · rw [if_neg ?_]
    · exact h.at_ i (by omega)
    · intro e2
      have hi2 : i < r.length := by omega
      apply e
      refine (List.getElem_inj (h₀ := hi2) (h₁ := hk) hd).1 ?_
      unfold gn at e2
      rw [List.getD_eq_getElem?_getD, List.getD_eq_getElem?_getD, List.getElem?_eq_getElem hk, List.getElem?_eq_getElem hi2] at e2
      exact e2
theorem nvI_gi (r : List Nat) (i : Nat) (h : i < r.length) : gi (nvI r) i = (gn r i : Int) := by
  simp [gi, gn, nvI, List.getD_eq_getElem?_getD, h]
theorem nvI_nodup {r : List Nat} (h : (nvI r).Nodup) : r.Nodup := by
  unfold nvI List.Nodup at h
  rw [List.pairwise_map] at h
  exact h.imp (fun hab e => hab (by rw [e]))
theorem rk_nat {l : List Int} (h : rkB l = true) : ∃ r : List Nat, l = nvI r ∧ r.Nodup ∧ ∀ v ∈ r, v < r.length := by
  obtain ⟨h1, h2⟩ := rkB_of h
  have e : l = nvI (l.map Int.toNat) := by
    unfold nvI
    rw [List.map_map]
    conv => lhs; rw [← List.map_id l]
    refine List.map_congr_left fun x hx => ?_
    have := h2 x hx
    simp; omega
  refine ⟨l.map Int.toNat, e, nvI_nodup (by rw [← e]; exact h1), fun v hv => ?_⟩
  obtain ⟨x, hx, rfl⟩ := List.mem_map.1 hv
  have := h2 x hx
  simp; omega
theorem rkB_nat {r : List Nat} (hd : r.Nodup) (hl : ∀ v ∈ r, v < r.length) : rkB (nvI r) = true := by
  refine rkB_is ?_ fun x hx => ?_
  · unfold nvI
    exact List.Pairwise.map _ (fun (a b : Nat) (e : a ≠ b) => (by omega : (a : Int) ≠ (b : Int))) hd
  · unfold nvI at hx ⊢
    obtain ⟨v, hv, rfl⟩ := List.mem_map.1 hx
    have := hl v hv
    simp; omega
theorem covers_nat {r : List Nat} (hd : r.Nodup) (hl : ∀ v ∈ r, v < r.length) : ∀ v, v < r.length → v ∈ r := by
  intro v hv
  have := of_decide_eq_true (rkB_nat hd hl) v (by unfold nvI; rw [List.length_map]; exact hv)
  unfold nvI at this
  obtain ⟨u, hu, e⟩ := List.mem_map.1 this
  have : u = v := by omega
  rw [← this]; exact hu
theorem RkI.inv {r V : List Nat} (h : RkI r r.length V) (hd : r.Nodup) (hl : ∀ v ∈ r, v < r.length) : InvR r.length r V := by
  have hin : ∀ i, i < r.length → gn r i < r.length := fun i hi => hl _ (gn_mem hi)
  refine ⟨rfl, h.len, fun i hi => ?_, fun v hv => ⟨hin v hv, h.at_ v hv⟩⟩
  obtain ⟨j, hj, e⟩ := mem_gn (covers_nat hd hl i hi)
  rw [← e, h.at_ j hj]
  exact ⟨hj, rfl⟩
theorem InvR.symm {N : Nat} {r vs : List Nat} (h : InvR N r vs) : InvR N vs r := ⟨h.vl, h.rl, h.of_, h.at_⟩
theorem RkI.start (r : List Nat) : RkI r 0 (List.replicate r.length 0) := ⟨by simp, fun i hi => absurd hi (by omega)⟩
end Go.Proofs.Ytgplpgldhoelcaa

