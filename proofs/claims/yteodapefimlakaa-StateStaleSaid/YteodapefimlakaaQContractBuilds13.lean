/- Plain: what is built is full, as the answer asks: for each two nodes between which it is as near by lesser nodes alone. -/
import Derived.Test.YteodapefimlakaaQContractBuilds12
import Derived.Test.YteodapefimlakaaQContractBuilds08
import Derived.Test.YteodapefimlakaaQContractBuilds09
import Derived.Test.YteodapefimlakaaQContractBuilds06
import Derived.Test.YteodapefimlakaaQContractBuilds01
import Derived.WideKeyPair
import Derived.Lib.SlKeysI
import Derived.Test.YteodapefimlakaaQContractBuilds00
/- Plain: what is built is full, as the answer asks: for each two nodes between which it is as near by lesser nodes alone. -/
namespace Go.Proofs.Yteodapefimlakaa
open Go Go.RowKit
section
variable {N : Nat} {E : List Edg}
theorem CtI.go_le {pre : List Nat} {c : Ctr} {hops settles v : Nat} (h : CtI N E pre c) (hv : v < N) (hvp : v ∉ pre) : CtLe c (Ctr.go hops settles c v) := by
  have ha : AdI N E pre c v (keptL c.O c.G hops settles v) (Ctr.adds v (keptL c.O c.G hops settles v) c) := by
    have := adds_ok h hvp (keptL c.O c.G hops settles v) (done := []) (d := c) ⟨h.net, CtLe.refl c, rfl, rfl, fun _ => rfl, fun _ => rfl, h.sound, fun i hi => (h.made i hi).pre v, fun k hk => by cases hk⟩ (fun k hk => kp_facts h hv hk)
    rwa [List.nil_append] at this
  exact ⟨ha.le.len, ha.le.old, ha.le.less⟩
theorem goAll_le (hr : rightF N E = 0) {hops settles : Nat} (vs : List Nat) : ∀ {pre : List Nat} {c : Ctr}, CtI N E pre c → (pre ++ vs).Nodup → (∀ v ∈ vs, v < N) → CtLe c (Ctr.goAll hops settles vs c) := by
  induction vs with
  | nil => exact fun _ _ _ => CtLe.refl _
  | cons v vs ih =>
    intro pre c h hd hv
    have hvp : v ∉ pre := fun hm => (List.nodup_append.1 hd).2.2 v hm v (by simp) rfl
    have e : pre ++ v :: vs = (pre ++ [v]) ++ vs := by simp
    rw [e] at hd
    exact (h.go_le (hv v (by simp)) hvp).trans (ih (h.go hr (hv v (by simp)) hvp) hd fun u hu => hv u (by simp [hu]))
theorem built_full (hr : rightF N E = 0) (hne : ∀ i, i < E.length → fN E i ≠ tN E i) {hops settles : Nat} {p q : List Nat} (hd : (p ++ q).Nodup) (hv : ∀ v ∈ p ++ q, v < N) {u w : Nat} (hu : u < N) (hw : w < N) (hup : u ∉ p) (hwp : w ∉ p) (huw : u ≠ w) (hwi : WyC N E (· ∈ p) u w (dF N E u w)) :
    ∃ i, i < (Ctr.goAll hops settles (p ++ q) (ctrG N E)).S.length ∧ (gs (Ctr.goAll hops settles (p ++ q) (ctrG N E)).S i).f = u ∧ (gs (Ctr.goAll hops settles (p ++ q) (ctrG N E)).S i).t = w ∧ (gs (Ctr.goAll hops settles (p ++ q) (ctrG N E)).S i).w = dF N E u w := by
  have e : Ctr.goAll hops settles (p ++ q) (ctrG N E) = Ctr.goAll hops settles q (Ctr.goAll hops settles p (ctrG N E)) := by unfold Ctr.goAll; rw [List.foldl_append]
  obtain ⟨d1, _, _⟩ := List.nodup_append.1 hd
  have hp := goAll_ok hr hne (hops := hops) (settles := settles) p d1 fun v h => hv v (by simp [h])
  obtain ⟨i, i1, i2⟩ := hp.full u w hu hw hup hwp huw hwi
  obtain ⟨z1, z2, z3⟩ := hp.net.at_in _ _ _ i1
  have hs := hp.sound i z1
  rw [z2, z3] at hs
  have := (dF_le hr hu hw hs).1
  have hle := goAll_le hr (hops := hops) (settles := settles) q hp hd fun v h => hv v (by simp [h])
  rw [e]
  refine ⟨i, Nat.lt_of_lt_of_le z1 hle.len, ?_⟩
  rw [hle.old i z1]
  exact ⟨z2, z3, by omega⟩
theorem WyC.pos (hr : rightF N E = 0) {C : Nat → Prop} {u w f : Nat} (h : WyC N E C u w f) : 1 ≤ f := by
  cases h with
  | @one i hi e => exact (noO_w hr i hi).1
  | @snoc f i _ _ hi => have := (noO_w hr i hi).1; omega
theorem short_nn {s : Nat} {o : DOpt} (hok : WalkOk N s E o) (hW : o.W = []) (hnn : (s : Int) ∉ o.nn) (hm : o.most = 0) {v : Nat} (hv : v < N) :
    (gn (refL (srchOf N E o) s) v < farV ∧ Way (srchOf N E o) s v (gn (refL (srchOf N E o) s) v) ∧ ∀ g, Way (srchOf N E o) s v g → gn (refL (srchOf N E o) s) v ≤ g) ∨
    (gn (refL (srchOf N E o) s) v = farV ∧ ∀ g, ¬ Way (srchOf N E o) s v g) := by
  have hr := hok.right
  obtain ⟨r1, r2, r3, r4, r5⟩ := right_in hok.right
  rw [Int.toNat_natCast] at r4
  have hb : N * 17592186044416 < farV := by
    have : N * 17592186044416 ≤ 4096 * 17592186044416 := Nat.mul_le_mul_right _ (by omega)
    unfold farV; omega
  have hw : ∀ i, i < E.length → 1 ≤ gn (wtF N E o.W) i ∧ gn (wtF N E o.W) i ≤ 17592186044416 := fun i hi => by rw [hW]; exact noO_w hr (i := i) hi
  obtain ⟨xs, h1, h2, h3⟩ := walk_is hok hw (Nat.le_refl _) hnn
  have hs2 := hok.srch
  have hin : SrchIn (srchOf N E o) 17592186044416 := ⟨fun i hi => by
    have h1 := hs2.ends.f i hi
    have h2 := hs2.ends.t i hi
    unfold toE
    split
    · exact h1.1
    · exact h2.1, fun i hi => (hw i hi).1, fun i hi => (hw i hi).2⟩
  obtain ⟨ys, h4, h5⟩ := trace_whole (x := freeX (srchOf N E o)) (s := s) (mw := 17592186044416) ⟨hin.ends, hin.low, hin.high⟩ hs2.nodes hok.node (by omega)
  have hd : decide ((s : Int) ∈ o.nn) = false := decide_eq_false hnn
  have e : refL (srchOf N E o) s = outL N xs := refL_is h2 h5 hin hb hok.node hd (fun i hi => by
    have h1 := hs2.ends.f i hi
    have h2 := hs2.ends.t i hi
    unfold nN
    split
    · exact h2.1
    · exact h1.1)
  rw [e]
  rcases outL_cases h2 hb (v := v) hv with ⟨a, b⟩ | ⟨a, b⟩
  · exact .inl ⟨b, (h2.way _ _ a).2.1, fun g hg => by
      obtain ⟨g', h6, h7⟩ := h2.all v g hg (fun h => absurd hm (by have : 0 < o.most := h; omega))
      have e2 := outL_at h2.nodup (N := N) hv h6
      rw [e2]; exact h7⟩
  · exact .inr ⟨a, fun g hg => by
      obtain ⟨g', h6, _⟩ := h2.all v g hg (fun h => absurd hm (by have : 0 < o.most := h; omega))
      exact b g' h6⟩
abbrev noN (nn : List Int) : DOpt := ⟨false, nn, [], [], 0⟩
theorem way_past {u w f : Nat} {nn : List Int} (h : Way (srchOf N E (noN nn)) u w f) : (w = u ∧ f = 0) ∨ (WyC N E (fun x => (x : Int) ∉ nn) u w f ∧ (w : Int) ∉ nn) := by
  induction h with
  | here => exact .inl ⟨rfl, rfl⟩
  | @step f i h hi hc ih =>
    have hx : ((tN E i : Nat) : Int) ∉ nn := fun e => by
      unfold cntE at hc
      have : (srchOf N E (noN nn)).nn (toE (srchOf N E (noN nn)) i) = decide (((tN E i : Nat) : Int) ∈ nn) := rfl
      rw [this, decide_eq_true e] at hc
      simp at hc
    rcases ih with ⟨e1, e2⟩ | ⟨h1, h2⟩
    · refine .inr ⟨?_, hx⟩
      have e3 : fN E i = u := e1
      have := WyC.one (N := N) (C := fun x => (x : Int) ∉ nn) hi e3
      rw [e2]
      have e4 : 0 + gn (srchOf N E (noN nn)).W i = gn (wtF N E []) i := by rw [Nat.zero_add]; rfl
      rw [e4]
      exact this
    · exact .inr ⟨.snoc h1 h2 hi, hx⟩
theorem below_way (hr : rightF N E = 0) {u w : Nat} {nn : List Int} {p : List Nat} (hu : u < N) (hw : w < N) (huw : u ≠ w) (hnu : (u : Int) ∉ nn) (hl : nn.length ≤ 1000000) (hp : ∀ x : Nat, x < N → x ≠ u → x ≠ w → (x : Int) ∉ nn → x ∈ p) (hd : dF N E u w < farV) (hb : gn (refL (srchOf N E (noN nn)) u) w = dF N E u w) :
    WyC N E (· ∈ p) u w (dF N E u w) := by
  have hok : WalkOk N u E (noN nn) := ⟨hr, hu, .inl rfl, by show 0 < _; omega, by show nn.length ≤ _; exact hl, by show ([] : List Int).length ≤ _; simp⟩
  rcases short_nn hok rfl hnu rfl (v := w) hw with ⟨_, h2, _⟩ | ⟨h1, _⟩
  · rw [hb] at h2
    rcases way_past h2 with ⟨e, _⟩ | ⟨h3, _⟩
    · exact absurd e.symm huw
    · have hin : ∀ {x f}, WyC N E (fun x => (x : Int) ∉ nn) u x f → WyC N E (fun x => (x ∈ p ∨ x = u) ∨ x = w) u x f := fun {x f} h => by
        induction h with
        | one hi e => exact .one hi e
        | @snoc f i _ hx hi ih =>
          refine .snoc ih ?_ hi
          by_cases e1 : fN E i = u
          · exact .inl (.inr e1)
          · by_cases e2 : fN E i = w
            · exact .inr e2
            · exact .inl (.inl (hp _ (ends_in hr hi).1 e1 e2 hx))
      rcases (hin h3).split with h4 | ⟨f1, f2, h4, h5, h6⟩
      · rcases h4.split with h5 | ⟨f1, f2, h5, h6, h7⟩
        · exact h5
        · have := (dF_le hr hu hw h6.way).1
          have := h5.pos hr
          omega
      · have := (dF_le hr hu hw h4.way).1
        have := h5.pos hr
        omega
  · omega
end
end Go.Proofs.Yteodapefimlakaa

/- Plain: how heavy, how many and how deep all gets while nodes go; in which order they go; the rank. -/
namespace Go.Proofs.Yteodapefimlakaa
open Go Go.RowKit
structure CtB (W n0 L d : Nat) (c : Ctr) : Prop where
  w : ∀ v a, a ∈ ga c.O v → a.2 ≤ W
  row : ∀ u, (ga c.O u).length ≤ n0
  len : c.S.length ≤ L
  deep : ∀ v, gn c.D v ≤ d
  sw : ∀ i, i < c.S.length → (gs c.S i).w ≤ W
theorem ga_set_any (O : NetO) (u x : Nat) (l : List Itm) : ga (O.set u l) x = ga O x ∨ ga (O.set u l) x = l := by
  unfold ga
  rw [List.getD_eq_getElem?_getD, List.getElem?_set]
  by_cases e : u = x
  · subst e
    by_cases h : u < O.length
    · exact .inr (by simp [h])
    · exact .inl (by simp [h])
  · exact .inl (by simp [e, List.getD_eq_getElem?_getD])
theorem CtB.add {W n0 L d : Nat} {c : Ctr} (h : CtB W n0 L d c) {x : Sc} (hx : x.w ≤ W) : CtB W (n0 + 1) (L + 1) d (c.add x) := by
  have hsw := Ctr.add_all (c := c) (x := x) (P := fun _ s => s.w ≤ W) h.sw hx
  by_cases hh : c.has x.f x.t x.w = true
  · rw [Ctr.add_yes hh]
    exact ⟨h.w, fun u => Nat.le_succ_of_le (h.row u), Nat.le_succ_of_le h.len, h.deep, h.sw⟩
  · rw [Ctr.add_no hh] at hsw ⊢
    refine ⟨fun v a ha => ?_, fun u => ?_, ?_, h.deep, hsw⟩
    · rcases ga_set_any c.O x.f v ((ga c.O x.f).filter (fun a => !decide (a.1 = x.t)) ++ [(x.t, x.w)]) with e | e
      · exact h.w v a (by rw [← e]; exact ha)
      · have ha2 : a ∈ (ga c.O x.f).filter (fun a => !decide (a.1 = x.t)) ++ [(x.t, x.w)] := by rw [← e]; exact ha
        rcases List.mem_append.1 ha2 with h1 | h1
        · exact h.w x.f a (List.mem_filter.1 h1).1
        · rw [List.mem_singleton.1 h1]; exact hx
    · rcases ga_set_any c.O x.f u ((ga c.O x.f).filter (fun a => !decide (a.1 = x.t)) ++ [(x.t, x.w)]) with e | e
      · show (ga (c.O.set x.f _) u).length ≤ _
        rw [e]; exact Nat.le_succ_of_le (h.row u)
      · show (ga (c.O.set x.f _) u).length ≤ _
        rw [e, List.length_append, List.length_singleton]
        have h1 := List.length_filter_le (fun a : Itm => !decide (a.1 = x.t)) (ga c.O x.f)
        have h2 := h.row x.f
        omega
    · show (c.S ++ [x]).length ≤ _
      have := h.len
      simp; omega
theorem CtB.adds {W d : Nat} (v : Nat) : ∀ (l : List Kp) {n0 L : Nat} {c : Ctr}, CtB W n0 L d c → (∀ k ∈ l, k.2.2 ≤ W) → CtB W (n0 + l.length) (L + l.length) d (Ctr.adds v l c)
  | [], _, _, _, h, _ => h
  | k :: l, n0, L, c, h, hl => by
    have h1 := CtB.adds v l (h.add (x := kpSc c v k) (hl k (by simp))) (fun x hx => hl x (by simp [hx]))
    have e1 : n0 + (k :: l).length = n0 + 1 + l.length := by simp; omega
    have e2 : L + (k :: l).length = L + 1 + l.length := by simp; omega
    rw [e1, e2]
    exact h1
theorem kpt_w {c : Ctr} {W n0 L d hops settles v : Nat} (h : CtB W n0 L d c) : ∀ k ∈ keptL c.O c.G hops settles v, k.2.2 ≤ 2 * W := by
  intro k hk
  unfold keptL at hk
  obtain ⟨u, a, w, b, h1, h2, h3, h4, h5, h6, rfl⟩ := (kpAll_mem _).1 hk
  obtain ⟨l1, l2⟩ := lgAll_ok c.O c.G v c.O.length
  have q1 := h.w _ _ (l1.is u a h2).2.2.2
  have q2 := h.w _ _ (l2.is w b h4).2.2.2
  simp only at q1 q2
  show a + b ≤ _
  omega
theorem kpIn_le {O : NetO} {G : List Bool} {hops settles u a : Nat} {fr : LM} {acc : List Kp} (n : Nat) : (kpIn O G hops settles fr u a n acc).length ≤ acc.length + n := by
  induction n with
  | zero => exact Nat.le_refl _
  | succ n ih =>
    have : (kpIn O G hops settles fr u a (n + 1) acc).length ≤ (kpIn O G hops settles fr u a n acc).length + 1 := by
      show (kpW O G hops settles fr u a n _).length ≤ _
      unfold kpW
      split
      · exact Nat.le_succ _
      · split
        · exact Nat.le_succ _
        · split
          · exact Nat.le_succ _
          · simp
    omega
theorem kpAll_le {O : NetO} {G : List Bool} {hops settles N : Nat} {tf : LM × LM} (n : Nat) : (kpAll O G hops settles tf N n).length ≤ n * N := by
  induction n with
  | zero => simp [kpAll]
  | succ n ih =>
    unfold kpAll
    rw [Nat.succ_mul]
    split
    · omega
    · have := kpIn_le (O := O) (G := G) (hops := hops) (settles := settles) (u := n) (a := ‹Nat›) (fr := tf.2) (acc := kpAll O G hops settles tf N n) N
      omega
theorem kept_le {O : NetO} {G : List Bool} {hops settles v : Nat} : (keptL O G hops settles v).length ≤ O.length * O.length := kpAll_le _
theorem CtB.mono {W n0 L d W' n0' L' d' : Nat} {c : Ctr} (h : CtB W n0 L d c) (h1 : W ≤ W') (h2 : n0 ≤ n0') (h3 : L ≤ L') (h4 : d ≤ d') : CtB W' n0' L' d' c :=
  ⟨fun v a ha => Nat.le_trans (h.w v a ha) h1, fun u => Nat.le_trans (h.row u) h2, Nat.le_trans h.len h3, fun v => Nat.le_trans (h.deep v) h4, fun i hi => Nat.le_trans (h.sw i hi) h1⟩
theorem adds_D0 (v : Nat) : ∀ (l : List Kp) (c : Ctr), (Ctr.adds v l c).D = c.D
  | [], _ => rfl
  | k :: l, c => by
    show (Ctr.adds v l (c.add (kpSc c v k))).D = c.D
    rw [adds_D0 v l, (Ctr.add_G _ _).2]
theorem deepL_le {D : List Nat} {tf : LM × LM} {v d : Nat} (h : ∀ v, gn D v ≤ d) (x : Nat) : gn (deepL D tf v) x ≤ d + 1 := by
  unfold deepL
  by_cases hx : x < D.length
  · have e : gn ((List.range D.length).map fun u => if (tf.1 u).isSome = true ∨ (tf.2 u).isSome = true then max (gn D u) (gn D v + 1) else gn D u) x = if (tf.1 x).isSome = true ∨ (tf.2 x).isSome = true then max (gn D x) (gn D v + 1) else gn D x := by
      unfold gn
      simp [List.getD_eq_getElem?_getD, hx]
    rw [e]
    have h1 := h x
    have h2 := h v
    split <;> omega
  · have e : gn ((List.range D.length).map fun u => if (tf.1 u).isSome = true ∨ (tf.2 u).isSome = true then max (gn D u) (gn D v + 1) else gn D u) x = 0 := by
      unfold gn
      rw [List.getD_eq_getElem?_getD, List.getElem?_eq_none (by simp; omega)]
      rfl
    omega
theorem CtB.go {W n0 L d N hops settles v : Nat} {c : Ctr} (h : CtB W n0 L d c) (hN : c.O.length = N) : CtB (2 * W) (n0 + N * N) (L + N * N) (d + 1) (Ctr.go hops settles c v) := by
  have h1 : CtB (2 * W) n0 L d c := h.mono (by omega) (Nat.le_refl _) (Nat.le_refl _) (Nat.le_refl _)
  have h2 := h1.adds v (keptL c.O c.G hops settles v) (kpt_w h)
  have h3 := kept_le (O := c.O) (G := c.G) (hops := hops) (settles := settles) (v := v)
  rw [hN] at h3
  have hD := adds_D0 v (keptL c.O c.G hops settles v) c
  unfold Ctr.go
  refine ⟨h2.w, fun u => Nat.le_trans (h2.row u) (by omega), Nat.le_trans h2.len (by omega), fun x => ?_, h2.sw⟩
  show gn (deepL (Ctr.adds v _ c).D _ v) x ≤ _
  rw [hD]
  exact deepL_le h.deep x
theorem goAll_net {N : Nat} {E : List Edg} (hr : rightF N E = 0) (hne : ∀ i, i < E.length → fN E i ≠ tN E i) {hops settles : Nat} {vs : List Nat} (hd : vs.Nodup) (hv : ∀ v ∈ vs, v < N) : CtN N (Ctr.goAll hops settles vs (ctrG N E)) := (goAll_ok hr hne vs hd hv).net
theorem edges_b {E : List Edg} {N W : Nat} (hW : ∀ i, i < E.length → (ge E i).w.toNat ≤ W) : ∀ k, k ≤ E.length → CtB W k k 0 (Ctr.edges E k (ctr0 N))
  | 0, _ => by
    refine ⟨fun v a ha => ?_, fun u => ?_, Nat.le_refl _, fun v => ?_, fun i hi => by cases hi⟩
    · have : ga (ctr0 N).O v = [] := by
        show ga (List.replicate N []) v = []
        unfold ga
        rw [List.getD_eq_getElem?_getD, List.getElem?_replicate]
        split <;> rfl
      have ha2 : a ∈ ga (ctr0 N).O v := ha
      rw [this] at ha2
      cases ha2
    · show (ga (List.replicate N []) u).length ≤ 0
      unfold ga
      rw [List.getD_eq_getElem?_getD, List.getElem?_replicate]
      split <;> simp
    · show gn (List.replicate N 0) v ≤ 0
      unfold gn
      rw [List.getD_eq_getElem?_getD, List.getElem?_replicate]
      split <;> simp
  | k + 1, hk => (edges_b hW k (by omega)).add (hW k (by omega))
theorem goAll_b {N W : Nat} {E : List Edg} (hr : rightF N E = 0) (hne : ∀ i, i < E.length → fN E i ≠ tN E i) (hW : ∀ i, i < E.length → (ge E i).w.toNat ≤ W) {hops settles : Nat} : ∀ (n : Nat) (vs : List Nat), vs.length = n → vs.Nodup → (∀ v ∈ vs, v < N) →
    CtB (2 ^ n * W) (E.length + n * (N * N)) (E.length + n * (N * N)) n (Ctr.goAll hops settles vs (ctrG N E))
  | 0, vs, hl, _, _ => by
    have : vs = [] := List.length_eq_zero_iff.1 hl
    subst this
    have := edges_b (N := N) hW E.length (Nat.le_refl _)
    simpa [Ctr.goAll, ctrG] using this
  | n + 1, vs, hl, hd, hv => by
    obtain ⟨ws, v, rfl⟩ : ∃ ws v, vs = ws ++ [v] := ⟨vs.dropLast, vs.getLast (by intro e; rw [e] at hl; simp at hl), (List.dropLast_concat_getLast _).symm⟩
    have hl2 : ws.length = n := by simp at hl; exact hl
    obtain ⟨d1, _, _⟩ := List.nodup_append.1 hd
    have hw : ∀ v ∈ ws, v < N := fun x hx => hv x (by simp [hx])
    have h1 := goAll_b hr hne hW (hops := hops) (settles := settles) n ws hl2 d1 hw
    rw [goAll_snoc]
    have h2 := h1.go (hops := hops) (settles := settles) (v := v) (goAll_net hr hne d1 hw).olen
    refine h2.mono ?_ ?_ ?_ (Nat.le_refl _)
    · rw [Nat.pow_succ, Nat.mul_comm (2 ^ n) 2, Nat.mul_assoc]; exact Nat.le_refl _
    · rw [Nat.succ_mul]; omega
    · rw [Nat.succ_mul]; omega
end Go.Proofs.Yteodapefimlakaa

/- A net in memory; what a search for a witness works with. -/
namespace Go.Proofs.Yteodapefimlakaa
open Go Go.RowKit
attribute [local go_sem] Oper.semAt_some
def NetRd (w : World) (Ao Ag : Option Addr) (O : NetO) (G : List Bool) : Prop :=
  (∃ (Af : Nat → Option Addr) (cf : Nat → Nat), Rd w Ao 1 O.length ((List.range O.length).map fun x => .slice (Af x) (ga O x).length (cf x)) ∧ ∀ x, x < O.length → Rd w (Af x) 2 (ga O x).length (its (ga O x))) ∧ Rd w Ag 1 O.length (G.map .bool)
theorem NetRd.grows {w w' : World} {Ao Ag : Option Addr} {O : NetO} {G : List Bool} (h : NetRd w Ao Ag O G) (hg : Grows w w') : NetRd w' Ao Ag O G := by
  obtain ⟨⟨Af, cf, h1, h2⟩, h3⟩ := h
  exact ⟨⟨Af, cf, h1.grows hg, fun x hx => (h2 x hx).grows hg⟩, h3.grows hg⟩
theorem NetRd.row {w : World} {Ao Ag : Option Addr} {O : NetO} {G : List Bool} (h : NetRd w Ao Ag O G) {x : Nat} (hx : x < O.length) :
    ∃ bo oo, Ao = some ⟨bo, oo, none⟩ ∧ ∃ A c, Holds w ⟨bo, oo + x, none⟩ (.slice A (ga O x).length c) ∧ Rd w A 2 (ga O x).length (its (ga O x)) := by
  obtain ⟨⟨Af, cf, h1, h2⟩, h3⟩ := h
  obtain ⟨b, off, e, hc⟩ := h1.at_ (by omega)
  exact ⟨b, off, e, Af x, cf x, ⟨hc x _ (by simp [hx])⟩, h2 x hx⟩
theorem NetRd.base {w : World} {Ao Ag : Option Addr} {O : NetO} {G : List Bool} (h : NetRd w Ao Ag O G) (h0 : 0 < O.length) :
    ∃ bo oo, Ao = some ⟨bo, oo, none⟩ ∧ ∃ bg og, Ag = some ⟨bg, og, none⟩ ∧ (∀ x, x < O.length → Holds w ⟨bg, og + x, none⟩ (.bool (bb G x))) := by
  obtain ⟨⟨Af, cf, h1, _⟩, h3⟩ := h
  obtain ⟨b, off, e, _⟩ := h1.at_ h0
  obtain ⟨b2, off2, e2, hc⟩ := h3.at_ h0
  have hl : G.length = O.length := by have := h3.len; simpa using this
  exact ⟨b, off, e, b2, off2, e2, fun x hx => ⟨hc x _ (by simp [bb, show x < G.length by omega])⟩⟩
theorem Rd.itemH {w : World} {A : Option Addr} {n : Nat} {L : List Itm} (h : Rd w A 2 n (its L)) (hn : 0 < n) (hl : L.length = n) :
    ∃ b off, A = some ⟨b, off, none⟩ ∧ ∀ k, k < n → Holds w ⟨b, off + k * 2, none⟩ (.int .i64 ((gi2 L k).1 : Int)) ∧ Holds w ⟨b, off + k * 2 + 1, none⟩ (.int .u64 ((gi2 L k).2 : Int)) := by
  obtain ⟨b, off, e, hc⟩ := h.2 hn (by omega)
  refine ⟨b, off, e, fun k hk => ⟨⟨?_⟩, ⟨?_⟩⟩⟩
  · have := hc (k * 2 + 0) _ ((its_at L k 0 (by omega) (by omega)).trans rfl)
    simpa using this
  · have := hc (k * 2 + 1) _ ((its_at L k 1 (by omega) (by omega)).trans rfl)
    rw [← Nat.add_assoc] at this
    exact this
structure WsC (w0 : World) (bf gf bs bh : Nat) (st : WS) (w : World) : Prop where
  later : ∃ y : Later w0, w = y.now
  stamp : ∃ m, StL w bf gf st.L m
  steps : Arr w bs 3 (nv st.k)
  heap : ∃ S2 : Nat → Prop, HpAt w S2 bh st.s ∧ ∀ k, S2 k → w0.heap.size ≤ k ∧ k < w.heap.size ∧ k ≠ bf ∧ k ≠ gf ∧ k ≠ bs
  low : w0.heap.size ≤ bf ∧ w0.heap.size ≤ gf ∧ w0.heap.size ≤ bs ∧ bs ≠ bf ∧ bs ≠ gf
section
variable {w0 w w' : World} {bf gf bs bh : Nat} {st : WS}
theorem WsC.grow (h : WsC w0 bf gf bs bh st w) (hg : Grows w w') : WsC w0 bf gf bs bh st w' := by
  obtain ⟨⟨y, rfl⟩, ⟨m, h2⟩, h3, ⟨S2, h4, h5⟩, h6⟩ := h
  exact ⟨⟨⟨_, y.grows.trans hg⟩, rfl⟩, ⟨m, h2.grow hg⟩, h3.grow hg, ⟨S2, h4.grow hg, fun k hk => ⟨(h5 k hk).1, Nat.lt_of_lt_of_le (h5 k hk).2.1 hg.size, (h5 k hk).2.2⟩⟩, h6⟩
theorem WsC.popped (h : WsC w0 bf gf bs bh st w) {S2 : Nat → Prop} (hS : ∀ k, S2 k → w0.heap.size ≤ k ∧ k < w.heap.size ∧ k ≠ bf ∧ k ≠ gf ∧ k ≠ bs) {s' : HS} (hp : HpAt w' S2 bh s') (ht : Touch S2 w w') : WsC w0 bf gf bs bh ⟨st.L, s', st.k⟩ w' := by
  obtain ⟨⟨y, rfl⟩, ⟨m, h2⟩, h3, _, h6⟩ := h
  exact ⟨⟨⟨_, ht.later y.grows (fun k hk => (hS k hk).1)⟩, rfl⟩, ⟨m, h2.touch ht (fun e => (hS _ e).2.2.1 rfl) (fun e => (hS _ e).2.2.2.1 rfl)⟩, h3.touch ht (fun e => (hS _ e).2.2.2.2 rfl), ⟨S2, hp, fun k hk => ⟨(hS k hk).1, Nat.lt_of_lt_of_le (hS k hk).2.1 ht.size, (hS k hk).2.2⟩⟩, h6⟩
theorem WsC.stamped (h : WsC w0 bf gf bs bh st w) {L' : List (Nat × Nat)} (hs : ∃ m, StL w' bf gf L' m) (ht : Touch (fun k => k = bf ∨ k = gf) w w') : WsC w0 bf gf bs bh ⟨L', st.s, st.k⟩ w' := by
  obtain ⟨⟨y, rfl⟩, _, h3, ⟨S2, h4, h5⟩, h6⟩ := h
  refine ⟨⟨⟨_, ht.later y.grows (fun k hk => by rcases hk with rfl | rfl; exact h6.1; exact h6.2.1)⟩, rfl⟩, hs, h3.touch ht (fun e => by rcases e with e | e; exact h6.2.2.2.1 e; exact h6.2.2.2.2 e), ⟨S2, h4.touch ht (fun k hk e => by rcases e with e | e; exact (h5 k hk).2.2.1 e; exact (h5 k hk).2.2.2.1 e), fun k hk => ⟨(h5 k hk).1, Nat.lt_of_lt_of_le (h5 k hk).2.1 ht.size, (h5 k hk).2.2⟩⟩, h6⟩
theorem WsC.put (h : WsC w0 bf gf bs bh st w) {S2 : Nat → Prop} (hS : ∀ k, S2 k → w0.heap.size ≤ k ∧ k < w.heap.size ∧ k ≠ bf ∧ k ≠ gf ∧ k ≠ bs) {s' : HS} (hp : HpAt w' (fun k => S2 k ∨ New w w' k) bh s') (ht : Touch S2 w w') : WsC w0 bf gf bs bh ⟨st.L, s', st.k⟩ w' := by
  obtain ⟨⟨y, rfl⟩, ⟨m, h2⟩, h3, _, h6⟩ := h
  have l1 := h2.row.lt
  have l2 := h2.cells.lt
  have l3 := h3.lt
  have hy := y.size
  refine ⟨⟨⟨_, ht.later y.grows (fun k hk => (hS k hk).1)⟩, rfl⟩, ⟨m, h2.touch ht (fun e => (hS _ e).2.2.1 rfl) (fun e => (hS _ e).2.2.2.1 rfl)⟩, h3.touch ht (fun e => (hS _ e).2.2.2.2 rfl), ⟨_, hp, fun k hk => ?_⟩, h6⟩
  rcases hk with hk | ⟨hk, hk2⟩
  · exact ⟨(hS k hk).1, Nat.lt_of_lt_of_le (hS k hk).2.1 ht.size, (hS k hk).2.2⟩
  · exact ⟨by omega, hk2, by omega, by omega, by omega⟩
theorem WsC.stepped (h : WsC w0 bf gf bs bh st w) (j u : Nat) : WsC w0 bf gf bs bh ⟨st.L, st.s, st.k.set j u⟩ (w.setCell ⟨bs, j, none⟩ (.int .i64 (u : Int))) := by
  obtain ⟨⟨y, rfl⟩, ⟨m, h2⟩, h3, ⟨S2, h4, h5⟩, h6⟩ := h
  have ht : Touch (fun k => k = bs) y.now (y.now.setCell ⟨bs, j, none⟩ (.int .i64 (u : Int))) := (Touch.refl (fun k => k = bs) y.now).set (p := ⟨bs, j, none⟩) (.inl rfl) _
  refine ⟨⟨⟨_, ht.later y.grows (fun k hk => by rw [hk]; exact h6.2.2.1)⟩, rfl⟩, ⟨m, h2.touch ht (fun e => h6.2.2.2.1 e.symm) (fun e => h6.2.2.2.2 e.symm)⟩, ?_, ⟨S2, h4.touch ht (fun k hk e => (h5 k hk).2.2.2.2 e), fun k hk => by rw [size_setCell]; exact h5 k hk⟩, h6⟩
  have e : nv (st.k.set j u) = (nv st.k).set j (.int .i64 (u : Int)) := by unfold nv; rw [List.map_set]
  rw [e]
  exact h3.set j _
end
end Go.Proofs.Yteodapefimlakaa

/- Maps from pairs of numbers to numbers that a call makes. -/
namespace Go.Proofs.Yteodapefimlakaa
open Go Go.RowKit Go.Maps Go.WideMaps
theorem arrP : ArrKey Try.prog 152 3 2 := ⟨Try.underlying152, by kernel_rfl, by kernel_rfl, by kernel_rfl⟩
theorem keyedP : Keyed Try.prog 152 := Keyed.of_law arrP.law
theorem typesP : ∃ m, Try.prog.types.size = m + 1 := ⟨Try.prog.types.size - 1, by decide +kernel⟩
def kP (a b : Int) : Lit := .string (keyBytes [.int .i64 a, .int .i64 b])
theorem keyLitP (a b : Int) : WideAt.IsKeyLit (kP a b) := by trivial
theorem keyOfP {a b : Int} (wa : I64 a) (wb : I64 b) : keyOf Try.prog 152 (.agg #[.int .i64 a, .int .i64 b]) = some (kP a b) := keyOf_pair arrP Try.underlying3 typesP (i64_wf wa) (i64_wf wb)
theorem kP_inj {a b c d : Int} (wa : I64 a) (wb : I64 b) (wc : I64 c) (wd : I64 d) (h : kP a b = kP c d) : a = c ∧ b = d := by
  have h1 := keyOfP wa wb
  rw [h] at h1
  have := keyedP.inj h1 (keyOfP wc wd)
  injection this with this
  injection this with this
  injection this with h2 h3
  injection h2 with _ h2
  injection h3 with h3
  injection h3 with _ h3
  exact ⟨h2, h3⟩
def MapPI (w : World) (b n : Nat) (f : Int → Int → Bool) : Prop :=
  ∃ D : DataW Unit, w.ownsMap Try.prog 152 (plainElem Try.prog 3) b n D ∧ (∀ x y, I64 x → I64 y → Maps.has D (kP x y) = f x y)
theorem MapPI.made (w : World) : MapPI (w.alloc (.map #[] 0)) w.heap.size 0 (fun _ _ => false) :=
  ⟨.map [], World.ownsMap_made _ _ _ _, fun _ _ _ _ => rfl⟩
theorem MapPI.grows {w w' : World} {b n : Nat} {f : Int → Int → Bool} (h : MapPI w b n f) (hg : Grows w w') : MapPI w' b n f := by
  obtain ⟨D, h1, h2⟩ := h
  exact ⟨D, h1.kept (row := none) ⟨hg.os, hg.tape, hg.output, hg.size, fun i hi _ => hg.block i hi⟩ (by simp), h2⟩
theorem MapPI.row {w w' : World} {b n B n' c size : Nat} {f : Int → Int → Bool} {e : TypeId} {A : Option Addr} {xs : List Value} (h : MapPI w b n f) (ho : Own w B e size A n' c xs) (hg : w.grownBy w' (Value.slice A n' c).ownBlock) : MapPI w' b n f := by
  obtain ⟨D, h1, h2⟩ := h
  refine ⟨D, h1.kept hg ?_, h2⟩
  obtain ⟨es, clock, hb, _⟩ := h1
  intro hc
  rcases ho.2 with ⟨h3, _⟩ | ⟨g, cap, cur, h3, _, h4, _⟩
  · injection h3 with h3
    subst h3
    simp [Value.ownBlock] at hc
  · injection h3 with h3
    subst h3
    simp [Value.ownBlock] at hc
    subst hc
    rw [hb] at h4
    cases h4
section
variable {w : World} {ops : Array Oper} {rest : List Oper} {o : Oper} {a : Act} {Q : Exit → Act → World → Prop}
theorem wp_mapPutP (hg : o.guard = none) (m x v : Operand) (hop : o.op = Op.mapUpdate 108 m x v) (b n : Nat) (f : Int → Int → Bool) (hm : a.eval m = .map (some b)) (hown : MapPI w b n f) (hn : n < maxLen)
    (k1 k2 y : Int) (hx : a.eval x = .agg #[.int .i64 k1, .int .i64 k2]) (hv : a.eval v = .int .i64 y) (w1 : I64 k1) (w2 : I64 k2) (wy : I64 y)
    (hK : ∀ w', MapPI w' b (n + 1) (fun p q => decide (p = k1 ∧ q = k2) || f p q) → w.grownBy w' (some b) → wpList Try.prog ops Q rest (a.put o.dst undef) w') :
    wpList Try.prog ops Q (o :: rest) a w := by
  obtain ⟨D, h1, h3⟩ := hown
  refine wpList_mapUpdate_own w hg m x v 108 hop 152 3 keyedP Try.underlying108 (plainElem Try.prog 3) b n D hm h1 hn _ _ (kP k1 k2) hx hv (keyOfP w1 w2) (.lit (.int .i64 y)) [] (plainElem_int Try.underlying3 (i64_wf wy)) ?_
  intro w' h' hgr
  refine hK w' ⟨_, h', fun p q wp wq => ?_⟩ hgr
  by_cases e : p = k1 ∧ q = k2
  · obtain ⟨rfl, rfl⟩ := e
    rw [Maps.has_put_same (h1.isMap) (keyLitP p q)]; simp
  · rw [Maps.has_put_other (by intro h; exact e (kP_inj wp wq w1 w2 h)), h3 p q wp wq]; simp [e]
theorem wp_mapGetOkP (hg : o.guard = none) (m x : Operand) (hop : o.op = Op.lookup 108 m x true) (b n : Nat) (f : Int → Int → Bool) (hm : a.eval m = .map (some b)) (hown : MapPI w b n f)
    (k1 k2 : Int) (hx : a.eval x = .agg #[.int .i64 k1, .int .i64 k2]) (w1 : I64 k1) (w2 : I64 k2)
    (hK : ∀ z : Int, wpList Try.prog ops Q rest (a.put o.dst (.tuple #[.int .i64 z, .bool (f k1 k2)])) w) : wpList Try.prog ops Q (o :: rest) a w := by
  obtain ⟨D, h1, h3⟩ := hown
  refine wpList_lookup_own_ok_int w hg m x 108 hop 152 3 .i64 keyedP Try.underlying108 Try.underlying3 (zeroI w) b n D hm h1 _ (kP k1 k2) hx (keyOfP w1 w2) ?_
  intro c hc _
  rw [h3 k1 k2 w1 w2]
  exact hK c
end
end Go.Proofs.Yteodapefimlakaa

/- Maps from numbers to weights that a call makes. -/
namespace Go.Proofs.Yteodapefimlakaa
open Go Go.RowKit Go.Maps
theorem u64_wf {n : Int} (h : U64 n) : (Lit.int .u64 n).wf = true := by
  unfold U64 at h
  simp [Lit.wf, IntKind.min, IntKind.max, IntKind.bits, IntKind.signed]
  omega
def MapIU (w : World) (b n s : Nat) (f : Int → Option Int) : Prop :=
  ∃ D : DataW Unit, w.ownsMap Try.prog 3 (plainElem Try.prog 43) b n D ∧ Maps.size D = s ∧ (∀ k, Maps.has D (.int .i64 k) = (f k).isSome) ∧
    ∀ k, D.atKey (.int .i64 k) (.lit (.int .u64 0)) = .lit (.int .u64 ((f k).getD 0))
theorem zeroU (w : World) : (zeroValue 43).run Try.prog w = .ok (.int .u64 0) w := by kernel_rfl
theorem MapIU.made (w : World) : MapIU (w.alloc (.map #[] 0)) w.heap.size 0 0 (fun _ => none) :=
  ⟨.map [], World.ownsMap_made _ _ _ _, rfl, fun _ => rfl, fun _ => rfl⟩
theorem MapIU.grows {w w' : World} {b n s : Nat} {f : Int → Option Int} (h : MapIU w b n s f) (hg : Grows w w') : MapIU w' b n s f := by
  obtain ⟨D, h1, h2⟩ := h
  exact ⟨D, h1.kept (row := none) ⟨hg.os, hg.tape, hg.output, hg.size, fun i hi _ => hg.block i hi⟩ (by simp), h2⟩
section
variable {w : World} {ops : Array Oper} {rest : List Oper} {o : Oper} {a : Act} {Q : Exit → Act → World → Prop}
theorem wp_mapPutU (hg : o.guard = none) (m x v : Operand) (hop : o.op = Op.mapUpdate 149 m x v) (b n s : Nat) (f : Int → Option Int) (hm : a.eval m = .map (some b)) (hown : MapIU w b n s f) (hn : n < maxLen)
    (k y : Int) (hx : a.eval x = .int .i64 k) (hv : a.eval v = .int .u64 y) (wk : I64 k) (wy : U64 y)
    (hK : ∀ w', MapIU w' b (n + 1) (if (f k).isSome then s else s + 1) (fun z => if z = k then some y else f z) → w.grownBy w' (some b) → wpList Try.prog ops Q rest (a.put o.dst undef) w') :
    wpList Try.prog ops Q (o :: rest) a w := by
  obtain ⟨D, h1, h2, h3, h4⟩ := hown
  refine wpList_mapUpdate_own w hg m x v 149 hop 3 43 keyedI Try.underlying149 (plainElem Try.prog 43) b n D hm h1 hn _ _ (.int .i64 k) hx hv (keyOf_int_mk Try.underlying3 (i64_wf wk)) (.lit (.int .u64 y)) [] (plainElem_int Try.underlying43 (u64_wf wy)) ?_
  intro w' h' hgr
  refine hK w' ⟨_, h', ?_, fun z => ?_, fun z => ?_⟩ hgr
  · rw [Maps.size_put (h1.tidy keyedI), h2, h3]
  · by_cases e : z = k
    · subst e; rw [Maps.has_put_same (h1.isMap) (keyLit z)]; simp
    · rw [Maps.has_put_other (by intro h; injection h with _ h; exact e h), h3]; simp [e]
  · by_cases e : z = k
    · subst e; rw [Maps.atKey_put_same (h1.isMap) (keyLit z)]; simp
    · rw [Maps.atKey_put_other (by intro h; injection h with _ h; exact e h), h4]; simp [e]
theorem wp_mapGetU (hg : o.guard = none) (m x : Operand) (hop : o.op = Op.lookup 149 m x false) (b n s : Nat) (f : Int → Option Int) (hm : a.eval m = .map (some b)) (hown : MapIU w b n s f)
    (k : Int) (hx : a.eval x = .int .i64 k) (wk : I64 k)
    (hK : wpList Try.prog ops Q rest (a.put o.dst (.int .u64 ((f k).getD 0))) w) : wpList Try.prog ops Q (o :: rest) a w := by
  obtain ⟨D, h1, h2, h3, h4⟩ := hown
  refine wpList_lookup_own_int w hg m x 149 hop 3 43 .u64 keyedI Try.underlying149 Try.underlying43 (zeroU w) b n D hm h1 _ (.int .i64 k) hx (keyOf_int_mk Try.underlying3 (i64_wf wk)) ?_
  intro c hc _
  rw [h4] at hc
  injection hc with hc
  injection hc with _ hc
  rw [← hc]
  exact hK
end
theorem MapIU.row {w w' : World} {b n s B n' c size : Nat} {f : Int → Option Int} {e : TypeId} {A : Option Addr} {xs : List Value} (h : MapIU w b n s f) (ho : w.ownsRow B e size (.slice A n' c) n' xs) (hg : w.grownBy w' (Value.slice A n' c).ownBlock) : MapIU w' b n s f := by
  obtain ⟨D, h1, h2⟩ := h
  refine ⟨D, h1.kept hg ?_, h2⟩
  obtain ⟨es, clock, hb, _⟩ := h1
  intro hc
  rcases ho.2 with ⟨h3, _⟩ | ⟨g, cap, cur, h3, _, h4, _⟩
  · injection h3 with h3
    subst h3
    simp [Value.ownBlock] at hc
  · injection h3 with h3
    subst h3
    simp [Value.ownBlock] at hc
    subst hc
    rw [hb] at h4
    cases h4
theorem MapIU.keys {w : World} {b n : Nat} {f : Int → Option Int} {D : DataW Unit} (h1 : w.ownsMap Try.prog 3 (plainElem Try.prog 43) b n D) (h3 : ∀ k, Maps.has D (.int .i64 k) = (f k).isSome) {KS : List Int} (hs : KS.Pairwise (· < ·)) (hm : ∀ x, x ∈ KS ↔ (f x).isSome = true)
    {ss : List Int} (hp : ss.Perm (intKeys D)) : ss.mergeSort (fun x y => decide (x ≤ y)) = KS := by
  have hKS : KS.Perm (intKeys D) := by
    obtain ⟨es, hD, hpw, _⟩ := h1.entries keyedI
    obtain ⟨es', hD', hko⟩ := h1.keysOf
    obtain rfl : es = es' := by rw [hD] at hD'; simpa using hD'
    subst hD
    exact perm_intKeys hpw (fun p hp => by obtain ⟨v, hv⟩ := hko p hp; obtain ⟨x, _, hx, _⟩ := Maps.keyOf_i64 Try.underlying3 hv; exact ⟨x, hx⟩) (hs.imp (fun h => by omega)) (fun x => by rw [hm x, h3 x])
  have e : ss.mergeSort leI = KS.mergeSort leI := mergeSort_of_perm_i (hp.trans hKS.symm)
  have e2 : KS.mergeSort leI = KS := List.mergeSort_of_pairwise (hs.imp (fun h => by simp [leI]; omega))
  exact e.trans e2
end Go.Proofs.Yteodapefimlakaa

/- Maps from pairs of numbers to numbers, and from numbers to weights, that a call makes: what they hold. -/
namespace Go.Proofs.Yteodapefimlakaa
open Go Go.RowKit Go.Maps Go.WideMaps
def MapPV (w : World) (b n : Nat) (f : Int → Int → Option Int) : Prop :=
  ∃ D : DataW Unit, w.ownsMap Try.prog 152 (plainElem Try.prog 3) b n D ∧ (∀ x y, I64 x → I64 y → Maps.has D (kP x y) = (f x y).isSome) ∧ ∀ x y, I64 x → I64 y → D.atKey (kP x y) (.lit (.int .i64 0)) = .lit (.int .i64 ((f x y).getD 0))
theorem MapPV.made (w : World) : MapPV (w.alloc (.map #[] 0)) w.heap.size 0 (fun _ _ => none) :=
  ⟨.map [], World.ownsMap_made _ _ _ _, fun _ _ _ _ => rfl, fun _ _ _ _ => rfl⟩
theorem MapPV.touch {w w' : World} {b n : Nat} {f : Int → Int → Option Int} {S : Nat → Prop} (h : MapPV w b n f) (ht : Touch S w w') (hs : ¬ S b) : MapPV w' b n f := by
  obtain ⟨D, ⟨es, clock, hb, h2⟩, h3⟩ := h
  exact ⟨D, ⟨es, clock, ht.at hs hb, h2⟩, h3⟩
theorem MapPV.lt {w : World} {b n : Nat} {f : Int → Int → Option Int} (h : MapPV w b n f) : b < w.heap.size := by
  obtain ⟨D, ⟨es, clock, hb, h2⟩, h3⟩ := h
  exact (Array.getElem?_eq_some_iff.1 hb).1
theorem MapPV.mono {w : World} {b n m : Nat} {f : Int → Int → Option Int} (h : MapPV w b n f) (hn : n ≤ m) : MapPV w b m f := by
  obtain ⟨D, h1, h3⟩ := h
  exact ⟨D, h1.mono hn, h3⟩
theorem MapIU.touch {w w' : World} {b n s : Nat} {f : Int → Option Int} {S : Nat → Prop} (h : MapIU w b n s f) (ht : Touch S w w') (hs : ¬ S b) : MapIU w' b n s f := by
  obtain ⟨D, ⟨es, clock, hb, h2⟩, h3⟩ := h
  exact ⟨D, ⟨es, clock, ht.at hs hb, h2⟩, h3⟩
theorem MapIU.lt {w : World} {b n s : Nat} {f : Int → Option Int} (h : MapIU w b n s f) : b < w.heap.size := by
  obtain ⟨D, ⟨es, clock, hb, h2⟩, h3⟩ := h
  exact (Array.getElem?_eq_some_iff.1 hb).1
section
variable {w : World} {ops : Array Oper} {rest : List Oper} {o : Oper} {a : Act} {Q : Exit → Act → World → Prop}
theorem wp_mapPutV (hg : o.guard = none) (m x v : Operand) (hop : o.op = Op.mapUpdate 108 m x v) (b n : Nat) (f : Int → Int → Option Int) (hm : a.eval m = .map (some b)) (hown : MapPV w b n f) (hn : n < maxLen)
    (k1 k2 y : Int) (hx : a.eval x = .agg #[.int .i64 k1, .int .i64 k2]) (hv : a.eval v = .int .i64 y) (w1 : I64 k1) (w2 : I64 k2) (wy : I64 y)
    (hK : ∀ w', MapPV w' b (n + 1) (fun p q => if p = k1 ∧ q = k2 then some y else f p q) → Touch (fun k => k = b) w w' → wpList Try.prog ops Q rest (a.put o.dst undef) w') :
    wpList Try.prog ops Q (o :: rest) a w := by
  obtain ⟨D, h1, h3, h4⟩ := hown
  refine wpList_mapUpdate_own w hg m x v 108 hop 152 3 keyedP Try.underlying108 (plainElem Try.prog 3) b n D hm h1 hn _ _ (kP k1 k2) hx hv (keyOfP w1 w2) (.lit (.int .i64 y)) [] (plainElem_int Try.underlying3 (i64_wf wy)) ?_
  intro w' h' hgr
  refine hK w' ⟨_, h', fun p q wp wq => ?_, fun p q wp wq => ?_⟩ ((Touch.refl _ w).grown hgr fun k hk => .inl (by simpa using hk.symm))
  · by_cases e : p = k1 ∧ q = k2
    · obtain ⟨rfl, rfl⟩ := e
      rw [Maps.has_put_same (h1.isMap) (keyLitP p q)]; simp
    · rw [Maps.has_put_other (by intro h; exact e (kP_inj wp wq w1 w2 h)), h3 p q wp wq]; simp [e]
  · by_cases e : p = k1 ∧ q = k2
    · obtain ⟨rfl, rfl⟩ := e
      rw [Maps.atKey_put_same (h1.isMap) (keyLitP p q)]; simp
    · rw [Maps.atKey_put_other (by intro h; exact e (kP_inj wp wq w1 w2 h)), h4 p q wp wq]; simp [e]
theorem wp_mapGetOkV (hg : o.guard = none) (m x : Operand) (hop : o.op = Op.lookup 108 m x true) (b n : Nat) (f : Int → Int → Option Int) (hm : a.eval m = .map (some b)) (hown : MapPV w b n f)
    (k1 k2 : Int) (hx : a.eval x = .agg #[.int .i64 k1, .int .i64 k2]) (w1 : I64 k1) (w2 : I64 k2)
    (hK : wpList Try.prog ops Q rest (a.put o.dst (.tuple #[.int .i64 ((f k1 k2).getD 0), .bool (f k1 k2).isSome])) w) : wpList Try.prog ops Q (o :: rest) a w := by
  obtain ⟨D, h1, h3, h4⟩ := hown
  refine wpList_lookup_own_ok_int w hg m x 108 hop 152 3 .i64 keyedP Try.underlying108 Try.underlying3 (zeroI w) b n D hm h1 _ (kP k1 k2) hx (keyOfP w1 w2) ?_
  intro c hc _
  rw [h4 k1 k2 w1 w2] at hc
  injection hc with hc
  injection hc with _ hc
  rw [← hc, h3 k1 k2 w1 w2]
  exact hK
theorem wp_mapGetV (hg : o.guard = none) (m x : Operand) (hop : o.op = Op.lookup 108 m x false) (b n : Nat) (f : Int → Int → Option Int) (hm : a.eval m = .map (some b)) (hown : MapPV w b n f)
    (k1 k2 : Int) (hx : a.eval x = .agg #[.int .i64 k1, .int .i64 k2]) (w1 : I64 k1) (w2 : I64 k2)
    (hK : wpList Try.prog ops Q rest (a.put o.dst (.int .i64 ((f k1 k2).getD 0))) w) : wpList Try.prog ops Q (o :: rest) a w := by
  obtain ⟨D, h1, h3, h4⟩ := hown
  refine wpList_lookup_own_int w hg m x 108 hop 152 3 .i64 keyedP Try.underlying108 Try.underlying3 (zeroI w) b n D hm h1 _ (kP k1 k2) hx (keyOfP w1 w2) ?_
  intro c hc _
  rw [h4 k1 k2 w1 w2] at hc
  injection hc with hc
  injection hc with _ hc
  rw [← hc]
  exact hK
theorem wp_mapGetOkU (hg : o.guard = none) (m x : Operand) (hop : o.op = Op.lookup 149 m x true) (b n s : Nat) (f : Int → Option Int) (hm : a.eval m = .map (some b)) (hown : MapIU w b n s f)
    (k : Int) (hx : a.eval x = .int .i64 k) (wk : I64 k)
    (hK : wpList Try.prog ops Q rest (a.put o.dst (.tuple #[.int .u64 ((f k).getD 0), .bool (f k).isSome])) w) : wpList Try.prog ops Q (o :: rest) a w := by
  obtain ⟨D, h1, h2, h3, h4⟩ := hown
  refine wpList_lookup_own_ok_int w hg m x 149 hop 3 43 .u64 keyedI Try.underlying149 Try.underlying43 (zeroU w) b n D hm h1 _ (.int .i64 k) hx (keyOf_int_mk Try.underlying3 (i64_wf wk)) ?_
  intro c hc _
  rw [h4] at hc
  injection hc with hc
  injection hc with _ hc
  rw [← hc, h3]
  exact hK
theorem wp_mapPutUT (hg : o.guard = none) (m x v : Operand) (hop : o.op = Op.mapUpdate 149 m x v) (b n s : Nat) (f : Int → Option Int) (hm : a.eval m = .map (some b)) (hown : MapIU w b n s f) (hn : n < maxLen)
    (k y : Int) (hx : a.eval x = .int .i64 k) (hv : a.eval v = .int .u64 y) (wk : I64 k) (wy : U64 y)
    (hK : ∀ w', MapIU w' b (n + 1) (if (f k).isSome then s else s + 1) (fun z => if z = k then some y else f z) → Touch (fun k => k = b) w w' → wpList Try.prog ops Q rest (a.put o.dst undef) w') :
    wpList Try.prog ops Q (o :: rest) a w :=
  wp_mapPutU hg m x v hop b n s f hm hown hn k y hx hv wk wy fun w' h hgr => hK w' h ((Touch.refl _ w).grown hgr fun k hk => .inl (by simpa using hk.symm))
end
end Go.Proofs.Yteodapefimlakaa
