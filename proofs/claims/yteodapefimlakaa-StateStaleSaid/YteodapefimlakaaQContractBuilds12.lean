/- How far one node is; and the law DijkAll, walked: how far all nodes are, with whatever counts, or why that is not told. -/
import Derived.Test.YteodapefimlakaaQContractBuilds10
import Derived.Test.YteodapefimlakaaQContractBuilds11
import Derived.Test.YteodapefimlakaaQContractBuilds09
/- How far one node is; and the law DijkAll, walked: how far all nodes are, with whatever counts, or why that is not told. -/
namespace Go.Proofs.Yteodapefimlakaa
open Go Go.RowKit
attribute [local go_sem] Oper.semAt_some
def OneI (w : World) (lo b6 b8 b9 t : Nat) (z8 z9 : Value) (p : List (Nat × Nat)) (Mi : Nat → Prop) (W : World) : Prop :=
  (∃ y : Later w, W = y.now) ∧ (Arr W b6 3 [.int .i64 (t : Int)] ∧ Arr W b8 43 [z8] ∧ Arr W b9 33 [z9]) ∧ (t ∉ p.map Prod.fst) ∧ (∀ k, Mi k → lo ≤ k ∧ k < W.heap.size) ∧ lo ≤ W.heap.size
theorem OneI.yields {w : World} {lo b6 b8 b9 t : Nat} {z8 z9 : Value} (h1 : b6 < lo) (h2 : b8 < lo) (h3 : b9 < lo) (hlo : w.heap.size ≤ lo) : Yields' (OneI w lo b6 b8 b9 t z8 z9) := by
  rintro p Mi W Mi' W' ⟨⟨y, rfl⟩, ⟨a1, a2, a3⟩, a4, a5, a6⟩ ht hM'
  have nb : ∀ k, k < lo → ¬ Mi k := fun k hk e => by have := (a5 _ e).1; omega
  refine ⟨⟨⟨W', ht.later y.grows (fun k hk => Nat.le_trans hlo (a5 k hk).1)⟩, rfl⟩, ⟨a1.touch ht (nb _ h1), a2.touch ht (nb _ h2), a3.touch ht (nb _ h3)⟩, a4, fun k hk => ?_, Nat.le_trans a6 ht.size⟩
  obtain ⟨h | h, h'⟩ := hM' k hk
  · exact ⟨(a5 k h).1, h'⟩
  · exact ⟨by omega, h'⟩
def OneX (w : World) (lo _ b8 b9 t : Nat) (xs : List (Nat × Nat)) (c : Code) (_ : List (Nat × Nat)) (Mi : Nat → Prop) (W : World) : Prop :=
  c = .ret ∧ ∃ f, (t, f) ∈ xs ∧ (∃ y : Later w, W = y.now) ∧ (Arr W b8 43 [.int .u64 (f : Int)] ∧ Arr W b9 33 [.int .i64 0]) ∧ (∀ k, Mi k → lo ≤ k ∧ k < W.heap.size) ∧ lo ≤ W.heap.size
theorem OneX.yields {w : World} {lo b6 b8 b9 t : Nat} {xs : List (Nat × Nat)} (h2 : b8 < lo) (h3 : b9 < lo) (hlo : w.heap.size ≤ lo) (c : Code) : Yields' (OneX w lo b6 b8 b9 t xs c) := by
  rintro p Mi W Mi' W' ⟨e, f, a0, ⟨y, rfl⟩, ⟨a2, a3⟩, a5, a6⟩ ht hM'
  have nb : ∀ k, k < lo → ¬ Mi k := fun k hk e => by have := (a5 _ e).1; omega
  refine ⟨e, f, a0, ⟨⟨W', ht.later y.grows (fun k hk => Nat.le_trans hlo (a5 k hk).1)⟩, rfl⟩, ⟨a2.touch ht (nb _ h2), a3.touch ht (nb _ h3)⟩, fun k hk => ?_, Nat.le_trans a6 ht.size⟩
  obtain ⟨h | h, h'⟩ := hM' k hk
  · exact ⟨(a5 k h).1, h'⟩
  · exact ⟨by omega, h'⟩
def FrameOne (b6 b8 b9 v far : Nat) (a' : Act) : Prop := ∃ u0 u1 u2 u3 u4 u5 u7 u10 u13 u14 u15 u16 u17 u18 u19 u20 u21 u22 u23 u24 u25 u26 u27 u28 u29 u30 u31 u32 u33 : Value, a' = { tmps := #[u0, u1, u2, u3, u4, u5, .pointer (some ⟨b6, 0, none⟩), u7, .pointer (some ⟨b8, 0, none⟩), .pointer (some ⟨b9, 0, none⟩), u10, .int .i64 (v : Int), .int .u64 (far : Int), u13, u14, u15, u16, u17, u18, u19, u20, u21, u22, u23, u24, u25, u26, u27, u28, u29, u30, u31, u32, u33], defers := [] }
def OneB (w : World) (lo b6 b8 b9 t : Nat) (z8 z9 : Value) (x : Nat × Nat) (a' : Act) (p : List (Nat × Nat)) (Mi : Nat → Prop) (W : World) : Prop := FrameOne b6 b8 b9 x.1 x.2 a' ∧ OneI w lo b6 b8 b9 t z8 z9 p Mi W
def OneP (w : World) (xs : List (Nat × Nat)) (t : Nat) (e : Ending) (w' : World) : Prop :=
  ((∃ f, (t, f) ∈ xs ∧ e = .returned (.tuple #[.int .u64 (f : Int), .int .i64 0])) ∨ (t ∉ xs.map Prod.fst ∧ e = .returned (.tuple #[.int .u64 0, .int .i64 9]))) ∧ Grows w w'
section
theorem nodup_fst {x : Srch} {s mw : Nat} {xs : List (Nat × Nat)} (h : Far x s mw xs) : (xs.map Prod.fst).Nodup := h.nodup
theorem walk_ref {N s : Nat} {E : List Edg} {o : DOpt} (hok : WalkOk N s E o) (hw : ∀ i, i < E.length → 1 ≤ gn (wtF N E o.W) i ∧ gn (wtF N E o.W) i ≤ 17592186044416) :
    ∃ xs, (if (s : Int) ∈ o.nn then xs = [] else Trace (srchOf N E o) (reachS o.most (st0 N) s 0) xs) ∧ (∀ p, p ∈ xs → p.1 < N) ∧ (xs.map Prod.fst).Nodup ∧ refL (srchOf N E o) s = outL N xs ∧ (∀ v f, (v, f) ∈ xs → f < farV) := by
  obtain ⟨r1, r2, r3, r4, r5⟩ := right_in hok.right
  rw [Int.toNat_natCast] at r4
  have hb : N * 17592186044416 < farV := by
    have : N * 17592186044416 ≤ 4096 * 17592186044416 := Nat.mul_le_mul_right _ (by omega)
    unfold farV; omega
  by_cases hnn : (s : Int) ∈ o.nn
  · refine ⟨[], by rw [if_pos hnn], fun p hp => (by cases hp), by simp, ?_, fun v f h => by cases h⟩
    unfold refL
    rw [if_pos (show (srchOf N E o).nn s = true from decide_eq_true hnn)]
    rfl
  · obtain ⟨xs, h1, h2, h3⟩ := walk_is hok hw (Nat.le_refl _) hnn
    have hs := hok.srch
    have hin : SrchIn (srchOf N E o) 17592186044416 := ⟨fun i hi => by
      have h1 := hs.ends.f i hi
      have h2 := hs.ends.t i hi
      unfold toE
      split
      · exact h1.1
      · exact h2.1, fun i hi => (hw i hi).1, fun i hi => (hw i hi).2⟩
    obtain ⟨ys, h4, h5⟩ := trace_whole (x := freeX (srchOf N E o)) (s := s) (mw := 17592186044416) ⟨hin.ends, hin.low, hin.high⟩ hs.nodes hok.node (by omega)
    refine ⟨xs, h1, h3, h2.nodup, refL_is h2 h5 hin hb hok.node (decide_eq_false hnn) (fun i hi => ?_), fun v f hf => by have h9 := (h2.way v f hf).2.2.2; have h10 : f ≤ N * 17592186044416 := h9; omega⟩
    have h1 := hs.ends.f i hi
    have h2 := hs.ends.t i hi
    unfold nN
    split
    · exact h2.1
    · exact h1.1
theorem gLex_propGd {P : Program} {w0 : World} {ops : Array Oper} {Q : Act → Env → Prop} {a : Act} {G : Env} {o : Oper} {rest : List Oper} {t : Tmp} (hw : Region.wanted o (yielded ops a.tmps) = true) (hp : plainB ops o G = true) (hd : o.dst = some t) (hlt : t < a.tmps.size)
    (p : Pr) (hl : Lasts p) (hr : ∀ x : Later w0, runsTo P (fun u w' => Grows x.now w' ∧ p u w') ((execOp a.eval o).run P x.now))
    (h : gLex P ops w0 Q rest a (G.upd t p)) : gLex P ops w0 Q (o :: rest) a G := by
  obtain ⟨h1, h2, h3, h4⟩ := plain_spec hp
  refine ⟨.inr p, ⟨h1, h2, .inl ⟨hw, hl, ⟨t, hd, hlt⟩, fun w hw a' ha' => ?_⟩⟩, ?_⟩
  · rw [exec_same h4 h3 ha']
    exact hr ⟨w, hw⟩
  · rw [hd]
    exact h
end
end Go.Proofs.Yteodapefimlakaa

/- Searches without options but edges that do not count (plain). -/
namespace Go.Proofs.Yteodapefimlakaa
open Go Go.RowKit
abbrev noO (ne : List Int) : DOpt := ⟨false, [], ne, [], 0⟩
theorem noO_ok {N s : Nat} {E : List Edg} {ne : List Int} (hr : rightF N E = 0) (hs : s < N) (hn : ne.length ≤ 1000000) : WalkOk N s E (noO ne) :=
  ⟨hr, hs, .inl rfl, by show 0 < _; omega, by show ([] : List Int).length ≤ _; simp, hn⟩
theorem noO_w {N : Nat} {E : List Edg} (hr : rightF N E = 0) (i : Nat) (hi : i < E.length) : 1 ≤ gn (wtF N E []) i ∧ gn (wtF N E []) i ≤ 17592186044416 := by
  obtain ⟨r1, r2, r3, r4, r5⟩ := right_in hr
  have := r5 i hi
  have e : gn (wtF N E []) i = (ge E i).w.toNat := by
    unfold wtF
    rw [if_neg (by omega), if_neg (by simp), if_neg (by simp)]
    simp [gn, eW, ge, hi]
  rw [e]
  omega
theorem dc_none {N s : Nat} {E : List Edg} (hr : rightF N E = 0) (hs : s < N) : dcF N s E [] = 0 := by
  unfold dcF
  rw [if_neg (by omega), if_neg (by simp [nodeB]; omega), if_neg (by simp)]
  rfl
end Go.Proofs.Yteodapefimlakaa

/- Plain law: an edge is on every shortest way, just when over its stretch no other edge of a shortest way goes. -/
namespace Go.Proofs.Yteodapefimlakaa
open Go Go.RowKit
abbrev bkO : DOpt := ⟨true, [], [], [], 0⟩
theorem bk_ok {N s : Nat} {E : List Edg} (hr : rightF N E = 0) (hs : s < N) : WalkOk N s E bkO :=
  ⟨hr, hs, .inl rfl, by show 0 < _; omega, by show ([] : List Int).length ≤ _; simp, by show ([] : List Int).length ≤ _; simp⟩
theorem short_is {N s : Nat} {E : List Edg} {o : DOpt} (hok : WalkOk N s E o) (hW : o.W = []) (hn : o.nn = []) (hm : o.most = 0) {v : Nat} (hv : v < N) :
    (gn (refL (srchOf N E o) s) v < farV ∧ Way (srchOf N E o) s v (gn (refL (srchOf N E o) s) v) ∧ ∀ g, Way (srchOf N E o) s v g → gn (refL (srchOf N E o) s) v ≤ g) ∨
    (gn (refL (srchOf N E o) s) v = farV ∧ ∀ g, ¬ Way (srchOf N E o) s v g) := by
  have hr := hok.right
  obtain ⟨r1, r2, r3, r4, r5⟩ := right_in hok.right
  rw [Int.toNat_natCast] at r4
  have hb : N * 17592186044416 < farV := by
    have : N * 17592186044416 ≤ 4096 * 17592186044416 := Nat.mul_le_mul_right _ (by omega)
    unfold farV; omega
  have hw : ∀ i, i < E.length → 1 ≤ gn (wtF N E o.W) i ∧ gn (wtF N E o.W) i ≤ 17592186044416 := fun i hi => by rw [hW]; exact noO_w hr (i := i) hi
  have hnn : ¬ (s : Int) ∈ o.nn := by rw [hn]; simp
  obtain ⟨xs, h1, h2, h3⟩ := walk_is hok hw (Nat.le_refl _) hnn
  have hs2 := hok.srch
  have hin : SrchIn (srchOf N E o) 17592186044416 := ⟨fun i hi => by
    have h1 := hs2.ends.f i hi
    have h2 := hs2.ends.t i hi
    unfold toE
    split
    · exact h1.1
    · exact h2.1, fun i hi => (hw i hi).1, fun i hi => (hw i hi).2⟩
  obtain ⟨ys, h4, h5⟩ := trace_whole (x := freeX (srchOf N E o)) (s := s) (mw := 17592186044416) ⟨hin.ends, hin.low, hin.high⟩ hs2.nodes hok.node (by omega)
  have e : refL (srchOf N E o) s = outL N xs := refL_is h2 h5 hin hb hok.node (decide_eq_false hnn) (fun i hi => by
    have h1 := hs2.ends.f i hi
    have h2 := hs2.ends.t i hi
    unfold nN
    split
    · exact h2.1
    · exact h1.1)
  rw [e]
  rcases outL_cases h2 hb (v := v) hv with ⟨a, b⟩ | ⟨a, b⟩
  · exact .inl ⟨b, (h2.way _ _ a).2.1, fun g hg => by
      obtain ⟨g', h6, h7⟩ := h2.all v g hg (fun h => absurd hm (by have : 0 < o.most := h; omega))
      have e2 := outL_at h2.nodup (N := N) hv h6
      rw [e2]; exact h7⟩
  · exact .inr ⟨a, fun g hg => by
      obtain ⟨g', h6, _⟩ := h2.all v g hg (fun h => absurd hm (by have : 0 < o.most := h; omega))
      exact b g' h6⟩
abbrev fX (N : Nat) (E : List Edg) : Srch := srchOf N E (noO [])
abbrev eX (N : Nat) (E : List Edg) (i : Nat) : Srch := srchOf N E (noO [(i : Int)])
theorem fX_step {N s i f : Nat} {E : List Edg} (h : Way (fX N E) s (fN E i) f) (hi : i < E.length) : Way (fX N E) s (tN E i) (f + gn (wtF N E []) i) := Way.step (x := fX N E) h hi (by simp [cntE, srchOf])
theorem eX_step {N s i j f : Nat} {E : List Edg} (h : Way (eX N E i) s (fN E j) f) (hj : j < E.length) (hne : j ≠ i) : Way (eX N E i) s (tN E j) (f + gn (wtF N E []) j) := Way.step (x := eX N E i) h hj (by simp [cntE, srchOf]; omega)
theorem eX_fX {N s i v f : Nat} {E : List Edg} (h : Way (eX N E i) s v f) : Way (fX N E) s v f := by
  induction h with
  | here => exact .here
  | @step f j h hj hc ih => exact fX_step ih hj
theorem fX_ind {N s : Nat} {E : List Edg} {C : Nat → Nat → Prop} (h0 : C s 0) (hs : ∀ j f, j < E.length → Way (fX N E) s (fN E j) f → C (fN E j) f → C (tN E j) (f + gn (wtF N E []) j)) {v f : Nat} (h : Way (fX N E) s v f) : C v f := by
  induction h with
  | here => exact h0
  | @step f j h hj hc ih => exact hs j f hj h ih
theorem eX_ind {N s i : Nat} {E : List Edg} {C : Nat → Nat → Prop} (h0 : C s 0) (hs : ∀ j f, j < E.length → j ≠ i → Way (eX N E i) s (fN E j) f → C (fN E j) f → C (tN E j) (f + gn (wtF N E []) j)) {v f : Nat} (h : Way (eX N E i) s v f) : C v f := by
  induction h with
  | here => exact h0
  | @step f j h hj hc ih => exact hs j f hj (fun e => by subst e; simp [cntE, srchOf] at hc) h ih
def dF (N : Nat) (E : List Edg) (a b : Nat) : Nat := gn (refL (fX N E) a) b
theorem dF_is {N a b : Nat} {E : List Edg} (hr : rightF N E = 0) (ha : a < N) (hb : b < N) : (dF N E a b < farV ∧ Way (fX N E) a b (dF N E a b) ∧ ∀ g, Way (fX N E) a b g → dF N E a b ≤ g) ∨ (dF N E a b = farV ∧ ∀ g, ¬ Way (fX N E) a b g) :=
  short_is (noO_ok hr ha (by simp)) rfl rfl rfl hb
theorem dF_le {N a b g : Nat} {E : List Edg} (hr : rightF N E = 0) (ha : a < N) (hb : b < N) (h : Way (fX N E) a b g) : dF N E a b ≤ g ∧ Way (fX N E) a b (dF N E a b) ∧ dF N E a b < farV := by
  rcases dF_is hr ha hb with ⟨h1, h2, h3⟩ | ⟨_, h2⟩
  · exact ⟨h3 g h, h2, h1⟩
  · exact absurd h (h2 g)
theorem dF_way {N a b : Nat} {E : List Edg} (hr : rightF N E = 0) (ha : a < N) (hb : b < N) (h : dF N E a b < farV) : Way (fX N E) a b (dF N E a b) := by
  rcases dF_is hr ha hb with ⟨_, h2, _⟩ | ⟨h1, _⟩
  · exact h2
  · omega
theorem dF_back {N a t : Nat} {E : List Edg} (hr : rightF N E = 0) (ha : a < N) (ht : t < N) : gn (refL (srchOf N E bkO) t) a = dF N E a t := by
  have e : turnX (fX N E) = srchOf N E bkO := rfl
  have e2 : turnX (srchOf N E bkO) = fX N E := rfl
  have go : ∀ {g}, Way (fX N E) a t g → Way (srchOf N E bkO) t a g := fun {g} h => by
    have := Way.turned (x := fX N E) (fun i _ => by simp [cntE, srchOf, turnX]) h
    rwa [e] at this
  have back : ∀ {g}, Way (srchOf N E bkO) t a g → Way (fX N E) a t g := fun {g} h => by
    have := Way.turned (x := srchOf N E bkO) (fun i _ => by simp [cntE, srchOf, turnX]) h
    rwa [e2] at this
  rcases dF_is hr ha ht with ⟨h1, h2, h3⟩ | ⟨h1, h2⟩ <;> rcases short_is (bk_ok hr ht) rfl rfl rfl (v := a) ha with ⟨k1, k2, k3⟩ | ⟨k1, k2⟩
  · have := k3 _ (go h2)
    have := h3 _ (back k2)
    omega
  · exact absurd (go h2) (k2 _)
  · exact absurd (back k2) (h2 _)
  · rw [h1, k1]
def OnE (N : Nat) (E : List Edg) (s t i : Nat) : Prop := dF N E s (fN E i) + gn (wtF N E []) i + dF N E (tN E i) t = dF N E s t
section
variable {N s t i : Nat} {E : List Edg}
theorem way_ahead (hr : rightF N E = 0) (hs : s < N) (hN : ∀ j, j < E.length → fN E j < N ∧ tN E j < N) {v f : Nat} (h : Way (fX N E) s v f) : f = dF N E s v → dF N E s v < dF N E s (tN E i) → Way (eX N E i) s v f := by
  refine fX_ind (C := fun v f => f = dF N E s v → dF N E s v < dF N E s (tN E i) → Way (eX N E i) s v f) (fun _ _ => .here) (fun j f hj hw ih h1 h2 => ?_) h
  obtain ⟨n1, n2⟩ := hN j hj
  obtain ⟨k1, k2, _⟩ := dF_le hr hs n1 hw
  obtain ⟨k3, _, _⟩ := dF_le hr hs n2 (fX_step k2 hj)
  have hw1 := (noO_w hr j hj).1
  have := ih (by omega) (by omega)
  refine eX_step this hj (fun e => ?_)
  subst e
  omega
theorem way_behind (hr : rightF N E = 0) (hs : s < N) (hN : ∀ j, j < E.length → fN E j < N ∧ tN E j < N) {c : Nat} (hc : c < N) (hd : dF N E s c < farV) (hlo : dF N E s (fN E i) < dF N E s c) {v f : Nat} (h : Way (fX N E) c v f) : dF N E s c + f = dF N E s v → Way (eX N E i) c v f := by
  have hsc := dF_way hr hs hc hd
  refine fX_ind (C := fun v f => dF N E s c + f = dF N E s v → Way (eX N E i) c v f) (fun _ => .here) (fun j f hj hw ih h1 => ?_) h
  obtain ⟨n1, n2⟩ := hN j hj
  obtain ⟨k1, k2, _⟩ := dF_le hr hs n1 (hsc.trans hw)
  obtain ⟨k3, _, _⟩ := dF_le hr hs n2 (fX_step k2 hj)
  have := ih (by omega)
  refine eX_step this hj (fun e => ?_)
  subst e
  omega
theorem way_over (hr : rightF N E = 0) (hs : s < N) (hN : ∀ j, j < E.length → fN E j < N ∧ tN E j < N) (lo : Nat) {v f : Nat} (h : Way (eX N E i) s v f) : f = dF N E s v → lo < dF N E s v →
    ∃ k g, k < E.length ∧ k ≠ i ∧ dF N E s (fN E k) ≤ lo ∧ lo < dF N E s (tN E k) ∧ dF N E s (fN E k) + gn (wtF N E []) k = dF N E s (tN E k) ∧ Way (fX N E) (tN E k) v g ∧ dF N E s (tN E k) + g = dF N E s v ∧ dF N E s (fN E k) < farV := by
  refine eX_ind (C := fun v f => f = dF N E s v → lo < dF N E s v → ∃ k g, k < E.length ∧ k ≠ i ∧ dF N E s (fN E k) ≤ lo ∧ lo < dF N E s (tN E k) ∧ dF N E s (fN E k) + gn (wtF N E []) k = dF N E s (tN E k) ∧ Way (fX N E) (tN E k) v g ∧ dF N E s (tN E k) + g = dF N E s v ∧ dF N E s (fN E k) < farV)
    (fun h1 h2 => by omega) (fun j f hj hne hw ih h1 h2 => ?_) h
  obtain ⟨n1, n2⟩ := hN j hj
  obtain ⟨k1, k2, k5⟩ := dF_le hr hs n1 (eX_fX hw)
  obtain ⟨k3, _, _⟩ := dF_le hr hs n2 (fX_step k2 hj)
  by_cases hl : lo < dF N E s (fN E j)
  · obtain ⟨k, g, m1, m2, m3, m4, m5, m6, m7, m8⟩ := ih (by omega) hl
    exact ⟨k, g + gn (wtF N E []) j, m1, m2, m3, m4, m5, fX_step m6 hj, by omega, m8⟩
  · exact ⟨j, 0, hj, hne, by omega, by omega, by omega, .here, by omega, k5⟩
theorem bridge_is (hr : rightF N E = 0) (hs : s < N) (ht : t < N) (hf : dF N E s t < farV) (hi : i < E.length) (ho : OnE N E s t i) :
    dF N E s t < gn (refL (eX N E i) s) t ↔ ¬ ∃ k, k < E.length ∧ OnE N E s t k ∧ k ≠ i ∧ dF N E s (fN E k) < dF N E s (tN E i) ∧ dF N E s (fN E i) < dF N E s (tN E k) := by
  obtain ⟨r1, r2, r3, r4, r5⟩ := right_in hr
  rw [Int.toNat_natCast] at r4
  have hN : ∀ j, j < E.length → fN E j < N ∧ tN E j < N := fun j hj => by
    have h1 := r4.f j hj
    have h2 := r4.t j hj
    unfold fN tN
    omega
  have hst := dF_way hr hs ht hf
  have tri : ∀ k, k < E.length → OnE N E s t k → dF N E s (fN E k) < farV ∧ dF N E (tN E k) t < farV ∧ dF N E s (tN E k) < farV ∧ dF N E s (fN E k) + gn (wtF N E []) k = dF N E s (tN E k) ∧ dF N E s (tN E k) + dF N E (tN E k) t = dF N E s t := fun k hk hon => by
    obtain ⟨n1, n2⟩ := hN k hk
    unfold OnE at hon
    have a1 : dF N E s (fN E k) < farV := by omega
    have a2 : dF N E (tN E k) t < farV := by omega
    obtain ⟨b1, b2, b3⟩ := dF_le hr hs n2 (fX_step (dF_way hr hs n1 a1) hk)
    obtain ⟨b4, _, _⟩ := dF_le hr hs ht (b2.trans (dF_way hr n2 ht a2))
    exact ⟨a1, a2, b3, by omega, by omega⟩
  obtain ⟨i1, i2, i3, i4, i5⟩ := tri i hi ho
  have hwi := (noO_w hr i hi).1
  have sh : (gn (refL (eX N E i) s) t < farV ∧ Way (eX N E i) s t (gn (refL (eX N E i) s) t) ∧ ∀ g, Way (eX N E i) s t g → gn (refL (eX N E i) s) t ≤ g) ∨ (gn (refL (eX N E i) s) t = farV ∧ ∀ g, ¬ Way (eX N E i) s t g) := short_is (noO_ok hr hs (ne := [(i : Int)]) (by simp)) rfl rfl rfl (v := t) ht
  constructor
  · rintro hlt ⟨k, hk, hon, hne, h1, h2⟩
    obtain ⟨n1, n2⟩ := hN k hk
    obtain ⟨t1, t2, t3, t4, t5⟩ := tri k hk hon
    have p1 := way_ahead (i := i) hr hs hN (dF_way hr hs n1 t1) rfl h1
    have p2 := way_behind (i := i) hr hs hN n2 t3 h2 (dF_way hr n2 ht t2) (by omega)
    have p3 := (eX_step p1 hk hne).trans p2
    rcases sh with ⟨_, _, q⟩ | ⟨_, q⟩
    · have := q _ p3
      omega
    · exact q _ p3
  · intro hno
    rcases sh with ⟨q1, q2, _⟩ | ⟨q, _⟩
    · refine Nat.lt_of_not_le fun hle => hno ?_
      have hle2 := (dF_le hr hs ht (eX_fX q2)).1
      obtain ⟨k, g, m1, m2, m3, m4, m5, m6, m7, m8⟩ := way_over hr hs hN (dF N E s (fN E i)) q2 (by omega) (by omega)
      obtain ⟨n1, n2⟩ := hN k m1
      obtain ⟨c1, c2, c3⟩ := dF_le hr n2 ht m6
      obtain ⟨c4, _, _⟩ := dF_le hr hs ht ((dF_way hr hs n2 (by omega)).trans c2)
      exact ⟨k, m1, by unfold OnE; omega, m2, by omega, m4⟩
    · rw [q]; exact hf
end
end Go.Proofs.Yteodapefimlakaa

/- Plain: nodes go, one by one, and leave shortcuts: what is built is made of the graph, and full. -/
namespace Go.Proofs.Yteodapefimlakaa
open Go Go.RowKit
abbrev LM := Nat → Option Nat
def lgLess (m : LM) (u w : Nat) : Bool := match m u with | none => true | some was => decide (w < was)
def lgPut (G : List Bool) (v : Nat) (m : LM) (u w : Nat) : LM := if u ≠ v ∧ bb G u = false ∧ lgLess m u w = true then fun z => if z = u then some w else m z else m
def lgArc (G : List Bool) (v u : Nat) (m : LM × LM) (a : Itm) : LM × LM :=
  if v = u then (m.1, lgPut G v m.2 a.1 a.2) else if v = a.1 then (lgPut G v m.1 u a.2, m.2) else m
def lgRow (G : List Bool) (v u : Nat) (l : List Itm) (m : LM × LM) : LM × LM := l.foldl (lgArc G v u) m
theorem lgRow_snoc (G : List Bool) (v u : Nat) (l : List Itm) (a : Itm) (m : LM × LM) : lgRow G v u (l ++ [a]) m = lgArc G v u (lgRow G v u l m) a := by
  unfold lgRow
  rw [List.foldl_append]
  rfl
def lgAll (O : NetO) (G : List Bool) (v : Nat) : Nat → LM × LM
  | 0 => (fun _ => none, fun _ => none)
  | u + 1 => lgRow G v u (ga O u) (lgAll O G v u)
def lightest (O : NetO) (G : List Bool) (v : Nat) : LM × LM := lgAll O G v O.length
structure LgOk (P : Nat → Nat → Prop) (G : List Bool) (v : Nat) (m : LM) : Prop where
  is : ∀ u a, m u = some a → u ≠ v ∧ bb G u = false ∧ P u a
  all : ∀ u a, u ≠ v → bb G u = false → P u a → ∃ b, m u = some b ∧ b ≤ a
theorem LgOk.put {P : Nat → Nat → Prop} {G : List Bool} {v : Nat} {m : LM} (h : LgOk P G v m) (u w : Nat) : LgOk (fun x a => P x a ∨ (x = u ∧ a = w)) G v (lgPut G v m u w) := by
  unfold lgPut
  split
  · rename_i hc
    obtain ⟨h1, h2, h3⟩ := hc
    constructor
    · intro x a hx
      split at hx
      · rename_i e
        injection hx with hx
        subst e hx
        exact ⟨h1, h2, .inr ⟨rfl, rfl⟩⟩
      · obtain ⟨q1, q2, q3⟩ := h.is x a hx
        exact ⟨q1, q2, .inl q3⟩
    · intro x a hx hg hp
      by_cases e : x = u
      · subst e
        rw [if_pos rfl]
        refine ⟨w, rfl, ?_⟩
        rcases hp with hp | ⟨_, hp⟩
        · obtain ⟨b, q1, q2⟩ := h.all x a hx hg hp
          unfold lgLess at h3
          rw [q1] at h3
          have := of_decide_eq_true h3
          omega
        · omega
      · rw [if_neg e]
        rcases hp with hp | ⟨hp, _⟩
        · exact h.all x a hx hg hp
        · exact absurd hp e
  · rename_i hc
    constructor
    · intro x a hx
      obtain ⟨q1, q2, q3⟩ := h.is x a hx
      exact ⟨q1, q2, .inl q3⟩
    · intro x a hx hg hp
      rcases hp with hp | ⟨rfl, rfl⟩
      · exact h.all x a hx hg hp
      · cases hm : m x with
        | none => exact absurd ⟨hx, hg, by unfold lgLess; rw [hm]⟩ hc
        | some b =>
          refine ⟨b, rfl, ?_⟩
          rcases Nat.lt_or_ge a b with h1 | h1
          · exact absurd ⟨hx, hg, by unfold lgLess; rw [hm]; exact decide_eq_true h1⟩ hc
          · exact h1
theorem LgOk.congr {P Q : Nat → Nat → Prop} {G : List Bool} {v : Nat} {m : LM} (h : LgOk P G v m) (e : ∀ u a, u ≠ v → (P u a ↔ Q u a)) : LgOk Q G v m :=
  ⟨fun u a hu => by obtain ⟨q1, q2, q3⟩ := h.is u a hu; exact ⟨q1, q2, (e u a q1).1 q3⟩, fun u a h1 h2 h3 => h.all u a h1 h2 ((e u a h1).2 h3)⟩
theorem lgRow_ok {G : List Bool} {v u : Nat} (l : List Itm) : ∀ {P Q : Nat → Nat → Prop} {m : LM × LM}, LgOk P G v m.1 → LgOk Q G v m.2 →
    LgOk (fun x a => P x a ∨ (x = u ∧ v ≠ u ∧ (v, a) ∈ l)) G v (lgRow G v u l m).1 ∧ LgOk (fun x a => Q x a ∨ (v = u ∧ (x, a) ∈ l)) G v (lgRow G v u l m).2 := by
  induction l with
  | nil => exact fun h1 h2 => ⟨h1.congr fun _ _ _ => by simp, h2.congr fun _ _ _ => by simp⟩
  | cons a l ih =>
    intro P Q m h1 h2
    unfold lgRow
    rw [List.foldl_cons]
    by_cases e1 : v = u
    · have e : lgArc G v u m a = (m.1, lgPut G v m.2 a.1 a.2) := by unfold lgArc; rw [if_pos e1]
      rw [e]
      obtain ⟨k1, k2⟩ := ih (m := (m.1, lgPut G v m.2 a.1 a.2)) h1 (h2.put a.1 a.2)
      refine ⟨k1.congr fun x b _ => ?_, k2.congr fun x b _ => ?_⟩
      · simp [e1]
      · rw [List.mem_cons]
        constructor
        · rintro ((h | ⟨rfl, rfl⟩) | ⟨h3, h4⟩)
          · exact .inl h
          · exact .inr ⟨e1, .inl rfl⟩
          · exact .inr ⟨h3, .inr h4⟩
        · rintro (h | ⟨h3, h4 | h4⟩)
          · exact .inl (.inl h)
          · subst h4; exact .inl (.inr ⟨rfl, rfl⟩)
          · exact .inr ⟨h3, h4⟩
    · by_cases e2 : v = a.1
      · have e : lgArc G v u m a = (lgPut G v m.1 u a.2, m.2) := by unfold lgArc; rw [if_neg e1, if_pos e2]
        rw [e]
        obtain ⟨k1, k2⟩ := ih (m := (lgPut G v m.1 u a.2, m.2)) (h1.put u a.2) h2
        refine ⟨k1.congr fun x b _ => ?_, k2.congr fun x b _ => ?_⟩
        · rw [List.mem_cons]
          constructor
          · rintro ((h | ⟨rfl, rfl⟩) | ⟨h3, h4, h5⟩)
            · exact .inl h
            · exact .inr ⟨rfl, e1, .inl (by rw [e2])⟩
            · exact .inr ⟨h3, h4, .inr h5⟩
          · rintro (h | ⟨h3, h4, h5 | h5⟩)
            · exact .inl (.inl h)
            · rw [← h5]; exact .inl (.inr ⟨h3, rfl⟩)
            · exact .inr ⟨h3, h4, h5⟩
        · simp [e1]
      · have e : lgArc G v u m a = m := by unfold lgArc; rw [if_neg e1, if_neg e2]
        rw [e]
        obtain ⟨k1, k2⟩ := ih (m := m) h1 h2
        refine ⟨k1.congr fun x b _ => ?_, k2.congr fun x b _ => ?_⟩
        · rw [List.mem_cons]
          constructor
          · rintro (h | ⟨h3, h4, h5⟩)
            · exact .inl h
            · exact .inr ⟨h3, h4, .inr h5⟩
          · rintro (h | ⟨h3, h4, h5 | h5⟩)
            · exact .inl h
            · exact absurd (by rw [← h5]) e2
            · exact .inr ⟨h3, h4, h5⟩
        · simp [e1]
theorem lgAll_ok (O : NetO) (G : List Bool) (v n : Nat) : LgOk (fun u a => u < n ∧ (v, a) ∈ ga O u) G v (lgAll O G v n).1 ∧ LgOk (fun u a => v < n ∧ (u, a) ∈ ga O v) G v (lgAll O G v n).2 := by
  induction n with
  | zero => exact ⟨⟨fun u a h => absurd h (by simp [lgAll]), fun u a _ _ h => absurd h.1 (by omega)⟩, ⟨fun u a h => absurd h (by simp [lgAll]), fun u a _ _ h => absurd h.1 (by omega)⟩⟩
  | succ n ih =>
    obtain ⟨k1, k2⟩ := lgRow_ok (u := n) (ga O n) ih.1 ih.2
    refine ⟨k1.congr fun u a hu => ?_, k2.congr fun u a hu => ?_⟩
    · constructor
      · rintro (⟨h1, h2⟩ | ⟨rfl, h2, h3⟩)
        · exact ⟨by omega, h2⟩
        · exact ⟨by omega, h3⟩
      · rintro ⟨h1, h2⟩
        rcases Nat.lt_or_ge u n with h | h
        · exact .inl ⟨h, h2⟩
        · have e : u = n := by omega
          subst e
          exact .inr ⟨rfl, fun e => hu e.symm, h2⟩
    · constructor
      · rintro (⟨h1, h2⟩ | ⟨rfl, h2⟩)
        · exact ⟨by omega, h2⟩
        · exact ⟨by omega, h2⟩
      · rintro ⟨h1, h2⟩
        rcases Nat.lt_or_ge v n with h | h
        · exact .inl ⟨h, h2⟩
        · have e : v = n := by omega
          subst e
          exact .inr ⟨rfl, h2⟩
abbrev Kp := Nat × Nat × Nat
def kpW (O : NetO) (G : List Bool) (hops settles : Nat) (fr : LM) (u a w : Nat) (acc : List Kp) : List Kp :=
  match fr w with
  | none => acc
  | some b => if u = w then acc else if (wsFind O G u w (a + b) hops settles).isSome = true then acc else acc ++ [(u, w, a + b)]
def kpIn (O : NetO) (G : List Bool) (hops settles : Nat) (fr : LM) (u a : Nat) : Nat → List Kp → List Kp
  | 0, acc => acc
  | w + 1, acc => kpW O G hops settles fr u a w (kpIn O G hops settles fr u a w acc)
def kpAll (O : NetO) (G : List Bool) (hops settles : Nat) (tf : LM × LM) (N : Nat) : Nat → List Kp
  | 0 => []
  | u + 1 => match tf.1 u with
    | none => kpAll O G hops settles tf N u
    | some a => kpIn O G hops settles tf.2 u a N (kpAll O G hops settles tf N u)
def keptL (O : NetO) (G : List Bool) (hops settles v : Nat) : List Kp := kpAll O (G.set v true) hops settles (lightest O G v) O.length O.length
theorem kpW_mem {O : NetO} {G : List Bool} {hops settles u a w : Nat} {fr : LM} {acc : List Kp} {x : Kp} : x ∈ kpW O G hops settles fr u a w acc ↔ x ∈ acc ∨ ∃ b, fr w = some b ∧ u ≠ w ∧ wsFind O G u w (a + b) hops settles = none ∧ x = (u, w, a + b) := by
  unfold kpW
  cases hf : fr w with
  | none => simp
  | some b =>
    simp only
    by_cases e : u = w
    · simp [e]
    · rw [if_neg e]
      cases hs : wsFind O G u w (a + b) hops settles with
      | none => simp [e, hs]
      | some d => simp [e, hs]
theorem kpIn_mem {O : NetO} {G : List Bool} {hops settles u a : Nat} {fr : LM} {acc : List Kp} {x : Kp} (n : Nat) : x ∈ kpIn O G hops settles fr u a n acc ↔ x ∈ acc ∨ ∃ w b, w < n ∧ fr w = some b ∧ u ≠ w ∧ wsFind O G u w (a + b) hops settles = none ∧ x = (u, w, a + b) := by
  induction n with
  | zero => simp [kpIn]
  | succ n ih =>
    show x ∈ kpW O G hops settles fr u a n (kpIn O G hops settles fr u a n acc) ↔ _
    rw [kpW_mem, ih]
    constructor
    · rintro ((h | ⟨w, b, h1, h2⟩) | ⟨b, h2⟩)
      · exact .inl h
      · exact .inr ⟨w, b, by omega, h2⟩
      · exact .inr ⟨n, b, by omega, h2⟩
    · rintro (h | ⟨w, b, h1, h2⟩)
      · exact .inl (.inl h)
      · rcases Nat.lt_or_ge w n with h | h
        · exact .inl (.inr ⟨w, b, h, h2⟩)
        · have e : w = n := by omega
          subst e
          exact .inr ⟨b, h2⟩
theorem kpAll_mem {O : NetO} {G : List Bool} {hops settles N : Nat} {tf : LM × LM} {x : Kp} (n : Nat) : x ∈ kpAll O G hops settles tf N n ↔ ∃ u a w b, u < n ∧ tf.1 u = some a ∧ w < N ∧ tf.2 w = some b ∧ u ≠ w ∧ wsFind O G u w (a + b) hops settles = none ∧ x = (u, w, a + b) := by
  induction n with
  | zero => simp [kpAll]
  | succ n ih =>
    unfold kpAll
    cases hm : tf.1 n with
    | none =>
      simp only
      rw [ih]
      constructor
      · rintro ⟨u, a, w, b, h1, h2⟩
        exact ⟨u, a, w, b, by omega, h2⟩
      · rintro ⟨u, a, w, b, h1, h2, h3⟩
        refine ⟨u, a, w, b, ?_, h2, h3⟩
        rcases Nat.lt_or_ge u n with h | h
        · exact h
        · have e : u = n := by omega
          subst e
          rw [hm] at h2
          cases h2
    | some a0 =>
      simp only
      rw [kpIn_mem, ih]
      constructor
      · rintro (⟨u, a, w, b, h1, h2⟩ | ⟨w, b, h1, h2⟩)
        · exact ⟨u, a, w, b, by omega, h2⟩
        · exact ⟨n, a0, w, b, by omega, hm, h1, h2⟩
      · rintro ⟨u, a, w, b, h1, h2, h3, h4⟩
        rcases Nat.lt_or_ge u n with h | h
        · exact .inl ⟨u, a, w, b, h, h2, h3, h4⟩
        · have e : u = n := by omega
          subst e
          rw [hm] at h2
          injection h2 with h2
          subst h2
          exact .inr ⟨w, b, h3, h4⟩
end Go.Proofs.Yteodapefimlakaa

/- Plain: a net's shortcuts, one added behind the other; a node goes. -/
namespace Go.Proofs.Yteodapefimlakaa
open Go Go.RowKit
structure Sc where
  f : Nat
  t : Nat
  w : Nat
  e : Int
  a : Int
  b : Int
def sc0 : Sc := ⟨0, 0, 0, 0, 0, 0⟩
def gs (S : List Sc) (i : Nat) : Sc := S.getD i sc0
theorem gs_app {S : List Sc} {x : Sc} {i : Nat} (h : i < S.length) : gs (S ++ [x]) i = gs S i := by simp [gs, List.getElem?_append_left h, List.getD_eq_getElem?_getD]
theorem gs_end (S : List Sc) (x : Sc) : gs (S ++ [x]) S.length = x := by simp [gs, List.getD_eq_getElem?_getD]
structure Ctr where
  O : NetO
  G : List Bool
  at_ : Nat → Nat → Option Nat
  S : List Sc
  D : List Nat
def Ctr.has (c : Ctr) (u t w : Nat) : Bool := match c.at_ u t with | none => false | some i => decide ((gs c.S i).w ≤ w)
def Ctr.add (c : Ctr) (x : Sc) : Ctr :=
  if c.has x.f x.t x.w = true then c else
    ⟨c.O.set x.f ((ga c.O x.f).filter (fun a => !decide (a.1 = x.t)) ++ [(x.t, x.w)]), c.G, fun p q => if p = x.f ∧ q = x.t then some c.S.length else c.at_ p q, c.S ++ [x], c.D⟩
theorem Ctr.add_yes {c : Ctr} {x : Sc} (h : c.has x.f x.t x.w = true) : c.add x = c := if_pos h
theorem Ctr.add_no {c : Ctr} {x : Sc} (h : ¬ c.has x.f x.t x.w = true) : c.add x = ⟨c.O.set x.f ((ga c.O x.f).filter (fun a => !decide (a.1 = x.t)) ++ [(x.t, x.w)]), c.G, fun p q => if p = x.f ∧ q = x.t then some c.S.length else c.at_ p q, c.S ++ [x], c.D⟩ := if_neg h
theorem ga_set {O : NetO} {u x : Nat} {l : List Itm} (hu : u < O.length) : ga (O.set u l) x = if x = u then l else ga O x := by
  unfold ga
  by_cases e : x = u
  · subst e; simp [hu]
  · simp [e, Ne.symm e]
structure CtN (N : Nat) (c : Ctr) : Prop where
  olen : c.O.length = N
  glen : c.G.length = N
  dlen : c.D.length = N
  arcs : ∀ u, u < N → ∀ t w, (t, w) ∈ ga c.O u ↔ ∃ i, c.at_ u t = some i ∧ (gs c.S i).w = w
  at_in : ∀ u t i, c.at_ u t = some i → i < c.S.length ∧ (gs c.S i).f = u ∧ (gs c.S i).t = t
  ends : ∀ i, i < c.S.length → (gs c.S i).f < N ∧ (gs c.S i).t < N ∧ (gs c.S i).f ≠ (gs c.S i).t
theorem CtN.nin {N : Nat} {c : Ctr} (h : CtN N c) : NIn c.O := by
  intro v a ha
  by_cases hv : v < N
  · obtain ⟨i, h1, _⟩ := (h.arcs v hv a.1 a.2).1 ha
    obtain ⟨h2, _, h3⟩ := h.at_in _ _ _ h1
    have := (h.ends i h2).2.1
    rw [h3] at this
    rw [h.olen]; exact this
  · have : ga c.O v = [] := by unfold ga; rw [List.getD_eq_getElem?_getD, List.getElem?_eq_none (by rw [h.olen]; omega)]; rfl
    rw [this] at ha
    cases ha
theorem CtN.add {N : Nat} {c : Ctr} {x : Sc} (h : CtN N c) (h1 : x.f < N) (h2 : x.t < N) (h3 : x.f ≠ x.t) : CtN N (c.add x) := by
  by_cases hh : c.has x.f x.t x.w = true
  · rw [Ctr.add_yes hh]; exact h
  · rw [Ctr.add_no hh]
    refine ⟨by simp [h.olen], h.glen, h.dlen, fun u hu t w => ?_, fun u t i hi => ?_, fun i hi => ?_⟩
    · show (t, w) ∈ ga (c.O.set x.f _) u ↔ ∃ i, (if u = x.f ∧ t = x.t then some c.S.length else c.at_ u t) = some i ∧ (gs (c.S ++ [x]) i).w = w
      rw [ga_set (by rw [h.olen]; exact h1)]
      by_cases e : u = x.f
      · subst e
        rw [if_pos rfl, List.mem_append, List.mem_filter]
        by_cases e2 : t = x.t
        · subst e2
          rw [if_pos ⟨rfl, rfl⟩]
          constructor
          · rintro (⟨_, h5⟩ | h5)
            · simp at h5
            · rw [List.mem_singleton] at h5
              injection h5 with _ h5
              exact ⟨_, rfl, by rw [gs_end, h5]⟩
          · rintro ⟨i, h5, h6⟩
            injection h5 with h5
            subst h5
            rw [gs_end] at h6
            exact .inr (by rw [h6]; simp)
        · rw [if_neg (fun h => e2 h.2)]
          constructor
          · rintro (⟨h5, _⟩ | h5)
            · obtain ⟨i, h6, h7⟩ := (h.arcs _ hu t w).1 h5
              exact ⟨i, h6, by rw [gs_app (h.at_in _ _ _ h6).1]; exact h7⟩
            · rw [List.mem_singleton] at h5
              injection h5 with h5
              exact absurd h5 e2
          · rintro ⟨i, h6, h7⟩
            rw [gs_app (h.at_in _ _ _ h6).1] at h7
            exact .inl ⟨(h.arcs _ hu t w).2 ⟨i, h6, h7⟩, by simp [e2]⟩
      · rw [if_neg e, if_neg (fun h => e h.1), h.arcs u hu t w]
        constructor
        · rintro ⟨i, h6, h7⟩
          exact ⟨i, h6, by rw [gs_app (h.at_in _ _ _ h6).1]; exact h7⟩
        · rintro ⟨i, h6, h7⟩
          rw [gs_app (h.at_in _ _ _ h6).1] at h7
          exact ⟨i, h6, h7⟩
    · have hi' : (if u = x.f ∧ t = x.t then some c.S.length else c.at_ u t) = some i := hi
      show i < (c.S ++ [x]).length ∧ (gs (c.S ++ [x]) i).f = u ∧ (gs (c.S ++ [x]) i).t = t
      by_cases e : u = x.f ∧ t = x.t
      · rw [if_pos e] at hi'
        injection hi' with hi'
        subst hi'
        rw [gs_end]
        exact ⟨by simp, e.1.symm, e.2.symm⟩
      · rw [if_neg e] at hi'
        obtain ⟨q1, q2, q3⟩ := h.at_in _ _ _ hi'
        rw [gs_app q1]
        exact ⟨by simp; omega, q2, q3⟩
    · have hi' : i < (c.S ++ [x]).length := hi
      show (gs (c.S ++ [x]) i).f < N ∧ (gs (c.S ++ [x]) i).t < N ∧ (gs (c.S ++ [x]) i).f ≠ (gs (c.S ++ [x]) i).t
      rw [List.length_append, List.length_singleton] at hi'
      rcases Nat.lt_or_ge i c.S.length with h5 | h5
      · rw [gs_app h5]; exact h.ends i h5
      · have e : i = c.S.length := by omega
        subst e
        rw [gs_end]
        exact ⟨h1, h2, h3⟩
theorem Ctr.add_all {c : Ctr} {x : Sc} {P : Nat → Sc → Prop} (h : ∀ i, i < c.S.length → P i (gs c.S i)) (hx : P c.S.length x) : ∀ i, i < (c.add x).S.length → P i (gs (c.add x).S i) := by
  by_cases hh : c.has x.f x.t x.w = true
  · rw [Ctr.add_yes hh]; exact h
  · rw [Ctr.add_no hh]
    intro i hi
    have hi' : i < (c.S ++ [x]).length := hi
    show P i (gs (c.S ++ [x]) i)
    rw [List.length_append, List.length_singleton] at hi'
    rcases Nat.lt_or_ge i c.S.length with h5 | h5
    · rw [gs_app h5]; exact h i h5
    · have e : i = c.S.length := by omega
      subst e
      rw [gs_end]
      exact hx
structure CtLe (c d : Ctr) : Prop where
  len : c.S.length ≤ d.S.length
  old : ∀ i, i < c.S.length → gs d.S i = gs c.S i
  less : ∀ u t i, c.at_ u t = some i → ∃ j, d.at_ u t = some j ∧ (gs d.S j).w ≤ (gs c.S i).w
theorem CtLe.refl (c : Ctr) : CtLe c c := ⟨Nat.le_refl _, fun _ _ => rfl, fun _ _ i h => ⟨i, h, Nat.le_refl _⟩⟩
theorem CtLe.trans {c d e : Ctr} (h : CtLe c d) (k : CtLe d e) : CtLe c e :=
  ⟨Nat.le_trans h.len k.len, fun i hi => (k.old i (Nat.lt_of_lt_of_le hi h.len)).trans (h.old i hi), fun u t i hi => by
    obtain ⟨j, h1, h2⟩ := h.less u t i hi
    obtain ⟨m, h3, h4⟩ := k.less u t j h1
    exact ⟨m, h3, Nat.le_trans h4 h2⟩⟩
theorem CtLe.add {N : Nat} {c : Ctr} (h : CtN N c) (x : Sc) : CtLe c (c.add x) ∧ ∃ j, (c.add x).at_ x.f x.t = some j ∧ (gs (c.add x).S j).w ≤ x.w := by
  by_cases hh : c.has x.f x.t x.w = true
  · rw [Ctr.add_yes hh]
    refine ⟨CtLe.refl c, ?_⟩
    unfold Ctr.has at hh
    cases hm : c.at_ x.f x.t with
    | none => rw [hm] at hh; cases hh
    | some i => rw [hm] at hh; exact ⟨i, rfl, of_decide_eq_true hh⟩
  · rw [Ctr.add_no hh]
    refine ⟨⟨by simp, fun i hi => gs_app hi, fun u t i hi => ?_⟩, c.S.length, if_pos ⟨rfl, rfl⟩, by show (gs (c.S ++ [x]) c.S.length).w ≤ x.w; rw [gs_end]; exact Nat.le_refl _⟩
    show ∃ j, (if u = x.f ∧ t = x.t then some c.S.length else c.at_ u t) = some j ∧ (gs (c.S ++ [x]) j).w ≤ (gs c.S i).w
    by_cases e : u = x.f ∧ t = x.t
    · rw [if_pos e]
      refine ⟨_, rfl, ?_⟩
      rw [gs_end]
      rw [e.1, e.2] at hi
      unfold Ctr.has at hh
      rw [hi] at hh
      simp at hh
      omega
    · rw [if_neg e]
      exact ⟨i, hi, by rw [gs_app (h.at_in _ _ _ hi).1]; exact Nat.le_refl _⟩
theorem Ctr.add_at {c : Ctr} {x : Sc} {u t : Nat} (h : ¬ (u = x.f ∧ t = x.t)) : (c.add x).at_ u t = c.at_ u t := by
  by_cases hh : c.has x.f x.t x.w = true
  · rw [Ctr.add_yes hh]
  · rw [Ctr.add_no hh]
    exact if_neg h
theorem Ctr.add_G (c : Ctr) (x : Sc) : (c.add x).G = c.G ∧ (c.add x).D = c.D := by
  unfold Ctr.add
  split <;> exact ⟨rfl, rfl⟩
def kpSc (c : Ctr) (v : Nat) (k : Kp) : Sc := ⟨k.1, k.2.1, k.2.2, -1, ((c.at_ k.1 v).getD 0 : Nat), ((c.at_ v k.2.1).getD 0 : Nat)⟩
def Ctr.adds (v : Nat) (l : List Kp) (c : Ctr) : Ctr := l.foldl (fun c k => c.add (kpSc c v k)) c
theorem Ctr.adds_snoc (v : Nat) (l : List Kp) (k : Kp) (c : Ctr) : Ctr.adds v (l ++ [k]) c = (Ctr.adds v l c).add (kpSc (Ctr.adds v l c) v k) := by
  unfold Ctr.adds
  rw [List.foldl_append]
  rfl
def deepL (D : List Nat) (tf : LM × LM) (v : Nat) : List Nat := (List.range D.length).map fun u => if (tf.1 u).isSome = true ∨ (tf.2 u).isSome = true then max (gn D u) (gn D v + 1) else gn D u
def Ctr.go (hops settles : Nat) (c : Ctr) (v : Nat) : Ctr :=
  let d := Ctr.adds v (keptL c.O c.G hops settles v) c
  ⟨d.O, d.G.set v true, d.at_, d.S, deepL d.D (lightest c.O c.G v) v⟩
def Ctr.edges (E : List Edg) : Nat → Ctr → Ctr
  | 0, c => c
  | i + 1, c => (Ctr.edges E i c).add ⟨fN E i, tN E i, (ge E i).w.toNat, (i : Int), -1, -1⟩
def ctr0 (N : Nat) : Ctr := ⟨List.replicate N [], List.replicate N false, fun _ _ => none, [], List.replicate N 0⟩
def ctrG (N : Nat) (E : List Edg) : Ctr := Ctr.edges E E.length (ctr0 N)
end Go.Proofs.Yteodapefimlakaa

/- Plain: what is built is made of the graph, and full. -/
namespace Go.Proofs.Yteodapefimlakaa
open Go Go.RowKit
theorem wtF_nil {N i : Nat} {E : List Edg} (hr : rightF N E = 0) (hi : i < E.length) : gn (wtF N E []) i = (ge E i).w.toNat := by
  unfold wtF
  rw [if_neg (by omega), if_neg (by simp), if_neg (by simp)]
  simp [gn, eW, ge, hi]
inductive WyC (N : Nat) (E : List Edg) (C : Nat → Prop) (u : Nat) : Nat → Nat → Prop
  | one {i : Nat} : i < E.length → fN E i = u → WyC N E C u (tN E i) (gn (wtF N E []) i)
  | snoc {f i : Nat} : WyC N E C u (fN E i) f → C (fN E i) → i < E.length → WyC N E C u (tN E i) (f + gn (wtF N E []) i)
section
variable {N : Nat} {E : List Edg} {C : Nat → Prop} {u w f v : Nat}
theorem WyC.way (h : WyC N E C u w f) : Way (fX N E) u w f := by
  induction h with
  | @one i hi e =>
    have := fX_step (N := N) (E := E) (s := u) (i := i) (f := 0) (by rw [e]; exact .here) hi
    rwa [Nat.zero_add] at this
  | snoc _ _ hi ih => exact fX_step ih hi
theorem WyC.mono {C' : Nat → Prop} (h : WyC N E C u w f) (hc : ∀ x, C x → C' x) : WyC N E C' u w f := by
  induction h with
  | one hi e => exact .one hi e
  | snoc _ hx hi ih => exact .snoc ih (hc _ hx) hi
theorem WyC.split (h : WyC N E (fun x => C x ∨ x = v) u w f) : WyC N E C u w f ∨ ∃ f1 f2, WyC N E C u v f1 ∧ WyC N E C v w f2 ∧ f1 + f2 ≤ f := by
  induction h with
  | one hi e => exact .inl (.one hi e)
  | @snoc f i _ hx hi ih =>
    rcases ih with h1 | ⟨f1, f2, h1, h2, h3⟩
    · rcases hx with hx | hx
      · exact .inl (.snoc h1 hx hi)
      · rw [hx] at h1
        exact .inr ⟨f, gn (wtF N E []) i, h1, .one hi hx, Nat.le_refl _⟩
    · rcases hx with hx | hx
      · exact .inr ⟨f1, f2 + gn (wtF N E []) i, h1, .snoc h2 hx hi, by omega⟩
      · exact .inr ⟨f1, gn (wtF N E []) i, h1, .one hi hx, by omega⟩
end
def MadeP (E : List Edg) (pre : List Nat) (S : List Sc) (i : Nat) : Prop :=
  (∃ e, e < E.length ∧ gs S i = ⟨fN E e, tN E e, (ge E e).w.toNat, (e : Int), -1, -1⟩) ∨
  ((gs S i).e = -1 ∧ ∃ A B, (gs S i).a = (A : Nat) ∧ (gs S i).b = (B : Nat) ∧ A < i ∧ B < i ∧ (gs S A).f = (gs S i).f ∧ (gs S A).t = (gs S B).f ∧ (gs S B).t = (gs S i).t ∧ (gs S A).w + (gs S B).w = (gs S i).w ∧
    ∃ p q, pre = p ++ (gs S A).t :: q ∧ (gs S i).f ∉ p ++ [(gs S A).t] ∧ (gs S i).t ∉ p ++ [(gs S A).t])
theorem MadeP.app {E : List Edg} {pre : List Nat} {S : List Sc} {i : Nat} (h : MadeP E pre S i) (hi : i < S.length) (x : Sc) : MadeP E pre (S ++ [x]) i := by
  rcases h with ⟨e, h1, h2⟩ | ⟨h1, A, B, h2, h3, h4, h5, h6, h7, h8, h9, p, q, h10, h11, h12⟩
  · exact .inl ⟨e, h1, by rw [gs_app hi]; exact h2⟩
  · refine .inr ⟨by rw [gs_app hi]; exact h1, A, B, ?_⟩
    rw [gs_app hi, gs_app (show A < S.length by omega), gs_app (show B < S.length by omega)]
    exact ⟨h2, h3, h4, h5, h6, h7, h8, h9, p, q, h10, h11, h12⟩
theorem MadeP.pre {E : List Edg} {pre : List Nat} {S : List Sc} {i : Nat} (h : MadeP E pre S i) (v : Nat) : MadeP E (pre ++ [v]) S i := by
  rcases h with h | ⟨h1, A, B, h2, h3, h4, h5, h6, h7, h8, h9, p, q, h10, h11, h12⟩
  · exact .inl h
  · exact .inr ⟨h1, A, B, h2, h3, h4, h5, h6, h7, h8, h9, p, q ++ [v], by rw [h10]; simp, h11, h12⟩
theorem made_add {E : List Edg} {pre : List Nat} {c : Ctr} {x : Sc} (h : ∀ i, i < c.S.length → MadeP E pre c.S i) (hx : MadeP E pre (c.S ++ [x]) c.S.length) : ∀ i, i < (c.add x).S.length → MadeP E pre (c.add x).S i := by
  by_cases hh : c.has x.f x.t x.w = true
  · rw [Ctr.add_yes hh]; exact h
  · rw [Ctr.add_no hh]
    intro i hi
    have hi' : i < (c.S ++ [x]).length := hi
    rw [List.length_append, List.length_singleton] at hi'
    rcases Nat.lt_or_ge i c.S.length with h5 | h5
    · exact (h i h5).app h5 x
    · have e : i = c.S.length := by omega
      rw [e]; exact hx
structure CtI (N : Nat) (E : List Edg) (pre : List Nat) (c : Ctr) : Prop where
  net : CtN N c
  gone : ∀ v, v < N → (bb c.G v = true ↔ v ∈ pre)
  sound : ∀ i, i < c.S.length → Way (fX N E) (gs c.S i).f (gs c.S i).t (gs c.S i).w
  made : ∀ i, i < c.S.length → MadeP E pre c.S i
  full : ∀ u w, u < N → w < N → u ∉ pre → w ∉ pre → u ≠ w → WyC N E (· ∈ pre) u w (dF N E u w) → ∃ i, c.at_ u w = some i ∧ (gs c.S i).w ≤ dF N E u w
section
variable {N : Nat} {E : List Edg}
theorem ends_in (hr : rightF N E = 0) {i : Nat} (hi : i < E.length) : fN E i < N ∧ tN E i < N := by
  obtain ⟨r1, r2, r3, r4, r5⟩ := right_in hr
  rw [Int.toNat_natCast] at r4
  have h1 := r4.f i hi
  have h2 := r4.t i hi
  unfold fN tN
  omega
theorem edges_ok (hr : rightF N E = 0) (hne : ∀ i, i < E.length → fN E i ≠ tN E i) (k : Nat) (hk : k ≤ E.length) : CtN N (Ctr.edges E k (ctr0 N)) ∧ (Ctr.edges E k (ctr0 N)).G = List.replicate N false ∧ (∀ i, i < (Ctr.edges E k (ctr0 N)).S.length → Way (fX N E) (gs (Ctr.edges E k (ctr0 N)).S i).f (gs (Ctr.edges E k (ctr0 N)).S i).t (gs (Ctr.edges E k (ctr0 N)).S i).w) ∧
    (∀ i, i < (Ctr.edges E k (ctr0 N)).S.length → MadeP E [] (Ctr.edges E k (ctr0 N)).S i) ∧ ∀ e, e < k → ∃ j, (Ctr.edges E k (ctr0 N)).at_ (fN E e) (tN E e) = some j ∧ (gs (Ctr.edges E k (ctr0 N)).S j).w ≤ (ge E e).w.toNat := by
  induction k with
  | zero =>
    refine ⟨⟨by simp [Ctr.edges, ctr0], by simp [Ctr.edges, ctr0], by simp [Ctr.edges, ctr0], fun u hu t w => ?_, fun u t i h => by simp [Ctr.edges, ctr0] at h, fun i hi => by simp [Ctr.edges, ctr0] at hi⟩, rfl, fun i hi => by simp [Ctr.edges, ctr0] at hi, fun i hi => by simp [Ctr.edges, ctr0] at hi, fun e he => by omega⟩
    simp [Ctr.edges, ctr0, ga, hu]
  | succ k ih =>
    obtain ⟨h1, h2, h3, h4, h5⟩ := ih (by omega)
    obtain ⟨n1, n2⟩ := ends_in hr (i := k) (by omega)
    have hadd := CtLe.add h1 ⟨fN E k, tN E k, (ge E k).w.toNat, (k : Int), -1, -1⟩
    refine ⟨h1.add n1 n2 (hne k (by omega)), by show (Ctr.add _ _).G = _; rw [(Ctr.add_G _ _).1]; exact h2, Ctr.add_all (P := fun _ s => Way (fX N E) s.f s.t s.w) h3 ?_, made_add h4 ?_, fun e he => ?_⟩
    · have := WyC.way (.one (N := N) (E := E) (C := fun _ => False) (u := fN E k) (i := k) (by omega) rfl)
      rwa [wtF_nil hr (by omega)] at this
    · exact .inl ⟨k, by omega, gs_end _ _⟩
    · rcases Nat.lt_or_ge e k with h | h
      · obtain ⟨j, q1, q2⟩ := h5 e h
        obtain ⟨m, q3, q4⟩ := hadd.1.less _ _ _ q1
        exact ⟨m, q3, Nat.le_trans q4 q2⟩
      · have e' : e = k := by omega
        rw [e']
        exact hadd.2
theorem ctrG_ok (hr : rightF N E = 0) (hne : ∀ i, i < E.length → fN E i ≠ tN E i) : CtI N E [] (ctrG N E) := by
  obtain ⟨h1, h2, h3, h4, h5⟩ := edges_ok hr hne E.length (Nat.le_refl _)
  refine ⟨h1, fun v hv => ?_, h3, h4, fun u w hu hw _ _ hne hw => ?_⟩
  · unfold ctrG
    rw [h2]
    simp [bb, hv]
  · generalize hd : dF N E u w = d at hw
    cases hw with
    | @one i hi e =>
      subst e
      obtain ⟨j, q1, q2⟩ := h5 i hi
      exact ⟨j, q1, by rw [wtF_nil hr hi]; exact q2⟩
    | snoc _ hx _ => cases hx
structure KpF (N : Nat) (pre : List Nat) (c : Ctr) (v : Nat) (k : Kp) : Prop where
  l1 : k.1 < N
  l2 : k.2.1 < N
  ne : k.1 ≠ k.2.1
  n1 : k.1 ≠ v
  n2 : k.2.1 ≠ v
  p1 : k.1 ∉ pre
  p2 : k.2.1 ∉ pre
  is : ∃ i j, c.at_ k.1 v = some i ∧ c.at_ v k.2.1 = some j ∧ (gs c.S i).w + (gs c.S j).w = k.2.2
theorem kp_facts {pre : List Nat} {c : Ctr} {hops settles v : Nat} (h : CtI N E pre c) (hv : v < N) {k : Kp} (hk : k ∈ keptL c.O c.G hops settles v) : KpF N pre c v k := by
  unfold keptL at hk
  obtain ⟨u, a, w, b, h1, h2, h3, h4, h5, _, rfl⟩ := (kpAll_mem _).1 hk
  obtain ⟨k1, k2⟩ := lgAll_ok c.O c.G v c.O.length
  rw [h.net.olen] at h1 h3
  obtain ⟨q1, q2, q3, q4⟩ := k1.is u a h2
  obtain ⟨z1, z2, z3, z4⟩ := k2.is w b h4
  obtain ⟨i, i1, i2⟩ := (h.net.arcs u h1 v a).1 q4
  obtain ⟨j, j1, j2⟩ := (h.net.arcs v hv w b).1 z4
  refine ⟨h1, h3, h5, q1, z1, fun hm => ?_, fun hm => ?_, i, j, i1, j1, by show _ = a + b; rw [i2, j2]⟩
  · rw [(h.gone u h1).2 hm] at q2; cases q2
  · rw [(h.gone w h3).2 hm] at z2; cases z2
structure AdI (N : Nat) (E : List Edg) (pre : List Nat) (c : Ctr) (v : Nat) (l : List Kp) (d : Ctr) : Prop where
  net : CtN N d
  le : CtLe c d
  g : d.G = c.G
  dp : d.D = c.D
  tv : ∀ u, d.at_ u v = c.at_ u v
  fv : ∀ w, d.at_ v w = c.at_ v w
  sound : ∀ i, i < d.S.length → Way (fX N E) (gs d.S i).f (gs d.S i).t (gs d.S i).w
  made : ∀ i, i < d.S.length → MadeP E (pre ++ [v]) d.S i
  all : ∀ k ∈ l, ∃ j, d.at_ k.1 k.2.1 = some j ∧ (gs d.S j).w ≤ k.2.2
theorem AdI.next {pre : List Nat} {c d : Ctr} {v : Nat} {l : List Kp} (h : AdI N E pre c v l d) (hc : CtI N E pre c) (_ : v ∉ pre) {k : Kp} (hk : KpF N pre c v k) : AdI N E pre c v (l ++ [k]) (d.add (kpSc d v k)) := by
  obtain ⟨i, j, i1, j1, ij⟩ := hk.is
  have e1 : d.at_ k.1 v = some i := by rw [h.tv]; exact i1
  have e2 : d.at_ v k.2.1 = some j := by rw [h.fv]; exact j1
  obtain ⟨a1, a2, a3⟩ := hc.net.at_in _ _ _ i1
  obtain ⟨b1, b2, b3⟩ := hc.net.at_in _ _ _ j1
  have hsc : kpSc d v k = ⟨k.1, k.2.1, k.2.2, -1, (i : Nat), (j : Nat)⟩ := by unfold kpSc; rw [e1, e2]; rfl
  have li : i < d.S.length := Nat.lt_of_lt_of_le a1 h.le.len
  have lj : j < d.S.length := Nat.lt_of_lt_of_le b1 h.le.len
  have gi' : gs d.S i = gs c.S i := h.le.old i a1
  have gj : gs d.S j = gs c.S j := h.le.old j b1
  have hadd := CtLe.add h.net (kpSc d v k)
  refine ⟨h.net.add hk.l1 hk.l2 hk.ne, h.le.trans hadd.1, (Ctr.add_G _ _).1.trans h.g, (Ctr.add_G _ _).2.trans h.dp, fun u => ?_, fun w => ?_, Ctr.add_all (P := fun _ s => Way (fX N E) s.f s.t s.w) h.sound ?_, made_add h.made ?_, fun m hm => ?_⟩
  · rw [Ctr.add_at (fun e => hk.n2 e.2.symm)]; exact h.tv u
  · rw [Ctr.add_at (fun e => hk.n1 e.1.symm)]; exact h.fv w
  · rw [hsc]
    have q1 := hc.sound i a1
    have q2 := hc.sound j b1
    rw [a2, a3] at q1
    rw [b2, b3] at q2
    show Way (fX N E) k.1 k.2.1 k.2.2
    rw [← ij]
    exact q1.trans q2
  · rw [hsc]
    refine .inr ⟨by rw [gs_end], i, j, ?_⟩
    rw [gs_end, gs_app li, gs_app lj, gi', gj, a2, a3, b2, b3]
    refine ⟨rfl, rfl, li, lj, rfl, rfl, rfl, ij, pre, [], rfl, ?_, ?_⟩
    · simp [hk.p1, hk.n1]
    · simp [hk.p2, hk.n2]
  · rcases List.mem_append.1 hm with hm | hm
    · obtain ⟨j', q1, q2⟩ := h.all m hm
      obtain ⟨m', q3, q4⟩ := hadd.1.less _ _ _ q1
      exact ⟨m', q3, Nat.le_trans q4 q2⟩
    · rw [List.mem_singleton] at hm
      subst hm
      exact hadd.2
theorem adds_ok {pre : List Nat} {c : Ctr} {v : Nat} (hc : CtI N E pre c) (hvp : v ∉ pre) (l : List Kp) : ∀ {done : List Kp} {d : Ctr}, AdI N E pre c v done d → (∀ k ∈ l, KpF N pre c v k) → AdI N E pre c v (done ++ l) (Ctr.adds v l d) := by
  induction l with
  | nil => intro done d h _; rw [List.append_nil]; exact h
  | cons k l ih =>
    intro done d h hl
    have := ih (h.next hc hvp (hl k (by simp))) (fun m hm => hl m (by simp [hm]))
    rw [List.append_assoc] at this
    exact this
theorem NWay.way {c : Ctr} {G : List Bool} {pre : List Nat} (h : CtI N E pre c) {s v d : Nat} (hs : s < N) (hw : NWay c.O G s v d) : Way (fX N E) s v d ∧ v < N := by
  induction hw with
  | here => exact ⟨.here, hs⟩
  | @step v d a _ ha _ ih =>
    obtain ⟨i1, i2⟩ := ih
    obtain ⟨i, q1, q2⟩ := (h.net.arcs v i2 a.1 a.2).1 ha
    obtain ⟨z1, z2, z3⟩ := h.net.at_in _ _ _ q1
    have := h.sound i z1
    rw [z2, z3, q2] at this
    have hn := (h.net.ends i z1).2.1
    rw [z3] at hn
    exact ⟨i1.trans this, hn⟩
theorem CtI.go (hr : rightF N E = 0) {pre : List Nat} {c : Ctr} {hops settles v : Nat} (h : CtI N E pre c) (hv : v < N) (hvp : v ∉ pre) : CtI N E (pre ++ [v]) (Ctr.go hops settles c v) := by
  have ha : AdI N E pre c v (keptL c.O c.G hops settles v) (Ctr.adds v (keptL c.O c.G hops settles v) c) := by
    have := adds_ok h hvp (keptL c.O c.G hops settles v) (done := []) (d := c) ⟨h.net, CtLe.refl c, rfl, rfl, fun _ => rfl, fun _ => rfl, h.sound, fun i hi => (h.made i hi).pre v, fun k hk => by cases hk⟩ (fun k hk => kp_facts h hv hk)
    rwa [List.nil_append] at this
  have hglen : (Ctr.adds v (keptL c.O c.G hops settles v) c).G.length = N := ha.net.glen
  refine ⟨⟨ha.net.olen, by show (List.set _ _ _).length = N; rw [List.length_set]; exact hglen, by show (deepL _ _ _).length = N; unfold deepL; simp [ha.net.dlen], ha.net.arcs, ha.net.at_in, ha.net.ends⟩, fun u hu => ?_, ha.sound, ha.made, fun u w hu hw hup hwp hne hwi => ?_⟩
  · show bb (List.set _ v true) u = true ↔ _
    rw [bb_set _ _ _ _ (by rw [hglen]; exact hv), ha.g]
    by_cases e : u = v
    · simp [e]
    · rw [if_neg e, h.gone u hu]
      simp [e]
  · have hup1 : u ∉ pre := fun e => hup (by simp [e])
    have huv : u ≠ v := fun e => hup (by simp [e])
    have hwp1 : w ∉ pre := fun e => hwp (by simp [e])
    have hwv : w ≠ v := fun e => hwp (by simp [e])
    have hwi2 : WyC N E (fun x => x ∈ pre ∨ x = v) u w (dF N E u w) := hwi.mono fun x hx => by simpa using hx
    rcases hwi2.split with h1 | ⟨f1, f2, h1, h2, h3⟩
    · obtain ⟨i, q1, q2⟩ := h.full u w hu hw hup1 hwp1 hne h1
      obtain ⟨j, q3, q4⟩ := ha.le.less _ _ _ q1
      exact ⟨j, q3, Nat.le_trans q4 q2⟩
    · have d1 := dF_le hr hu hv h1.way
      have d2 := dF_le hr hv hw h2.way
      have d3 := dF_le hr hu hw (d1.2.1.trans d2.2.1)
      have e1 : f1 = dF N E u v := by omega
      have e2 : f2 = dF N E v w := by omega
      rw [e1] at h1
      rw [e2] at h2
      obtain ⟨i, i1, i2⟩ := h.full u v hu hv hup1 hvp huv h1
      obtain ⟨j, j1, j2⟩ := h.full v w hv hw hvp hwp1 (Ne.symm hwv) h2
      obtain ⟨k1, k2⟩ := lgAll_ok c.O c.G v c.O.length
      have gu : bb c.G u = false := by
        cases hb : bb c.G u with
        | true => exact absurd ((h.gone u hu).1 hb) hup1
        | false => rfl
      have gw : bb c.G w = false := by
        cases hb : bb c.G w with
        | true => exact absurd ((h.gone w hw).1 hb) hwp1
        | false => rfl
      have ol := h.net.olen
      obtain ⟨a, a1, a2⟩ := k1.all u _ huv gu ⟨by rw [ol]; exact hu, (h.net.arcs u hu v _).2 ⟨i, i1, rfl⟩⟩
      obtain ⟨b, b1, b2⟩ := k2.all w _ hwv gw ⟨by rw [ol]; exact hv, (h.net.arcs v hv w _).2 ⟨j, j1, rfl⟩⟩
      cases hf : wsFind c.O (c.G.set v true) u w (a + b) hops settles with
      | none =>
        have hk : (u, w, a + b) ∈ keptL c.O c.G hops settles v := (kpAll_mem _).2 ⟨u, a, w, b, by rw [ol]; exact hu, a1, by rw [ol]; exact hw, b1, hne, hf, rfl⟩
        obtain ⟨m, m1, m2⟩ := ha.all _ hk
        exact ⟨m, m1, Nat.le_trans m2 (show a + b ≤ dF N E u w from by omega)⟩
      | some d =>
        obtain ⟨s1, s2⟩ := wsFind_sound h.net.nin (by rw [ol]; exact hu) hf
        have := (dF_le hr hu hw (NWay.way h hu s2).1).1
        omega
def Ctr.goAll (hops settles : Nat) (vs : List Nat) (c : Ctr) : Ctr := vs.foldl (Ctr.go hops settles) c
theorem goAll_snoc (hops settles : Nat) (vs : List Nat) (v : Nat) (c : Ctr) : Ctr.goAll hops settles (vs ++ [v]) c = Ctr.go hops settles (Ctr.goAll hops settles vs c) v := by
  unfold Ctr.goAll
  rw [List.foldl_append]
  rfl
theorem goAll_from (hr : rightF N E = 0) {hops settles : Nat} (vs : List Nat) : ∀ {pre : List Nat} {c : Ctr}, CtI N E pre c → (pre ++ vs).Nodup → (∀ v ∈ vs, v < N) → CtI N E (pre ++ vs) (Ctr.goAll hops settles vs c) := by
  induction vs with
  | nil => intro pre c h _ _; rw [List.append_nil]; exact h
  | cons v vs ih =>
    intro pre c h hd hv
    have e : pre ++ v :: vs = (pre ++ [v]) ++ vs := by simp
    rw [e] at hd ⊢
    refine ih (h.go hr (hv v (by simp)) fun hm => ?_) hd fun u hu => hv u (by simp [hu])
    obtain ⟨h1, _, _⟩ := List.nodup_append.1 hd
    obtain ⟨_, _, h3⟩ := List.nodup_append.1 h1
    exact h3 v hm v (by simp) rfl
theorem goAll_ok (hr : rightF N E = 0) (hne : ∀ i, i < E.length → fN E i ≠ tN E i) {hops settles : Nat} (vs : List Nat) (hd : vs.Nodup) (hv : ∀ v ∈ vs, v < N) : CtI N E vs (Ctr.goAll hops settles vs (ctrG N E)) := by
  have := goAll_from hr (hops := hops) (settles := settles) vs (ctrG_ok hr hne) (by simpa using hd) hv
  simpa using this
end
end Go.Proofs.Yteodapefimlakaa
