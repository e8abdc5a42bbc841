/- Plain law: the way that is followed is a simple way to its end. -/
import Derived.Test.YtiljgkaffgclgaaGreatQLocalTests15
import Derived.Test.YtiljgkaffgclgaaGreatQLocalTests00
import Derived.Test.YtiljgkaffgclgaaGreatRows
import Derived.Test.YtiljgkaffgclgaaGreatQLocalTests02
/- Plain law: the way that is followed is a simple way to its end. -/
namespace Go.Proofs.YtiljgkaffgclgaaGreat
open Go Go.RowKit
/-- A row of edges, as numbers. -/
def ciL (l : List Nat) : List Int := l.map fun (i : Nat) => (i : Int)
theorem ciL_len (l : List Nat) : (ciL l).length = l.length := by simp [ciL]
theorem ciL_gi {l : List Nat} {k : Nat} (h : k < l.length) : gi (ciL l) k = (l[k] : Int) := by simp [ciL, gi, h]
/-- The nodes that a way comes to. -/
def ndsN (E : List Edg) (v : Nat) (l : List Nat) : List Nat := v :: l.map (tN E)
theorem Fol.link {x : Srch} {d : List Nat} {t v : Nat} {l : List Nat} (h : Fol x d t v l) : ∀ k (hk : k < l.length), fN x.E l[k] = (ndsN x.E v l)[k]'(by simp [ndsN]; omega) := by
  induction h with
  | here => intro k hk; simp at hk
  | @step v i l hne hi hfi hb hl hfol ih =>
    intro k hk
    match k, hk with
    | 0, _ => simpa [ndsN] using hfi
    | k + 1, hk =>
      have := ih k (by simpa using hk)
      simpa [ndsN] using this
theorem Fol.last {x : Srch} {d : List Nat} {t v : Nat} {l : List Nat} (h : Fol x d t v l) : (ndsN x.E v l)[l.length]'(by simp [ndsN]) = t := by
  induction h with
  | here => rfl
  | @step v i l hne hi hfi hb hl hfol ih => simpa [ndsN] using ih
theorem ndI_is {N : Nat} {E : List Edg} (hE : InN N E) {v : Nat} {l : List Nat} (hl : ∀ i ∈ l, i < E.length) : ∀ k (hk : k ≤ l.length), ndI E (v : Int) (ciL l) k = ((ndsN E v l)[k]'(by simp [ndsN]; omega) : Int)
  | 0, _ => rfl
  | k + 1, hk => by
    have hk' : k < l.length := by omega
    show (ge E (gi (ciL l) k).toNat).t = _
    rw [ciL_gi hk', Int.toNat_natCast, (hE.t _ (hl _ (List.getElem_mem hk'))).2]
    simp [ndsN]
theorem lkB_is {N : Nat} {x : Srch} {d : List Nat} {t v : Nat} {l : List Nat} (hE : InN N x.E) (h : Fol x d t v l) : ∀ k, k ≤ l.length → lkB x.E (v : Int) (ciL l) k = true
  | 0, _ => rfl
  | k + 1, hk => by
    have hk' : k < l.length := by omega
    show (lkB x.E (v : Int) (ciL l) k && decide ((ge x.E (gi (ciL l) k).toNat).f = ndI x.E v (ciL l) k)) = true
    rw [lkB_is hE h k (by omega), ndI_is hE h.edges k (by omega), ciL_gi hk', Int.toNat_natCast, (hE.f _ (h.edges _ (List.getElem_mem hk'))).2, h.link k hk']
    simp
theorem Fol.isB {N : Nat} {x : Srch} {d : List Nat} {t v : Nat} {l : List Nat} (hE : InN N x.E) (h : Fol x d t v l) (hr : rightF N x.E = 0) (hv : v < N) : isB N x.E (v : Int) (ciL l) = true := by
  unfold Go.Proofs.YtiljgkaffgclgaaGreat.isB edgesB
  rw [ciL_len, lkB_is hE h _ (Nat.le_refl _), decide_eq_true hr, show nodeB (N : Int) (v : Int) = true from decide_eq_true ⟨by omega, by omega⟩]
  have : (ciL l).any (fun e => !edgeB x.E.length e) = false := by
    rw [List.any_eq_false]
    intro e he
    obtain ⟨i, hi, rfl⟩ := List.mem_map.1 he
    have := h.edges i hi
    unfold edgeB
    simp
    omega
  rw [this]
  rfl
theorem Fol.nodesL {N : Nat} {x : Srch} {d : List Nat} {t v : Nat} {l : List Nat} (hE : InN N x.E) (h : Fol x d t v l) (hr : rightF N x.E = 0) (hv : v < N) : nodesL N x.E (v : Int) (ciL l) = ciL (ndsN x.E v l) := by
  unfold Go.Proofs.YtiljgkaffgclgaaGreat.nodesL
  rw [if_pos (h.isB hE hr hv), ciL_len]
  refine List.ext_getElem (by simp [ndL_len, ciL, ndsN]) fun k h1 h2 => ?_
  have hk : k ≤ l.length := by rw [ndL_len] at h1; omega
  have e := ndI_is hE (v := v) h.edges k hk
  simp only [ndL, List.getElem_map, List.getElem_range, ciL]
  exact e
theorem oneB_is {L : List Nat} (h : L.Nodup) : oneB (ciL L) (ciL L).length = true := by
  refine decide_eq_true fun j hj hm => ?_
  rw [ciL_len] at hj
  rw [ciL_gi hj] at hm
  have e : (ciL L).take j = ciL (L.take j) := by simp [ciL, List.map_take]
  rw [e] at hm
  obtain ⟨i, hi, he⟩ := List.mem_map.1 hm
  have he : i = L[j] := by omega
  subst he
  obtain ⟨k, hk, hke⟩ := List.getElem_of_mem hi
  simp at hk
  rw [List.getElem_take] at hke
  exact List.pairwise_iff_getElem.1 h k j (by omega) hj (by omega) hke
theorem Fol.simple {N : Nat} {x : Srch} {d : List Nat} {t v : Nat} {l : List Nat} (hn : Near x d t) (hE : InN N x.E) (h : Fol x d t v l) (hr : rightF N x.E = 0) (hv : v < N) (hv2 : v < x.N) : simB N x.E (v : Int) (ciL l) = true := by
  unfold simB
  rw [h.isB hE hr hv, h.nodesL hE hr hv, Bool.true_and]
  exact oneB_is (h.nodup hn hv2)
end Go.Proofs.YtiljgkaffgclgaaGreat

/- Plain law: how far the end is from any node, by the search from there and by the one turned round. -/
namespace Go.Proofs.YtiljgkaffgclgaaGreat
open Go Go.RowKit
/-- What counts: all, with these weights. -/
def freeO (W : List Nat) : DOpt := ⟨false, [], [], W, 0⟩
theorem one_turned {NN sN tN u : Nat} {E : List Edg} {W : List Nat} {ys : List (Nat × Nat)} (hx : PathOk NN sN tN E (freeO W) ys) (hu : u < NN) :
    ∃ xs, WalkOk NN u E (freeO W) ∧ dcF NN u E W = 0 ∧ (if (u : Int) ∈ (freeO W).nn then xs = [] else Trace (srchOf NN E (freeO W)) (reachS (freeO W).most (st0 NN) u 0) xs) ∧ (xs.map Prod.fst).Nodup ∧
      (∀ f, (tN, f) ∈ xs → f = gn (outL NN ys) u ∧ f < farV) ∧ (tN ∉ xs.map Prod.fst → gn (outL NN ys) u = farV) := by
  have hb := hx.bound.1
  have ht := hx.ok.node
  have hdu : dcF NN u E W = 0 := dc_node hx.dcs ⟨by omega, by omega⟩
  have hok : WalkOk NN u E (freeO W) := ⟨hx.ok.right, hu, hx.ok.wts, by show (0 : Nat) < _; omega, by show 0 ≤ _; omega, by show 0 ≤ _; omega⟩
  obtain ⟨xs, h1, h2, h3⟩ := walk_is hok hx.wb (Nat.le_refl _) (by simp [freeO])
  have hf := hx.far (by simp [freeO])
  have hc : ∀ i, cntE (srchOf NN E (freeO W)) i = true := fun i => by simp [cntE, srchOf, freeO]
  have hc2 : ∀ i, cntE (turnX (srchOf NN E (freeO W))) i = true := fun i => by simp [cntE, srchOf, freeO, turnX]
  have e := h2.turned (t := tN) (ys := ys) hf hb rfl (fun i _ => hc2 i) (fun i _ => hc i) hu ht
  have e : gn (outL NN ys) u = gn (outL NN xs) tN := e
  refine ⟨xs, hok, hdu, h1, h2.nodup, fun f hfx => ?_, fun hn => ?_⟩
  · have e2 := outL_at (N := NN) h2.nodup ht hfx
    have h5 : f ≤ NN * 17592186044416 := (h2.way _ _ hfx).2.2.2
    exact ⟨by rw [e, e2], by omega⟩
  · rw [e]
    exact outL_no ht hn
end Go.Proofs.YtiljgkaffgclgaaGreat

/- How far all nodes are from each, and it from all: the search and the one turned round, of any graph that may be. -/
namespace Go.Proofs.YtiljgkaffgclgaaGreat
open Go Go.RowKit
/-- All that is known of a search to which all counts, from s; round: turned round. -/
def allO (back : Bool) : DOpt := ⟨back, [], [], [], 0⟩
structure SeaOk (NN s : Nat) (E : List Edg) (back : Bool) (xs : List (Nat × Nat)) : Prop where
  ok : WalkOk NN s E (allO back)
  dc : dcF NN s E [] = 0
  tr : if (s : Int) ∈ (allO back).nn then xs = [] else Trace (srchOf NN E (allO back)) (reachS 0 (st0 NN) s 0) xs
  lt : ∀ p, p ∈ xs → p.1 < NN
  ref : refL (srchOf NN E (allO back)) s = outL NN xs
  far : Far (srchOf NN E (allO back)) s 17592186044416 xs
  wb : ∀ i, i < E.length → gn (wtF NN E []) i ≤ 17592186044416
theorem sea_any {NN s : Nat} {E : List Edg} (hr : rightF NN E = 0) (hs : s < NN) (back : Bool) : ∃ xs, SeaOk NN s E back xs := by
  obtain ⟨r1, r2, r3, r4, r5⟩ := right_in hr
  rw [Int.toNat_natCast] at r4
  have hd : dcF NN s E [] = 0 := by
    unfold dcF
    rw [if_neg (by omega), if_neg (by unfold nodeB; simp; omega), if_neg (by simp)]
    rfl
  obtain ⟨_, _, _, _, hwb⟩ := dc_ok hd
  have hok : WalkOk NN s E (allO back) := ⟨hr, hs, .inl rfl, by show (0 : Nat) < _; omega, by show 0 ≤ _; omega, by show 0 ≤ _; omega⟩
  have hb : NN * 17592186044416 < farV := by
    have : NN * 17592186044416 ≤ 4096 * 17592186044416 := Nat.mul_le_mul_right _ (by omega)
    unfold farV; omega
  obtain ⟨xs, h1, h2, h3⟩ := walk_is hok hwb (Nat.le_refl _) (by simp [allO])
  have hsr := hok.srch
  have hin : SrchIn (srchOf NN E (allO back)) 17592186044416 := ⟨fun i hi => by
    have h1 := hsr.ends.f i hi
    have h2 := hsr.ends.t i hi
    unfold toE
    split
    · exact h1.1
    · exact h2.1, fun i hi => (hwb i hi).1, fun i hi => (hwb i hi).2⟩
  obtain ⟨ys, h4, h5⟩ := trace_whole (x := freeX (srchOf NN E (allO back))) (s := s) (mw := 17592186044416) ⟨hin.ends, hin.low, hin.high⟩ hsr.nodes hok.node (by omega)
  refine ⟨xs, hok, hd, h1, h3, refL_is h2 h5 hin hb hok.node (by simp [srchOf, allO]) (fun i hi => ?_), h2, fun i hi => (hwb i hi).2⟩
  have h1 := hsr.ends.f i hi
  have h2 := hsr.ends.t i hi
  unfold nN
  split
  · exact h2.1
  · exact h1.1
/-- Of each node how far all are from it, and it from all. -/
structure Mks (NN : Nat) (E : List Edg) (F T : Nat → List Nat) : Prop where
  f : ∀ u, u < NN → ∃ xs, SeaOk NN u E false xs ∧ F u = outL NN xs
  t : ∀ u, u < NN → ∃ xs, SeaOk NN u E true xs ∧ T u = outL NN xs
  turn : ∀ u v, u < NN → v < NN → gn (T v) u = gn (F u) v
  le : ∀ u v, u < NN → v < NN → gn (F u) v ≤ farV
  flen : ∀ u, u < NN → (F u).length = NN
  tlen : ∀ u, u < NN → (T u).length = NN
theorem mks_any {NN : Nat} {E : List Edg} (hr : rightF NN E = 0) : ∃ F T, Mks NN E F T := by
  have hb : NN * 17592186044416 < farV := by
    obtain ⟨_, r2, _⟩ := right_in hr
    have : NN * 17592186044416 ≤ 4096 * 17592186044416 := Nat.mul_le_mul_right _ (by omega)
    unfold farV; omega
  have hF : ∀ u, ∃ xs, u < NN → SeaOk NN u E false xs := fun u => by
    by_cases h : u < NN
    · obtain ⟨xs, hx⟩ := sea_any hr h false
      exact ⟨xs, fun _ => hx⟩
    · exact ⟨[], fun h2 => absurd h2 h⟩
  have hT : ∀ u, ∃ xs, u < NN → SeaOk NN u E true xs := fun u => by
    by_cases h : u < NN
    · obtain ⟨xs, hx⟩ := sea_any hr h true
      exact ⟨xs, fun _ => hx⟩
    · exact ⟨[], fun h2 => absurd h2 h⟩
  refine ⟨fun u => outL NN (Classical.choose (hF u)), fun u => outL NN (Classical.choose (hT u)), ⟨fun u hu => ⟨_, Classical.choose_spec (hF u) hu, rfl⟩, fun u hu => ⟨_, Classical.choose_spec (hT u) hu, rfl⟩, fun u v hu hv => ?_, fun u v hu hv => ?_, fun u _ => outL_len _ _, fun u _ => outL_len _ _⟩⟩
  · have h1 := (Classical.choose_spec (hF u) hu).far
    have h2 := (Classical.choose_spec (hT v) hv).far
    have hc : ∀ i, cntE (srchOf NN E (allO false)) i = true := fun i => by simp [cntE, srchOf, allO]
    have hc2 : ∀ i, cntE (turnX (srchOf NN E (allO false))) i = true := fun i => by simp [cntE, srchOf, allO, turnX]
    exact h1.turned (t := v) (ys := Classical.choose (hT v)) h2 hb rfl (fun i _ => hc2 i) (fun i _ => hc i) hu hv
  · rcases outL_cases (x := srchOf NN E (allO false)) (Classical.choose_spec (hF u) hu).far hb hv with ⟨_, h⟩ | ⟨h, _⟩
    · exact Nat.le_of_lt h
    · exact Nat.le_of_eq h
/-- What one landmark tells: from below. -/
def lessN (a b : Nat) : Nat := if farV ≤ b ∨ a ≤ b then 0 else if farV ≤ a then 1152921504606846976 else a - b
def bndT (F T : Nat → List Nat) (l : List Nat) (v t : Nat) : Nat → Nat
  | 0 => 0
  | k + 1 => max (max (bndT F T l v t k) (lessN (gn (F (gn l k)) t) (gn (F (gn l k)) v))) (lessN (gn (T (gn l k)) v) (gn (T (gn l k)) t))
def abvT (F T : Nat → List Nat) (l : List Nat) (s t : Nat) : Nat → Nat
  | 0 => farV
  | k + 1 => min (abvT F T l s t k) (gn (T (gn l k)) s + gn (F (gn l k)) t)
end Go.Proofs.YtiljgkaffgclgaaGreat

/- Plain law: what landmarks tell is consistent, and admissible, and how far it is lies between both that are told. -/
namespace Go.Proofs.YtiljgkaffgclgaaGreat
open Go Go.RowKit
theorem Way.join {x : Srch} {s v t f g : Nat} (h : Way x s v f) (k : Way x v t g) : Way x s t (f + g) := by
  induction k with
  | here => exact h
  | @step g i k hi hc ih =>
    have := Way.step ih hi hc
    rwa [Nat.add_assoc] at this
section
variable {NN : Nat} {E : List Edg} {F T : Nat → List Nat}
theorem net_bound (hr : rightF NN E = 0) : NN * 17592186044416 ≤ 72057594037927936 := by
  obtain ⟨_, r2, _⟩ := right_in hr
  have : NN * 17592186044416 ≤ 4096 * 17592186044416 := Nat.mul_le_mul_right _ (by omega)
  omega
theorem Mks.fin (h : Mks NN E F T) (hr : rightF NN E = 0) {u v : Nat} (hu : u < NN) (hv : v < NN) (hf : gn (F u) v < farV) : gn (F u) v ≤ 72057594037927936 := by
  obtain ⟨xs, hx, e⟩ := h.f u hu
  have hb := net_bound hr
  rw [e] at hf ⊢
  rcases outL_cases (x := srchOf NN E (allO false)) hx.far (by show NN * _ < _; unfold farV; omega) hv with ⟨h1, _⟩ | ⟨h1, _⟩
  · have h2 : gn (outL NN xs) v ≤ NN * 17592186044416 := (hx.far.way _ _ h1).2.2.2
    omega
  · have h2 : gn (outL NN xs) v = farV := h1
    omega
theorem Mks.tri (h : Mks NN E F T) (hr : rightF NN E = 0) {u v t : Nat} (hu : u < NN) (hv : v < NN) (ht : t < NN) (h1 : gn (F u) v < farV) (h2 : gn (F v) t < farV) : gn (F u) t ≤ gn (F u) v + gn (F v) t ∧ gn (F u) t < farV := by
  obtain ⟨xs, hx, e⟩ := h.f u hu
  obtain ⟨ys, hy, e2⟩ := h.f v hv
  have hb := net_bound hr
  have hbf : (srchOf NN E (allO false)).N * 17592186044416 < farV := by show NN * _ < _; unfold farV; omega
  rw [e] at h1 ⊢
  rw [e2] at h2 ⊢
  rcases outL_cases (x := srchOf NN E (allO false)) hx.far hbf hv with ⟨k1, _⟩ | ⟨k1, _⟩
  · rcases outL_cases (x := srchOf NN E (allO false)) hy.far hbf ht with ⟨k2, _⟩ | ⟨k2, _⟩
    · obtain ⟨g, hg, hle⟩ := hx.far.all _ _ ((hx.far.way _ _ k1).2.1.join (hy.far.way _ _ k2).2.1) (fun h0 => absurd h0 (by show ¬ (0 : Nat) < 0; omega))
      have e3 : gn (outL NN xs) t = g := outL_at hx.far.nodup ht hg
      have e4 : g ≤ NN * 17592186044416 := (hx.far.way _ _ hg).2.2.2
      rw [e3]
      exact ⟨hle, by unfold farV; omega⟩
    · have k3 : gn (outL NN ys) t = farV := k2
      omega
  · have k3 : gn (outL NN xs) v = farV := k1
    omega
theorem Mks.self (h : Mks NN E F T) {u : Nat} (hu : u < NN) : gn (F u) u = 0 := by
  obtain ⟨xs, hx, e⟩ := h.f u hu
  rw [e]
  exact hx.far.begin_ hu
/-- One edge: how far its ends lie apart. -/
theorem Mks.hop (h : Mks NN E F T) (hr : rightF NN E = 0) {i : Nat} (hi : i < E.length) : fN E i < NN ∧ tN E i < NN ∧ gn (F (fN E i)) (tN E i) ≤ gn (wtF NN E []) i ∧ gn (F (fN E i)) (tN E i) < farV := by
  obtain ⟨r1, _, _⟩ := right_in hr
  have hb := net_bound hr
  have hbf : (srchOf NN E (allO false)).N * 17592186044416 < farV := by show NN * _ < _; unfold farV; omega
  have hends : fN E i < NN ∧ tN E i < NN := by
    obtain ⟨xs, hx, _⟩ := h.f 0 (by omega)
    exact ⟨(hx.ok.srch.ends.f i hi).1, (hx.ok.srch.ends.t i hi).1⟩
  obtain ⟨xs, hx, e⟩ := h.f (fN E i) hends.1
  have h1 := hx.far.edge (i := i) hbf rfl hends.1 hends.2 hi (by simp [cntE, srchOf, allO]) (by
    have : gn (outL NN xs) (fN E i) = 0 := hx.far.begin_ hends.1
    show gn (outL NN xs) (fN E i) < farV
    rw [this]; unfold farV; omega)
  have h0 : gn (outL NN xs) (fN E i) = 0 := hx.far.begin_ hends.1
  have h2 : gn (outL NN xs) (tN E i) ≤ gn (outL NN xs) (fN E i) + gn (wtF NN E []) i := h1
  have h3 : gn (wtF NN E []) i ≤ 17592186044416 := hx.wb i hi
  rw [e]
  refine ⟨hends.1, hends.2, by omega, by unfold farV; omega⟩
theorem lessN_a {a b b' w : Nat} (h : b < farV → b' ≤ b + w ∧ b' < farV) : lessN a b ≤ lessN a b' + w := by
  unfold lessN farV at *
  split
  · omega
  · split <;> split <;> (try split) <;> omega
theorem lessN_b {c c' d w : Nat} (h : c' < farV → c ≤ c' + w ∧ c < farV) (h2 : c < farV → c ≤ 72057594037927936) : lessN c d ≤ lessN c' d + w := by
  unfold lessN farV at *
  split
  · omega
  · split <;> split <;> (try split) <;> omega
theorem lessN_c {a b w : Nat} (h : b < farV → a ≤ b + w ∧ a < farV) : lessN a b ≤ w := by
  unfold lessN farV at *
  split
  · omega
  · split <;> omega
variable {l : List Nat}
/-- What landmarks tell is consistent. -/
theorem bnd_step (h : Mks NN E F T) (hr : rightF NN E = 0) {i t : Nat} (hi : i < E.length) (ht : t < NN) : ∀ k, k ≤ l.length → (∀ j, j < l.length → gn l j < NN) → bndT F T l (fN E i) t k ≤ bndT F T l (tN E i) t k + gn (wtF NN E []) i
  | 0, _, _ => Nat.zero_le _
  | k + 1, hk, hn => by
    have ih := bnd_step h hr hi ht k (by omega) hn
    obtain ⟨hf, hto, hw, hw2⟩ := h.hop hr hi
    have hx := hn k (by omega)
    have h1 := lessN_a (a := gn (F (gn l k)) t) (b := gn (F (gn l k)) (fN E i)) (b' := gn (F (gn l k)) (tN E i)) (w := gn (wtF NN E []) i) (fun hb => by
      have := h.tri hr hx hf hto hb hw2
      omega)
    have h2 := lessN_b (c := gn (T (gn l k)) (fN E i)) (c' := gn (T (gn l k)) (tN E i)) (d := gn (T (gn l k)) t) (w := gn (wtF NN E []) i) (fun hb => by
      rw [h.turn _ _ hto hx] at hb
      rw [h.turn _ _ hf hx, h.turn _ _ hto hx]
      have := h.tri hr hf hto hx hw2 hb
      omega) (fun hb => by
      rw [h.turn _ _ hf hx] at hb ⊢
      exact h.fin hr hf hx hb)
    show max (max _ _) _ ≤ max (max _ _) _ + _
    omega
/-- What landmarks tell is admissible. -/
theorem bnd_le (h : Mks NN E F T) (hr : rightF NN E = 0) {v t : Nat} (hv : v < NN) (ht : t < NN) (hd : gn (F v) t < farV) : ∀ k, k ≤ l.length → (∀ j, j < l.length → gn l j < NN) → bndT F T l v t k ≤ gn (F v) t
  | 0, _, _ => Nat.zero_le _
  | k + 1, hk, hn => by
    have ih := bnd_le h hr hv ht hd k (by omega) hn
    have hx := hn k (by omega)
    have h1 := lessN_c (a := gn (F (gn l k)) t) (b := gn (F (gn l k)) v) (w := gn (F v) t) (fun hb => h.tri hr hx hv ht hb hd)
    have h2 := lessN_c (a := gn (T (gn l k)) v) (b := gn (T (gn l k)) t) (w := gn (F v) t) (fun hb => by
      rw [h.turn _ _ ht hx] at hb
      rw [h.turn _ _ hv hx, h.turn _ _ ht hx]
      have := h.tri hr hv ht hx hd hb
      omega)
    show max (max _ _) _ ≤ _
    omega
theorem abv_ge (h : Mks NN E F T) (hr : rightF NN E = 0) {v t : Nat} (hv : v < NN) (ht : t < NN) : ∀ k, k ≤ l.length → (∀ j, j < l.length → gn l j < NN) → gn (F v) t ≤ abvT F T l v t k
  | 0, _, _ => h.le v t hv ht
  | k + 1, hk, hn => by
    have ih := abv_ge h hr hv ht k (by omega) hn
    have hx := hn k (by omega)
    have hle := h.le v t hv ht
    have h1 : gn (F v) t ≤ gn (T (gn l k)) v + gn (F (gn l k)) t := by
      rw [h.turn _ _ hv hx]
      by_cases hb : gn (F v) (gn l k) < farV
      · by_cases hc : gn (F (gn l k)) t < farV
        · exact (h.tri hr hv hx ht hb hc).1
        · omega
      · omega
    show _ ≤ min _ _
    omega
/-- What landmarks tell is no more than 2^60. -/
theorem bnd_top (h : Mks NN E F T) (hr : rightF NN E = 0) {v t : Nat} (hv : v < NN) (ht : t < NN) : ∀ k, k ≤ l.length → (∀ j, j < l.length → gn l j < NN) → bndT F T l v t k ≤ 1152921504606846976
  | 0, _, _ => Nat.zero_le _
  | k + 1, hk, hn => by
    have ih := bnd_top h hr hv ht k (by omega) hn
    have hx := hn k (by omega)
    have top : ∀ a b, (a < farV → a ≤ 72057594037927936) → lessN a b ≤ 1152921504606846976 := fun a b hab => by
      unfold lessN farV at *
      split
      · omega
      · split <;> omega
    have h1 := top (gn (F (gn l k)) t) (gn (F (gn l k)) v) (h.fin hr hx ht)
    have h2 := top (gn (T (gn l k)) v) (gn (T (gn l k)) t) (by rw [h.turn _ _ hv hx]; exact h.fin hr hv hx)
    show max (max _ _) _ ≤ _
    omega
end
end Go.Proofs.YtiljgkaffgclgaaGreat

/- Contracts: ratio and its answer. -/
namespace Go.Proofs.YtiljgkaffgclgaaGreat
open Go Go.RowKit
set_option maxHeartbeats 400000 in
theorem ratioRight1 (n l : Int) (w : World) :
    Calls Tryz.prog 58 #[.int .u64 n, .int .u64 l] w fun e w' => e = .returned (.bool (decide (l ≤ n ∧ n ≤ 1048576))) ∧ w = w' := by
  go_enter Tryz.func58, Tryz.ntmps58
  go_wp2
  all_goals go_ret
  all_goals exact ⟨ret_bool (by simp; try omega), rfl⟩

def rrB (a b : Int) : Bool := decide (0 ≤ a ∧ a ≤ 1048576 ∧ 1 ≤ b ∧ b ≤ 1048576)
theorem rrB_u64 {a b : Int} (h : rrB a b = true) : U64 a ∧ U64 b := by
  unfold rrB at h
  unfold U64
  simp at h
  omega

set_option maxHeartbeats 400000 in
theorem ratioRight (a b : Int) (w : World) :
    Calls Tryz.prog 34 #[.agg #[.int .u64 a, .int .u64 b]] w fun e w' => e = .returned (.bool (rrB a b)) ∧ Grows w w' := by
  go_enter Tryz.func34, Tryz.ntmps34
  go_wp2_with (first | (go_at_call 58; refine (ratioRight1 _ _ _).mono ?_; rintro e w' ⟨rfl, rfl⟩))
  all_goals go_ret
  all_goals exact ⟨ret_bool (bool_ext (by unfold rrB; simp; try omega)), (by repeat (first | exact Grows.refl _ | refine Grows.now ?_ _ | refine Grows.new ?_ _ | refine Grows.drewN ?_ _ | refine Grows.drew ?_ | assumption | (refine Grows.set ?_ (by first | omega | (simp; done) | (simp; omega)) _)))⟩

def moB (a b c d : Int) : Bool := decide (a < c ∨ (a = c ∧ b ≤ d))
set_option maxHeartbeats 400000 in
theorem ratioMost (a b c d : Int) (w : World) :
    Calls Tryz.prog 78 #[.agg #[.int .u64 a, .int .u64 b], .agg #[.int .u64 c, .int .u64 d]] w fun e w' => e = .returned (.bool (moB a b c d)) ∧ Grows w w' := by
  go_enter Tryz.func78, Tryz.ntmps78
  go_wp2
  all_goals go_ret
  all_goals exact ⟨ret_bool (bool_ext (by unfold moB; simp; try omega)), (by repeat (first | exact Grows.refl _ | refine Grows.now ?_ _ | refine Grows.new ?_ _ | refine Grows.drewN ?_ _ | refine Grows.drew ?_ | assumption | (refine Grows.set ?_ (by first | omega | (simp; done) | (simp; omega)) _)))⟩

def hiP (a b : Int) : Int := a * b / 18446744073709551616
def loP (a b : Int) : Int := a * b % 18446744073709551616

set_option maxHeartbeats 400000 in
theorem ratioTimes (a b : Int) (w : World) (ha : U64 a) (hb : U64 b) :
    Calls Tryz.prog 71 #[.int .u64 a, .int .u64 b] w fun e w' => e = .returned (.agg #[.int .u64 (hiP a b), .int .u64 (loP a b)]) ∧ Grows w w' := by
  obtain ⟨a, rfl, ha'⟩ := ha.nat
  obtain ⟨b, rfl, hb'⟩ := hb.nat
  have H := hide ha'
  have K := hide hb'
  clear ha hb ha' hb'
  go_enter Tryz.func71, Tryz.ntmps71
  go_wp2_with (go_at_call 103; refine (Tryz.bits_Mul64 _ _ H.out K.out _).mono ?_; rintro e w' ⟨rfl, rfl⟩)
  exact bodyPost_ret (v := .agg #[.int .u64 (hiP a b), .int .u64 (loP a b)]) (by simp [results, Tryz.results71, go_sem, hiP, loP]) rfl ⟨rfl, (by repeat (first | exact Grows.refl _ | refine Grows.now ?_ _ | refine Grows.new ?_ _ | refine Grows.drewN ?_ _ | refine Grows.drew ?_ | assumption | (refine Grows.set ?_ (by first | omega | (simp; done) | (simp; omega)) _)))⟩

/-- Is n at most the ratio a by b of base? -/
def wiB (n a b base : Int) : Bool := rrB a b && decide (n * b ≤ base * a)

theorem wi_of (w a b base : Int) : moB (hiP w b) (loP w b) (hiP base a) (loP base a) = decide (w * b ≤ base * a) := by
  unfold moB hiP loP
  rw [Bool.eq_iff_iff]
  simp only [decide_eq_true_eq]
  generalize w * b = x
  generalize base * a = y
  omega

set_option maxHeartbeats 400000 in
theorem ratioWithin (n a b base : Int) (w : World) (hn : U64 n) (hb : U64 base) :
    Calls Tryz.prog 48 #[.int .u64 n, .agg #[.int .u64 a, .int .u64 b], .int .u64 base] w fun e w' => e = .returned (.bool (wiB n a b base)) ∧ Grows w w' := by
  have H := hide hn
  have K1 := hide hb
  clear hn hb
  have c1 := fun w => ratioRight a b w
  cases hr : rrB a b with
  | true =>
    rw [hr] at c1
    have HR := hide (rrB_u64 hr)
    have HW : Hid (wiB n a b base = decide (n * b ≤ base * a)) := by unfold wiB; rw [hr]; exact Bool.true_and _
    have HC := hide c1
    clear hr c1
    go_enter Tryz.func48, Tryz.ntmps48
    go_wp2_with fail
    ((first | refine wp_region_gen2 (by kernel_rfl) (by kernel_rfl) ?_ | refine wp_region_gen (by kernel_rfl) (by kernel_rfl) ?_); (repeat' (first | (refine gLex_val0 rfl (by kernel_rfl) (fun K hK => ?_); (go_simp; (try (simp only [↓IntWalk.iteOmega]; try go_simp)); (try simp (disch := omega) only [IntWalk.i64_in]); (try simp (disch := omega) only [IntWalk.u64_in]); first | (refine hK _ ?_; clear hK K) | (apply Exists.intro; refine ⟨fun x => ?_, hK _ ?_⟩; (first | (go_at_call 34; exact HC.out _) | (go_at_call 71; exact ratioTimes _ _ _ (by first | exact H.out | exact K1.out) (by first | exact HR.out.1 | exact HR.out.2)) | (go_at_call 78; exact ratioMost _ _ _ _ _)); clear hK K))) | (refine gLex_undef rfl rfl rfl (by kernel_rfl) (fun K hK => ?_); go_simp; refine hK _ ?_; clear hK K) | (refine gLex_ask rfl rfl rfl ?_; first | (apply gAsk_yes; kernel_rfl; intro K hK; (go_simp; (try (simp only [↓IntWalk.iteOmega]; try go_simp)); (try simp (disch := omega) only [IntWalk.i64_in]); (try simp (disch := omega) only [IntWalk.u64_in]); first | (refine hK _ ?_; clear hK K) | (apply Exists.intro; refine ⟨fun x => ?_, hK _ ?_⟩; (first | (go_at_call 34; exact HC.out _) | (go_at_call 71; exact ratioTimes _ _ _ (by first | exact H.out | exact K1.out) (by first | exact HR.out.1 | exact HR.out.2)) | (go_at_call 78; exact ratioMost _ _ _ _ _)); clear hK K))) | ((first | apply gAsk_no1 | apply gAsk_no2); kernel_rfl; intro K hK; simp [go_sem]; refine hK _ ?_; clear hK K) | (apply gAsk_part; kernel_rfl; all_goals (intro h K hK; (try simp only [Bool.not_true] at h); (try simp only [Bool.not_false] at h); (try simp only [decide_eq_true_eq] at h); (try simp only [decide_eq_false_iff_not] at h); first | (exfalso; first | contradiction | omega) | (go_simp; (try (simp only [↓IntWalk.iteOmega]; try go_simp)); (try simp (disch := omega) only [IntWalk.i64_in]); (try simp (disch := omega) only [IntWalk.u64_in]); first | (refine hK _ ?_; clear hK K) | (apply Exists.intro; refine ⟨fun x => ?_, hK _ ?_⟩; (first | (go_at_call 34; exact HC.out _) | (go_at_call 71; exact ratioTimes _ _ _ (by first | exact H.out | exact K1.out) (by first | exact HR.out.1 | exact HR.out.2)) | (go_at_call 78; exact ratioMost _ _ _ _ _)); clear hK K))))))); all_goals ((apply gLex_end); intro x))
    go_wp2
    go_ret
    exact ⟨ret_bool (by rw [wi_of, HW.out]), (by repeat (first | exact Grows.refl _ | refine Grows.now ?_ _ | refine Grows.new ?_ _ | refine Grows.drewN ?_ _ | refine Grows.drew ?_ | assumption | (refine Grows.set ?_ (by first | omega | (simp; done) | (simp; omega)) _)))⟩
  | false =>
    rw [hr] at c1
    have HW : Hid (wiB n a b base = false) := by unfold wiB; rw [hr]; rfl
    have HC := hide c1
    clear hr c1
    go_enter Tryz.func48, Tryz.ntmps48
    go_wp2_with fail
    ((first | refine wp_region_gen2 (by kernel_rfl) (by kernel_rfl) ?_ | refine wp_region_gen (by kernel_rfl) (by kernel_rfl) ?_); (repeat' (first | (refine gLex_val0 rfl (by kernel_rfl) (fun K hK => ?_); (go_simp; (try (simp only [↓IntWalk.iteOmega]; try go_simp)); (try simp (disch := omega) only [IntWalk.i64_in]); (try simp (disch := omega) only [IntWalk.u64_in]); first | (refine hK _ ?_; clear hK K) | (apply Exists.intro; refine ⟨fun x => ?_, hK _ ?_⟩; (first | (go_at_call 34; exact HC.out _)); clear hK K))) | (refine gLex_undef rfl rfl rfl (by kernel_rfl) (fun K hK => ?_); go_simp; refine hK _ ?_; clear hK K) | (refine gLex_ask rfl rfl rfl ?_; first | (apply gAsk_yes; kernel_rfl; intro K hK; (go_simp; (try (simp only [↓IntWalk.iteOmega]; try go_simp)); (try simp (disch := omega) only [IntWalk.i64_in]); (try simp (disch := omega) only [IntWalk.u64_in]); first | (refine hK _ ?_; clear hK K) | (apply Exists.intro; refine ⟨fun x => ?_, hK _ ?_⟩; (first | (go_at_call 34; exact HC.out _)); clear hK K))) | ((first | apply gAsk_no1 | apply gAsk_no2); kernel_rfl; intro K hK; simp [go_sem]; refine hK _ ?_; clear hK K) | (apply gAsk_part; kernel_rfl; all_goals (intro h K hK; (try simp only [Bool.not_true] at h); (try simp only [Bool.not_false] at h); (try simp only [decide_eq_true_eq] at h); (try simp only [decide_eq_false_iff_not] at h); first | (exfalso; first | contradiction | omega) | (go_simp; (try (simp only [↓IntWalk.iteOmega]; try go_simp)); (try simp (disch := omega) only [IntWalk.i64_in]); (try simp (disch := omega) only [IntWalk.u64_in]); first | (refine hK _ ?_; clear hK K) | (apply Exists.intro; refine ⟨fun x => ?_, hK _ ?_⟩; (first | (go_at_call 34; exact HC.out _)); clear hK K))))))); all_goals ((apply gLex_end); intro x))
    go_wp2
    go_ret
    exact ⟨ret_bool HW.out.symm, (by repeat (first | exact Grows.refl _ | refine Grows.now ?_ _ | refine Grows.new ?_ _ | refine Grows.drewN ?_ _ | refine Grows.drew ?_ | assumption | (refine Grows.set ?_ (by first | omega | (simp; done) | (simp; omega)) _)))⟩

end Go.Proofs.YtiljgkaffgclgaaGreat

/- Contracts: the answer for ratio. -/
namespace Go.Proofs.YtiljgkaffgclgaaGreat
open Go Go.RowKit
set_option maxHeartbeats 400000 in
theorem rRight (a b : Int) (w : World) (ha : U64 a) :
    Calls Tryz.prog 8 #[.agg #[.int .u64 a, .int .u64 b]] w fun e w' => e = .returned (.bool (rrB a b)) ∧ Grows w w' := by
  have H := hide ha
  clear ha
  go_enter Tryz.func8, Tryz.ntmps8
  go_wp2
  all_goals go_ret
  all_goals exact ⟨ret_bool (bool_ext (by have := H.out.1; unfold rrB; simp; try omega)), (by repeat (first | exact Grows.refl _ | refine Grows.now ?_ _ | refine Grows.new ?_ _ | refine Grows.drewN ?_ _ | refine Grows.drew ?_ | assumption | (refine Grows.set ?_ (by first | omega | (simp; done) | (simp; omega)) _)))⟩

theorem times_plain (a b : Int) (ha : U64 a) (hb : 0 ≤ b ∧ b ≤ 2097152) :
    IntKind.u64.wrap (IntKind.u64.wrap (a / 4294967296 * b) / 4294967296 + IntKind.u64.wrap ((IntKind.u64.wrap (a / 4294967296 * b)).tmod 4294967296 + IntKind.u64.wrap (a.tmod 4294967296 * b) / 4294967296) / 4294967296) = a * b / 18446744073709551616 ∧
    (IntKind.u64.wrap ((IntKind.u64.wrap (a / 4294967296 * b)).tmod 4294967296 + IntKind.u64.wrap (a.tmod 4294967296 * b) / 4294967296)).tmod 4294967296 = a * b / 4294967296 % 4294967296 ∧
    (IntKind.u64.wrap (a.tmod 4294967296 * b)).tmod 4294967296 = a * b % 4294967296 := by
  obtain ⟨h0, h1⟩ := ha
  obtain ⟨b0, b1⟩ := hb
  have e1 : a.tmod 4294967296 = a % 4294967296 := Int.tmod_eq_emod_of_nonneg h0
  have hp : ∀ x : Int, 0 ≤ x → x < 4294967296 → 0 ≤ x * b ∧ x * b ≤ 4294967295 * 2097152 := fun x hx hx' =>
    ⟨Int.mul_nonneg hx b0, Int.mul_le_mul (by omega) b1 b0 (by omega)⟩
  have p1 := hp (a / 4294967296) (by omega) (by omega)
  have p2 := hp (a % 4294967296) (by omega) (by omega)
  have hab : a * b = (a / 4294967296 * b) * 4294967296 + a % 4294967296 * b := by
    have : a = a / 4294967296 * 4294967296 + a % 4294967296 := by omega
    conv => lhs; rw [this]
    rw [Int.add_mul, Int.mul_assoc, Int.mul_comm 4294967296 b, Int.mul_assoc]
  rw [hab, e1]
  generalize a / 4294967296 * b = x at *
  generalize a % 4294967296 * b = y at *
  rw [IntWalk.u64_in x (by omega), IntWalk.u64_in y (by omega), Int.tmod_eq_emod_of_nonneg p1.1, Int.tmod_eq_emod_of_nonneg p2.1, IntWalk.u64_in (x % 4294967296 + y / 4294967296) (by omega),
    Int.tmod_eq_emod_of_nonneg (by omega), IntWalk.u64_in _ (by omega)]
  refine ⟨by omega, by omega, by omega⟩

set_option maxHeartbeats 400000 in
theorem rTimes (a b : Int) (w : World) (ha : U64 a) (hb : 0 ≤ b ∧ b ≤ 2097152) :
    Calls Tryz.prog 76 #[.int .u64 a, .int .u64 b] w fun e w' => e = .returned (.agg #[.int .u64 (a * b / 18446744073709551616), .int .u64 (a * b / 4294967296 % 4294967296), .int .u64 (a * b % 4294967296)]) ∧ Grows w w' := by
  have H := hide ha
  have K := hide hb
  clear ha hb
  go_enter Tryz.func76, Tryz.ntmps76
  go_wp2
  refine bodyPost_ret (v := .agg #[.int .u64 (a * b / 18446744073709551616), .int .u64 (a * b / 4294967296 % 4294967296), .int .u64 (a * b % 4294967296)]) ?_ rfl ⟨rfl, (by repeat (first | exact Grows.refl _ | refine Grows.now ?_ _ | refine Grows.new ?_ _ | refine Grows.drewN ?_ _ | refine Grows.drew ?_ | assumption | (refine Grows.set ?_ (by first | omega | (simp; done) | (simp; omega)) _)))⟩
  obtain ⟨h1, h2, h3⟩ := times_plain a b H.out K.out
  simp [results, Tryz.results76, go_sem, h1, h2, h3]
def moB3 (a b c d e f : Int) : Bool := decide (a < d ∨ a = d ∧ (b < e ∨ b = e ∧ c ≤ f))
set_option maxHeartbeats 400000 in
theorem rMost (a b c d e f : Int) (w : World) :
    Calls Tryz.prog 106 #[.agg #[.int .u64 a, .int .u64 b, .int .u64 c], .agg #[.int .u64 d, .int .u64 e, .int .u64 f]] w fun e' w' => e' = .returned (.bool (moB3 a b c d e f)) ∧ Grows w w' := by
  go_enter Tryz.func106, Tryz.ntmps106
  go_wp2
  refine wp_loop_rounds 4 ?_
  repeat (any_goals (first | (rw [rounds_succ]; go_wp2) | (((first | refine wp_region_gen2 (by kernel_rfl) (by kernel_rfl) ?_ | refine wp_region_gen (by kernel_rfl) (by kernel_rfl) ?_); (repeat' (first | (refine gLex_val0 rfl (by kernel_rfl) (fun K hK => ?_); (go_simp; (try (simp only [↓IntWalk.iteOmega]; try go_simp)); (try simp (disch := omega) only [IntWalk.i64_in]); (try simp (disch := omega) only [IntWalk.u64_in]); first | (refine hK _ ?_; clear hK K) | (apply Exists.intro; refine ⟨fun x => ?_, hK _ ?_⟩; (first | fail); clear hK K))) | (refine gLex_undef rfl rfl rfl (by kernel_rfl) (fun K hK => ?_); go_simp; refine hK _ ?_; clear hK K) | (refine gLex_ask rfl rfl rfl ?_; first | (apply gAsk_yes; kernel_rfl; intro K hK; (go_simp; (try (simp only [↓IntWalk.iteOmega]; try go_simp)); (try simp (disch := omega) only [IntWalk.i64_in]); (try simp (disch := omega) only [IntWalk.u64_in]); first | (refine hK _ ?_; clear hK K) | (apply Exists.intro; refine ⟨fun x => ?_, hK _ ?_⟩; (first | fail); clear hK K))) | ((first | apply gAsk_no1 | apply gAsk_no2); kernel_rfl; intro K hK; simp [go_sem]; refine hK _ ?_; clear hK K) | (apply gAsk_part; kernel_rfl; all_goals (intro h K hK; (try simp only [Bool.not_true] at h); (try simp only [Bool.not_false] at h); (try simp only [decide_eq_true_eq] at h); (try simp only [decide_eq_false_iff_not] at h); first | (exfalso; first | contradiction | omega) | (go_simp; (try (simp only [↓IntWalk.iteOmega]; try go_simp)); (try simp (disch := omega) only [IntWalk.i64_in]); (try simp (disch := omega) only [IntWalk.u64_in]); first | (refine hK _ ?_; clear hK K) | (apply Exists.intro; refine ⟨fun x => ?_, hK _ ?_⟩; (first | fail); clear hK K))))))); all_goals ((apply gLex_end); intro x)); all_goals go_wp2)))
  all_goals go_ret
  all_goals exact ⟨ret_bool (bool_ext (by unfold moB3; simp_all <;> omega)), (by repeat (first | exact Grows.refl _ | refine Grows.now ?_ _ | refine Grows.new ?_ _ | refine Grows.drewN ?_ _ | refine Grows.drew ?_ | assumption | (refine Grows.set ?_ (by first | omega | (simp; done) | (simp; omega)) _)))⟩

theorem moB3_of (x y : Int) : moB3 (x / 18446744073709551616) (x / 4294967296 % 4294967296) (x % 4294967296) (y / 18446744073709551616) (y / 4294967296 % 4294967296) (y % 4294967296) = decide (x ≤ y) := by
  unfold moB3
  rw [Bool.eq_iff_iff]
  simp only [decide_eq_true_eq]
  omega

theorem rrB_spec {a b : Int} (h : rrB a b = true) : 0 ≤ a ∧ a ≤ 1048576 ∧ 1 ≤ b ∧ b ≤ 1048576 := by simpa [rrB] using h

set_option maxHeartbeats 400000 in
theorem rWithin (n a b base : Int) (w : World) (hn : U64 n) (ha : U64 a) (hb : U64 base) :
    Calls Tryz.prog 79 #[.int .u64 n, .agg #[.int .u64 a, .int .u64 b], .int .u64 base] w fun e w' => e = .returned (.bool (wiB n a b base)) ∧ Grows w w' := by
  have H := hide hn
  have K1 := hide hb
  have c1 := fun w => rRight a b w ha
  clear hn hb ha
  cases hr : rrB a b with
  | true =>
    rw [hr] at c1
    have HR := hide (rrB_spec hr)
    have HW : Hid (wiB n a b base = decide (n * b ≤ base * a)) := by unfold wiB; rw [hr]; exact Bool.true_and _
    have HC := hide c1
    clear hr c1
    go_enter Tryz.func79, Tryz.ntmps79
    go_wp2_with fail
    ((first | refine wp_region_gen2 (by kernel_rfl) (by kernel_rfl) ?_ | refine wp_region_gen (by kernel_rfl) (by kernel_rfl) ?_); (repeat' (first | (refine gLex_val0 rfl (by kernel_rfl) (fun K hK => ?_); (go_simp; (try (simp only [↓IntWalk.iteOmega]; try go_simp)); (try simp (disch := omega) only [IntWalk.i64_in]); (try simp (disch := omega) only [IntWalk.u64_in]); first | (refine hK _ ?_; clear hK K) | (apply Exists.intro; refine ⟨fun x => ?_, hK _ ?_⟩; (first | (go_at_call 8; exact HC.out _) | (go_at_call 76; exact rTimes _ _ _ (by first | exact H.out | exact K1.out) (by have := HR.out; omega)) | (go_at_call 106; exact rMost _ _ _ _ _ _ _)); clear hK K))) | (refine gLex_undef rfl rfl rfl (by kernel_rfl) (fun K hK => ?_); go_simp; refine hK _ ?_; clear hK K) | (refine gLex_ask rfl rfl rfl ?_; first | (apply gAsk_yes; kernel_rfl; intro K hK; (go_simp; (try (simp only [↓IntWalk.iteOmega]; try go_simp)); (try simp (disch := omega) only [IntWalk.i64_in]); (try simp (disch := omega) only [IntWalk.u64_in]); first | (refine hK _ ?_; clear hK K) | (apply Exists.intro; refine ⟨fun x => ?_, hK _ ?_⟩; (first | (go_at_call 8; exact HC.out _) | (go_at_call 76; exact rTimes _ _ _ (by first | exact H.out | exact K1.out) (by have := HR.out; omega)) | (go_at_call 106; exact rMost _ _ _ _ _ _ _)); clear hK K))) | ((first | apply gAsk_no1 | apply gAsk_no2); kernel_rfl; intro K hK; simp [go_sem]; refine hK _ ?_; clear hK K) | (apply gAsk_part; kernel_rfl; all_goals (intro h K hK; (try simp only [Bool.not_true] at h); (try simp only [Bool.not_false] at h); (try simp only [decide_eq_true_eq] at h); (try simp only [decide_eq_false_iff_not] at h); first | (exfalso; first | contradiction | omega) | (go_simp; (try (simp only [↓IntWalk.iteOmega]; try go_simp)); (try simp (disch := omega) only [IntWalk.i64_in]); (try simp (disch := omega) only [IntWalk.u64_in]); first | (refine hK _ ?_; clear hK K) | (apply Exists.intro; refine ⟨fun x => ?_, hK _ ?_⟩; (first | (go_at_call 8; exact HC.out _) | (go_at_call 76; exact rTimes _ _ _ (by first | exact H.out | exact K1.out) (by have := HR.out; omega)) | (go_at_call 106; exact rMost _ _ _ _ _ _ _)); clear hK K))))))); all_goals ((apply gLex_end); intro x))
    go_wp2
    go_ret
    exact ⟨ret_bool (by rw [moB3_of, HW.out]), (by repeat (first | exact Grows.refl _ | refine Grows.now ?_ _ | refine Grows.new ?_ _ | refine Grows.drewN ?_ _ | refine Grows.drew ?_ | assumption | (refine Grows.set ?_ (by first | omega | (simp; done) | (simp; omega)) _)))⟩
  | false =>
    rw [hr] at c1
    have HW : Hid (wiB n a b base = false) := by unfold wiB; rw [hr]; rfl
    have HC := hide c1
    clear hr c1
    go_enter Tryz.func79, Tryz.ntmps79
    go_wp2_with fail
    ((first | refine wp_region_gen2 (by kernel_rfl) (by kernel_rfl) ?_ | refine wp_region_gen (by kernel_rfl) (by kernel_rfl) ?_); (repeat' (first | (refine gLex_val0 rfl (by kernel_rfl) (fun K hK => ?_); (go_simp; (try (simp only [↓IntWalk.iteOmega]; try go_simp)); (try simp (disch := omega) only [IntWalk.i64_in]); (try simp (disch := omega) only [IntWalk.u64_in]); first | (refine hK _ ?_; clear hK K) | (apply Exists.intro; refine ⟨fun x => ?_, hK _ ?_⟩; (first | (go_at_call 8; exact HC.out _)); clear hK K))) | (refine gLex_undef rfl rfl rfl (by kernel_rfl) (fun K hK => ?_); go_simp; refine hK _ ?_; clear hK K) | (refine gLex_ask rfl rfl rfl ?_; first | (apply gAsk_yes; kernel_rfl; intro K hK; (go_simp; (try (simp only [↓IntWalk.iteOmega]; try go_simp)); (try simp (disch := omega) only [IntWalk.i64_in]); (try simp (disch := omega) only [IntWalk.u64_in]); first | (refine hK _ ?_; clear hK K) | (apply Exists.intro; refine ⟨fun x => ?_, hK _ ?_⟩; (first | (go_at_call 8; exact HC.out _)); clear hK K))) | ((first | apply gAsk_no1 | apply gAsk_no2); kernel_rfl; intro K hK; simp [go_sem]; refine hK _ ?_; clear hK K) | (apply gAsk_part; kernel_rfl; all_goals (intro h K hK; (try simp only [Bool.not_true] at h); (try simp only [Bool.not_false] at h); (try simp only [decide_eq_true_eq] at h); (try simp only [decide_eq_false_iff_not] at h); first | (exfalso; first | contradiction | omega) | (go_simp; (try (simp only [↓IntWalk.iteOmega]; try go_simp)); (try simp (disch := omega) only [IntWalk.i64_in]); (try simp (disch := omega) only [IntWalk.u64_in]); first | (refine hK _ ?_; clear hK K) | (apply Exists.intro; refine ⟨fun x => ?_, hK _ ?_⟩; (first | (go_at_call 8; exact HC.out _)); clear hK K))))))); all_goals ((apply gLex_end); intro x))
    go_wp2
    go_ret
    exact ⟨ret_bool HW.out.symm, (by repeat (first | exact Grows.refl _ | refine Grows.now ?_ _ | refine Grows.new ?_ _ | refine Grows.drewN ?_ _ | refine Grows.drew ?_ | assumption | (refine Grows.set ?_ (by first | omega | (simp; done) | (simp; omega)) _)))⟩

/-- Is n at most base and the ratio a by b of it? -/
def stB (n a b base : Int) : Bool := rrB a b && decide (n * b ≤ base * (a + b))

end Go.Proofs.YtiljgkaffgclgaaGreat

/- Contracts: the window at a place of offsets, and its answer. -/
namespace Go.Proofs.YtiljgkaffgclgaaGreat
open Go Go.RowKit
set_option maxHeartbeats 400000 in
theorem cmpLess (a b : Int) (w : World) :
    Calls Tryz.prog 77 #[.int .u64 a, .int .u64 b] w fun e w' => e = .returned (.bool (decide (a < b))) ∧ w = w' := by
  go_enter Tryz.func77, Tryz.ntmps77
  go_wp2
  all_goals go_ret
  all_goals exact ⟨ret_bool (by simp; try omega), rfl⟩

/-- Does a list rise? -/
def srtB (xs : List Int) : Bool := decide (∀ i, i < xs.length - 1 → gi xs i ≤ gi xs (i + 1))

set_option maxHeartbeats 400000 in
theorem isSorted (A : Option Addr) (n c : Nat) (xs : List Int) (w : World) (h : Rd w A 1 n (xs.map (.int .u64))) (hn : n ≤ 1000000) :
    Calls Tryz.prog 46 #[.slice A n c] w fun e w' => e = .returned (.bool (srtB xs)) ∧ Grows w w' := by
  have HL := hide (show xs.length = n by simpa using h.len)
  have HR := hide h
  clear h
  go_enter Tryz.func46, Tryz.ntmps46
  go_wp2
  go_loopw [3] (fun i wr => ∃ k : Nat, k < n + 1 ∧ i = .int .i64 ((k : Int) - 1) ∧ Grows w wr ∧ ∀ j, k ≤ j + 1 → j + 1 < n → gi xs j ≤ gi xs (j + 1)) (fun i _ => (intOf i).toNat)
  case atStart => exact ⟨n, by omega, by go_num, Grows.refl w, fun j h1 h2 => by omega⟩
  case round =>
    obtain ⟨k, hk, rfl, hg, hall⟩ := hrel
    have HA := hide hall
    clear hall
    obtain ⟨x, rfl⟩ := Grows.later hg
    clear hg
    by_cases hk1 : k ≤ 1
    · go_wp2
      go_ret
      refine ⟨ret_bool ?_, (by repeat (first | exact Grows.refl _ | refine Grows.now ?_ _ | refine Grows.new ?_ _ | refine Grows.drewN ?_ _ | refine Grows.drew ?_ | assumption | (refine Grows.set ?_ (by first | omega | (simp; done) | (simp; omega)) _)))⟩
      have := HA.out
      have hl := HL.out
      exact (decide_eq_true (fun i hi => this i (by omega) (by omega))).symm
    · obtain ⟨m, rfl⟩ : ∃ m, k = m + 2 := ⟨k - 2, by omega⟩
      rw [show (((m + 2 : Nat) : Int) - 1) = (m : Int) + 1 by omega]
      obtain ⟨b, off, rfl, hc⟩ := HR.out.ints (by omega)
      have hc1 := hc (m + 1) (by omega)
      have hc2 := hc m (by omega)
      clear hc
      go_wp2_with fail
      ((first | refine wp_region_gen2 (by kernel_rfl) (by kernel_rfl) ?_ | refine wp_region_gen (by kernel_rfl) (by kernel_rfl) ?_); (repeat' (first | (refine gLex_val0 rfl (by kernel_rfl) (fun K hK => ?_); (go_simp; (try (simp only [↓IntWalk.iteOmega]; try go_simp)); (try simp (disch := omega) only [IntWalk.i64_in]); (try simp (disch := omega) only [IntWalk.u64_in]); first | (refine hK _ ?_; clear hK K) | (apply Exists.intro; refine ⟨fun x => ?_, hK _ ?_⟩; (first | (go_at_call 77; exact calls_same (cmpLess _ _ _))); clear hK K))) | (refine gLex_undef rfl rfl rfl (by kernel_rfl) (fun K hK => ?_); go_simp; refine hK _ ?_; clear hK K) | (refine gLex_ask rfl rfl rfl ?_; first | (apply gAsk_yes; kernel_rfl; intro K hK; (go_simp; (try (simp only [↓IntWalk.iteOmega]; try go_simp)); (try simp (disch := omega) only [IntWalk.i64_in]); (try simp (disch := omega) only [IntWalk.u64_in]); first | (refine hK _ ?_; clear hK K) | (apply Exists.intro; refine ⟨fun x => ?_, hK _ ?_⟩; (first | (go_at_call 77; exact calls_same (cmpLess _ _ _))); clear hK K))) | ((first | apply gAsk_no1 | apply gAsk_no2); kernel_rfl; intro K hK; simp [go_sem]; refine hK _ ?_; clear hK K) | (apply gAsk_part; kernel_rfl; all_goals (intro h K hK; (try simp only [Bool.not_true] at h); (try simp only [Bool.not_false] at h); (try simp only [decide_eq_true_eq] at h); (try simp only [decide_eq_false_iff_not] at h); first | (exfalso; first | contradiction | omega) | (go_simp; (try (simp only [↓IntWalk.iteOmega]; try go_simp)); (try simp (disch := omega) only [IntWalk.i64_in]); (try simp (disch := omega) only [IntWalk.u64_in]); first | (refine hK _ ?_; clear hK K) | (apply Exists.intro; refine ⟨fun x => ?_, hK _ ?_⟩; (first | (go_at_call 77; exact calls_same (cmpLess _ _ _))); clear hK K))))))); all_goals ((apply gLex_end); intro x))
      go_wp2
      · go_ret
        refine ⟨ret_bool ?_, (by repeat (first | exact Grows.refl _ | refine Grows.now ?_ _ | refine Grows.new ?_ _ | refine Grows.drewN ?_ _ | refine Grows.drew ?_ | assumption | (refine Grows.set ?_ (by first | omega | (simp; done) | (simp; omega)) _)))⟩
        have hl := HL.out
        have hlt : gi xs (m + 1) < gi xs m := by assumption
        exact (decide_eq_false (fun h => by have := h m (by omega); omega)).symm
      · have hge : gi xs m ≤ gi xs (m + 1) := by assumption
        go_roundw
        case rel =>
          refine ⟨m + 1, by omega, by go_num, (by repeat (first | exact Grows.refl _ | refine Grows.now ?_ _ | refine Grows.new ?_ _ | refine Grows.drewN ?_ _ | refine Grows.drew ?_ | assumption | (refine Grows.set ?_ (by first | omega | (simp; done) | (simp; omega)) _))), fun j h1 h2 => ?_⟩
          by_cases hj : j = m
          · subst hj; exact hge
          · exact HA.out j (by omega) h2
        case measure => simp [intOf]

/-- Is the ratio a by b of base within n? -/
def rcB (n a b base : Int) : Bool := decide (a = 0) || wiB base b a n

set_option maxHeartbeats 400000 in
theorem localWindow1 (n a b base : Int) (g h : Nat) (w : World) (hn : U64 n) (hb : U64 base) (c0 : w.cell? ⟨g, 0, none⟩ = some (.int .u64 a)) (c1 : w.cell? ⟨g, 1, none⟩ = some (.int .u64 b)) (c2 : w.cell? ⟨h, 0, none⟩ = some (.int .u64 base)) :
    Calls Tryz.prog 47 #[.int .u64 n, .pointer (some ⟨g, 0, none⟩), .pointer (some ⟨h, 0, none⟩)] w fun e w' => e = .returned (.bool (rcB n a b base)) ∧ Grows w w' := by
  have H := hide hn
  have K1 := hide hb
  clear hn hb
  by_cases ha : a = 0
  · subst ha
    go_enter Tryz.func47, Tryz.ntmps47
    go_wp2
    go_ret
    exact ⟨ret_bool (by simp [rcB]), (by repeat (first | exact Grows.refl _ | refine Grows.now ?_ _ | refine Grows.new ?_ _ | refine Grows.drewN ?_ _ | refine Grows.drew ?_ | assumption | (refine Grows.set ?_ (by first | omega | (simp; done) | (simp; omega)) _)))⟩
  · have hd : (a == 0) = false := by simpa using ha
    have HD := hide ha
    clear ha
    go_enter Tryz.func47, Tryz.ntmps47
    go_wp2_with (first | (go_at_call 48; refine (ratioWithin _ _ _ _ _ K1.out H.out).mono ?_; rintro e w' ⟨rfl, hg⟩; (first | obtain ⟨x, rfl⟩ := Grows.later2 hg | obtain ⟨x, rfl⟩ := Grows.later hg); clear hg))
    go_ret
    exact ⟨ret_bool (by simp [rcB, HD.out]), (by repeat (first | exact Grows.refl _ | refine Grows.now ?_ _ | refine Grows.new ?_ _ | refine Grows.drewN ?_ _ | refine Grows.drew ?_ | assumption | (refine Grows.set ?_ (by first | omega | (simp; done) | (simp; omega)) _)))⟩

set_option maxHeartbeats 400000 in
theorem rReaches (n a b base : Int) (w : World) (hn : U64 n) (hb : U64 b) (hbase : U64 base) :
    Calls Tryz.prog 50 #[.int .u64 n, .agg #[.int .u64 a, .int .u64 b], .int .u64 base] w fun e w' => e = .returned (.bool (rcB n a b base)) ∧ Grows w w' := by
  have H := hide hn
  have K1 := hide hbase
  have K2 := hide hb
  clear hn hbase hb
  by_cases ha : a = 0
  · subst ha
    go_enter Tryz.func50, Tryz.ntmps50
    go_wp2
    go_ret
    exact ⟨ret_bool (by simp [rcB]), (by repeat (first | exact Grows.refl _ | refine Grows.now ?_ _ | refine Grows.new ?_ _ | refine Grows.drewN ?_ _ | refine Grows.drew ?_ | assumption | (refine Grows.set ?_ (by first | omega | (simp; done) | (simp; omega)) _)))⟩
  · have hd : (a == 0) = false := by simpa using ha
    have HD := hide ha
    clear ha
    go_enter Tryz.func50, Tryz.ntmps50
    go_wp2_with (first | (go_at_call 79; refine (rWithin _ _ _ _ _ K1.out K2.out H.out).mono ?_; rintro e w' ⟨rfl, hg⟩; (first | obtain ⟨x, rfl⟩ := Grows.later2 hg | obtain ⟨x, rfl⟩ := Grows.later hg); clear hg))
    go_ret
    exact ⟨ret_bool (by simp [rcB, HD.out]), (by repeat (first | exact Grows.refl _ | refine Grows.now ?_ _ | refine Grows.new ?_ _ | refine Grows.drewN ?_ _ | refine Grows.drew ?_ | assumption | (refine Grows.set ?_ (by first | omega | (simp; done) | (simp; omega)) _)))⟩

/-- May these offsets be? -/
def offB (xs : List Int) : Bool := decide (∀ i, i < xs.length → if i = 0 then gi xs 0 = 0 else gi xs (i - 1) ≤ gi xs i)

set_option maxHeartbeats 400000 in
theorem rRises (A : Option Addr) (n c : Nat) (xs : List Int) (w : World) (h : Rd w A 1 n (xs.map (.int .u64))) (hn : n ≤ 1000000) :
    Calls Tryz.prog 49 #[.slice A n c] w fun e w' => e = .returned (.bool (offB xs)) ∧ Grows w w' := by
  have HL := hide (show xs.length = n by simpa using h.len)
  have HR := hide h
  clear h
  go_enter Tryz.func49, Tryz.ntmps49
  go_wp2
  go_loopw [3] (fun i wr => ∃ k : Nat, k ≤ n ∧ i = .int .i64 (k : Int) ∧ Grows w wr ∧ ∀ i, i < k → if i = 0 then gi xs 0 = 0 else gi xs (i - 1) ≤ gi xs i) (fun i _ => n - (intOf i).toNat)
  case atStart => exact ⟨0, by omega, by go_num, Grows.refl w, fun j h1 => by omega⟩
  case round =>
    obtain ⟨k, hk, rfl, hg, hall⟩ := hrel
    have HA := hide hall
    clear hall
    obtain ⟨x, rfl⟩ := Grows.later hg
    clear hg
    by_cases hk1 : n ≤ k
    · go_wp2
      go_ret
      refine ⟨ret_bool ?_, (by repeat (first | exact Grows.refl _ | refine Grows.now ?_ _ | refine Grows.new ?_ _ | refine Grows.drewN ?_ _ | refine Grows.drew ?_ | assumption | (refine Grows.set ?_ (by first | omega | (simp; done) | (simp; omega)) _)))⟩
      have hh := HA.out
      have hl := HL.out
      exact (decide_eq_true (fun i hi => hh i (by omega))).symm
    · obtain ⟨b, off, rfl, hc⟩ := HR.out.ints (by omega)
      have hc1 := hc k (by omega)
      by_cases hk0 : k = 0
      · subst hk0
        simp only [Nat.add_zero] at hc1
        clear hc
        go_wp2_with fail
        ((first | refine wp_region_gen2 (by kernel_rfl) (by kernel_rfl) ?_ | refine wp_region_gen (by kernel_rfl) (by kernel_rfl) ?_); (repeat' (first | (refine gLex_val0 rfl (by kernel_rfl) (fun K hK => ?_); (go_simp; (try (simp only [↓IntWalk.iteOmega]; try go_simp)); (try simp (disch := omega) only [IntWalk.i64_in]); (try simp (disch := omega) only [IntWalk.u64_in]); first | (refine hK _ ?_; clear hK K) | (apply Exists.intro; refine ⟨fun x => ?_, hK _ ?_⟩; (first | fail); clear hK K))) | (refine gLex_undef rfl rfl rfl (by kernel_rfl) (fun K hK => ?_); go_simp; refine hK _ ?_; clear hK K) | (refine gLex_ask rfl rfl rfl ?_; first | (apply gAsk_yes; kernel_rfl; intro K hK; (go_simp; (try (simp only [↓IntWalk.iteOmega]; try go_simp)); (try simp (disch := omega) only [IntWalk.i64_in]); (try simp (disch := omega) only [IntWalk.u64_in]); first | (refine hK _ ?_; clear hK K) | (apply Exists.intro; refine ⟨fun x => ?_, hK _ ?_⟩; (first | fail); clear hK K))) | ((first | apply gAsk_no1 | apply gAsk_no2); kernel_rfl; intro K hK; simp [go_sem]; refine hK _ ?_; clear hK K) | (apply gAsk_part; kernel_rfl; all_goals (intro h K hK; (try simp only [Bool.not_true] at h); (try simp only [Bool.not_false] at h); (try simp only [decide_eq_true_eq] at h); (try simp only [decide_eq_false_iff_not] at h); first | (exfalso; first | contradiction | omega) | (go_simp; (try (simp only [↓IntWalk.iteOmega]; try go_simp)); (try simp (disch := omega) only [IntWalk.i64_in]); (try simp (disch := omega) only [IntWalk.u64_in]); first | (refine hK _ ?_; clear hK K) | (apply Exists.intro; refine ⟨fun x => ?_, hK _ ?_⟩; (first | fail); clear hK K))))))); all_goals ((apply gLex_end); intro x))
        all_goals go_wp2
        · go_roundw
          case rel =>
            refine ⟨1, by omega, by go_num, (by repeat (first | exact Grows.refl _ | refine Grows.now ?_ _ | refine Grows.new ?_ _ | refine Grows.drewN ?_ _ | refine Grows.drew ?_ | assumption | (refine Grows.set ?_ (by first | omega | (simp; done) | (simp; omega)) _))), fun j h1 => ?_⟩
            obtain rfl : j = 0 := by omega
            simpa using ‹(gi xs 0 != 0) = false›
          case measure => simp [intOf]; omega
        · go_ret
          refine ⟨ret_bool ?_, (by repeat (first | exact Grows.refl _ | refine Grows.now ?_ _ | refine Grows.new ?_ _ | refine Grows.drewN ?_ _ | refine Grows.drew ?_ | assumption | (refine Grows.set ?_ (by first | omega | (simp; done) | (simp; omega)) _)))⟩
          have hl := HL.out
          have hne : ¬ gi xs 0 = 0 := by simpa using ‹(gi xs 0 != 0) = true›
          exact (decide_eq_false (fun h => hne (by have := h 0 (by omega); simpa using this))).symm
      · obtain ⟨m, rfl⟩ : ∃ m, k = m + 1 := ⟨k - 1, by omega⟩
        have hc2 := hc m (by omega)
        clear hc
        have hd : (((m + 1 : Nat) : Int) == 0) = false := by simp; omega
        have hd2 : ((m : Int) + 1 == 0) = false := by simp; omega
        go_wp2_with fail
        ((first | refine wp_region_gen2 (by kernel_rfl) (by kernel_rfl) ?_ | refine wp_region_gen (by kernel_rfl) (by kernel_rfl) ?_); (repeat' (first | (refine gLex_val0 rfl (by kernel_rfl) (fun K hK => ?_); (go_simp; (try (simp only [↓IntWalk.iteOmega]; try go_simp)); (try simp (disch := omega) only [IntWalk.i64_in]); (try simp (disch := omega) only [IntWalk.u64_in]); first | (refine hK _ ?_; clear hK K) | (apply Exists.intro; refine ⟨fun x => ?_, hK _ ?_⟩; (first | fail); clear hK K))) | (refine gLex_undef rfl rfl rfl (by kernel_rfl) (fun K hK => ?_); go_simp; refine hK _ ?_; clear hK K) | (refine gLex_ask rfl rfl rfl ?_; first | (apply gAsk_yes; kernel_rfl; intro K hK; (go_simp; (try (simp only [↓IntWalk.iteOmega]; try go_simp)); (try simp (disch := omega) only [IntWalk.i64_in]); (try simp (disch := omega) only [IntWalk.u64_in]); first | (refine hK _ ?_; clear hK K) | (apply Exists.intro; refine ⟨fun x => ?_, hK _ ?_⟩; (first | fail); clear hK K))) | ((first | apply gAsk_no1 | apply gAsk_no2); kernel_rfl; intro K hK; simp [go_sem]; refine hK _ ?_; clear hK K) | (apply gAsk_part; kernel_rfl; all_goals (intro h K hK; (try simp only [Bool.not_true] at h); (try simp only [Bool.not_false] at h); (try simp only [decide_eq_true_eq] at h); (try simp only [decide_eq_false_iff_not] at h); first | (exfalso; first | contradiction | omega) | (go_simp; (try (simp only [↓IntWalk.iteOmega]; try go_simp)); (try simp (disch := omega) only [IntWalk.i64_in]); (try simp (disch := omega) only [IntWalk.u64_in]); first | (refine hK _ ?_; clear hK K) | (apply Exists.intro; refine ⟨fun x => ?_, hK _ ?_⟩; (first | fail); clear hK K))))))); all_goals ((apply gLex_end); intro x))
        all_goals go_wp2
        · go_ret
          refine ⟨ret_bool ?_, (by repeat (first | exact Grows.refl _ | refine Grows.now ?_ _ | refine Grows.new ?_ _ | refine Grows.drewN ?_ _ | refine Grows.drew ?_ | assumption | (refine Grows.set ?_ (by first | omega | (simp; done) | (simp; omega)) _)))⟩
          have hl := HL.out
          have hlt : gi xs (m + 1) < gi xs m := by assumption
          exact (decide_eq_false (fun h => by have := h (m + 1) (by omega); simp at this; omega)).symm
        · have hge : gi xs m ≤ gi xs (m + 1) := by assumption
          go_roundw
          case rel =>
            refine ⟨m + 2, by omega, by go_num, (by repeat (first | exact Grows.refl _ | refine Grows.now ?_ _ | refine Grows.new ?_ _ | refine Grows.drewN ?_ _ | refine Grows.drew ?_ | assumption | (refine Grows.set ?_ (by first | omega | (simp; done) | (simp; omega)) _))), fun j h1 => ?_⟩
            by_cases hj : j = m + 1
            · subst hj; simpa using hge
            · exact HA.out j (by omega)
          case measure => simp [intOf]; omega

end Go.Proofs.YtiljgkaffgclgaaGreat
