/- Plain law: the way that is followed is a simple way to its end. -/
import Derived.Test.YtiljgkaffgclgaaQMarksBounds15
import Derived.Test.YtiljgkaffgclgaaQMarksBounds14
import Derived.Test.YtiljgkaffgclgaaQMarksBounds12
/- Plain law: the way that is followed is a simple way to its end. -/
namespace Go.Proofs.Ytiljgkaffgclgaa
open Go Go.RowKit
/-- A row of edges, as numbers. -/
def ciL (l : List Nat) : List Int := l.map fun (i : Nat) => (i : Int)
theorem ciL_len (l : List Nat) : (ciL l).length = l.length := by simp [ciL]
theorem ciL_gi {l : List Nat} {k : Nat} (h : k < l.length) : gi (ciL l) k = (l[k] : Int) := by simp [ciL, gi, h]
/-- The nodes that a way comes to. -/
def ndsN (E : List Edg) (v : Nat) (l : List Nat) : List Nat := v :: l.map (tN E)
theorem Fol.link {x : Srch} {d : List Nat} {t v : Nat} {l : List Nat} (h : Fol x d t v l) : ∀ k (hk : k < l.length), fN x.E l[k] = (ndsN x.E v l)[k]'(by simp [ndsN]; omega) := by
  induction h with
  | here => intro k hk; simp at hk
  | @step v i l hne hi hfi hb hl hfol ih =>
    intro k hk
    match k, hk with
    | 0, _ => simpa [ndsN] using hfi
    | k + 1, hk =>
      have := ih k (by simpa using hk)
      simpa [ndsN] using this
theorem Fol.last {x : Srch} {d : List Nat} {t v : Nat} {l : List Nat} (h : Fol x d t v l) : (ndsN x.E v l)[l.length]'(by simp [ndsN]) = t := by
  induction h with
  | here => rfl
  | @step v i l hne hi hfi hb hl hfol ih => simpa [ndsN] using ih
theorem ndI_is {N : Nat} {E : List Edg} (hE : InN N E) {v : Nat} {l : List Nat} (hl : ∀ i ∈ l, i < E.length) : ∀ k (hk : k ≤ l.length), ndI E (v : Int) (ciL l) k = ((ndsN E v l)[k]'(by simp [ndsN]; omega) : Int)
  | 0, _ => rfl
  | k + 1, hk => by
    have hk' : k < l.length := by omega
    show (ge E (gi (ciL l) k).toNat).t = _
    rw [ciL_gi hk', Int.toNat_natCast, (hE.t _ (hl _ (List.getElem_mem hk'))).2]
    simp [ndsN]
theorem lkB_is {N : Nat} {x : Srch} {d : List Nat} {t v : Nat} {l : List Nat} (hE : InN N x.E) (h : Fol x d t v l) : ∀ k, k ≤ l.length → lkB x.E (v : Int) (ciL l) k = true
  | 0, _ => rfl
  | k + 1, hk => by
    have hk' : k < l.length := by omega
    show (lkB x.E (v : Int) (ciL l) k && decide ((ge x.E (gi (ciL l) k).toNat).f = ndI x.E v (ciL l) k)) = true
    rw [lkB_is hE h k (by omega), ndI_is hE h.edges k (by omega), ciL_gi hk', Int.toNat_natCast, (hE.f _ (h.edges _ (List.getElem_mem hk'))).2, h.link k hk']
    simp
theorem Fol.isB {N : Nat} {x : Srch} {d : List Nat} {t v : Nat} {l : List Nat} (hE : InN N x.E) (h : Fol x d t v l) (hr : rightF N x.E = 0) (hv : v < N) : isB N x.E (v : Int) (ciL l) = true := by
  unfold Go.Proofs.Ytiljgkaffgclgaa.isB edgesB
  rw [ciL_len, lkB_is hE h _ (Nat.le_refl _), decide_eq_true hr, show nodeB (N : Int) (v : Int) = true from decide_eq_true ⟨by omega, by omega⟩]
  have : (ciL l).any (fun e => !edgeB x.E.length e) = false := by
    rw [List.any_eq_false]
    intro e he
    obtain ⟨i, hi, rfl⟩ := List.mem_map.1 he
    have := h.edges i hi
    unfold edgeB
    simp
    omega
  rw [this]
  rfl
theorem Fol.nodesL {N : Nat} {x : Srch} {d : List Nat} {t v : Nat} {l : List Nat} (hE : InN N x.E) (h : Fol x d t v l) (hr : rightF N x.E = 0) (hv : v < N) : nodesL N x.E (v : Int) (ciL l) = ciL (ndsN x.E v l) := by
  unfold Go.Proofs.Ytiljgkaffgclgaa.nodesL
  rw [if_pos (h.isB hE hr hv), ciL_len]
  refine List.ext_getElem (by simp [ndL_len, ciL, ndsN]) fun k h1 h2 => ?_
  have hk : k ≤ l.length := by rw [ndL_len] at h1; omega
  have e := ndI_is hE (v := v) h.edges k hk
  simp only [ndL, List.getElem_map, List.getElem_range, ciL]
  exact e
theorem oneB_is {L : List Nat} (h : L.Nodup) : oneB (ciL L) (ciL L).length = true := by
  refine decide_eq_true fun j hj hm => ?_
  rw [ciL_len] at hj
  rw [ciL_gi hj] at hm
  have e : (ciL L).take j = ciL (L.take j) := by simp [ciL, List.map_take]
  rw [e] at hm
  obtain ⟨i, hi, he⟩ := List.mem_map.1 hm
  have he : i = L[j] := by omega
  subst he
  obtain ⟨k, hk, hke⟩ := List.getElem_of_mem hi
  simp at hk
  rw [List.getElem_take] at hke
  exact List.pairwise_iff_getElem.1 h k j (by omega) hj (by omega) hke
theorem Fol.simple {N : Nat} {x : Srch} {d : List Nat} {t v : Nat} {l : List Nat} (hn : Near x d t) (hE : InN N x.E) (h : Fol x d t v l) (hr : rightF N x.E = 0) (hv : v < N) (hv2 : v < x.N) : simB N x.E (v : Int) (ciL l) = true := by
  unfold simB
  rw [h.isB hE hr hv, h.nodesL hE hr hv, Bool.true_and]
  exact oneB_is (h.nodup hn hv2)
end Go.Proofs.Ytiljgkaffgclgaa

/- Plain law: how far the end is from any node, by the search from there and by the one turned round. -/
namespace Go.Proofs.Ytiljgkaffgclgaa
open Go Go.RowKit
/-- What counts: all, with these weights. -/
def freeO (W : List Nat) : DOpt := ⟨false, [], [], W, 0⟩
theorem one_turned {NN sN tN u : Nat} {E : List Edg} {W : List Nat} {ys : List (Nat × Nat)} (hx : PathOk NN sN tN E (freeO W) ys) (hu : u < NN) :
    ∃ xs, WalkOk NN u E (freeO W) ∧ dcF NN u E W = 0 ∧ (if (u : Int) ∈ (freeO W).nn then xs = [] else Trace (srchOf NN E (freeO W)) (reachS (freeO W).most (st0 NN) u 0) xs) ∧ (xs.map Prod.fst).Nodup ∧
      (∀ f, (tN, f) ∈ xs → f = gn (outL NN ys) u ∧ f < farV) ∧ (tN ∉ xs.map Prod.fst → gn (outL NN ys) u = farV) := by
  have hb := hx.bound.1
  have ht := hx.ok.node
  have hdu : dcF NN u E W = 0 := dc_node hx.dcs ⟨by omega, by omega⟩
  have hok : WalkOk NN u E (freeO W) := ⟨hx.ok.right, hu, hx.ok.wts, by show (0 : Nat) < _; omega, by show 0 ≤ _; omega, by show 0 ≤ _; omega⟩
  obtain ⟨xs, h1, h2, h3⟩ := walk_is hok hx.wb (Nat.le_refl _) (by simp [freeO])
  have hf := hx.far (by simp [freeO])
  have hc : ∀ i, cntE (srchOf NN E (freeO W)) i = true := fun i => by simp [cntE, srchOf, freeO]
  have hc2 : ∀ i, cntE (turnX (srchOf NN E (freeO W))) i = true := fun i => by simp [cntE, srchOf, freeO, turnX]
  have e := h2.turned (t := tN) (ys := ys) hf hb rfl (fun i _ => hc2 i) (fun i _ => hc i) hu ht
  have e : gn (outL NN ys) u = gn (outL NN xs) tN := e
  refine ⟨xs, hok, hdu, h1, h2.nodup, fun f hfx => ?_, fun hn => ?_⟩
  · have e2 := outL_at (N := NN) h2.nodup ht hfx
    have h5 : f ≤ NN * 17592186044416 := (h2.way _ _ hfx).2.2.2
    exact ⟨by rw [e, e2], by omega⟩
  · rw [e]
    exact outL_no ht hn
end Go.Proofs.Ytiljgkaffgclgaa

/- How far all nodes are from each, and it from all: the search and the one turned round, of any graph that may be. -/
namespace Go.Proofs.Ytiljgkaffgclgaa
open Go Go.RowKit
/-- All that is known of a search to which all counts, from s; round: turned round. -/
def allO (back : Bool) : DOpt := ⟨back, [], [], [], 0⟩
structure SeaOk (NN s : Nat) (E : List Edg) (back : Bool) (xs : List (Nat × Nat)) : Prop where
  ok : WalkOk NN s E (allO back)
  dc : dcF NN s E [] = 0
  tr : if (s : Int) ∈ (allO back).nn then xs = [] else Trace (srchOf NN E (allO back)) (reachS 0 (st0 NN) s 0) xs
  lt : ∀ p, p ∈ xs → p.1 < NN
  ref : refL (srchOf NN E (allO back)) s = outL NN xs
  far : Far (srchOf NN E (allO back)) s 17592186044416 xs
  wb : ∀ i, i < E.length → gn (wtF NN E []) i ≤ 17592186044416
theorem sea_any {NN s : Nat} {E : List Edg} (hr : rightF NN E = 0) (hs : s < NN) (back : Bool) : ∃ xs, SeaOk NN s E back xs := by
  obtain ⟨r1, r2, r3, r4, r5⟩ := right_in hr
  rw [Int.toNat_natCast] at r4
  have hd : dcF NN s E [] = 0 := by
    unfold dcF
    rw [if_neg (by omega), if_neg (by unfold nodeB; simp; omega), if_neg (by simp)]
    rfl
  obtain ⟨_, _, _, _, hwb⟩ := dc_ok hd
  have hok : WalkOk NN s E (allO back) := ⟨hr, hs, .inl rfl, by show (0 : Nat) < _; omega, by show 0 ≤ _; omega, by show 0 ≤ _; omega⟩
  have hb : NN * 17592186044416 < farV := by
    have : NN * 17592186044416 ≤ 4096 * 17592186044416 := Nat.mul_le_mul_right _ (by omega)
    unfold farV; omega
  obtain ⟨xs, h1, h2, h3⟩ := walk_is hok hwb (Nat.le_refl _) (by simp [allO])
  have hsr := hok.srch
  have hin : SrchIn (srchOf NN E (allO back)) 17592186044416 := ⟨fun i hi => by
    have h1 := hsr.ends.f i hi
    have h2 := hsr.ends.t i hi
    unfold toE
    split
    · exact h1.1
    · exact h2.1, fun i hi => (hwb i hi).1, fun i hi => (hwb i hi).2⟩
  obtain ⟨ys, h4, h5⟩ := trace_whole (x := freeX (srchOf NN E (allO back))) (s := s) (mw := 17592186044416) ⟨hin.ends, hin.low, hin.high⟩ hsr.nodes hok.node (by omega)
  refine ⟨xs, hok, hd, h1, h3, refL_is h2 h5 hin hb hok.node (by simp [srchOf, allO]) (fun i hi => ?_), h2, fun i hi => (hwb i hi).2⟩
  have h1 := hsr.ends.f i hi
  have h2 := hsr.ends.t i hi
  unfold nN
  split
  · exact h2.1
  · exact h1.1
/-- Of each node how far all are from it, and it from all. -/
structure Mks (NN : Nat) (E : List Edg) (F T : Nat → List Nat) : Prop where
  f : ∀ u, u < NN → ∃ xs, SeaOk NN u E false xs ∧ F u = outL NN xs
  t : ∀ u, u < NN → ∃ xs, SeaOk NN u E true xs ∧ T u = outL NN xs
  turn : ∀ u v, u < NN → v < NN → gn (T v) u = gn (F u) v
  le : ∀ u v, u < NN → v < NN → gn (F u) v ≤ farV
  flen : ∀ u, u < NN → (F u).length = NN
  tlen : ∀ u, u < NN → (T u).length = NN
theorem mks_any {NN : Nat} {E : List Edg} (hr : rightF NN E = 0) : ∃ F T, Mks NN E F T := by
  have hb : NN * 17592186044416 < farV := by
    obtain ⟨_, r2, _⟩ := right_in hr
    have : NN * 17592186044416 ≤ 4096 * 17592186044416 := Nat.mul_le_mul_right _ (by omega)
    unfold farV; omega
  have hF : ∀ u, ∃ xs, u < NN → SeaOk NN u E false xs := fun u => by
    by_cases h : u < NN
    · obtain ⟨xs, hx⟩ := sea_any hr h false
      exact ⟨xs, fun _ => hx⟩
    · exact ⟨[], fun h2 => absurd h2 h⟩
  have hT : ∀ u, ∃ xs, u < NN → SeaOk NN u E true xs := fun u => by
    by_cases h : u < NN
    · obtain ⟨xs, hx⟩ := sea_any hr h true
      exact ⟨xs, fun _ => hx⟩
    · exact ⟨[], fun h2 => absurd h2 h⟩
  refine ⟨fun u => outL NN (Classical.choose (hF u)), fun u => outL NN (Classical.choose (hT u)), ⟨fun u hu => ⟨_, Classical.choose_spec (hF u) hu, rfl⟩, fun u hu => ⟨_, Classical.choose_spec (hT u) hu, rfl⟩, fun u v hu hv => ?_, fun u v hu hv => ?_, fun u _ => outL_len _ _, fun u _ => outL_len _ _⟩⟩
  · have h1 := (Classical.choose_spec (hF u) hu).far
    have h2 := (Classical.choose_spec (hT v) hv).far
    have hc : ∀ i, cntE (srchOf NN E (allO false)) i = true := fun i => by simp [cntE, srchOf, allO]
    have hc2 : ∀ i, cntE (turnX (srchOf NN E (allO false))) i = true := fun i => by simp [cntE, srchOf, allO, turnX]
    exact h1.turned (t := v) (ys := Classical.choose (hT v)) h2 hb rfl (fun i _ => hc2 i) (fun i _ => hc i) hu hv
  · rcases outL_cases (x := srchOf NN E (allO false)) (Classical.choose_spec (hF u) hu).far hb hv with ⟨_, h⟩ | ⟨h, _⟩
    · exact Nat.le_of_lt h
    · exact Nat.le_of_eq h
/-- What one landmark tells: from below. -/
def lessN (a b : Nat) : Nat := if farV ≤ b ∨ a ≤ b then 0 else if farV ≤ a then 1152921504606846976 else a - b
def bndT (F T : Nat → List Nat) (l : List Nat) (v t : Nat) : Nat → Nat
  | 0 => 0
  | k + 1 => max (max (bndT F T l v t k) (lessN (gn (F (gn l k)) t) (gn (F (gn l k)) v))) (lessN (gn (T (gn l k)) v) (gn (T (gn l k)) t))
def abvT (F T : Nat → List Nat) (l : List Nat) (s t : Nat) : Nat → Nat
  | 0 => farV
  | k + 1 => min (abvT F T l s t k) (gn (T (gn l k)) s + gn (F (gn l k)) t)
end Go.Proofs.Ytiljgkaffgclgaa

/- Contracts: one number less another one, by the program and by its answer; how far a node is from another one, by the answer. -/
namespace Go.Proofs.Ytiljgkaffgclgaa
open Go Go.RowKit
def lessI (a b : Int) : Int := if 4611686018427387904 ≤ b ∨ a ≤ b then 0 else if 4611686018427387904 ≤ a then 1152921504606846976 else a - b
theorem lessN_int (a b : Nat) : (lessN a b : Int) = lessI a b := by
  unfold lessN lessI farV
  split
  · rename_i h
    rw [if_pos (by rcases h with h | h; exact .inl (by omega); exact .inr (by omega))]; rfl
  · rename_i h
    rw [if_neg (show ¬((4611686018427387904 : Int) ≤ (b : Int) ∨ (a : Int) ≤ (b : Int)) by omega)]
    split
    · rw [if_pos (show (4611686018427387904 : Int) ≤ (a : Int) by omega)]; rfl
    · rw [if_neg (show ¬(4611686018427387904 : Int) ≤ (a : Int) by omega)]; omega
set_option maxRecDepth 20000 in
set_option maxHeartbeats 4000000 in
theorem mkLessI (a b : Int) (ha : 0 ≤ a) (hb : 0 ≤ b) (w : World) : Calls Try.prog 72 #[.int .u64 a, .int .u64 b] w fun e w' => e = .returned (.int .u64 (lessI a b)) ∧ w = w' := by
  by_cases h1 : 4611686018427387904 ≤ b
  · have HV := hide (show lessI a b = 0 from if_pos (.inl h1))
    have hd1 : decide (4611686018427387904 ≤ b) = true := decide_eq_true h1
    clear h1
    go_enter Try.func72, Try.ntmps72
    go_wp2
    all_goals go_ret
    all_goals exact ⟨by rw [HV.out]; rfl, rfl⟩
  · have hd1 : decide (4611686018427387904 ≤ b) = false := decide_eq_false (by omega)
    by_cases h2 : a < b
    · have HV := hide (show lessI a b = 0 from if_pos (.inr (by omega)))
      have hd2 : decide (a < b) = true := decide_eq_true (by omega)
      clear h1 h2
      go_enter Try.func72, Try.ntmps72
      go_wp2
      all_goals go_ret
      all_goals exact ⟨by rw [HV.out]; rfl, rfl⟩
    · have hd2 : decide (a < b) = false := decide_eq_false (by omega)
      by_cases h3 : 4611686018427387904 ≤ a
      · have HV := hide (show lessI a b = 1152921504606846976 from by unfold lessI; rw [if_neg (by omega), if_pos h3])
        have hd3 : decide (4611686018427387904 ≤ a) = true := decide_eq_true (by omega)
        clear h1 h2 h3
        go_enter Try.func72, Try.ntmps72
        go_wp2
        all_goals go_ret
        all_goals exact ⟨by rw [HV.out]; rfl, rfl⟩
      · have HV := hide (show lessI a b = a - b from by unfold lessI; split; (first | omega | (rename_i h; rcases h with h | h <;> omega)); (first | rfl | rw [if_neg h3]))
        have hd3 : decide (4611686018427387904 ≤ a) = false := decide_eq_false (by omega)
        have h4 : b ≤ a := by omega
        have h5 : a < 4611686018427387904 := by omega
        clear h1 h2 h3
        go_enter Try.func72, Try.ntmps72
        go_wp2
        all_goals go_ret
        all_goals exact ⟨by rw [HV.out]; try rfl, rfl⟩
theorem mkLess (a b : Nat) (w : World) : Calls Try.prog 72 #[.int .u64 (a : Int), .int .u64 (b : Int)] w fun e w' => e = .returned (.int .u64 (lessN a b : Int)) ∧ w = w' := by
  rw [lessN_int]
  exact mkLessI _ _ (by omega) (by omega) w
set_option maxRecDepth 20000 in
set_option maxHeartbeats 4000000 in
theorem r46lessI (a b : Int) (ha : 0 ≤ a) (hb : 0 ≤ b) (w : World) : Calls Try.prog 74 #[.int .u64 a, .int .u64 b] w fun e w' => e = .returned (.int .u64 (lessI a b)) ∧ w = w' := by
  by_cases h1 : 4611686018427387904 ≤ b
  · have HV := hide (show lessI a b = 0 from if_pos (.inl h1))
    have hd1 : decide (4611686018427387904 ≤ b) = true := decide_eq_true h1
    clear h1
    go_enter Try.func74, Try.ntmps74
    go_wp2
    all_goals go_ret
    all_goals exact ⟨by rw [HV.out]; rfl, rfl⟩
  · have hd1 : decide (4611686018427387904 ≤ b) = false := decide_eq_false (by omega)
    by_cases h2 : a ≤ b
    · have HV := hide (show lessI a b = 0 from if_pos (.inr (by omega)))
      have hd2 : decide (a ≤ b) = true := decide_eq_true (by omega)
      clear h1 h2
      go_enter Try.func74, Try.ntmps74
      go_wp2
      all_goals go_ret
      all_goals exact ⟨by rw [HV.out]; rfl, rfl⟩
    · have hd2 : decide (a ≤ b) = false := decide_eq_false (by omega)
      by_cases h3 : 4611686018427387904 ≤ a
      · have HV := hide (show lessI a b = 1152921504606846976 from by unfold lessI; rw [if_neg (by omega), if_pos h3])
        have hd3 : decide (4611686018427387904 ≤ a) = true := decide_eq_true (by omega)
        clear h1 h2 h3
        go_enter Try.func74, Try.ntmps74
        go_wp2
        all_goals go_ret
        all_goals exact ⟨by rw [HV.out]; rfl, rfl⟩
      · have HV := hide (show lessI a b = a - b from by unfold lessI; split; (first | omega | (rename_i h; rcases h with h | h <;> omega)); (first | rfl | rw [if_neg h3]))
        have hd3 : decide (4611686018427387904 ≤ a) = false := decide_eq_false (by omega)
        have h4 : b ≤ a := by omega
        have h5 : a < 4611686018427387904 := by omega
        clear h1 h2 h3
        go_enter Try.func74, Try.ntmps74
        go_wp2
        all_goals go_ret
        all_goals exact ⟨by rw [HV.out]; try rfl, rfl⟩
theorem r46less (a b : Nat) (w : World) : Calls Try.prog 74 #[.int .u64 (a : Int), .int .u64 (b : Int)] w fun e w' => e = .returned (.int .u64 (lessN a b : Int)) ∧ w = w' := by
  rw [lessN_int]
  exact r46lessI _ _ (by omega) (by omega) w
end Go.Proofs.Ytiljgkaffgclgaa

/- Contracts: how far a node is from another one, and what landmarks tell, by the answer. -/
namespace Go.Proofs.Ytiljgkaffgclgaa
open Go Go.RowKit
/-- Landmarks that may be. -/
structure MarkOk (NN : Nat) (E : List Edg) (l : List Nat) : Prop where
  right : rightF NN E = 0
  node : ∀ i, i < l.length → gn l i < NN
theorem rdNone (w : World) (size : Nat) : Rd w none size 0 [] := ⟨by simp, fun h => absurd h (by simp)⟩
set_option maxRecDepth 20000 in
set_option maxHeartbeats 4000000 in
theorem r46from (NN : Nat) (A : Option Addr) (c : Nat) (E : List Edg) (Al : Option Addr) (nl cl : Nat) (F T : Nat → List Nat) (hM : Mks NN E F T) (u v : Nat) (hu : u < NN) (hv : v < NN) (w : World) (h : Rd w A 3 E.length (esCells E)) :
    Calls Try.prog 73 #[.agg #[.int .i64 (NN : Int), .slice A E.length c, .slice Al nl cl], .int .i64 (u : Int), .int .i64 (v : Int)] w fun e w' => e = .returned (.int .u64 (gn (F u) v : Int)) ∧ Grows w w' := by
  obtain ⟨xs, hx, hFu⟩ := hM.f u hu
  have CA := hide (fun (W : World) (g : Grows w W) => show Calls Try.prog 25 #[.agg #[.int .i64 (NN : Int), .slice A E.length c], .int .i64 (u : Int), .agg #[.bool false, .slice none 0 0, .slice none 0 0, .slice none 0 0, .int .u64 0]] W fun e w' =>
      ∃ gd, e = .returned (.slice (some ⟨gd, 0, none⟩) NN NN) ∧ Row1 w' gd 33 1 NN NN (wv (F u)) ∧ Grows W w' from by
    rw [hFu, ← hx.ref]
    exact r14All NN u A c E (allO false) none none none 0 0 0 W (h.grows g) (rdNone _ _) (rdNone _ _) (rdNone _ _) hx.ok hx.wb)
  have HL := hide (hM.flen u hu)
  obtain ⟨fv, hfv⟩ : ∃ fv, gn (F u) v = fv := ⟨_, rfl⟩
  have HF := hide hfv
  rw [hfv]
  clear hfv
  clear h hx hFu hM
  go_enter Try.func73, Try.ntmps73
  go_upto_region 1 with fail
  obtain ⟨W0, hW0⟩ : ∃ W0, W0 = w.alloc (.cells #[.int .i64 (NN : Int), .slice A E.length c, .slice Al nl cl] 39) := ⟨_, rfl⟩
  have a1 : Arr W0 w.heap.size 39 [.int .i64 (NN : Int), .slice A E.length c, .slice Al nl cl] := by rw [hW0]; exact Arr.make _ _ _
  have hg0 : Grows w W0 := by rw [hW0]; exact (Grows.refl _).new _
  obtain ⟨x0, rfl⟩ := hg0.later
  rw [← hW0]
  clear hW0 hg0
  generalize w.heap.size = b0 at *
  go_wp2_with fail
  refine (CA.out _ (by repeat (first | exact Grows.refl _ | refine Grows.now ?_ _ | refine Grows.new ?_ _ | refine Grows.drewN ?_ _ | refine Grows.drew ?_ | assumption | (refine Grows.set ?_ (by first | omega | (simp; done) | (simp; omega)) _)))).mono ?_
  rintro e W1 ⟨g1, rfl, hr1, hg⟩
  have c1 : Mine W1 ⟨g1, v, none⟩ (.int .u64 (fv : Int)) := hr1.mine (j := v) (by rw [← HF.out]; exact wv_at (W := F u) (by rw [HL.out]; exact hv))
  clear HF HL
  obtain ⟨x1, rfl⟩ := Grows.later2 hg
  clear hg hr1
  go_wp2_with fail
  go_ret
  exact ⟨rfl, (by repeat (first | exact Grows.refl _ | refine Grows.now ?_ _ | refine Grows.new ?_ _ | refine Grows.drewN ?_ _ | refine Grows.drew ?_ | assumption | (refine Grows.set ?_ (by first | omega | (simp; done) | (simp; omega)) _)))⟩
theorem Rd.nodesH {w : World} {A : Option Addr} {n : Nat} {l : List Nat} (h : Rd w A 1 n (nv l)) (hn : 0 < n) : l.length = n ∧ ∃ b off, A = some ⟨b, off, none⟩ ∧ ∀ k, k < n → Holds w ⟨b, off + k, none⟩ (.int .i64 (gn l k : Int)) := by
  have hl : l.length = n := by have := h.len; rw [nv_len] at this; omega
  obtain ⟨b, off, e, hc⟩ := h.at_ hn
  exact ⟨hl, b, off, e, fun k hk => ⟨hc k _ (nv_at (by omega))⟩⟩
set_option maxRecDepth 20000 in
set_option maxHeartbeats 4000000 in
theorem r46Bound (NN : Nat) (A : Option Addr) (c : Nat) (E : List Edg) (Al : Option Addr) (cl : Nat) (l : List Nat) (F T : Nat → List Nat) (hM : Mks NN E F T) (hK : MarkOk NN E l) (v t : Nat) (hv : v < NN) (ht : t < NN) (w : World) (h : Rd w A 3 E.length (esCells E)) (h2 : Rd w Al 1 l.length (nv l)) (hl : l.length ≤ 1000000) :
    Calls Try.prog 21 #[.agg #[.int .i64 (NN : Int), .slice A E.length c, .slice Al l.length cl], .int .i64 (v : Int), .int .i64 (t : Int)] w fun e w' => e = .returned (.int .u64 (bndT F T l v t l.length : Int)) ∧ Grows w w' := by
  have CF := hide (fun (W : World) (g : Grows w W) (u z : Nat) (hu : u < NN) (hz : z < NN) => r46from NN A c E Al l.length cl F T hM u z hu hz W (h.grows g))
  have CL := hide (fun (a b : Nat) (W : World) => r46less a b W)
  have HN := hide hK.node
  have HM := hide hM
  have HR := hide h2
  clear h h2 hM hK
  go_enter Try.func21, Try.ntmps21
  go_upto_region 1 with fail
  obtain ⟨W0, hW0⟩ : ∃ W0, W0 = w.alloc (.cells #[.int .i64 (NN : Int), .slice A E.length c, .slice Al l.length cl] 39) := ⟨_, rfl⟩
  have a1 : Arr W0 w.heap.size 39 [.int .i64 (NN : Int), .slice A E.length c, .slice Al l.length cl] := by rw [hW0]; exact Arr.make _ _ _
  have hg0 : Grows w W0 := by rw [hW0]; exact (Grows.refl _).new _
  obtain ⟨x0, rfl⟩ := hg0.later
  rw [← hW0]
  clear hW0 hg0
  generalize w.heap.size = b0 at *
  go_wp2_with fail
  go_loopw [7, 8] (fun s7 s8 wr => ∃ k : Nat, k ≤ l.length ∧ s8 = .int .i64 (k : Int) ∧ s7 = .int .u64 (bndT F T l v t k : Int) ∧ ∃ y : Later x0.now, wr = y.now) (fun _ s8 _ => l.length - (Go.RowKit.intOf s8).toNat)
  case atStart => exact ⟨0, by omega, by go_num, rfl, ⟨_, Grows.refl _⟩, rfl⟩
  case round =>
    obtain ⟨k, hk, rfl, rfl, y, rfl⟩ := hrel
    by_cases hlt : k < l.length
    · obtain ⟨_, b, off, rfl, hc⟩ := HR.out.nodesH (by omega)
      have ck := hc k hlt
      have hnk := HN.out k hlt
      have hdk : decide ((k : Int) < (l.length : Int)) = true := decide_eq_true (by omega)
      have HS := hide (show bndT F T l v t (k + 1) = max (max (bndT F T l v t k) (lessN (gn (F (gn l k)) t) (gn (F (gn l k)) v))) (lessN (gn (F v) (gn l k)) (gn (F t) (gn l k))) from by
        show max (max _ _) (lessN (gn (T (gn l k)) v) (gn (T (gn l k)) t)) = _
        rw [HM.out.turn v _ hv hnk, HM.out.turn t _ ht hnk])
      obtain ⟨r1, hr1⟩ : ∃ r1, bndT F T l v t (k + 1) = r1 := ⟨_, rfl⟩
      rw [hr1] at HS
      have HR1 := hide hr1
      clear hr1
      generalize bndT F T l v t k = r0 at *
      generalize gn l k = u at *
      clear hc
      go_upto_region 6 with fail
      ((first | refine wp_region_gen (by kernel_rfl) (by kernel_rfl) ?_); (repeat' (first | (refine gLex_val0 rfl (by kernel_rfl) (fun K hK => ?_); (go_simp; (try (simp only [↓IntWalk.iteOmega]; try go_simp)); (try simp (disch := omega) only [IntWalk.i64_in]); (try simp (disch := omega) only [IntWalk.u64_in]); first | (refine hK _ ?_; clear hK K) | (apply Exists.intro; refine ⟨fun x => ?_, hK _ ?_⟩; (first | (go_at_call 73; exact CF.out _ (by repeat (first | exact Grows.refl _ | refine Grows.now ?_ _ | refine Grows.new ?_ _ | refine Grows.drewN ?_ _ | refine Grows.drew ?_ | assumption | (refine Grows.set ?_ (by first | omega | (simp; done) | (simp; omega)) _))) _ _ (by omega) (by omega))); clear hK K))) | (refine gLex_undef rfl rfl rfl (by kernel_rfl) (fun K hK => ?_); go_simp; refine hK _ ?_; clear hK K) | (refine gLex_ask rfl rfl rfl ?_; first | (apply gAsk_yes; kernel_rfl; intro K hK; (go_simp; (try (simp only [↓IntWalk.iteOmega]; try go_simp)); (try simp (disch := omega) only [IntWalk.i64_in]); (try simp (disch := omega) only [IntWalk.u64_in]); first | (refine hK _ ?_; clear hK K) | (apply Exists.intro; refine ⟨fun x => ?_, hK _ ?_⟩; (first | (go_at_call 73; exact CF.out _ (by repeat (first | exact Grows.refl _ | refine Grows.now ?_ _ | refine Grows.new ?_ _ | refine Grows.drewN ?_ _ | refine Grows.drew ?_ | assumption | (refine Grows.set ?_ (by first | omega | (simp; done) | (simp; omega)) _))) _ _ (by omega) (by omega))); clear hK K))) | ((first | apply gAsk_no1 | apply gAsk_no2); kernel_rfl; intro K hK; simp [go_sem]; refine hK _ ?_; clear hK K) | (apply gAsk_part; kernel_rfl; all_goals (intro h K hK; (try simp only [Bool.not_true] at h); (try simp only [Bool.not_false] at h); (try simp only [decide_eq_true_eq] at h); (try simp only [decide_eq_false_iff_not] at h); first | (exfalso; first | contradiction | omega) | (go_simp; (try (simp only [↓IntWalk.iteOmega]; try go_simp)); (try simp (disch := omega) only [IntWalk.i64_in]); (try simp (disch := omega) only [IntWalk.u64_in]); first | (refine hK _ ?_; clear hK K) | (apply Exists.intro; refine ⟨fun x => ?_, hK _ ?_⟩; (first | (go_at_call 73; exact CF.out _ (by repeat (first | exact Grows.refl _ | refine Grows.now ?_ _ | refine Grows.new ?_ _ | refine Grows.drewN ?_ _ | refine Grows.drew ?_ | assumption | (refine Grows.set ?_ (by first | omega | (simp; done) | (simp; omega)) _))) _ _ (by omega) (by omega))); clear hK K))))))); all_goals ((apply gLex_end); intro x))
      go_upto_region 7 with fail
      ((first | refine wp_region_gen (by kernel_rfl) (by kernel_rfl) ?_); (repeat' (first | (refine gLex_val0 rfl (by kernel_rfl) (fun K hK => ?_); (go_simp; (try (simp only [↓IntWalk.iteOmega]; try go_simp)); (try simp (disch := omega) only [IntWalk.i64_in]); (try simp (disch := omega) only [IntWalk.u64_in]); first | (refine hK _ ?_; clear hK K) | (apply Exists.intro; refine ⟨fun x => ?_, hK _ ?_⟩; (first | (go_at_call 73; exact CF.out _ (by repeat (first | exact Grows.refl _ | refine Grows.now ?_ _ | refine Grows.new ?_ _ | refine Grows.drewN ?_ _ | refine Grows.drew ?_ | assumption | (refine Grows.set ?_ (by first | omega | (simp; done) | (simp; omega)) _))) _ _ (by omega) (by omega))); clear hK K))) | (refine gLex_undef rfl rfl rfl (by kernel_rfl) (fun K hK => ?_); go_simp; refine hK _ ?_; clear hK K) | (refine gLex_ask rfl rfl rfl ?_; first | (apply gAsk_yes; kernel_rfl; intro K hK; (go_simp; (try (simp only [↓IntWalk.iteOmega]; try go_simp)); (try simp (disch := omega) only [IntWalk.i64_in]); (try simp (disch := omega) only [IntWalk.u64_in]); first | (refine hK _ ?_; clear hK K) | (apply Exists.intro; refine ⟨fun x => ?_, hK _ ?_⟩; (first | (go_at_call 73; exact CF.out _ (by repeat (first | exact Grows.refl _ | refine Grows.now ?_ _ | refine Grows.new ?_ _ | refine Grows.drewN ?_ _ | refine Grows.drew ?_ | assumption | (refine Grows.set ?_ (by first | omega | (simp; done) | (simp; omega)) _))) _ _ (by omega) (by omega))); clear hK K))) | ((first | apply gAsk_no1 | apply gAsk_no2); kernel_rfl; intro K hK; simp [go_sem]; refine hK _ ?_; clear hK K) | (apply gAsk_part; kernel_rfl; all_goals (intro h K hK; (try simp only [Bool.not_true] at h); (try simp only [Bool.not_false] at h); (try simp only [decide_eq_true_eq] at h); (try simp only [decide_eq_false_iff_not] at h); first | (exfalso; first | contradiction | omega) | (go_simp; (try (simp only [↓IntWalk.iteOmega]; try go_simp)); (try simp (disch := omega) only [IntWalk.i64_in]); (try simp (disch := omega) only [IntWalk.u64_in]); first | (refine hK _ ?_; clear hK K) | (apply Exists.intro; refine ⟨fun x => ?_, hK _ ?_⟩; (first | (go_at_call 73; exact CF.out _ (by repeat (first | exact Grows.refl _ | refine Grows.now ?_ _ | refine Grows.new ?_ _ | refine Grows.drewN ?_ _ | refine Grows.drew ?_ | assumption | (refine Grows.set ?_ (by first | omega | (simp; done) | (simp; omega)) _))) _ _ (by omega) (by omega))); clear hK K))))))); all_goals ((apply gLex_end); intro y))
      go_wp2_with (go_at_call 74; refine (CL.out _ _ _).mono ?_; rintro e w' ⟨rfl, rfl⟩)
      go_roundw
      case measure => simp [Go.RowKit.intOf]; omega
      case rel => exact ⟨k + 1, by omega, by go_num, by rw [HR1.out]; exact congrArg (Value.int .u64) (by have := HS.out; (repeat' split) <;> omega), ⟨_, (by repeat (first | exact Grows.refl _ | refine Grows.now ?_ _ | refine Grows.new ?_ _ | refine Grows.drewN ?_ _ | refine Grows.drew ?_ | assumption | (refine Grows.set ?_ (by first | omega | (simp; done) | (simp; omega)) _)))⟩, rfl⟩
    · obtain rfl : k = l.length := by omega
      have hdk : decide ((l.length : Int) < (l.length : Int)) = false := decide_eq_false (by omega)
      go_wp2_with fail
      go_ret
      exact ⟨rfl, (by repeat (first | exact Grows.refl _ | refine Grows.now ?_ _ | refine Grows.new ?_ _ | refine Grows.drewN ?_ _ | refine Grows.drew ?_ | assumption | (refine Grows.set ?_ (by first | omega | (simp; done) | (simp; omega)) _)))⟩
end Go.Proofs.Ytiljgkaffgclgaa

/- Contract: how far it is at most, by the answer. -/
namespace Go.Proofs.Ytiljgkaffgclgaa
open Go Go.RowKit
theorem abvT_le (F T : Nat → List Nat) (l : List Nat) (s t : Nat) : ∀ k, abvT F T l s t k ≤ farV
  | 0 => Nat.le_refl _
  | k + 1 => Nat.le_trans (Nat.min_le_left _ _) (abvT_le F T l s t k)
set_option maxRecDepth 20000 in
set_option maxHeartbeats 8000000 in
theorem r46Above (NN : Nat) (A : Option Addr) (c : Nat) (E : List Edg) (Al : Option Addr) (cl : Nat) (l : List Nat) (F T : Nat → List Nat) (hM : Mks NN E F T) (hK : MarkOk NN E l) (v t : Nat) (hv : v < NN) (ht : t < NN) (w : World) (h : Rd w A 3 E.length (esCells E)) (h2 : Rd w Al 1 l.length (nv l)) (hl : l.length ≤ 1000000) :
    Calls Try.prog 22 #[.agg #[.int .i64 (NN : Int), .slice A E.length c, .slice Al l.length cl], .int .i64 (v : Int), .int .i64 (t : Int)] w fun e w' => e = .returned (.int .u64 (abvT F T l v t l.length : Int)) ∧ Grows w w' := by
  have CF := hide (fun (W : World) (g : Grows w W) (u z : Nat) (hu : u < NN) (hz : z < NN) => r46from NN A c E Al l.length cl F T hM u z hu hz W (h.grows g))
  have HN := hide hK.node
  have HM := hide hM
  have HR := hide h2
  clear h h2 hM hK
  go_enter Try.func22, Try.ntmps22
  go_upto_region 1 with fail
  obtain ⟨W0, hW0⟩ : ∃ W0, W0 = w.alloc (.cells #[.int .i64 (NN : Int), .slice A E.length c, .slice Al l.length cl] 39) := ⟨_, rfl⟩
  have a1 : Arr W0 w.heap.size 39 [.int .i64 (NN : Int), .slice A E.length c, .slice Al l.length cl] := by rw [hW0]; exact Arr.make _ _ _
  have hg0 : Grows w W0 := by rw [hW0]; exact (Grows.refl _).new _
  have hr0 := HR.out.grows hg0
  have HR := hide hr0
  clear hr0
  obtain ⟨x0, rfl⟩ := hg0.later
  rw [← hW0]
  clear hW0 hg0
  generalize w.heap.size = b0 at *
  go_wp2_with fail
  go_loopw [7, 8] (fun s7 s8 wr => ∃ k : Nat, k ≤ l.length ∧ s8 = .int .i64 (k : Int) ∧ s7 = .int .u64 (abvT F T l v t k : Int) ∧ ∃ y : Later x0.now, wr = y.now) (fun _ s8 _ => l.length - (Go.RowKit.intOf s8).toNat)
  case atStart => exact ⟨0, by omega, by go_num, rfl, ⟨_, Grows.refl _⟩, rfl⟩
  case round =>
    obtain ⟨k, hk, rfl, rfl, y, rfl⟩ := hrel
    by_cases hlt : k < l.length
    · obtain ⟨_, b, off, rfl, hc⟩ := HR.out.nodesH (by omega)
      have ck := hc k hlt
      have hnk := HN.out k hlt
      have hdk : decide ((k : Int) < (l.length : Int)) = true := decide_eq_true (by omega)
      have HS := hide (show abvT F T l v t (k + 1) = min (abvT F T l v t k) (gn (F v) (gn l k) + gn (F (gn l k)) t) from by
        show min _ (gn (T (gn l k)) v + _) = _
        rw [HM.out.turn v _ hv hnk])
      have hp := HM.out.le v _ hv hnk
      have hq := HM.out.le _ t hnk ht
      have hr := abvT_le F T l v t k
      obtain ⟨r1, hr1⟩ : ∃ r1, abvT F T l v t (k + 1) = r1 := ⟨_, rfl⟩
      rw [hr1] at HS
      have HR1 := hide hr1
      clear hr1
      generalize abvT F T l v t k = r0 at *
      generalize gn l k = u at *
      obtain ⟨p, hp1⟩ : ∃ p, gn (F v) u = p := ⟨_, rfl⟩
      obtain ⟨q, hq1⟩ : ∃ q, gn (F u) t = q := ⟨_, rfl⟩
      rw [hp1] at hp HS
      rw [hq1] at hq HS
      unfold farV at hp hq hr
      have HP1 := hide hp1
      have HQ1 := hide hq1
      clear hc hp1 hq1
      have HP := hide hp
      have HQ := hide hq
      have HRR := hide hr
      clear hp hq hr
      go_upto_region 5 with fail
      ((first | refine wp_region_gen (by kernel_rfl) (by kernel_rfl) ?_); (repeat' (first | (refine gLex_val0 rfl (by kernel_rfl) (fun K hK => ?_); (go_simp; (try (simp only [↓IntWalk.iteOmega]; try go_simp)); (try simp (disch := omega) only [IntWalk.i64_in]); (try simp (disch := omega) only [IntWalk.u64_in]); first | (refine hK _ ?_; clear hK K) | (apply Exists.intro; refine ⟨fun x => ?_, hK _ ?_⟩; (first | (go_at_call 73; exact CF.out _ (by repeat (first | exact Grows.refl _ | refine Grows.now ?_ _ | refine Grows.new ?_ _ | refine Grows.drewN ?_ _ | refine Grows.drew ?_ | assumption | (refine Grows.set ?_ (by first | omega | (simp; done) | (simp; omega)) _))) _ _ (by omega) (by omega))); clear hK K))) | (refine gLex_undef rfl rfl rfl (by kernel_rfl) (fun K hK => ?_); go_simp; refine hK _ ?_; clear hK K) | (refine gLex_ask rfl rfl rfl ?_; first | (apply gAsk_yes; kernel_rfl; intro K hK; (go_simp; (try (simp only [↓IntWalk.iteOmega]; try go_simp)); (try simp (disch := omega) only [IntWalk.i64_in]); (try simp (disch := omega) only [IntWalk.u64_in]); first | (refine hK _ ?_; clear hK K) | (apply Exists.intro; refine ⟨fun x => ?_, hK _ ?_⟩; (first | (go_at_call 73; exact CF.out _ (by repeat (first | exact Grows.refl _ | refine Grows.now ?_ _ | refine Grows.new ?_ _ | refine Grows.drewN ?_ _ | refine Grows.drew ?_ | assumption | (refine Grows.set ?_ (by first | omega | (simp; done) | (simp; omega)) _))) _ _ (by omega) (by omega))); clear hK K))) | ((first | apply gAsk_no1 | apply gAsk_no2); kernel_rfl; intro K hK; simp [go_sem]; refine hK _ ?_; clear hK K) | (apply gAsk_part; kernel_rfl; all_goals (intro h K hK; (try simp only [Bool.not_true] at h); (try simp only [Bool.not_false] at h); (try simp only [decide_eq_true_eq] at h); (try simp only [decide_eq_false_iff_not] at h); first | (exfalso; first | contradiction | omega) | (go_simp; (try (simp only [↓IntWalk.iteOmega]; try go_simp)); (try simp (disch := omega) only [IntWalk.i64_in]); (try simp (disch := omega) only [IntWalk.u64_in]); first | (refine hK _ ?_; clear hK K) | (apply Exists.intro; refine ⟨fun x => ?_, hK _ ?_⟩; (first | (go_at_call 73; exact CF.out _ (by repeat (first | exact Grows.refl _ | refine Grows.now ?_ _ | refine Grows.new ?_ _ | refine Grows.drewN ?_ _ | refine Grows.drew ?_ | assumption | (refine Grows.set ?_ (by first | omega | (simp; done) | (simp; omega)) _))) _ _ (by omega) (by omega))); clear hK K))))))); all_goals ((apply gLex_end); intro x))
      rw [HP1.out, HQ1.out]
      obtain ⟨pi, hpi⟩ : ∃ z : Int, (p : Int) = z := ⟨_, rfl⟩
      obtain ⟨qi, hqi⟩ : ∃ z : Int, (q : Int) = z := ⟨_, rfl⟩
      rw [hpi, hqi]
      have hp0 : 0 ≤ pi := by omega
      have hq0 : 0 ≤ qi := by omega
      have HPI := hide hpi
      have HQI := hide hqi
      clear hpi hqi
      by_cases h1 : pi < 4611686018427387904
      · have hd1 : decide (pi < 4611686018427387904) = true := decide_eq_true h1
        by_cases h2 : qi < 4611686018427387904
        · have hd2 : decide (qi < 4611686018427387904) = true := decide_eq_true h2
          have H1 := hide h1
          go_wp2_with fail
          go_roundw
          case measure => simp [Go.RowKit.intOf]; omega
          case rel => exact ⟨k + 1, by omega, by go_num, by rw [HR1.out]; exact congrArg (Value.int .u64) (by have := HS.out; have := HP.out; have := HQ.out; have := HRR.out; have := HPI.out; have := HQI.out; have := H1.out; (repeat' split) <;> omega), ⟨_, (by repeat (first | exact Grows.refl _ | refine Grows.now ?_ _ | refine Grows.new ?_ _ | refine Grows.drewN ?_ _ | refine Grows.drew ?_ | assumption | (refine Grows.set ?_ (by first | omega | (simp; done) | (simp; omega)) _)))⟩, rfl⟩
        · have hd2 : decide (qi < 4611686018427387904) = false := decide_eq_false h2
          have H1 := hide h2
          clear h1 h2
          go_wp2_with fail
          go_roundw
          case measure => simp [Go.RowKit.intOf]; omega
          case rel => exact ⟨k + 1, by omega, by go_num, by rw [HR1.out]; exact congrArg (Value.int .u64) (by have := HS.out; have := HP.out; have := HQ.out; have := HRR.out; have := HPI.out; have := HQI.out; have := H1.out; omega), ⟨_, (by repeat (first | exact Grows.refl _ | refine Grows.now ?_ _ | refine Grows.new ?_ _ | refine Grows.drewN ?_ _ | refine Grows.drew ?_ | assumption | (refine Grows.set ?_ (by first | omega | (simp; done) | (simp; omega)) _)))⟩, rfl⟩
      · have hd1 : decide (pi < 4611686018427387904) = false := decide_eq_false h1
        have H1 := hide h1
        clear h1
        go_wp2_with fail
        go_roundw
        case measure => simp [Go.RowKit.intOf]; omega
        case rel => exact ⟨k + 1, by omega, by go_num, by rw [HR1.out]; exact congrArg (Value.int .u64) (by have := HS.out; have := HP.out; have := HQ.out; have := HRR.out; have := HPI.out; have := HQI.out; have := H1.out; omega), ⟨_, (by repeat (first | exact Grows.refl _ | refine Grows.now ?_ _ | refine Grows.new ?_ _ | refine Grows.drewN ?_ _ | refine Grows.drew ?_ | assumption | (refine Grows.set ?_ (by first | omega | (simp; done) | (simp; omega)) _)))⟩, rfl⟩
    · obtain rfl : k = l.length := by omega
      have hdk : decide ((l.length : Int) < (l.length : Int)) = false := decide_eq_false (by omega)
      go_wp2_with fail
      go_ret
      exact ⟨rfl, (by repeat (first | exact Grows.refl _ | refine Grows.now ?_ _ | refine Grows.new ?_ _ | refine Grows.drewN ?_ _ | refine Grows.drew ?_ | assumption | (refine Grows.set ?_ (by first | omega | (simp; done) | (simp; omega)) _)))⟩
end Go.Proofs.Ytiljgkaffgclgaa

/- Contract: are all landmarks nodes, by the answer. -/
namespace Go.Proofs.Ytiljgkaffgclgaa
open Go Go.RowKit
set_option maxRecDepth 20000 in
set_option maxHeartbeats 4000000 in
theorem r25Nodes (N : Int) (A : Value) (Al : Option Addr) (cl : Nat) (l : List Int) (w : World) (h : Rd w Al 1 l.length (l.map (.int .i64))) (hl : l.length ≤ 1000000) :
    Calls Try.prog 17 #[.agg #[.int .i64 N, A], .slice Al l.length cl] w fun e w' => e = .returned (.bool (l.all (nodeB N))) ∧ Grows w w' := by
  have HR := hide h
  clear h
  go_enter Try.func17, Try.ntmps17
  go_upto_region 1 with fail
  obtain ⟨W0, hW0⟩ : ∃ W0, W0 = w.alloc (.cells #[.int .i64 N, A] 24) := ⟨_, rfl⟩
  have a1 : Arr W0 w.heap.size 24 [.int .i64 N, A] := by rw [hW0]; exact Arr.make _ _ _
  have hg0 : Grows w W0 := by rw [hW0]; exact (Grows.refl _).new _
  have hr0 := HR.out.grows hg0
  have HR := hide hr0
  clear hr0
  obtain ⟨x0, rfl⟩ := hg0.later
  rw [← hW0]
  clear hW0 hg0
  generalize w.heap.size = b0 at *
  go_wp2_with fail
  go_loopw [5] (fun s5 wr => ∃ k : Nat, k ≤ l.length ∧ s5 = .int .i64 (k : Int) ∧ (∀ j, j < k → nodeB N (gi l j) = true) ∧ ∃ y : Later x0.now, wr = y.now) (fun s5 _ => l.length - (Go.RowKit.intOf s5).toNat)
  case atStart => exact ⟨0, by omega, by go_num, (fun j h => absurd h (by omega)), ⟨_, Grows.refl _⟩, rfl⟩
  case round =>
    obtain ⟨k, hk, rfl, hall, y, rfl⟩ := hrel
    have HA := hide hall
    clear hall
    by_cases hlt : k < l.length
    · obtain ⟨b, off, rfl, hc⟩ := HR.out.intsH (by omega)
      have ck := hc k hlt
      have hdk : decide ((k : Int) < (l.length : Int)) = true := decide_eq_true (by omega)
      have HX := hide (show nodeB N (gi l k) = true → ∀ j, j < k + 1 → nodeB N (gi l j) = true from fun h j hjk => by
        by_cases e1 : j = k
        · subst e1; exact h
        · exact HA.out j (by omega))
      have HY := hide (show nodeB N (gi l k) = false → l.all (nodeB N) = false from fun h => by
        rw [List.all_eq_false]
        have e1 : gi l k = l[k] := by simp [gi, hlt]
        exact ⟨l[k], List.getElem_mem _, by rw [← e1, h]; simp⟩)
      generalize gi l k = z at *
      clear hc
      by_cases h1 : z < 0
      · have hd1 : decide (z < 0) = true := decide_eq_true h1
        have HZ := hide (HY.out (decide_eq_false (by omega)))
        clear HX HY
        go_upto_region 4 with fail
        ((first | refine wp_region_gen (by kernel_rfl) (by kernel_rfl) ?_); (repeat' (first | (refine gLex_val0 rfl (by kernel_rfl) (fun K hK => ?_); (go_simp; (try (simp only [↓IntWalk.iteOmega]; try go_simp)); (try simp (disch := omega) only [IntWalk.i64_in]); (try simp (disch := omega) only [IntWalk.u64_in]); first | (refine hK _ ?_; clear hK K) | (apply Exists.intro; refine ⟨fun x => ?_, hK _ ?_⟩; (first | fail); clear hK K))) | (refine gLex_undef rfl rfl rfl (by kernel_rfl) (fun K hK => ?_); go_simp; refine hK _ ?_; clear hK K) | (refine gLex_ask rfl rfl rfl ?_; first | (apply gAsk_yes; kernel_rfl; intro K hK; (go_simp; (try (simp only [↓IntWalk.iteOmega]; try go_simp)); (try simp (disch := omega) only [IntWalk.i64_in]); (try simp (disch := omega) only [IntWalk.u64_in]); first | (refine hK _ ?_; clear hK K) | (apply Exists.intro; refine ⟨fun x => ?_, hK _ ?_⟩; (first | fail); clear hK K))) | ((first | apply gAsk_no1 | apply gAsk_no2); kernel_rfl; intro K hK; simp [go_sem]; refine hK _ ?_; clear hK K) | (apply gAsk_part; kernel_rfl; all_goals (intro h K hK; (try simp only [Bool.not_true] at h); (try simp only [Bool.not_false] at h); (try simp only [decide_eq_true_eq] at h); (try simp only [decide_eq_false_iff_not] at h); first | (exfalso; first | contradiction | omega) | (go_simp; (try (simp only [↓IntWalk.iteOmega]; try go_simp)); (try simp (disch := omega) only [IntWalk.i64_in]); (try simp (disch := omega) only [IntWalk.u64_in]); first | (refine hK _ ?_; clear hK K) | (apply Exists.intro; refine ⟨fun x => ?_, hK _ ?_⟩; (first | fail); clear hK K))))))); all_goals ((apply gLex_end); intro x))
        go_wp2_with fail
        go_ret
        exact ⟨by rw [HZ.out]; rfl, (by repeat (first | exact Grows.refl _ | refine Grows.now ?_ _ | refine Grows.new ?_ _ | refine Grows.drewN ?_ _ | refine Grows.drew ?_ | assumption | (refine Grows.set ?_ (by first | omega | (simp; done) | (simp; omega)) _)))⟩
      · have hd1 : decide (z < 0) = false := decide_eq_false h1
        by_cases h2 : N ≤ z
        · have hd2 : decide (N ≤ z) = true := decide_eq_true h2
          have HZ := hide (HY.out (decide_eq_false (by omega)))
          clear HX HY
          go_upto_region 4 with fail
          ((first | refine wp_region_gen (by kernel_rfl) (by kernel_rfl) ?_); (repeat' (first | (refine gLex_val0 rfl (by kernel_rfl) (fun K hK => ?_); (go_simp; (try (simp only [↓IntWalk.iteOmega]; try go_simp)); (try simp (disch := omega) only [IntWalk.i64_in]); (try simp (disch := omega) only [IntWalk.u64_in]); first | (refine hK _ ?_; clear hK K) | (apply Exists.intro; refine ⟨fun x => ?_, hK _ ?_⟩; (first | fail); clear hK K))) | (refine gLex_undef rfl rfl rfl (by kernel_rfl) (fun K hK => ?_); go_simp; refine hK _ ?_; clear hK K) | (refine gLex_ask rfl rfl rfl ?_; first | (apply gAsk_yes; kernel_rfl; intro K hK; (go_simp; (try (simp only [↓IntWalk.iteOmega]; try go_simp)); (try simp (disch := omega) only [IntWalk.i64_in]); (try simp (disch := omega) only [IntWalk.u64_in]); first | (refine hK _ ?_; clear hK K) | (apply Exists.intro; refine ⟨fun x => ?_, hK _ ?_⟩; (first | fail); clear hK K))) | ((first | apply gAsk_no1 | apply gAsk_no2); kernel_rfl; intro K hK; simp [go_sem]; refine hK _ ?_; clear hK K) | (apply gAsk_part; kernel_rfl; all_goals (intro h K hK; (try simp only [Bool.not_true] at h); (try simp only [Bool.not_false] at h); (try simp only [decide_eq_true_eq] at h); (try simp only [decide_eq_false_iff_not] at h); first | (exfalso; first | contradiction | omega) | (go_simp; (try (simp only [↓IntWalk.iteOmega]; try go_simp)); (try simp (disch := omega) only [IntWalk.i64_in]); (try simp (disch := omega) only [IntWalk.u64_in]); first | (refine hK _ ?_; clear hK K) | (apply Exists.intro; refine ⟨fun x => ?_, hK _ ?_⟩; (first | fail); clear hK K))))))); all_goals ((apply gLex_end); intro x))
          go_wp2_with fail
          go_ret
          exact ⟨by rw [HZ.out]; rfl, (by repeat (first | exact Grows.refl _ | refine Grows.now ?_ _ | refine Grows.new ?_ _ | refine Grows.drewN ?_ _ | refine Grows.drew ?_ | assumption | (refine Grows.set ?_ (by first | omega | (simp; done) | (simp; omega)) _)))⟩
        · have hd2 : decide (N ≤ z) = false := decide_eq_false h2
          have HZ := hide (HX.out (decide_eq_true (by omega)))
          clear HX HY
          go_upto_region 4 with fail
          ((first | refine wp_region_gen (by kernel_rfl) (by kernel_rfl) ?_); (repeat' (first | (refine gLex_val0 rfl (by kernel_rfl) (fun K hK => ?_); (go_simp; (try (simp only [↓IntWalk.iteOmega]; try go_simp)); (try simp (disch := omega) only [IntWalk.i64_in]); (try simp (disch := omega) only [IntWalk.u64_in]); first | (refine hK _ ?_; clear hK K) | (apply Exists.intro; refine ⟨fun x => ?_, hK _ ?_⟩; (first | fail); clear hK K))) | (refine gLex_undef rfl rfl rfl (by kernel_rfl) (fun K hK => ?_); go_simp; refine hK _ ?_; clear hK K) | (refine gLex_ask rfl rfl rfl ?_; first | (apply gAsk_yes; kernel_rfl; intro K hK; (go_simp; (try (simp only [↓IntWalk.iteOmega]; try go_simp)); (try simp (disch := omega) only [IntWalk.i64_in]); (try simp (disch := omega) only [IntWalk.u64_in]); first | (refine hK _ ?_; clear hK K) | (apply Exists.intro; refine ⟨fun x => ?_, hK _ ?_⟩; (first | fail); clear hK K))) | ((first | apply gAsk_no1 | apply gAsk_no2); kernel_rfl; intro K hK; simp [go_sem]; refine hK _ ?_; clear hK K) | (apply gAsk_part; kernel_rfl; all_goals (intro h K hK; (try simp only [Bool.not_true] at h); (try simp only [Bool.not_false] at h); (try simp only [decide_eq_true_eq] at h); (try simp only [decide_eq_false_iff_not] at h); first | (exfalso; first | contradiction | omega) | (go_simp; (try (simp only [↓IntWalk.iteOmega]; try go_simp)); (try simp (disch := omega) only [IntWalk.i64_in]); (try simp (disch := omega) only [IntWalk.u64_in]); first | (refine hK _ ?_; clear hK K) | (apply Exists.intro; refine ⟨fun x => ?_, hK _ ?_⟩; (first | fail); clear hK K))))))); all_goals ((apply gLex_end); intro x))
          go_wp2_with fail
          go_roundw
          case measure => simp [Go.RowKit.intOf]; omega
          case rel => exact ⟨k + 1, by omega, by go_num, HZ.out, ⟨_, (by repeat (first | exact Grows.refl _ | refine Grows.now ?_ _ | refine Grows.new ?_ _ | refine Grows.drewN ?_ _ | refine Grows.drew ?_ | assumption | (refine Grows.set ?_ (by first | omega | (simp; done) | (simp; omega)) _)))⟩, rfl⟩
    · obtain rfl : k = l.length := by omega
      have hdk : decide ((l.length : Int) < (l.length : Int)) = false := decide_eq_false (by omega)
      have HV := hide (show l.all (nodeB N) = true from by
        rw [List.all_eq_true]
        intro x hx
        obtain ⟨j, hj, rfl⟩ := List.mem_iff_getElem.1 hx
        have e1 : gi l j = l[j] := by simp [gi, hj]
        rw [← e1]
        exact HA.out j hj)
      go_wp2_with fail
      go_ret
      exact ⟨by rw [HV.out]; rfl, (by repeat (first | exact Grows.refl _ | refine Grows.now ?_ _ | refine Grows.new ?_ _ | refine Grows.drewN ?_ _ | refine Grows.drew ?_ | assumption | (refine Grows.set ?_ (by first | omega | (simp; done) | (simp; omega)) _)))⟩
/-- Is a graph small, and are landmarks few? -/
def light46 (N : Int) (n m : Nat) : Bool := lightG N n && (decide (N ≤ 10) || decide (4096 < N)) && decide (n ≤ 60) && (decide (m ≤ 6) || (decide (64 < m) && decide (m < 100)))
set_option maxRecDepth 20000 in
set_option maxHeartbeats 2000000 in
theorem lLight46 (N : Int) (A : Option Addr) (n c : Nat) (Al : Option Addr) (m cl : Nat) (w : World) : Calls Try.prog 13 #[.agg #[.int .i64 N, .slice A n c], .slice Al m cl] w fun e w' => e = .returned (.bool (light46 N n m)) ∧ Grows w w' := by
  have C := hide (fun (W : World) => lLight N A n c W)
  have HD : Hid (light46 N n m = (lightG N n && (decide (N ≤ 10) || decide (4096 < N)) && decide (n ≤ 60) && (decide (m ≤ 6) || (decide (64 < m) && decide (m < 100))))) := rfl
  generalize light46 N n m = r at *
  generalize lightG N n = q at *
  go_enter Try.func13, Try.ntmps13
  go_wp2_with (go_at_call 29; refine (C.out _).mono ?_; rintro e w' ⟨rfl, hg⟩; obtain ⟨x1, rfl⟩ := hg.later; clear hg)
  all_goals go_ret
  all_goals exact ⟨ret_bool (by rw [HD.out]; apply bool_ext; simp_all; try omega), (by repeat (first | exact Grows.refl _ | refine Grows.now ?_ _ | refine Grows.new ?_ _ | refine Grows.drewN ?_ _ | refine Grows.drew ?_ | assumption | (refine Grows.set ?_ (by first | omega | (simp; done) | (simp; omega)) _)))⟩
end Go.Proofs.Ytiljgkaffgclgaa

/- Contracts: are all nodes, by the program. -/
namespace Go.Proofs.Ytiljgkaffgclgaa
open Go Go.RowKit
set_option maxRecDepth 20000 in
set_option maxHeartbeats 2000000 in
theorem mkNodes01 (N e : Int) (bx gm : Nat) (A : Option Addr) (n c : Nat) (w : World) (h1 : Holds w ⟨bx, 0, none⟩ (.pointer (some ⟨gm, 0, none⟩))) (h2 : Holds w ⟨gm, 0, none⟩ (.int .i64 N)) (h3 : Holds w ⟨gm, 1, none⟩ (.slice A n c)) :
    Calls Try.prog 118 #[.int .i64 e, .pointer (some ⟨bx, 0, none⟩)] w fun x w' => x = .returned (.bool (!nodeB N e)) ∧ Grows w w' := by
  have C := hide (fun (W : World) => gNode N e (.slice A n c) W)
  generalize nodeB N e = r at *
  go_enter Try.func118, Try.ntmps118
  go_wp2_with (go_at_call 65; refine (C.out _).mono ?_; rintro e w' ⟨rfl, hg⟩; obtain ⟨x1, rfl⟩ := hg.later; clear hg)
  all_goals go_ret
  all_goals exact ⟨rfl, (by repeat (first | exact Grows.refl _ | refine Grows.now ?_ _ | refine Grows.new ?_ _ | refine Grows.drewN ?_ _ | refine Grows.drew ?_ | assumption | (refine Grows.set ?_ (by first | omega | (simp; done) | (simp; omega)) _)))⟩
set_option maxRecDepth 20000 in
set_option maxHeartbeats 4000000 in
theorem mkNodes0 (N : Int) (gm : Nat) (A : Option Addr) (n c : Nat) (B : Option Addr) (nb cb : Nat) (L : List Int) (w : World) (h2 : Holds w ⟨gm, 0, none⟩ (.int .i64 N)) (h3 : Holds w ⟨gm, 1, none⟩ (.slice A n c)) (hB : Rd w B 1 nb (L.map (.int .i64))) (hn : nb ≤ 1000000) :
    Calls Try.prog 71 #[.pointer (some ⟨gm, 0, none⟩), .slice B nb cb] w fun x w' => x = .returned (.bool (!(L.any fun e => !nodeB N e))) ∧ Grows w w' := by
  have C := hide (fun (W : World) (g : Grows w W) (bx : Nat) (h1 : Holds W ⟨bx, 0, none⟩ (.pointer (some ⟨gm, 0, none⟩))) => show Calls Try.prog 63 #[.slice B nb cb, .func (.func 118) #[] #[.pointer (some ⟨bx, 0, none⟩)]] W fun e w' => e = .returned (.bool (L.any fun e => !nodeB N e)) ∧ Grows W w' from
    containsI B nb cb L 118 #[.pointer (some ⟨bx, 0, none⟩)] (fun e => !nodeB N e) W (hB.grows g) hn (fun args W => by kernel_rfl) (fun W2 g2 e => mkNodes01 N e bx gm A n c W2 ⟨g2.keeps h1.cell⟩ ⟨(g.trans g2).keeps h2.cell⟩ ⟨(g.trans g2).keeps h3.cell⟩))
  generalize (L.any fun e => !nodeB N e) = r at *
  clear hB
  go_enter Try.func71, Try.ntmps71
  go_upto_region 1 with fail
  obtain ⟨W0, hW0⟩ : ∃ W0, W0 = w.alloc (.cells #[.pointer (some ⟨gm, 0, none⟩)] 28) := ⟨_, rfl⟩
  have a1 : Arr W0 w.heap.size 28 [.pointer (some ⟨gm, 0, none⟩)] := by rw [hW0]; exact Arr.make _ _ _
  have hg0 : Grows w W0 := by rw [hW0]; exact (Grows.refl _).new _
  obtain ⟨x0, rfl⟩ := hg0.later
  rw [← hW0]
  clear hW0 hg0
  generalize w.heap.size = b0 at *
  go_wp2_with (go_at_call 63; refine (C.out _ (by repeat (first | exact Grows.refl _ | refine Grows.now ?_ _ | refine Grows.new ?_ _ | refine Grows.drewN ?_ _ | refine Grows.drew ?_ | assumption | (refine Grows.set ?_ (by first | omega | (simp; done) | (simp; omega)) _))) _ inferInstance).mono ?_; rintro e w' ⟨rfl, hg⟩; obtain ⟨x1, rfl⟩ := hg.later; clear hg)
  all_goals go_ret
  all_goals exact ⟨rfl, (by repeat (first | exact Grows.refl _ | refine Grows.now ?_ _ | refine Grows.new ?_ _ | refine Grows.drewN ?_ _ | refine Grows.drew ?_ | assumption | (refine Grows.set ?_ (by first | omega | (simp; done) | (simp; omega)) _)))⟩
theorem nv_one (L : List Nat) : ∀ u ∈ nv L, u.oneCell' = true := by
  intro u hu
  unfold nv at hu
  obtain ⟨x, _, rfl⟩ := List.mem_map.1 hu
  rfl
set_option maxRecDepth 20000 in
set_option maxHeartbeats 2000000 in
theorem cloneV (A : Option Addr) (n c : Nat) (E : List Nat) (w : World) (h : Rd w A 1 n (nv E)) (hn : n ≤ 1000000) :
    Calls Try.prog 67 #[.slice A n c] w fun e w' => ∃ A' c', e = .returned (.slice A' n c') ∧ Own w' w.heap.size 3 1 A' n c' (nv E) ∧ Grows w w' := by
  have hl : E.length = n := by have := h.len; rw [nv_len] at this; omega
  cases A with
  | none =>
    have hn0 : n = 0 := by
      rcases Nat.eq_zero_or_pos n with h0 | h0
      · exact h0
      · obtain ⟨_, _, e, _⟩ := h.2 h0 (by omega); cases e
    subst hn0
    have hE : E = [] := List.eq_nil_of_length_eq_zero hl
    subst hE
    clear h hl
    have hnil := fun (w : World) (a : Option Addr) (n c n' c' : Nat) => Lib.run_eql_slice_nil (P := Try.prog) w 25 3 a n c n' c' Try.underlying25
    go_enter Try.func67, Try.ntmps67
    go_wp2
    go_ret
    exact ⟨none, 0, rfl, Own.nil _ _ _ _, (by repeat (first | exact Grows.refl _ | refine Grows.now ?_ _ | refine Grows.new ?_ _ | refine Grows.drewN ?_ _ | refine Grows.drew ?_ | assumption | (refine Grows.set ?_ (by first | omega | (simp; done) | (simp; omega)) _)))⟩
  | some ad =>
    have HR := hide h
    clear h hl
    have hnil := fun (w : World) (a : Option Addr) (n c n' c' : Nat) => Lib.run_eql_slice_nil (P := Try.prog) w 25 3 a n c n' c' Try.underlying25
    go_enter Try.func67, Try.ntmps67
    go_wp2_with (at_builtin; refine wp_appAll elemInt rfl _ _ rfl w (by repeat (first | exact Grows.refl _ | refine Grows.now ?_ _ | refine Grows.new ?_ _ | refine Grows.drewN ?_ _ | refine Grows.drew ?_ | assumption | (refine Grows.set ?_ (by first | omega | (simp; done) | (simp; omega)) _))) 0 0 _ [] rfl (Own.empty _ _ _ _ (Nat.le_refl _)) ad n c _ rfl (HR.out.grows (by repeat (first | exact Grows.refl _ | refine Grows.now ?_ _ | refine Grows.new ?_ _ | refine Grows.drewN ?_ _ | refine Grows.drew ?_ | assumption | (refine Grows.set ?_ (by first | omega | (simp; done) | (simp; omega)) _)))) (nv_one E) (by omega) ?_; intro A3 c3 y3 hown3; have HO3 := hide hown3; clear hown3)
    go_ret
    exact ⟨A3, c3, by first | rfl | (simp; done) | (rw [Nat.zero_add]; rfl), by have := HO3.out; rwa [Nat.zero_add, List.nil_append] at this, (by repeat (first | exact Grows.refl _ | refine Grows.now ?_ _ | refine Grows.new ?_ _ | refine Grows.drewN ?_ _ | refine Grows.drew ?_ | assumption | (refine Grows.set ?_ (by first | omega | (simp; done) | (simp; omega)) _)))⟩
set_option maxRecDepth 20000 in
set_option maxHeartbeats 2000000 in
theorem mkNodes (gm : Nat) (Al : Option Addr) (cl : Nat) (l : List Nat) (w : World) (h : Holds w ⟨gm, 2, none⟩ (.slice Al l.length cl)) (h2 : Rd w Al 1 l.length (nv l)) (hl : l.length ≤ 1000000) :
    Calls Try.prog 24 #[.pointer (some ⟨gm, 0, none⟩)] w fun e w' => ∃ A' c', e = .returned (.slice A' l.length c') ∧ Rd w' A' 1 l.length (nv l) ∧ Grows w w' := by
  have C := hide (cloneV Al l.length cl l w h2 hl)
  clear h2
  go_enter Try.func24, Try.ntmps24
  go_wp2_with fail
  refine C.out.mono ?_; rintro e w' ⟨A', c', rfl, ho, hg⟩
  have HO := hide ho.rd
  clear ho
  obtain ⟨x1, rfl⟩ := hg.later
  clear hg
  go_wp2_with fail
  go_ret
  exact ⟨A', c', rfl, HO.out, (by repeat (first | exact Grows.refl _ | refine Grows.now ?_ _ | refine Grows.new ?_ _ | refine Grows.drewN ?_ _ | refine Grows.drew ?_ | assumption | (refine Grows.set ?_ (by first | omega | (simp; done) | (simp; omega)) _)))⟩
end Go.Proofs.Ytiljgkaffgclgaa
