/- The law BridgeRows: for every input it returns true, and each argument reads as before. No condition. -/
import Derived.Test.YtomednfddpggaaaGreatQBridgeRows01
import Derived.Test.YtomednfddpggaaaGreatQBridgeRows07
import Derived.Test.YtomednfddpggaaaGreatQBridgeRows14
import Derived.Deep.DeepCutAuto
import Derived.Test.YtomednfddpggaaaGreatQBridgeRows16
import Derived.Test.YtomednfddpggaaaGreatQBridgeRows21
import Derived.Test.YtomednfddpggaaaGreatQBridgeRows28
/- Contracts: the nodes of a row of edges. -/
namespace Go.Proofs.YtomednfddpggaaaGreat
open Go Go.RowKit
def ndI (E : List Edg) (s : Int) (l : List Int) : Nat → Int
  | 0 => s
  | k + 1 => (ge E (gi l k).toNat).t
def lkB (E : List Edg) (s : Int) (l : List Int) : Nat → Bool
  | 0 => true
  | k + 1 => lkB E s l k && decide ((ge E (gi l k).toNat).f = ndI E s l k)
theorem lkB_mono {E : List Edg} {s : Int} {l : List Int} {j : Nat} (h : lkB E s l j = false) : ∀ k, lkB E s l (j + k) = false
  | 0 => h
  | k + 1 => by show (lkB E s l (j + k) && _) = false; rw [lkB_mono h k]; rfl
def ndL (E : List Edg) (s : Int) (l : List Int) (k : Nat) : List Int := (List.range k).map (ndI E s l)
theorem ndL_succ (E : List Edg) (s : Int) (l : List Int) (k : Nat) : ndL E s l (k + 1) = ndL E s l k ++ [ndI E s l k] := by unfold ndL; rw [List.range_succ, List.map_append]; rfl
theorem ndL_len (E : List Edg) (s : Int) (l : List Int) (k : Nat) : (ndL E s l k).length = k := by simp [ndL]
theorem ndL_at (E : List Edg) (s : Int) (l : List Int) (k j : Nat) (h : j < k) : gi (ndL E s l k) j = ndI E s l j := by simp [gi, ndL, h]
def isB (N : Int) (E : List Edg) (s : Int) (l : List Int) : Bool := edgesB N E l && (nodeB N s && lkB E s l l.length)
def nodesL (N : Int) (E : List Edg) (s : Int) (l : List Int) : List Int := if isB N E s l then ndL E s l (l.length + 1) else []
def GiveIB (w : World) (l : List Int) (b : Bool) (e : Ending) (w' : World) : Prop := ∃ A c, e = .returned (.tuple #[.slice A l.length c, .bool b]) ∧ Rd w' A 1 l.length (l.map (.int .i64)) ∧ Grows w w'
def GiveIBc (w : World) (l : List Int) (b : Bool) (e : Ending) (w' : World) : Prop := ∃ A c, e = .returned (.tuple #[.slice A l.length c, .bool b]) ∧ l.length ≤ c ∧ Rd w' A 1 l.length (l.map (.int .i64)) ∧ Grows w w'
theorem Own.cap {w : World} {B n c size : Nat} {e : TypeId} {A : Option Addr} {xs : List Value} (h : Own w B e size A n c xs) : n ≤ c := by
  rcases Nat.eq_zero_or_pos n with h0 | h0
  · omega
  · obtain ⟨_, _, _, _, _, h1, _⟩ := h.at_ h0
    exact h1
theorem edges_in {N : Int} {E : List Edg} {l : List Int} (h : edgesB N E l = true) {k : Nat} (hk : k < l.length) : 0 ≤ gi l k ∧ (gi l k).toNat < E.length := by
  unfold edgesB at h
  simp only [Bool.and_eq_true, Bool.not_eq_true', List.any_eq_false] at h
  have := h.2 _ (gi_mem hk)
  unfold edgeB at this
  simp at this
  omega
end Go.Proofs.YtomednfddpggaaaGreat

/- Contract: is a row of edges a way on which no node comes twice? -/
namespace Go.Proofs.YtomednfddpggaaaGreat
open Go Go.RowKit
def oneB (l : List Int) (k : Nat) : Bool := decide (∀ j, j < k → gi l j ∉ l.take j)
def simB (N : Int) (E : List Edg) (s : Int) (l : List Int) : Bool := isB N E s l && oneB (nodesL N E s l) (nodesL N E s l).length
end Go.Proofs.YtomednfddpggaaaGreat

/- Plain law: the way that is followed is a simple way to its end. -/
namespace Go.Proofs.YtomednfddpggaaaGreat
open Go Go.RowKit
def ciL (l : List Nat) : List Int := l.map fun (i : Nat) => (i : Int)
theorem ciL_len (l : List Nat) : (ciL l).length = l.length := by simp [ciL]
theorem ciL_gi {l : List Nat} {k : Nat} (h : k < l.length) : gi (ciL l) k = (l[k] : Int) := by simp [ciL, gi, h]
def ndsN (E : List Edg) (v : Nat) (l : List Nat) : List Nat := v :: l.map (tN E)
theorem Fol.link {x : Srch} {d : List Nat} {t v : Nat} {l : List Nat} (h : Fol x d t v l) : ∀ k (hk : k < l.length), fN x.E l[k] = (ndsN x.E v l)[k]'(by simp [ndsN]; omega) := by
  induction h with
  | here => intro k hk; simp at hk
  | @step v i l hne hi hfi hb hl hfol ih =>
    intro k hk
    match k, hk with
    | 0, _ => simpa [ndsN] using hfi
    | k + 1, hk =>
      have := ih k (by simpa using hk)
      simpa [ndsN] using this
theorem Fol.last {x : Srch} {d : List Nat} {t v : Nat} {l : List Nat} (h : Fol x d t v l) : (ndsN x.E v l)[l.length]'(by simp [ndsN]) = t := by
  induction h with
  | here => rfl
  | @step v i l hne hi hfi hb hl hfol ih => simpa [ndsN] using ih
theorem ndI_is {N : Nat} {E : List Edg} (hE : InN N E) {v : Nat} {l : List Nat} (hl : ∀ i ∈ l, i < E.length) : ∀ k (hk : k ≤ l.length), ndI E (v : Int) (ciL l) k = ((ndsN E v l)[k]'(by simp [ndsN]; omega) : Int)
  | 0, _ => rfl
  | k + 1, hk => by
    have hk' : k < l.length := by omega
    show (ge E (gi (ciL l) k).toNat).t = _
    rw [ciL_gi hk', Int.toNat_natCast, (hE.t _ (hl _ (List.getElem_mem hk'))).2]
    simp [ndsN]
theorem lkB_is {N : Nat} {x : Srch} {d : List Nat} {t v : Nat} {l : List Nat} (hE : InN N x.E) (h : Fol x d t v l) : ∀ k, k ≤ l.length → lkB x.E (v : Int) (ciL l) k = true
  | 0, _ => rfl
  | k + 1, hk => by
    have hk' : k < l.length := by omega
    show (lkB x.E (v : Int) (ciL l) k && decide ((ge x.E (gi (ciL l) k).toNat).f = ndI x.E v (ciL l) k)) = true
    rw [lkB_is hE h k (by omega), ndI_is hE h.edges k (by omega), ciL_gi hk', Int.toNat_natCast, (hE.f _ (h.edges _ (List.getElem_mem hk'))).2, h.link k hk']
    simp
theorem Fol.isB {N : Nat} {x : Srch} {d : List Nat} {t v : Nat} {l : List Nat} (hE : InN N x.E) (h : Fol x d t v l) (hr : rightF N x.E = 0) (hv : v < N) : isB N x.E (v : Int) (ciL l) = true := by
  unfold Go.Proofs.YtomednfddpggaaaGreat.isB edgesB
  rw [ciL_len, lkB_is hE h _ (Nat.le_refl _), decide_eq_true hr, show nodeB (N : Int) (v : Int) = true from decide_eq_true ⟨by omega, by omega⟩]
  have : (ciL l).any (fun e => !edgeB x.E.length e) = false := by
    rw [List.any_eq_false]
    intro e he
    obtain ⟨i, hi, rfl⟩ := List.mem_map.1 he
    have := h.edges i hi
    unfold edgeB
    simp
    omega
  rw [this]
  rfl
theorem Fol.nodesL {N : Nat} {x : Srch} {d : List Nat} {t v : Nat} {l : List Nat} (hE : InN N x.E) (h : Fol x d t v l) (hr : rightF N x.E = 0) (hv : v < N) : nodesL N x.E (v : Int) (ciL l) = ciL (ndsN x.E v l) := by
  unfold Go.Proofs.YtomednfddpggaaaGreat.nodesL
  rw [if_pos (h.isB hE hr hv), ciL_len]
  refine List.ext_getElem (by simp [ndL_len, ciL, ndsN]) fun k h1 h2 => ?_
  have hk : k ≤ l.length := by rw [ndL_len] at h1; omega
  have e := ndI_is hE (v := v) h.edges k hk
  simp only [ndL, List.getElem_map, List.getElem_range, ciL]
  exact e
theorem oneB_is {L : List Nat} (h : L.Nodup) : oneB (ciL L) (ciL L).length = true := by
  refine decide_eq_true fun j hj hm => ?_
  rw [ciL_len] at hj
  rw [ciL_gi hj] at hm
  have e : (ciL L).take j = ciL (L.take j) := by simp [ciL, List.map_take]
  rw [e] at hm
  obtain ⟨i, hi, he⟩ := List.mem_map.1 hm
  have he : i = L[j] := by omega
  subst he
  obtain ⟨k, hk, hke⟩ := List.getElem_of_mem hi
  simp at hk
  rw [List.getElem_take] at hke
  exact List.pairwise_iff_getElem.1 h k j (by omega) hj (by omega) hke
theorem Fol.simple {N : Nat} {x : Srch} {d : List Nat} {t v : Nat} {l : List Nat} (hn : Near x d t) (hE : InN N x.E) (h : Fol x d t v l) (hr : rightF N x.E = 0) (hv : v < N) (hv2 : v < x.N) : simB N x.E (v : Int) (ciL l) = true := by
  unfold simB
  rw [h.isB hE hr hv, h.nodesL hE hr hv, Bool.true_and]
  exact oneB_is (h.nodup hn hv2)
end Go.Proofs.YtomednfddpggaaaGreat

/- Plain law: how far the end is from any node, by the search from there and by the one turned round. -/
namespace Go.Proofs.YtomednfddpggaaaGreat
open Go Go.RowKit
def freeO (W : List Nat) : DOpt := ⟨false, [], [], W, 0⟩
theorem one_turned {NN sN tN u : Nat} {E : List Edg} {W : List Nat} {ys : List (Nat × Nat)} (hx : PathOk NN sN tN E (freeO W) ys) (hu : u < NN) :
    ∃ xs, WalkOk NN u E (freeO W) ∧ dcF NN u E W = 0 ∧ (if (u : Int) ∈ (freeO W).nn then xs = [] else Trace (srchOf NN E (freeO W)) (reachS (freeO W).most (st0 NN) u 0) xs) ∧ (xs.map Prod.fst).Nodup ∧
      (∀ f, (tN, f) ∈ xs → f = gn (outL NN ys) u ∧ f < farV) ∧ (tN ∉ xs.map Prod.fst → gn (outL NN ys) u = farV) := by
  have hb := hx.bound.1
  have ht := hx.ok.node
  have hdu : dcF NN u E W = 0 := dc_node hx.dcs ⟨by omega, by omega⟩
  have hok : WalkOk NN u E (freeO W) := ⟨hx.ok.right, hu, hx.ok.wts, by show (0 : Nat) < _; omega, by show 0 ≤ _; omega, by show 0 ≤ _; omega⟩
  obtain ⟨xs, h1, h2, h3⟩ := walk_is hok hx.wb (Nat.le_refl _) (by simp [freeO])
  have hf := hx.far (by simp [freeO])
  have hc : ∀ i, cntE (srchOf NN E (freeO W)) i = true := fun i => by simp [cntE, srchOf, freeO]
  have hc2 : ∀ i, cntE (turnX (srchOf NN E (freeO W))) i = true := fun i => by simp [cntE, srchOf, freeO, turnX]
  have e := h2.turned (t := tN) (ys := ys) hf hb rfl (fun i _ => hc2 i) (fun i _ => hc i) hu ht
  have e : gn (outL NN ys) u = gn (outL NN xs) tN := e
  refine ⟨xs, hok, hdu, h1, h2.nodup, fun f hfx => ?_, fun hn => ?_⟩
  · have e2 := outL_at (N := NN) h2.nodup ht hfx
    have h5 : f ≤ NN * 17592186044416 := (h2.way _ _ hfx).2.2.2
    exact ⟨by rw [e, e2], by omega⟩
  · rw [e]
    exact outL_no ht hn
end Go.Proofs.YtomednfddpggaaaGreat

/- Contract: how far one node is, by the shortest way's own answer. -/
namespace Go.Proofs.YtomednfddpggaaaGreat
open Go Go.RowKit
theorem djOneU {NN sN tN u : Nat} {E : List Edg} {W : List Nat} {ys : List (Nat × Nat)} (hx : PathOk NN sN tN E (freeO W) ys) (hu : u < NN) (A : Option Addr) (c : Nat) (Aw : Option Addr) (cw : Nat) (w : World) (h : Rd w A 3 E.length (esCells E)) (h4 : Rd w Aw 1 W.length (wv W)) (h0 : Rd w none 1 0 []) :
    Calls Tryz.prog 52 #[.agg #[.int .i64 (NN : Int), .slice A E.length c], .int .i64 (u : Int), .int .i64 (tN : Int), .agg #[.bool false, .slice none 0 0, .slice none 0 0, .slice Aw W.length cw, .int .u64 0]] w fun e w' =>
      e = .returned (if gn (outL NN ys) u < farV then .tuple #[.int .u64 (gn (outL NN ys) u : Int), .int .i64 0] else .tuple #[.int .u64 0, .int .i64 9]) ∧ Grows w w' := by
  obtain ⟨xs, hok, hd, htr, hnd, hin, hout⟩ := one_turned hx hu
  refine (djOne NN u tN A c E (freeO W) none none Aw 0 0 cw xs w h h0 h0 h4 hok hd htr hx.ok.node).mono ?_
  rintro e w' ⟨h1 | h1, hg⟩
  · obtain ⟨f, hf, rfl⟩ := h1
    obtain ⟨e1, e2⟩ := hin f hf
    rw [← e1, if_pos e2]
    exact ⟨rfl, hg⟩
  · obtain ⟨hn, rfl⟩ := h1
    rw [hout hn, if_neg (Nat.lt_irrefl _)]
    exact ⟨rfl, hg⟩
theorem djOneUNo {E : List Edg} {W : List Nat} {N s t : Int} {l : List Nat} {f : Nat} {r : Int} (hp : IsPath E (freeO W) N s t l f r) (hr : r ≠ 0) (A : Option Addr) (c : Nat) (Aw : Option Addr) (cw : Nat) (w : World) (h : Rd w A 3 E.length (esCells E)) (h4 : Rd w Aw 1 W.length (wv W)) (h0 : Rd w none 1 0 []) (hn : E.length ≤ 1000000) (hn3 : W.length ≤ 1000000) :
    Calls Tryz.prog 52 #[.agg #[.int .i64 N, .slice A E.length c], .int .i64 s, .int .i64 t, .agg #[.bool false, .slice none 0 0, .slice none 0 0, .slice Aw W.length cw, .int .u64 0]] w fun e w' =>
      e = .returned (.tuple #[.int .u64 0, .int .i64 r]) ∧ Grows w w' := by
  cases hp with
  | bad hd => exact djOneNo N s t A E.length c E false (.slice none 0 0) (.slice none 0 0) Aw W.length cw 0 W w h h4 hn hn3 hd
  | noNode hd ht => exact djOneOut N s t A E.length c E false (.slice none 0 0) (.slice none 0 0) Aw W.length cw 0 W w h h4 hn hn3 hd ht
  | noPath NN sN tN xs hN hs ht hok hf =>
    subst hN hs ht
    have := djOneU hok hok.node A c Aw cw w h h4 h0
    rw [hf, if_neg (Nat.lt_irrefl _)] at this
    exact this
  | way => exact absurd rfl hr
theorem IsPath.zeroU {E : List Edg} {o : DOpt} {N s t : Int} {l : List Nat} {f : Nat} {r : Int} (hp : IsPath E o N s t l f r) (hr : r ≠ 0) : l = [] ∧ f = 0 := by
  cases hp with
  | bad => exact ⟨rfl, rfl⟩
  | noNode => exact ⟨rfl, rfl⟩
  | noPath => exact ⟨rfl, rfl⟩
  | way => exact absurd rfl hr
theorem IsPath.waysU {E : List Edg} {o : DOpt} {N s t : Int} {l : List Nat} {f : Nat} {r : Int} (hp : IsPath E o N s t l f r) (hr : r = 0) : ∃ (NN sN tN : Nat) (ys : List (Nat × Nat)), N = NN ∧ s = sN ∧ t = tN ∧ PathOk NN sN tN E o ys ∧ f = gn (outL NN ys) sN ∧ gn (outL NN ys) sN < farV ∧ Near (srchOf NN E (backO o)) (outL NN ys) tN ∧ Fol (srchOf NN E (backO o)) (outL NN ys) tN sN l := by
  cases hp with
  | bad hd => exact absurd hr hd
  | noNode => cases hr
  | noPath => cases hr
  | way NN sN tN xs l hN hs ht hok hf hn hl => exact ⟨NN, sN, tN, xs, hN, hs, ht, hok, rfl, hf, hn, hl⟩
theorem djOneD {E : List Edg} {W : List Nat} {N s t : Int} {l : List Nat} {f : Nat} {r : Int} (hp : IsPath E (freeO W) N s t l f r) (A : Option Addr) (c : Nat) (Aw : Option Addr) (cw : Nat) (w : World) (h : Rd w A 3 E.length (esCells E)) (h4 : Rd w Aw 1 W.length (wv W)) (h0 : Rd w none 1 0 []) (hn : E.length ≤ 1000000) (hn3 : W.length ≤ 1000000) :
    Calls Tryz.prog 52 #[.agg #[.int .i64 N, .slice A E.length c], .int .i64 s, .int .i64 t, .agg #[.bool false, .slice none 0 0, .slice none 0 0, .slice Aw W.length cw, .int .u64 0]] w fun e w' =>
      e = .returned (.tuple #[.int .u64 (f : Int), .int .i64 r]) ∧ Grows w w' := by
  by_cases hr : r = 0
  · obtain ⟨NN, sN, tN, ys, hN, hs, ht, hok, hff, hfar, hnear, hfol⟩ := hp.waysU hr
    subst hN hs ht hr
    have := djOneU hok hok.node A c Aw cw w h h4 h0
    rw [if_pos hfar, ← hff] at this
    exact this
  · obtain ⟨_, hf⟩ := hp.zeroU hr
    subst hf
    exact djOneUNo hp hr A c Aw cw w h h4 h0 hn hn3
end Go.Proofs.YtomednfddpggaaaGreat

/- The law BridgeRows, walked: how far it is without each edge of a shortest way, and the worst of them. -/
namespace Go.Proofs.YtomednfddpggaaaGreat
open Go Go.RowKit
attribute [local go_sem] Oper.semAt_some
set_option maxRecDepth 40000 in
set_option maxHeartbeats 8000000 in
theorem brRowsNo (N s t : Int) (A : Option Addr) (n c : Nat) (r : Int) (hr : r ≠ 0) (w : World)
    (CL : Hid (∀ W, Calls Tryz.prog 25 #[.agg #[.int .i64 N, .slice A n c]] W fun e w' => e = .returned (.bool true) ∧ Grows W w'))
    (CX : Hid (∀ W, Grows w W → Calls Tryz.prog 27 #[.agg #[.int .i64 N, .slice A n c], .int .i64 s, .int .i64 t] W fun x w' => x = .returned (.tuple #[.slice none 0 0, .int .i64 r]) ∧ Grows W w'))
    (CY : Hid (∀ W, Grows w W → Calls Tryz.prog 28 #[.agg #[.int .i64 N, .slice A n c], .int .i64 s, .int .i64 t] W fun x w' => x = .returned (.tuple #[.slice none 0 0, .int .i64 r]) ∧ Grows W w'))
    (CW : Hid (∀ W, Grows w W → Calls Tryz.prog 29 #[.agg #[.int .i64 N, .slice A n c], .int .i64 s, .int .i64 t] W fun x w' => x = .returned (.tuple #[.agg #[.int .i64 0, .int .u64 0], .int .i64 r]) ∧ Grows W w')) :
    Calls Tryz.prog 5 #[.agg #[.int .i64 N, .slice A n c], .int .i64 s, .int .i64 t] w fun e w' => e = .returned (.bool true) ∧ Grows w w' := by
  have CA := hide (fun (W : World) => alive48 W)
  have hb : (r != 0) = true := bne_iff_ne.2 hr
  have h1 : (r == r) = true := beq_self_eq_true r
  have h2 : (r != r) = false := by simp
  clear hr
  go_enter Tryz.func5, Tryz.ntmps5
  go_upto_region 6 with (first
    | (go_at_call 25; refine (CL.out _).mono ?_; rintro e w' ⟨rfl, hg⟩; obtain ⟨x1, rfl⟩ := hg.later; clear hg)
    | (go_at_call 27; refine (CX.out _ GG).mono ?_; rintro e w' ⟨rfl, hg⟩; obtain ⟨x2, rfl⟩ := hg.later; clear hg)
    | (go_at_call 28; refine (CY.out _ GG).mono ?_; rintro e w' ⟨rfl, hg⟩; obtain ⟨x3, rfl⟩ := hg.later; clear hg)
    | (go_at_call 29; refine (CW.out _ GG).mono ?_; rintro e w' ⟨rfl, hg⟩; obtain ⟨x4, rfl⟩ := hg.later; clear hg))
  have hgw : Grows w (x4.now.alloc (.cells #[.int .i64 0, .int .u64 0] 53)) := GG
  have a11 : Arr (x4.now.alloc (.cells #[.int .i64 0, .int .u64 0] 53)) x4.now.heap.size 53 [.int .i64 0, .int .u64 0] := Arr.make _ _ _
  generalize x4.now.alloc (.cells #[.int .i64 0, .int .u64 0] 53) = W5 at *
  generalize x4.now.heap.size = b11 at *
  have t0 := a11.mine 0 rfl
  have t1 := a11.mine 1 rfl
  go_wp2_with fail
  go_loopw [14, 13] (fun i u wr => i = .int .i64 0 ∧ u = .int .i64 (-1) ∧ ∃ y : Later W5, wr = y.now) (fun _ _ _ => 0)
  case atStart => exact ⟨rfl, rfl, ⟨_, Grows.refl _⟩, rfl⟩
  case round =>
    obtain ⟨rfl, rfl, y, rfl⟩ := hrel
    go_wp2_with (go_at_call 26; refine (CA.out _).mono ?_; rintro e w' ⟨rfl, hg⟩; obtain ⟨y1, rfl⟩ := hg.later; clear hg)
    go_ret
    exact ⟨rfl, hgw.trans GG⟩
theorem mxI_at (L : List Itm) (k : Nat) : ∃ j, j ≤ k ∧ mxI L k = gi2 L j := by
  induction k with
  | zero => exact ⟨0, Nat.le_refl _, rfl⟩
  | succ k ih =>
    obtain ⟨j, hj, e⟩ := ih
    show ∃ j, j ≤ k + 1 ∧ (if (mxI L k).2 < (gi2 L (k + 1)).2 then gi2 L (k + 1) else mxI L k) = gi2 L j
    split
    · exact ⟨k + 1, Nat.le_refl _, rfl⟩
    · exact ⟨j, by omega, e⟩
set_option maxRecDepth 40000 in
set_option maxHeartbeats 8000000 in
theorem brRowsYes (N s t : Int) (A : Option Addr) (n c : Nat) (L : List Itm) (hL : L.length ≤ 1000000) (w : World)
    (CL : Hid (∀ W, Calls Tryz.prog 25 #[.agg #[.int .i64 N, .slice A n c]] W fun e w' => e = .returned (.bool true) ∧ Grows W w'))
    (CX : Hid (∀ W, Grows w W → Calls Tryz.prog 27 #[.agg #[.int .i64 N, .slice A n c], .int .i64 s, .int .i64 t] W fun x w' => ∃ A' c', x = .returned (.tuple #[.slice A' L.length c', .int .i64 0]) ∧ Rd w' A' 2 L.length (its L) ∧ Grows W w'))
    (CY : Hid (∀ W, Grows w W → Calls Tryz.prog 28 #[.agg #[.int .i64 N, .slice A n c], .int .i64 s, .int .i64 t] W fun x w' => ∃ A' c', x = .returned (.tuple #[.slice A' L.length c', .int .i64 0]) ∧ Rd w' A' 2 L.length (its L) ∧ Grows W w'))
    (CW : Hid (∀ W, Grows w W → Calls Tryz.prog 29 #[.agg #[.int .i64 N, .slice A n c], .int .i64 s, .int .i64 t] W fun x w' => x = .returned (.tuple #[.agg #[.int .i64 ((wstI L).1 : Int), .int .u64 ((wstI L).2 : Int)], .int .i64 (wstF L)]) ∧ Grows W w')) :
    Calls Tryz.prog 5 #[.agg #[.int .i64 N, .slice A n c], .int .i64 s, .int .i64 t] w fun e w' => e = .returned (.bool true) ∧ Grows w w' := by
  have CA := hide (fun (W : World) => alive48 W)
  have HP := hide (show L.length = 0 → wstI L = (0, 0) ∧ wstF L = 9 from fun h => by unfold wstI wstF; rw [if_pos h, if_pos h]; exact ⟨rfl, rfl⟩)
  have HQ := hide (show 0 < L.length → wstI L = mxI L (L.length - 1) ∧ wstF L = 0 from fun h => by unfold wstI wstF; rw [if_neg (by omega), if_neg (by omega)]; exact ⟨rfl, rfl⟩)
  have HM0 := hide (show mxI L 0 = gi2 L 0 from rfl)
  have HMS := hide (fun k => show mxI L (k + 1) = if (mxI L k).2 < (gi2 L (k + 1)).2 then gi2 L (k + 1) else mxI L k from rfl)
  generalize wstI L = p at *
  generalize wstF L = q at *
  obtain ⟨p1, p2⟩ := p
  generalize hn : L.length = m at *
  replace hn := hide hn
  have hmm : ((m : Int) != (m : Int)) = false := by simp
  go_enter Tryz.func5, Tryz.ntmps5
  go_upto_region 6 with (first
    | (go_at_call 25; refine (CL.out _).mono ?_; rintro e w' ⟨rfl, hg⟩; obtain ⟨x1, rfl⟩ := hg.later; clear hg)
    | (go_at_call 27; refine (CX.out _ GG).mono ?_; rintro e w' ⟨A1, c1, rfl, hr1, hg⟩; obtain ⟨x2, rfl⟩ := hg.later; have HR1 := hide hr1; clear hg hr1)
    | (go_at_call 28; refine (CY.out _ GG).mono ?_; rintro e w' ⟨A2, c2, rfl, hr2, hg⟩; obtain ⟨x3, rfl⟩ := hg.later; have HR2 := hide hr2; clear hg hr2)
    | (go_at_call 29; refine (CW.out _ GG).mono ?_; rintro e w' ⟨rfl, hg⟩; obtain ⟨x4, rfl⟩ := hg.later; clear hg))
  have hgw : Grows w (x4.now.alloc (.cells #[.int .i64 (p1 : Int), .int .u64 (p2 : Int)] 53)) := GG
  have a11 : Arr (x4.now.alloc (.cells #[.int .i64 (p1 : Int), .int .u64 (p2 : Int)] 53)) x4.now.heap.size 53 [.int .i64 (p1 : Int), .int .u64 (p2 : Int)] := Arr.make _ _ _
  have hg2 : Grows x2.now (x4.now.alloc (.cells #[.int .i64 (p1 : Int), .int .u64 (p2 : Int)] 53)) := GG
  have hg3 : Grows x3.now (x4.now.alloc (.cells #[.int .i64 (p1 : Int), .int .u64 (p2 : Int)] 53)) := GG
  have HS1 := hide (HR1.out.grows hg2)
  have HS2 := hide (HR2.out.grows hg3)
  generalize x4.now.alloc (.cells #[.int .i64 (p1 : Int), .int .u64 (p2 : Int)] 53) = W5 at *
  generalize x4.now.heap.size = b11 at *
  have t0 := a11.mine 0 rfl
  have t1 := a11.mine 1 rfl
  clear HR1 HR2 hg2 hg3 CX CY CW CL
  go_wp2_with fail
  go_loopw [14, 13] (fun i u wr => ∃ k : Nat, k ≤ m ∧ i = .int .i64 (k : Int) ∧ ((k = 0 ∧ u = .int .i64 (-1)) ∨ (0 < k ∧ ∃ j, j < k ∧ u = .int .i64 (j : Int) ∧ mxI L (k - 1) = gi2 L j)) ∧ ∃ y : Later W5, wr = y.now) (fun i _ _ => m - (Go.RowKit.intOf i).toNat)
  case atStart => exact ⟨0, by omega, by go_num, .inl ⟨rfl, rfl⟩, ⟨_, Grows.refl _⟩, rfl⟩
  case round =>
    obtain ⟨k, hk, rfl, hu, y, rfl⟩ := hrel
    by_cases hlt : k < m
    · obtain ⟨v1, o1, rfl, hc1⟩ := HS1.out.vit hn.out (by omega)
      obtain ⟨v2, o2, rfl, hc2⟩ := HS2.out.vit hn.out (by omega)
      obtain ⟨d1, d2⟩ := hc1 k hlt
      obtain ⟨e1, e2⟩ := hc2 k hlt
      have HC2 := hide hc2
      clear hc1 hc2
      rcases hu with ⟨rfl, rfl⟩ | ⟨hk0, j, hj, rfl, hm⟩
      · have HM := hide HM0.out
        generalize hg0 : gi2 L 0 = g0 at *
        replace hg0 := hide hg0
        have q1 : ((g0.1 : Int) != (g0.1 : Int)) = false := by simp
        have q2 : ((g0.2 : Int) != (g0.2 : Int)) = false := by simp
        go_wp2_with fail
        ((first | refine wp_region_gen (by kernel_rfl) (by kernel_rfl) ?_); (repeat' (first | (refine gLex_val0 rfl (by kernel_rfl) (fun K hK => ?_); (go_simp; (try (simp only [↓IntWalk.iteOmega]; try go_simp)); (try simp (disch := omega) only [IntWalk.i64_in]); (try simp (disch := omega) only [IntWalk.u64_in]); first | (refine hK _ ?_; clear hK K) | (apply Exists.intro; refine ⟨fun x => ?_, hK _ ?_⟩; (first | fail); clear hK K))) | (refine gLex_undef rfl rfl rfl (by kernel_rfl) (fun K hK => ?_); go_simp; refine hK _ ?_; clear hK K) | (refine gLex_ask rfl rfl rfl ?_; first | (apply gAsk_yes; kernel_rfl; intro K hK; (go_simp; (try (simp only [↓IntWalk.iteOmega]; try go_simp)); (try simp (disch := omega) only [IntWalk.i64_in]); (try simp (disch := omega) only [IntWalk.u64_in]); first | (refine hK _ ?_; clear hK K) | (apply Exists.intro; refine ⟨fun x => ?_, hK _ ?_⟩; (first | fail); clear hK K))) | ((first | apply gAsk_no1 | apply gAsk_no2); kernel_rfl; intro K hK; simp [go_sem]; refine hK _ ?_; clear hK K) | (apply gAsk_part; kernel_rfl; all_goals (intro h K hK; (try simp only [Bool.not_true] at h); (try simp only [Bool.not_false] at h); (try simp only [decide_eq_true_eq] at h); (try simp only [decide_eq_false_iff_not] at h); first | (exfalso; first | contradiction | omega) | (go_simp; (try (simp only [↓IntWalk.iteOmega]; try go_simp)); (try simp (disch := omega) only [IntWalk.i64_in]); (try simp (disch := omega) only [IntWalk.u64_in]); first | (refine hK _ ?_; clear hK K) | (apply Exists.intro; refine ⟨fun x => ?_, hK _ ?_⟩; (first | fail); clear hK K))))))); all_goals ((apply gLex_end); intro yy))
        go_wp2_with fail
        ((first | refine wp_region_gen (by kernel_rfl) (by kernel_rfl) ?_); (repeat' (first | (refine gLex_val0 rfl (by kernel_rfl) (fun K hK => ?_); (go_simp; (try (simp only [↓IntWalk.iteOmega]; try go_simp)); (try simp (disch := omega) only [IntWalk.i64_in]); (try simp (disch := omega) only [IntWalk.u64_in]); first | (refine hK _ ?_; clear hK K) | (apply Exists.intro; refine ⟨fun x => ?_, hK _ ?_⟩; (first | fail); clear hK K))) | (refine gLex_undef rfl rfl rfl (by kernel_rfl) (fun K hK => ?_); go_simp; refine hK _ ?_; clear hK K) | (refine gLex_ask rfl rfl rfl ?_; first | (apply gAsk_yes; kernel_rfl; intro K hK; (go_simp; (try (simp only [↓IntWalk.iteOmega]; try go_simp)); (try simp (disch := omega) only [IntWalk.i64_in]); (try simp (disch := omega) only [IntWalk.u64_in]); first | (refine hK _ ?_; clear hK K) | (apply Exists.intro; refine ⟨fun x => ?_, hK _ ?_⟩; (first | fail); clear hK K))) | ((first | apply gAsk_no1 | apply gAsk_no2); kernel_rfl; intro K hK; simp [go_sem]; refine hK _ ?_; clear hK K) | (apply gAsk_part; kernel_rfl; all_goals (intro h K hK; (try simp only [Bool.not_true] at h); (try simp only [Bool.not_false] at h); (try simp only [decide_eq_true_eq] at h); (try simp only [decide_eq_false_iff_not] at h); first | (exfalso; first | contradiction | omega) | (go_simp; (try (simp only [↓IntWalk.iteOmega]; try go_simp)); (try simp (disch := omega) only [IntWalk.i64_in]); (try simp (disch := omega) only [IntWalk.u64_in]); first | (refine hK _ ?_; clear hK K) | (apply Exists.intro; refine ⟨fun x => ?_, hK _ ?_⟩; (first | fail); clear hK K))))))); all_goals ((apply gLex_end); intro yz))
        go_wp2_with fail
        obtain ⟨z, hz⟩ := (y.grows.trans (yy.grows.trans yz.grows)).later
        go_roundw
        case measure => simp [Go.RowKit.intOf]; omega
        case rel => exact ⟨1, by omega, by go_num, .inr ⟨by omega, 0, by omega, by go_num, HM.out.trans hg0.out.symm⟩, z, hz⟩
      · obtain ⟨f1, f2⟩ := HC2.out j (by omega)
        have HM := hide (show mxI L k = if (gi2 L j).2 < (gi2 L k).2 then gi2 L k else gi2 L j from by
          have := HMS.out (k - 1)
          rw [show k - 1 + 1 = k from by omega, hm] at this
          exact this)
        clear hm
        generalize hgj : gi2 L j = gj at *
        replace hgj := hide hgj
        have q1 : (((gi2 L k).1 : Int) != ((gi2 L k).1 : Int)) = false := by simp
        have q2 : (((gi2 L k).2 : Int) != ((gi2 L k).2 : Int)) = false := by simp
        generalize hgk : gi2 L k = gk at *
        replace hgk := hide hgk
        go_wp2_with fail
        ((first | refine wp_region_gen (by kernel_rfl) (by kernel_rfl) ?_); (repeat' (first | (refine gLex_val0 rfl (by kernel_rfl) (fun K hK => ?_); (go_simp; (try (simp only [↓IntWalk.iteOmega]; try go_simp)); (try simp (disch := omega) only [IntWalk.i64_in]); (try simp (disch := omega) only [IntWalk.u64_in]); first | (refine hK _ ?_; clear hK K) | (apply Exists.intro; refine ⟨fun x => ?_, hK _ ?_⟩; (first | fail); clear hK K))) | (refine gLex_undef rfl rfl rfl (by kernel_rfl) (fun K hK => ?_); go_simp; refine hK _ ?_; clear hK K) | (refine gLex_ask rfl rfl rfl ?_; first | (apply gAsk_yes; kernel_rfl; intro K hK; (go_simp; (try (simp only [↓IntWalk.iteOmega]; try go_simp)); (try simp (disch := omega) only [IntWalk.i64_in]); (try simp (disch := omega) only [IntWalk.u64_in]); first | (refine hK _ ?_; clear hK K) | (apply Exists.intro; refine ⟨fun x => ?_, hK _ ?_⟩; (first | fail); clear hK K))) | ((first | apply gAsk_no1 | apply gAsk_no2); kernel_rfl; intro K hK; simp [go_sem]; refine hK _ ?_; clear hK K) | (apply gAsk_part; kernel_rfl; all_goals (intro h K hK; (try simp only [Bool.not_true] at h); (try simp only [Bool.not_false] at h); (try simp only [decide_eq_true_eq] at h); (try simp only [decide_eq_false_iff_not] at h); first | (exfalso; first | contradiction | omega) | (go_simp; (try (simp only [↓IntWalk.iteOmega]; try go_simp)); (try simp (disch := omega) only [IntWalk.i64_in]); (try simp (disch := omega) only [IntWalk.u64_in]); first | (refine hK _ ?_; clear hK K) | (apply Exists.intro; refine ⟨fun x => ?_, hK _ ?_⟩; (first | fail); clear hK K))))))); all_goals ((apply gLex_end); intro yy))
        go_wp2_with fail
        ((first | refine wp_region_gen (by kernel_rfl) (by kernel_rfl) ?_); (repeat' (first | (refine gLex_val0 rfl (by kernel_rfl) (fun K hK => ?_); (go_simp; (try (simp only [↓IntWalk.iteOmega]; try go_simp)); (try simp (disch := omega) only [IntWalk.i64_in]); (try simp (disch := omega) only [IntWalk.u64_in]); first | (refine hK _ ?_; clear hK K) | (apply Exists.intro; refine ⟨fun x => ?_, hK _ ?_⟩; (first | fail); clear hK K))) | (refine gLex_undef rfl rfl rfl (by kernel_rfl) (fun K hK => ?_); go_simp; refine hK _ ?_; clear hK K) | (refine gLex_ask rfl rfl rfl ?_; first | (apply gAsk_yes; kernel_rfl; intro K hK; (go_simp; (try (simp only [↓IntWalk.iteOmega]; try go_simp)); (try simp (disch := omega) only [IntWalk.i64_in]); (try simp (disch := omega) only [IntWalk.u64_in]); first | (refine hK _ ?_; clear hK K) | (apply Exists.intro; refine ⟨fun x => ?_, hK _ ?_⟩; (first | fail); clear hK K))) | ((first | apply gAsk_no1 | apply gAsk_no2); kernel_rfl; intro K hK; simp [go_sem]; refine hK _ ?_; clear hK K) | (apply gAsk_part; kernel_rfl; all_goals (intro h K hK; (try simp only [Bool.not_true] at h); (try simp only [Bool.not_false] at h); (try simp only [decide_eq_true_eq] at h); (try simp only [decide_eq_false_iff_not] at h); first | (exfalso; first | contradiction | omega) | (go_simp; (try (simp only [↓IntWalk.iteOmega]; try go_simp)); (try simp (disch := omega) only [IntWalk.i64_in]); (try simp (disch := omega) only [IntWalk.u64_in]); first | (refine hK _ ?_; clear hK K) | (apply Exists.intro; refine ⟨fun x => ?_, hK _ ?_⟩; (first | fail); clear hK K))))))); all_goals ((apply gLex_end); intro yz))
        go_wp2_with fail
        · rename_i hh
          have HM2 := HM.out
          rw [if_pos (by omega)] at HM2
          obtain ⟨z, hz⟩ := (y.grows.trans (yy.grows.trans yz.grows)).later
          refine ⟨⟨k + 1, by omega, by go_num, .inr ⟨by omega, k, by omega, rfl, by rw [show k + 1 - 1 = k from by omega, HM2, hgk.out]⟩, z, hz⟩, by simp [Go.RowKit.intOf]; omega⟩
        · rename_i hh
          have HM2 := HM.out
          rw [if_neg (by omega)] at HM2
          obtain ⟨z, hz⟩ := (y.grows.trans (yy.grows.trans yz.grows)).later
          refine ⟨⟨k + 1, by omega, by go_num, .inr ⟨by omega, j, by omega, rfl, by rw [show k + 1 - 1 = k from by omega, HM2, hgj.out]⟩, z, hz⟩, by simp [Go.RowKit.intOf]; omega⟩
    · obtain rfl : k = m := by omega
      rcases hu with ⟨rfl, rfl⟩ | ⟨hk0, j, hj, rfl, hm⟩
      · obtain ⟨h1, rfl⟩ := HP.out rfl
        obtain ⟨rfl, rfl⟩ := Prod.mk.inj h1
        go_wp2_with (go_at_call 26; refine (CA.out _).mono ?_; rintro e w' ⟨rfl, hg⟩; obtain ⟨y1, rfl⟩ := hg.later; clear hg)
        go_ret
        exact ⟨rfl, hgw.trans GG⟩
      · obtain ⟨h1, rfl⟩ := HQ.out hk0
        obtain ⟨v2, o2, rfl, hc2⟩ := HS2.out.vit hn.out (by omega)
        obtain ⟨f1, f2⟩ := hc2 j (by omega)
        rw [hm] at h1
        rw [← h1] at f1 f2
        clear hc2 hm h1
        have q1 : ((p1 : Int) == (p1 : Int)) = true := by simp
        have q2 : ((p2 : Int) == (p2 : Int)) = true := by simp
        go_wp2_with fail
        ((first | refine wp_region_gen (by kernel_rfl) (by kernel_rfl) ?_); (repeat' (first | (refine gLex_val0 rfl (by kernel_rfl) (fun K hK => ?_); (go_simp; (try (simp only [↓IntWalk.iteOmega]; try go_simp)); (try simp (disch := omega) only [IntWalk.i64_in]); (try simp (disch := omega) only [IntWalk.u64_in]); first | (refine hK _ ?_; clear hK K) | (apply Exists.intro; refine ⟨fun x => ?_, hK _ ?_⟩; (first | (go_at_call 26; exact CA.out _)); clear hK K))) | (refine gLex_undef rfl rfl rfl (by kernel_rfl) (fun K hK => ?_); go_simp; refine hK _ ?_; clear hK K) | (refine gLex_ask rfl rfl rfl ?_; first | (apply gAsk_yes; kernel_rfl; intro K hK; (go_simp; (try (simp only [↓IntWalk.iteOmega]; try go_simp)); (try simp (disch := omega) only [IntWalk.i64_in]); (try simp (disch := omega) only [IntWalk.u64_in]); first | (refine hK _ ?_; clear hK K) | (apply Exists.intro; refine ⟨fun x => ?_, hK _ ?_⟩; (first | (go_at_call 26; exact CA.out _)); clear hK K))) | ((first | apply gAsk_no1 | apply gAsk_no2); kernel_rfl; intro K hK; simp [go_sem]; refine hK _ ?_; clear hK K) | (apply gAsk_part; kernel_rfl; all_goals (intro h K hK; (try simp only [Bool.not_true] at h); (try simp only [Bool.not_false] at h); (try simp only [decide_eq_true_eq] at h); (try simp only [decide_eq_false_iff_not] at h); first | (exfalso; first | contradiction | omega) | (go_simp; (try (simp only [↓IntWalk.iteOmega]; try go_simp)); (try simp (disch := omega) only [IntWalk.i64_in]); (try simp (disch := omega) only [IntWalk.u64_in]); first | (refine hK _ ?_; clear hK K) | (apply Exists.intro; refine ⟨fun x => ?_, hK _ ?_⟩; (first | (go_at_call 26; exact CA.out _)); clear hK K))))))); all_goals ((apply gLex_end); intro yy))
        go_wp2_with fail
        go_ret
        exact ⟨rfl, hgw.trans GG⟩
set_option maxRecDepth 40000 in
set_option maxHeartbeats 8000000 in
theorem bridgeRowsW (N : Int) (A : Option Addr) (n c : Nat) (E : List Edg) (s t : Int) (w : World) (_ : I64 N) (_ : n ≤ c) (h : Rd w A 3 n (esCells E)) (_ : ∀ k, k < n → edgOk (ge E k)) (_ : I64 s) (_ : I64 t) :
    Calls Tryz.prog 5 #[.agg #[.int .i64 N, .slice A n c], .int .i64 s, .int .i64 t] w fun e w' => e = .returned (.bool true) ∧ Grows w w' := by
  have CL := hide (fun (W : World) => lLight48 N A n c W)
  have hel := h.elen
  subst hel
  cases hq : light48 N E.length with
  | false =>
    have CA := hide (fun (W : World) => alive48 W)
    rw [hq] at CL
    clear hq h
    go_enter Tryz.func5, Tryz.ntmps5
    go_wp2_with (first | (go_at_call 25; refine (CL.out _).mono ?_; rintro e w' ⟨rfl, hg⟩; obtain ⟨x1, rfl⟩ := hg.later; clear hg) | (go_at_call 26; refine (CA.out _).mono ?_; rintro e w' ⟨rfl, hg⟩; obtain ⟨x2, rfl⟩ := hg.later; clear hg))
    go_ret
    exact ⟨rfl, GG⟩
  | true =>
    rw [hq] at CL
    have hn : E.length ≤ 40 := by
      unfold light48 at hq
      simp only [Bool.and_eq_true, decide_eq_true_eq] at hq
      exact hq.2
    clear hq
    obtain ⟨l, f, r, hp⟩ := isPath_any E (noO []) N s t (by simp) (by simp)
    by_cases hr : r = 0
    · subst hr
      obtain ⟨NN, sN, tN, ys, rfl, rfl, rfl, hx, _⟩ := hp.waysU rfl
      have hrf : rightF NN E = 0 := hx.ok.right
      have hs : sN < NN := hx.node
      have ht : tN < NN := hx.ok.node
      have hl : l.length ≤ 1000000 := by have := hp.short.1; omega
      have e := vitL_len NN E sN tN l
      refine brRowsYes NN sN tN A E.length c (vitL NN E sN tN l) (by omega) w CL (hide fun W g => ?_) (hide fun W g => ?_) (hide fun W g => bwWorst NN sN tN A c E l f W (h.grows g) hrf hs ht hp hl)
      · rw [e]; exact bwRow NN sN tN A c E l f W (h.grows g) hrf hs ht hp hl
      · rw [e]; exact r48Row NN sN tN A c E l f W (h.grows g) hrf hs ht hp hl
    · exact brRowsNo N s t A E.length c r hr w CL (hide fun W g => bwRowNo N s t A c E l f r W (h.grows g) (by omega) hp hr) (hide fun W g => r48RowNo N s t A c E l f r W (h.grows g) (by omega) hp hr) (hide fun W g => bwWorstNo N s t A c E l f r W (h.grows g) (by omega) hp hr)
end Go.Proofs.YtomednfddpggaaaGreat

/- The law BridgeRows: for every input it returns true, and each argument reads as before. No condition. -/
namespace Go.Proofs.YtomednfddpggaaaGreat.lawBridgeRows
open Go Go.ChangeShapes Go.WideShapes Go.ChangeAt Go.RowKit Go.Proofs.YtomednfddpggaaaGreat

theorem own : ownKnob Tryz.prog.godebug = none := by kernel_rfl
theorem laidOut : laidOutB Tryz.prog = true := by kernel_rfl

set_option maxRecDepth 100000 in
theorem lifted (os : Os) (started : os.Started) (H : Type) (enc : TypeId × Value → H) :
    ReturnsInHanded {} Tryz.checked os 5 .any (Rows.bridgeRowsSpec.pre6 enc Tryz.prog Tryz.f5 Rows.bridgeRowsRow.domain false) (Rows.bridgeRowsSpec.post enc Tryz.prog Tryz.f5 false true false false) := by
  refine returnsInHanded_of_change (C := Tryz.checked) own started (by kernel_rfl) Tryz.func5
    (ChangeSpec.witness6 (enc := enc) (C := Tryz.checked) false ⟨#[], #[.agg #[.int .i64 0, .slice none 0 0], .int .i64 0, .int .i64 0], []⟩ 8 (by kernel_rfl) (by kernel_rfl) (by kernel_rfl) (by kernel_rfl)) ?_
  intro W base args ds gs before hval0 hW hcnd _
  have hval : ∀ (j : Nat) t v, Tryz.f5.params[j]? = some t → args[j]? = some v → Value.okWide Tryz.prog W .any base t v := hval0
  have hW' := hW
  obtain ⟨p, q, hA0, hV, rfl, hfz, hnd⟩ := hW
  have hA : DataW.TrodAll enc Tryz.prog W 0 (fun _ => true) true Tryz.f5.params.toList args.toList ds p := hA0
  rw [Tryz.params5] at hA hval
  obtain ⟨v0, vs0, d0, ds0, p0, q0, hargs, rfl, rfl, h0, r0⟩ := trodAll_cons hA
  obtain ⟨v1, vs1, d1, ds1, p1, q1, rfl, rfl, rfl, h1, r1⟩ := trodAll_cons r0
  obtain ⟨v2, vs2, d2, ds2, p2, q2, rfl, rfl, rfl, h2, r2⟩ := trodAll_cons r1
  obtain ⟨rfl, rfl, rfl⟩ := trodAll_nil r2
  obtain rfl : args = #[v0, v1, v2] := by cases args; simp_all
  obtain ⟨rfl, rfl⟩ := trodVars_none hV
  have k0 := h0
  have lt0 : ∀ x ∈ p0, x.block < W.heap.size := by obtain ⟨m, hm⟩ := k0; exact DataW.trod_lt m _ _ _ hm
  obtain ⟨a0, A0, n0, c0, z0, rfl, x0, l0, w0, u0⟩ := open_graph Tryz.underlying24 Tryz.underlying3 Tryz.underlying22 Tryz.underlying59 Tryz.underlying3 Tryz.underlying3 Tryz.underlying38 ⟨rfl, rfl, rfl⟩ ⟨by kernel_rfl, by kernel_rfl, by kernel_rfl⟩ (by kernel_rfl) (by kernel_rfl) (by kernel_rfl) (hval 0 24 v0 rfl rfl) h0
  have k1 := h1
  have lt1 : ∀ x ∈ p1, x.block < W.heap.size := by obtain ⟨m, hm⟩ := k1; exact DataW.trod_lt m _ _ _ hm
  obtain ⟨a1, rfl, w1⟩ := open_i64 Tryz.underlying3 (hval 1 3 v1 rfl rfl) h1
  have k2 := h2
  have lt2 : ∀ x ∈ p2, x.block < W.heap.size := by obtain ⟨m, hm⟩ := k2; exact DataW.trod_lt m _ _ _ hm
  obtain ⟨a2, rfl, w2⟩ := open_i64 Tryz.underlying3 (hval 2 3 v2 rfl rfl) h2
  clear hA0 hval0
  refine (bridgeRowsW a0 A0 n0 c0 z0 a1 a2 W x0 l0 w0 u0 w1 w2).mono fun e W' ⟨he, bel⟩ => ?_
  subst he
  exact ⟨_, rfl, _, _, _, [], _, [], hW', trodAll_mk1 (shut_bool Tryz.underlying4 _), (trodAll_cons_mk (Below.trod laidOut (by kernel_rfl) (of_decide_eq_true (by kernel_rfl)) k0 bel lt0) (trodAll_cons_mk (Below.trod laidOut (by kernel_rfl) (of_decide_eq_true (by kernel_rfl)) k1 bel lt1) (trodAll_cons_mk (Below.trod laidOut (by kernel_rfl) (of_decide_eq_true (by kernel_rfl)) k2 bel lt2) trodAll_mk0))), rfl, Below.frame bel _, fun h => by cases h⟩

theorem over : Rows.bridgeRowsRow.holds Tryz.pinned (OpenSpec.ofChange Rows.bridgeRowsSpec) :=
  OpenClaim.holds_of_wide 5 Tryz.f5 rfl rfl rfl rfl rfl rfl rfl ⟨rfl, rfl, rfl, rfl, rfl⟩ rfl rfl rfl rfl rfl (by kernel_rfl) Tryz.func5 (by kernel_rfl)
    (of_decide_eq_true (by kernel_rfl)) (by unfold Func.isWrapper; first | (rw [if_pos (by decide +kernel)]; kernel_rfl) | (rw [if_neg (by decide +kernel)]; exact ⟨rfl, rfl⟩))
    (fun os started H enc _ => lifted os started H enc)

end Go.Proofs.YtomednfddpggaaaGreat.lawBridgeRows
namespace Go.Proofs.YtomednfddpggaaaGreat
theorem bridgeRows_proved : Rows.BridgeRowsSaid := lawBridgeRows.over
#print axioms bridgeRows_proved
end Go.Proofs.YtomednfddpggaaaGreat
