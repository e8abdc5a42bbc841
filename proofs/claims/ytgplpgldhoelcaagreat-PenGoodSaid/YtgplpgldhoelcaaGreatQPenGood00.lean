/- The law PenGood: for every input it returns true, and each argument reads as before. No condition. -/
import Derived.Orders
import Derived.Still
import Derived.Below
import Derived.Calls
import Derived.WalkKit
import Derived.WalkSpells
import Derived.WalkLawsBesides
import Derived.BigQuiet
import Derived.Deep.RegionWith
import Derived.RangeFuncRecord
import Derived.Test.YtgplpgldhoelcaaGreatRows
import Derived.Laws.OwnMore
import Derived.ProofKit
import Derived.OpenShut
import Derived.ShutString
import Derived.ChangeOld
import Derived.Lib.SmallJoins
import Derived.Deep.Slices
import Derived.Maps.Own
import Derived.Maps.OwnOps
import Derived.Maps.OwnSet
import Derived.Maps.Views
import Derived.OwnWalk
import Derived.Lib.AppendZeros
import Derived.Deep.OwnRows
import Derived.StillTail
import Derived.Shelf.Bits.Mul64
import Derived.Ground.Names2Prog
import Derived.Shelf.Slices.Clone
import Derived.Ground.SlgnProg
import Derived.Shelf.SlicesE.Clone
import Derived.Test.YtgplpgldhoelcaaGreatProg
import Derived.Deep.DeepCutAuto
import Derived.RangeFuncSeq
import Derived.RangeFuncLeaves
import Derived.RangeFuncCalls
import Derived.WalkMore
import Derived.Maps.AppendAt
import Derived.Lib.SliceRun
import Derived.OrdersIn
import Derived.TacticsIn
import Derived.RangeFuncNested
import Derived.RangeFuncBound
import Derived.Shelf.Abstract
import Derived.Shelf.RegionOpen
import Derived.OwnWalkIn
import Derived.TacticsInMore
import Derived.LoopNIn
import Derived.LoopIn
import Derived.Laws.CopyOwn
import Derived.Deep.RegionLaw
import Derived.Deep.Strs
import Derived.ScopeJumps
import Derived.Shelf.Slices.CompactI
import Derived.Laws.IdiomCopy
import Derived.Shelf.Spec.SlicesInsertGrow
import Derived.Shelf.Small.Bits
import Derived.Laws.Bits64b
import Derived.Deep.Cut
import Derived.Test.YtgplpgldhoelcaaGreatQPenWays00
import Derived.Test.YtgplpgldhoelcaaGreatQPenWays01
import Derived.Test.YtgplpgldhoelcaaGreatQPenWays02
import Derived.Test.YtgplpgldhoelcaaGreatQPenWays03
import Derived.Test.YtgplpgldhoelcaaGreatQPenWays04
import Derived.Test.YtgplpgldhoelcaaGreatQPenWays05
import Derived.Test.YtgplpgldhoelcaaGreatQPenWays06
import Derived.Test.YtgplpgldhoelcaaGreatQPenWays07
import Derived.Test.YtgplpgldhoelcaaGreatQPenWays08
import Derived.Test.YtgplpgldhoelcaaGreatQPenWays09
import Derived.Test.YtgplpgldhoelcaaGreatQPenWays10
import Derived.Test.YtgplpgldhoelcaaGreatQPenWays11
import Derived.Test.YtgplpgldhoelcaaGreatQPenWays12
import Derived.Test.YtgplpgldhoelcaaGreatQPenWays13
import Derived.Test.YtgplpgldhoelcaaGreatQPenWays14
import Derived.Test.YtgplpgldhoelcaaGreatQPenWays15
import Derived.Test.YtgplpgldhoelcaaGreatQPenWays16
import Derived.Test.YtgplpgldhoelcaaGreatQPenWays17
import Derived.Test.YtgplpgldhoelcaaGreatQPenWays18
import Derived.Test.YtgplpgldhoelcaaGreatQPenWays19
import Derived.Test.YtgplpgldhoelcaaGreatQPenWays20
import Derived.Test.YtgplpgldhoelcaaGreatQPenWays21
import Derived.Test.YtgplpgldhoelcaaGreatQPenWays22
import Derived.Test.YtgplpgldhoelcaaGreatQPenWays23
import Derived.Test.YtgplpgldhoelcaaGreatQPenWays24
import Derived.Test.YtgplpgldhoelcaaGreatQPenWays25
import Derived.Test.YtgplpgldhoelcaaGreatQPenWays26
import Derived.Test.YtgplpgldhoelcaaGreatQPenWays27
import Derived.Test.YtgplpgldhoelcaaGreatQPenWays28
namespace Go.Proofs.YtgplpgldhoelcaaGreat
open Go Go.RowKit
attribute [local go_sem] Oper.semAt_some
theorem drop_gn {l : List Nat} {k : Nat} (h : k < l.length) : l.drop k = gn l k :: l.drop (k + 1) := by
  rw [List.drop_eq_getElem_cons h]
  simp [gn, h]
end Go.Proofs.YtgplpgldhoelcaaGreat

namespace Go.Proofs.YtgplpgldhoelcaaGreat
open Go Go.RowKit
attribute [local go_sem] Oper.semAt_some
theorem ciL_gn {l : List Nat} {k : Nat} (h : k < l.length) : gi (ciL l) k = (gn l k : Int) := by
  rw [ciL_gi h]
  simp [gn, h]
theorem isW.link {E : List Edg} {t v : Nat} {l : List Nat} (h : isW E t v l) {k : Nat} (hk : k < l.length) : fN E (gn l k) = ndAt E v l k ∧ gn l k < E.length := by
  have h1 := (h.cut k (by omega)).2
  rw [drop_gn hk] at h1
  exact ⟨h1.2.1, h1.1⟩
theorem ndAt_get {E : List Edg} {v : Nat} {l : List Nat} {k : Nat} (hk : k ≤ l.length) : (ndsN E v l)[k]'(by rw [ndsN_len]; omega) = ndAt E v l k := by
  have : k < (ndsN E v l).length := by rw [ndsN_len]; omega
  simp [ndAt, gn, this]
theorem isW.lk {N : Nat} {E : List Edg} {t v : Nat} {l : List Nat} (hE : InN N E) (h : isW E t v l) : ∀ k, k ≤ l.length → lkB E (v : Int) (ciL l) k = true
  | 0, _ => rfl
  | k + 1, hk => by
    have hk' : k < l.length := by omega
    obtain ⟨h1, h2⟩ := h.link hk'
    show (lkB E (v : Int) (ciL l) k && decide ((ge E (gi (ciL l) k).toNat).f = ndI E v (ciL l) k)) = true
    rw [h.lk hE k (by omega), ndI_is hE h.edges k (by omega), ciL_gn hk', Int.toNat_natCast, (hE.f _ h2).2, h1, ndAt_get (by omega)]
    simp
theorem isW.eds {N : Nat} {E : List Edg} {t v : Nat} {l : List Nat} (h : isW E t v l) (hr : rightF (N : Int) E = 0) (l' : List Nat) (hs : ∀ i ∈ l', i ∈ l) : edgesB (N : Int) E (ciL l') = true := by
  unfold edgesB
  rw [decide_eq_true hr, Bool.true_and]
  have : (ciL l').any (fun e => !edgeB E.length e) = false := by
    rw [List.any_eq_false]
    intro e he
    obtain ⟨i, hi, rfl⟩ := List.mem_map.1 he
    have := h.edges i (hs i hi)
    unfold edgeB
    simp
    omega
  rw [this]
  rfl
theorem isW.is {N : Nat} {E : List Edg} {t v : Nat} {l : List Nat} (h : isW E t v l) (hr : rightF (N : Int) E = 0) (hv : v < N) : isB (N : Int) E (v : Int) (ciL l) = true := by
  obtain ⟨_, _, _, r4, _⟩ := right_in hr
  rw [Int.toNat_natCast] at r4
  unfold isB
  rw [h.eds hr l (fun _ hi => hi), ciL_len, h.lk r4 _ (Nat.le_refl _), show nodeB (N : Int) (v : Int) = true from decide_eq_true ⟨by omega, by omega⟩]
  rfl
theorem isW.nds {N : Nat} {E : List Edg} {t v : Nat} {l : List Nat} (h : isW E t v l) (hr : rightF (N : Int) E = 0) : ndL E (v : Int) (ciL l) (l.length + 1) = ciL (ndsN E v l) := by
  obtain ⟨_, _, _, r4, _⟩ := right_in hr
  rw [Int.toNat_natCast] at r4
  refine List.ext_getElem (by simp [ndL_len, ciL, ndsN]) fun k h1 h2 => ?_
  have hk : k ≤ l.length := by rw [ndL_len] at h1; omega
  have e := ndI_is r4 (v := v) h.edges k hk
  simp only [ndL, List.getElem_map, List.getElem_range, ciL]
  exact e
theorem SP.sim {N : Nat} {E : List Edg} {s t : Nat} {l : List Nat} (h : SP E s t l) (hr : rightF (N : Int) E = 0) (hs : s < N) : simB (N : Int) E (s : Int) (ciL l) = true := by
  have e : nodesL (N : Int) E (s : Int) (ciL l) = ciL (ndsN E s l) := by
    unfold nodesL
    rw [if_pos (h.1.is hr hs), ciL_len, h.1.nds hr]
  unfold simB
  rw [h.1.is hr hs, e, Bool.true_and]
  exact oneB_is h.2
theorem wtK_is {N : Nat} {E : List Edg} (hr : rightF (N : Int) E = 0) {l : List Nat} (h : ∀ i ∈ l, i < E.length) : ∀ k, k ≤ l.length → wtK E (ciL l) k = (wE E (l.take k) : Int)
  | 0, _ => rfl
  | k + 1, hk => by
    have hk' : k < l.length := by omega
    have hm : gn l k ∈ l := by simp [gn, hk']
    have := right_weight hr (h _ hm)
    rw [wtK_succ, wtK_is hr h k (by omega), take_succ_gn hk', wE_append, ciL_gn hk', Int.toNat_natCast, wE_cons, wE_nil]
    omega
end Go.Proofs.YtgplpgldhoelcaaGreat

namespace Go.Proofs.YtgplpgldhoelcaaGreat
open Go Go.RowKit
theorem SP.isE {N : Nat} {E : List Edg} {s t : Nat} {l : List Nat} (h : SP E s t l) (hr : rightF (N : Int) E = 0) (hs : s < N) : (isB (N : Int) E (s : Int) (ciL l) && decide (gi (nodesL (N : Int) E (s : Int) (ciL l)) (ciL l).length = (t : Int))) = true := by
  have h1 := h.1.is hr hs
  rw [h1, Bool.true_and, decide_eq_true_eq]
  unfold nodesL
  rw [if_pos h1, ciL_len, h.1.nds hr, ciL_gn (by rw [ndsN_len]; omega)]
  show ((ndAt E s l l.length : Nat) : Int) = t
  rw [h.1.last]
end Go.Proofs.YtgplpgldhoelcaaGreat

namespace Go.Proofs.YtgplpgldhoelcaaGreat
open Go Go.RowKit
theorem RtsAt.cutG {w : World} {B : Nat} {A : Option Addr} {c : Nat} {rs : List Rt} {ps : List (List Nat × Nat)} (h : RtsAt w B A c rs ps) {k : Nat} (hk : k ≤ rs.length) : RtsAt w B A c (rs.take k) (ps.take k) := by
  refine ⟨?_, fun r hr => h.rows r (List.mem_of_mem_take hr), by rw [List.map_take, h.eqs]⟩
  rcases Nat.eq_zero_or_pos rs.length with h0 | h0
  · have : rs = [] := List.eq_nil_of_length_eq_zero h0
    subst this
    simpa using h.own
  · have h1 := h.own.cut hk h0
    have e : (rs.take k).flatMap rtC = (rs.flatMap rtC).take (k * 2) := by
      have e1 : rs.flatMap rtC = (rs.take k).flatMap rtC ++ (rs.drop k).flatMap rtC := by rw [← List.flatMap_append, List.take_append_drop]
      rw [e1, List.take_left' (by rw [flat_len rtC 2 (fun _ => rfl), List.length_take, Nat.min_eq_left hk])]
    rw [e, List.length_take, Nat.min_eq_left hk]
    exact h1
theorem keep_at (why : Nat → List Nat → Int) (K : Nat) : ∀ n i, i < (keepW why K n).length → ∃ k, (keepW why K n)[i]? = some k ∧ k < n ∧ (keepW why K n).take i = keepW why K k ∧ (k = 0 ∨ why k (keepW why K k) = 0)
  | 0, i, h => by cases h
  | n + 1, i, h => by
    by_cases hc : (keepW why K n).length < K ∧ (n = 0 ∨ why n (keepW why K n) = 0)
    · rw [keepW_yes hc.1 hc.2] at h ⊢
      by_cases hi : i < (keepW why K n).length
      · obtain ⟨k, h1, h2, h3, h4⟩ := keep_at why K n i hi
        refine ⟨k, ?_, by omega, ?_, h4⟩
        · rw [List.getElem?_append_left hi]; exact h1
        · rw [List.take_append_of_le_length (by omega)]; exact h3
      · have hi2 : i = (keepW why K n).length := by rw [List.length_append, List.length_singleton] at h; omega
        refine ⟨n, ?_, by omega, ?_, hc.2⟩
        · rw [hi2, List.getElem?_append_right (by omega)]; simp
        · rw [hi2]; simp
    · rw [keepW_no hc] at h ⊢
      obtain ⟨k, h1, h2, h3, h4⟩ := keep_at why K n i h
      exact ⟨k, h1, by omega, h3, h4⟩
theorem keep_first (why : Nat → List Nat → Int) {K : Nat} (hK : 1 ≤ K) : ∀ n, (keepW why K (n + 1))[0]? = some 0
  | 0 => by rw [keepW_yes (k := 0) (by show 0 < K; omega) (.inl rfl)]; rfl
  | n + 1 => by
    have h1 := keep_first why hK n
    have hl : 0 < (keepW why K (n + 1)).length := (List.getElem?_eq_some_iff.1 h1).1
    by_cases hc : (keepW why K (n + 1)).length < K ∧ (n + 1 = 0 ∨ why (n + 1) (keepW why K (n + 1)) = 0)
    · rw [keepW_yes hc.1 hc.2, List.getElem?_append_left hl]; exact h1
    · rw [keepW_no hc]; exact h1
theorem why0 {N s t : Int} {E : List Edg} {l : List Int} {xss : List (List Int)} {o : PO} {f : Nat} {r : Int} {ts : Int → Bool} (h : whyX N s t E l xss o f r ts = 0) :
    okW N s t E l o r = true ∧ simB N E s l = true ∧ hadB (xss.map hrX) l = false ∧ stB (wlV N E l) o.e1 o.e2 (f : Int) = true ∧ littleB N E l (hRows (xss.map hrX)) o.g1 o.g2 (f : Int) = true := by
  unfold whyX whyV whyF at h
  split at h
  · rename_i h1
    split at h
    · rename_i h2
      split at h
      · cases h
      · rename_i h3
        split at h
        · rename_i h4
          split at h
          · rename_i h5
            exact ⟨h1, h2, by simpa using h3, h4, h5⟩
          · cases h
        · cases h
    · cases h
  · cases h
theorem withK_ge (N : Int) (E : List Edg) (l : List Int) (R : List Row) : ∀ k j, j < k → sharedV N E l (gr R j).xs ≤ withK N E l R k
  | 0, j, h => by omega
  | k + 1, j, h => by
    rw [withK_succ]
    rcases Nat.lt_or_ge j k with h1 | h1
    · have := withK_ge N E l R k j h1
      omega
    · have : j = k := by omega
      subst this
      omega
theorem little_in {N : Int} {E : List Edg} {l : List Int} {xss : List (List Int)} {a b f : Int} (h : littleB N E l (hRows (xss.map hrX)) a b f = true) {j : Nat} {x : List Int} (hj : xss[j]? = some x) : wiB (sharedV N E l x) a b f = true := by
  have hl : j < xss.length := (List.getElem?_eq_some_iff.1 hj).1
  have hR : (hRows (xss.map hrX)).length = xss.length := by rw [hRows_len]; simp
  unfold littleB at h
  rw [hR, decide_eq_false (show ¬ xss.length = 0 by omega), Bool.false_or] at h
  have h1 := withK_ge N E l (hRows (xss.map hrX)) xss.length j hl
  have hx : (gr (hRows (xss.map hrX)) j).xs = x := by
    rw [gr_xs, List.map_map, List.getD_eq_getElem?_getD, List.getElem?_map, hj]
    rfl
  rw [hx] at h1
  unfold wiB at h ⊢
  rw [Bool.and_eq_true] at h ⊢
  refine ⟨h.1, decide_eq_true ?_⟩
  have h2 := of_decide_eq_true h.2
  have hb : 0 ≤ b := by
    have := h.1
    unfold rrB at this
    simp only [decide_eq_true_eq] at this
    omega
  exact Int.le_trans (Int.mul_le_mul_of_nonneg_right h1 hb) h2
theorem ic_ci (l : List Nat) : icL l = ciL l := rfl
theorem stB_self {a b : Int} (h : rrB a b = true) (f : Nat) : stB (f : Int) a b (f : Int) = true := by
  unfold stB
  rw [h, Bool.true_and, decide_eq_true_eq]
  have ha : 0 ≤ a := by
    unfold rrB at h
    simp only [decide_eq_true_eq] at h
    omega
  exact Int.mul_le_mul_of_nonneg_left (by omega) (by omega)
theorem IsPath.wayE {E : List Edg} {W : List Nat} {N s t : Nat} {l : List Nat} {f : Nat} {r : Int} (h : IsPath E (freeO W) (N : Int) (s : Int) (t : Int) l f r) (hr : r = 0) : isW E t s l := by
  obtain ⟨NN, sN, tN, ys, h1, h2, h3, hok, hff, hfar, hnear, hfol⟩ := h.waysU hr
  have e1 : NN = N := by omega
  have e2 : sN = s := by omega
  have e3 : tN = t := by omega
  subst e1 e2 e3
  exact hfol.isW_
structure PenGd (N s t : Int) (E : List Edg) (o : PO) (P : Nat → List Nat) (V : Nat → Nat) (ks : List Nat) (i k : Nat) : Prop where
  is : (isB N E s (icL (P k)) && decide (gi (nodesL N E s (icL (P k))) (icL (P k)).length = t)) = true
  sim : simB N E s (icL (P k)) = true
  eds : edgesB N E (icL (P k)) = true
  wt : wtK E (icL (P k)) (icL (P k)).length = (V k : Int)
  le : V 0 ≤ V k
  st : stB (V k : Int) o.e1 o.e2 (V 0 : Int) = true
  had : hadB (((ks.take i).map fun j => icL (P j)).map hrX) (icL (P k)) = false
  wi : ∀ m j, m < i → ks[m]? = some j → wiB (sharedV N E (icL (P k)) (icL (P j))) o.g1 o.g2 (V 0 : Int) = true
theorem isB_eds {N s : Int} {E : List Edg} {l : List Int} (h : isB N E s l = true) : edgesB N E l = true := by
  unfold isB at h
  rw [Bool.and_eq_true] at h
  exact h.1
theorem pen_good {N s t : Int} {E : List Edg} {o : PO} {W P : Nat → List Nat} {V : Nat → Nat} {ts : List Int → Int → Bool} (hT : TrOk N s t E o.f1 o.f2 W P V) (hp : IsPath E (freeO []) N s t (P 0) (V 0) 0) (hpo : poB o = true) (n i : Nat)
    (hi : i < (keepW (whyK N s t E o P (V 0) 0 ts) o.k.toNat n).length) : ∃ k, (keepW (whyK N s t E o P (V 0) 0 ts) o.k.toNat n)[i]? = some k ∧ PenGd N s t E o P V (keepW (whyK N s t E o P (V 0) 0 ts) o.k.toNat n) i k := by
  obtain ⟨k, h1, h2, h3, h4⟩ := keep_at _ _ n i hi
  refine ⟨k, h1, ?_⟩
  generalize keepW (whyK N s t E o P (V 0) 0 ts) o.k.toNat n = ks at *
  obtain ⟨NN, sN, tN, ys, rfl, rfl, rfl, hok, hff, hfar, hnear, hfol⟩ := hp.waysU rfl
  have hr : rightF (NN : Int) E = 0 := by
    have h := hok.dcs
    unfold dcF at h
    split at h
    · cases h
    omega
  have hs : sN < NN := hok.node
  have ht : tN < NN := by
    have h := hok.dc
    unfold dcF at h
    split at h
    · cases h
    split at h
    · cases h
    rename_i _ h5
    have hb : nodeB (NN : Int) (tN : Int) = true := by
      cases hb : nodeB (NN : Int) (tN : Int) with
      | false => exact absurd hb h5
      | true => rfl
    unfold nodeB at hb
    have := of_decide_eq_true hb
    omega
  rcases can_is (N := NN) (v := sN) (t := tN) hr hs ht hp with ⟨_, q1, q2, q3, q4, q5⟩ | ⟨q1, _⟩
  rotate_left
  · exact absurd rfl q1
  have hsp : SP E sN tN (P 0) := ⟨q1.way, q2⟩
  have hwe : ∀ l : List Nat, (∀ j ∈ l, j < E.length) → wtK E (icL l) (icL l).length = (wE E l : Int) := fun l hl => by
    rw [icL_len, ic_ci, wtK_is hr hl l.length (Nat.le_refl _), List.take_length]
  by_cases hk0 : k = 0
  · subst hk0
    have hi0 : i = 0 := by
      have := congrArg List.length h3
      rw [List.length_take] at this
      have e : (keepW (whyK (NN : Int) sN tN E o P (V 0) 0 ts) o.k.toNat 0).length = 0 := rfl
      rw [e] at this
      omega
    subst hi0
    have hrr : rrB o.e1 o.e2 = true := by
      unfold poB at hpo
      simp only [Bool.and_eq_true] at hpo
      exact hpo.2.2.2.2.1
    refine ⟨hsp.isE hr hs, hsp.sim hr hs, hsp.1.eds hr _ (fun _ h => h), ?_, Nat.le_refl _, stB_self hrr _, rfl, fun m j hm => absurd hm (by omega)⟩
    rw [hwe _ hsp.1.edges, ← q3]
  · replace h4 := h4.resolve_left hk0
    rw [← h3] at h4
    obtain ⟨w1, w2, w3, w4, w5⟩ := why0 h4
    obtain ⟨k', rfl⟩ : ∃ k', k = k' + 1 := ⟨k - 1, by omega⟩
    have w6 : (isB (NN : Int) E sN (icL (P (k' + 1))) && decide (gi (nodesL (NN : Int) E sN (icL (P (k' + 1)))) (icL (P (k' + 1))).length = (tN : Int))) = true := by
      unfold okW at w1
      simp only [Bool.and_eq_true] at w1
      rw [Bool.and_eq_true]
      exact w1.2.2
    have w7 := isB_eds (by rw [Bool.and_eq_true] at w6; exact w6.1)
    have hv := hT.vs k'
    have e1 := hwe (P (k' + 1)) (hT.edges (k' + 1))
    have hwl : wlV (NN : Int) E (icL (P (k' + 1))) = (wE E (P (k' + 1)) : Int) := by
      unfold wlV
      rw [if_pos w7]
      exact e1
    have hway : isW E tN sN (P (k' + 1)) := by
      obtain ⟨f, r, hq⟩ := hT.ps k'
      by_cases hrq : r = 0
      · exact hq.wayE hrq
      · have hnil := (hq.zeroU hrq).1
        rw [hnil] at w6 ⊢
        rw [Bool.and_eq_true, decide_eq_true_eq] at w6
        have h8 := w6.2
        have h9 : isW E sN sN [] := rfl
        have h10 := h9.nds hr
        unfold nodesL at h8
        rw [if_pos w6.1] at h8
        have h11 : (icL ([] : List Nat)).length = 0 := rfl
        rw [h11] at h8
        rw [show ndL E (sN : Int) (icL []) (0 + 1) = ciL (ndsN E sN []) from h10] at h8
        have h12 : (sN : Int) = (tN : Int) := h8
        show sN = tN
        omega
    have hle : V 0 ≤ V (k' + 1) := by
      have h13 : (V (k' + 1) : Int) = (wE E (P (k' + 1)) : Int) := by rw [hv, hwl]
      rcases Nat.lt_or_ge (wE E (P (k' + 1))) farV with h14 | h14
      · have h15 := q5 (P (k' + 1)) ⟨hway, fun i _ => by simp, fun u _ => by simp⟩ h14
        rcases h15 with h15 | h15
        · rcases rLt_of.1 h15 with h16 | ⟨h16, _⟩ <;> omega
        · rw [h15] at q3; omega
      · omega
    refine ⟨w6, w2, w7, ?_, hle, ?_, w3, fun m j hm hj => ?_⟩
    · rw [e1, hv, hwl]
    · rw [hv]; exact w4
    · refine little_in w5 (j := m) ?_
      rw [List.getElem?_map, List.getElem?_take_of_lt hm, hj]
      rfl
end Go.Proofs.YtgplpgldhoelcaaGreat

namespace Go.Proofs.YtgplpgldhoelcaaGreat
open Go Go.RowKit
attribute [local go_sem] Oper.semAt_some
theorem gws_no {w w' : World} {po : Bool} {r z : Int} {n K : Nat} {why : Nat → List Nat → Int} {F : Nat → List Nat × Nat} {e : Ending} (h : GiveWs w po r n K why F e w') (hz : (po = false ∧ z = 1) ∨ (po = true ∧ r ≠ 0 ∧ z = r)) : e = .returned (.tuple #[.slice none 0 0, .int .i64 z]) ∧ Grows w w' := by
  unfold GiveWs at h
  rcases hz with ⟨h1, rfl⟩ | ⟨h1, h2, rfl⟩
  · rwa [if_pos h1] at h
  · rwa [if_neg (by rw [h1]; decide), if_pos h2] at h
theorem gws_yes {w w' : World} {po : Bool} {r : Int} {n K : Nat} {why : Nat → List Nat → Int} {F : Nat → List Nat × Nat} {e : Ending} (h : GiveWs w po r n K why F e w') (h1 : po = true) (h2 : r = 0) : ∃ A c rs, e = .returned (.tuple #[.slice A rs.length c, .int .i64 0]) ∧ RtsAt w' w.heap.size A c rs ((keepW why K n).map F) ∧ Grows w w' := by
  unfold GiveWs at h
  rwa [if_neg (by rw [h1]; decide), if_neg (by omega)] at h
end Go.Proofs.YtgplpgldhoelcaaGreat

namespace Go.Proofs.YtgplpgldhoelcaaGreat
open Go Go.RowKit
attribute [local go_sem] Oper.semAt_some
set_option maxRecDepth 40000 in
set_option maxHeartbeats 16000000 in
theorem penGoodGo (N : Int) (A : Option Addr) (n c : Nat) (s t : Int) (o : PO) (w : World) (Q : Nat → List Nat) (U : Nat → Nat) (S : Nat → Nat → Int) (m : Nat) (hfin : 0 ≤ o.r ∧ o.r ≤ 100 ∧ 1 ≤ o.k ∧ o.k ≤ 1024 ∧ (m : Int) ≤ o.k ∧ (m : Int) ≤ o.r + 1) (hm1 : 1 ≤ m) (hle : ∀ i, i < m → U 0 ≤ U i)
    (C5 : ∀ X, Calls Tryz.prog 34 #[] X fun e w' => e = .returned (.bool true) ∧ Grows X w')
    (C6 : ∀ X, Calls Tryz.prog 33 #[.agg #[.int .i64 N, .slice A n c], poV o] X fun e w' => e = .returned (.bool true) ∧ Grows X w')
    (C1 : ∀ X, Grows w X → Calls Tryz.prog 35 #[.agg #[.int .i64 N, .slice A n c], .int .i64 s, .int .i64 t, poV o] X fun e w' => ∃ A c rs, e = .returned (.tuple #[.slice A m c, .int .i64 0]) ∧ rs.length = m ∧ RtsAt w' 0 A c rs (pthK (fun i => (Q i, U i)) m) ∧ m ≤ c ∧ Grows X w')
    (CW : ∀ X, Grows w X → ∀ i, i < m → ∀ (A3 : Option Addr) (c3 : Nat), Own X 0 3 1 A3 (Q i).length c3 (nv (Q i)) → Calls Tryz.prog 32 #[.agg #[.int .i64 N, .slice A n c], .slice A3 (Q i).length c3] X fun e w' => e = .returned (.tuple #[.int .u64 (U i : Int), .bool true]) ∧ Grows X w')
    (CI : ∀ X, Grows w X → ∀ i, i < m → ∀ (A3 : Option Addr) (c3 : Nat), Own X 0 3 1 A3 (Q i).length c3 (nv (Q i)) → Calls Tryz.prog 22 #[.agg #[.int .i64 N, .slice A n c], .int .i64 s, .int .i64 t, .slice A3 (Q i).length c3] X fun e w' => e = .returned (.bool true) ∧ Grows X w')
    (CS : ∀ X, Grows w X → ∀ i, i < m → ∀ (A3 : Option Addr) (c3 : Nat), Own X 0 3 1 A3 (Q i).length c3 (nv (Q i)) → Calls Tryz.prog 23 #[.agg #[.int .i64 N, .slice A n c], .int .i64 s, .slice A3 (Q i).length c3] X fun e w' => e = .returned (.bool true) ∧ Grows X w')
    (CT : ∀ X i, i < m → Calls Tryz.prog 47 #[.int .u64 (U i : Int), .agg #[.int .u64 o.e1, .int .u64 o.e2], .int .u64 (U 0 : Int)] X fun e w' => e = .returned (.bool true) ∧ Grows X w')
    (CH : ∀ X i, i < m → ∀ (AL : Option Addr) (cL : Nat) (rs : List Rt), RtsAt X 0 AL cL rs (pthK (fun i => (Q i, U i)) m) → ∀ (A3 : Option Addr) (c3 : Nat), Own X 0 3 1 A3 (Q i).length c3 (nv (Q i)) → Calls Tryz.prog 48 #[.slice AL i cL, .slice A3 (Q i).length c3] X fun e w' => e = .returned (.bool false) ∧ Grows X w')
    (CSH : ∀ X, Grows w X → ∀ (i j : Nat) (A3 A4 : Option Addr) (c3 c4 : Nat), Own X 0 3 1 A3 (Q i).length c3 (nv (Q i)) → Own X 0 3 1 A4 (Q j).length c4 (nv (Q j)) → Calls Tryz.prog 50 #[.agg #[.int .i64 N, .slice A n c], .slice A3 (Q i).length c3, .slice A4 (Q j).length c4] X fun e w' => e = .returned (.int .u64 (S i j)) ∧ Grows X w')
    (CWI : ∀ X i j, i < m → j < i → Calls Tryz.prog 49 #[.int .u64 (S i j), .agg #[.int .u64 o.g1, .int .u64 o.g2], .int .u64 (U 0 : Int)] X fun e w' => e = .returned (.bool true) ∧ Grows X w') :
    Calls Tryz.prog 10 #[.agg #[.int .i64 N, .slice A n c], .int .i64 s, .int .i64 t, poV o] w fun e w' => e = .returned (.bool true) ∧ Grows w w' := by
  have C5 := hide C5
  have C6 := hide C6
  have C1 := hide C1
  have CW := hide CW
  have CI := hide CI
  have CS := hide CS
  have CT := hide CT
  have CH := hide CH
  have CSH := hide CSH
  have CWI := hide CWI
  have HLE := hide hle
  clear hle
  obtain ⟨or1, or2, k1, k2, b1, b2⟩ := hfin
  obtain ⟨ok_, or_, f1, f2, a1, a2, e1, e2, g1, g2⟩ := o
  unfold poV at C1 C6 ⊢
  dsimp only at C1 C6 CT CWI or1 or2 k1 k2 b1 b2 ⊢
  go_enter Tryz.func10, Tryz.ntmps10
  go_upto_region 1 with fail
  obtain ⟨w0, hw0⟩ : ∃ W, W = (w.alloc (.cells #[.int .i64 N, .slice A n c] 35)).alloc (.cells #[.int .i64 ok_, .int .i64 or_, .int .u64 f1, .int .u64 f2, .int .u64 a1, .int .u64 a2, .int .u64 e1, .int .u64 e2, .int .u64 g1, .int .u64 g2] 73) := ⟨_, rfl⟩
  have hg0 : Grows w w0 := by rw [hw0]; exact ((Grows.refl _).new _).new _
  have a4 : Arr w0 w.heap.size 35 [.int .i64 N, .slice A n c] := by rw [hw0]; exact (Arr.make w _ _).grow ((Grows.refl _).new _)
  have a7 : Arr w0 (w.heap.size + 1) 73 [.int .i64 ok_, .int .i64 or_, .int .u64 f1, .int .u64 f2, .int .u64 a1, .int .u64 a2, .int .u64 e1, .int .u64 e2, .int .u64 g1, .int .u64 g2] := by
    rw [hw0]
    have h := Arr.make (w.alloc (.cells #[.int .i64 N, .slice A n c] 35)) [.int .i64 ok_, .int .i64 or_, .int .u64 f1, .int .u64 f2, .int .u64 a1, .int .u64 a2, .int .u64 e1, .int .u64 e2, .int .u64 g1, .int .u64 g2] 73
    have e : (w.alloc (.cells #[.int .i64 N, .slice A n c] 35)).heap.size = w.heap.size + 1 := by simp
    rwa [e] at h
  rw [← hw0]
  clear hw0
  generalize w.heap.size + 1 = b7 at *
  obtain ⟨b4, hb4⟩ : ∃ b, b = w.heap.size := ⟨_, rfl⟩
  rw [← hb4] at a4 ⊢
  clear hb4
  have m6 := a7.mine 6 rfl
  have m7 := a7.mine 7 rfl
  have m8 := a7.mine 8 rfl
  have m9 := a7.mine 9 rfl
  go_upto_region 4 with (first
    | (go_at_call 33; refine (C6.out _).mono ?_; rintro e w' ⟨rfl, hg⟩; obtain ⟨x1, rfl⟩ := hg.later; clear hg)
    | (go_at_call 35; refine (C1.out _ (hg0.trans GG)).mono ?_; rintro e w' ⟨AL, cL, rs, rfl, hlr, hrs, hcp, hg⟩; obtain ⟨x2, rfl⟩ := hg.later; have HL := hide hrs; have HLR := hide hlr; clear hg hrs hlr))
  have hg2 : Grows w x2.now := hg0.trans GG
  obtain ⟨bL, oL, A0, c0, rfl, hc1, hc2, hoi⟩ := HL.out.cell2 (k := 0) (by omega)
  simp only [Nat.zero_mul, Nat.add_zero] at hc1 hc2
  clear hoi C1
  go_wp2_with fail
  go_loopw [12] (fun iv wr => ∃ i : Nat, i ≤ m ∧ iv = .int .i64 (i : Int) ∧ ∃ y : Later x2.now, wr = y.now) (fun iv _ => m - (Go.RowKit.intOf iv).toNat)
  case atStart => exact ⟨0, by omega, by go_num, ⟨_, GG⟩, rfl⟩
  case round =>
    obtain ⟨i, hi, rfl, y, rfl⟩ := hrel
    by_cases hlt : i < m
    · obtain ⟨bL2, oL2, A3, c3, eAL, hd1, hd2, o3⟩ := HL.out.cell2 (k := i) hlt
      injection eAL with eAL
      injection eAL with e1_ e2_
      subst e1_ e2_
      dsimp only at hd1 hd2 o3
      have HO3 := hide o3
      clear o3
      have hnl : ¬ U i < U 0 := by have := HLE.out i hlt; omega
      have CW2 := hide (fun (X : World) (g : Grows y.now X) => CW.out X (hg2.trans (y.grows.trans g)) i hlt A3 c3 (HO3.out.grows (y.grows.trans g)))
      have CI2 := hide (fun (X : World) (g : Grows y.now X) => CI.out X (hg2.trans (y.grows.trans g)) i hlt A3 c3 (HO3.out.grows (y.grows.trans g)))
      have CS2 := hide (fun (X : World) (g : Grows y.now X) => CS.out X (hg2.trans (y.grows.trans g)) i hlt A3 c3 (HO3.out.grows (y.grows.trans g)))
      have CT2 := hide (fun (X : World) => CT.out X i hlt)
      have CH2 := hide (fun (X : World) (g : Grows y.now X) => CH.out X i hlt _ cL rs (HL.out.grows (y.grows.trans g)) A3 c3 (HO3.out.grows (y.grows.trans g)))
      go_wp2_with fail
      ((first | refine wp_region_gen (by kernel_rfl) (by kernel_rfl) ?_); (repeat' ((first | refine gLex_val0 rfl (by kernel_rfl) (fun K hK => ?_) | refine gLex_undef rfl rfl rfl (by kernel_rfl) (fun K hK => ?_) | (refine gLex_ask rfl rfl rfl ?_; first | (apply gAsk_yes; kernel_rfl; intro K hK) | ((first | apply gAsk_no1 | apply gAsk_no2); kernel_rfl; intro K hK) | (apply gAsk_part; kernel_rfl; all_goals (intro h K hK; (try simp only [Bool.not_true] at h); (try simp only [Bool.not_false] at h); (try simp only [decide_eq_true_eq] at h); (try simp only [decide_eq_false_iff_not] at h); try (exfalso; first | contradiction | omega))))) <;> (go_simp; (try (simp only [↓IntWalk.iteOmega]; try go_simp)); (try simp (disch := omega) only [IntWalk.i64_in]); (try simp (disch := omega) only [IntWalk.u64_in]); first | (refine hK _ ?_; clear hK K) | (apply Exists.intro; refine ⟨fun x => ?_, hK _ ?_⟩; (first | (go_at_call 32; exact CW2.out _ GG)); clear hK K)))); all_goals ((apply gLex_end); intro z1))
      go_wp2_with fail
      ((first | refine wp_region_gen (by kernel_rfl) (by kernel_rfl) ?_); (repeat' ((first | refine gLex_val0 rfl (by kernel_rfl) (fun K hK => ?_) | refine gLex_undef rfl rfl rfl (by kernel_rfl) (fun K hK => ?_) | (refine gLex_ask rfl rfl rfl ?_; first | (apply gAsk_yes; kernel_rfl; intro K hK) | ((first | apply gAsk_no1 | apply gAsk_no2); kernel_rfl; intro K hK) | (apply gAsk_part; kernel_rfl; all_goals (intro h K hK; (try simp only [Bool.not_true] at h); (try simp only [Bool.not_false] at h); (try simp only [decide_eq_true_eq] at h); (try simp only [decide_eq_false_iff_not] at h); try (exfalso; first | contradiction | omega))))) <;> (go_simp; (try (simp only [↓IntWalk.iteOmega]; try go_simp)); (try simp (disch := omega) only [IntWalk.i64_in]); (try simp (disch := omega) only [IntWalk.u64_in]); first | (refine hK _ ?_; clear hK K) | (apply Exists.intro; refine ⟨fun x => ?_, hK _ ?_⟩; (first | (go_at_call 22; exact CI2.out _ GG) | (go_at_call 23; exact CS2.out _ GG) | (go_at_call 47; exact CT2.out _) | (go_at_call 48; exact CH2.out _ GG)); clear hK K)))); all_goals ((apply gLex_end); intro z2))
      clear CW2 CI2 CS2 CT2 CH2 hnl
      go_wp2_with fail
      go_loopw [15] (fun jv wr => ∃ j : Nat, j ≤ i ∧ jv = .int .i64 (j : Int) ∧ ∃ q : Later x2.now, wr = q.now) (fun jv _ => i - (Go.RowKit.intOf jv).toNat)
      case atStart => exact ⟨0, by omega, by go_num, ⟨_, GG⟩, rfl⟩
      case round =>
        clear y z1 z2
        obtain ⟨j, hj, rfl, q, rfl⟩ := hrel
        by_cases hjl : j < i
        · obtain ⟨bL3, oL3, A4, c4, eAL2, he1, he2, o4⟩ := HL.out.cell2 (k := j) (by omega)
          injection eAL2 with eAL2
          injection eAL2 with e1_ e2_
          subst e1_ e2_
          dsimp only at he1 he2 o4
          have HO4 := hide o4
          clear o4
          have CSH2 := hide (fun (X : World) (g : Grows q.now X) => CSH.out X (hg2.trans (q.grows.trans g)) i j A3 A4 c3 c4 (HO3.out.grows (q.grows.trans g)) (HO4.out.grows (q.grows.trans g)))
          have CWI2 := hide (fun (X : World) => CWI.out X i j hlt hjl)
          go_wp2_with fail
          ((first | refine wp_region_gen (by kernel_rfl) (by kernel_rfl) ?_); (repeat' ((first | refine gLex_val0 rfl (by kernel_rfl) (fun K hK => ?_) | refine gLex_undef rfl rfl rfl (by kernel_rfl) (fun K hK => ?_) | (refine gLex_ask rfl rfl rfl ?_; first | (apply gAsk_yes; kernel_rfl; intro K hK) | ((first | apply gAsk_no1 | apply gAsk_no2); kernel_rfl; intro K hK) | (apply gAsk_part; kernel_rfl; all_goals (intro h K hK; (try simp only [Bool.not_true] at h); (try simp only [Bool.not_false] at h); (try simp only [decide_eq_true_eq] at h); (try simp only [decide_eq_false_iff_not] at h); try (exfalso; first | contradiction | omega))))) <;> (go_simp; (try (simp only [↓IntWalk.iteOmega]; try go_simp)); (try simp (disch := omega) only [IntWalk.i64_in]); (try simp (disch := omega) only [IntWalk.u64_in]); first | (refine hK _ ?_; clear hK K) | (apply Exists.intro; refine ⟨fun x => ?_, hK _ ?_⟩; (first | (go_at_call 50; exact CSH2.out _ GG) | (go_at_call 49; exact CWI2.out _)); clear hK K)))); all_goals ((apply gLex_end); intro z3))
          go_wp2_with fail
          go_roundw
          case measure => simp [Go.RowKit.intOf]; omega
          case rel => exact ⟨j + 1, by omega, by go_num, ⟨_, GG⟩, rfl⟩
        · obtain rfl : i = j := by omega
          go_wp2_with fail
          go_roundw
          case measure => simp [Go.RowKit.intOf]; omega
          case rel => exact ⟨i + 1, by omega, by go_num, ⟨_, GG⟩, rfl⟩
    · obtain rfl : m = i := by omega
      go_wp2_with (go_at_call 34; refine (C5.out _).mono ?_; rintro e w' ⟨rfl, hg⟩; obtain ⟨x5, rfl⟩ := hg.later; clear hg)
      go_ret
      exact ⟨rfl, hg2.trans GG⟩
set_option maxRecDepth 40000 in
set_option maxHeartbeats 16000000 in
theorem penGoodW (N : Int) (A : Option Addr) (n c : Nat) (E : List Edg) (s t : Int) (o : PO) (w : World) (_ : I64 N) (_ : n ≤ c) (h : Rd w A 3 n (esCells E)) (_ : ∀ k, k < n → edgOk (ge E k)) (_ : I64 s) (_ : I64 t) (ho : poIn o) :
    Calls Tryz.prog 10 #[.agg #[.int .i64 N, .slice A n c], .int .i64 s, .int .i64 t, poV o] w fun e w' => e = .returned (.bool true) ∧ Grows w w' := by
  have C5 := hide (fun (W : World) => alive32 W)
  have C6 := hide (fun (W : World) => lLight32 N A n c o W)
  obtain ⟨hk1, hk2, ⟨u1, u1'⟩, ⟨u2, u2'⟩, ⟨u3, u3'⟩, ⟨u4, u4'⟩⟩ := ho
  obtain rfl : E.length = n := h.elen
  cases hl : lightP N E.length o.r with
  | false =>
    rw [hl] at C6
    generalize E.length = n at *
    clear h hl
    obtain ⟨ok_, or_, f1, f2, a1, a2, e1, e2, g1, g2⟩ := o
    unfold poV at C6 ⊢
    dsimp only at C6 ⊢
    go_enter Tryz.func10, Tryz.ntmps10
    go_wp2_with (first | (go_at_call 33; refine (C6.out _).mono ?_; rintro e w' ⟨rfl, hg⟩; (first | obtain ⟨x, rfl⟩ := Grows.later2 hg | obtain ⟨x, rfl⟩ := Grows.later hg); clear hg) | (go_at_call 34; refine (C5.out _).mono ?_; rintro e w' ⟨rfl, hg⟩; (first | obtain ⟨x, rfl⟩ := Grows.later2 hg | obtain ⟨x, rfl⟩ := Grows.later hg); clear hg))
    go_ret
    exact ⟨rfl, GG⟩
  | true =>
    rw [hl] at C6
    have hlt := lightP_of hl
    clear hl
    obtain ⟨WW, P, V, r, ts, hA⟩ := pen_all N s t A c E o w h (by omega) (by omega) u1 u2 u3 u4 u2'
    by_cases hno : poB o = false ∨ r ≠ 0
    · obtain ⟨z, hz, hz0⟩ : ∃ z : Int, ((poB o = false ∧ z = 1) ∨ (poB o = true ∧ r ≠ 0 ∧ z = r)) ∧ z ≠ 0 := by
        cases hpo : poB o with
        | false => exact ⟨1, .inl ⟨rfl, rfl⟩, by decide⟩
        | true =>
          have hr : r ≠ 0 := by
            rcases hno with e | e
            · rw [hpo] at e; cases e
            · exact e
          exact ⟨r, .inr ⟨rfl, hr, rfl⟩, hr⟩
      have hzb : (z != 0) = true := by simpa using hz0
      have C1 := hide (fun (X : World) (g : Grows w X) => (hA.ways X g).mono (fun e w' hh => gws_no hh hz))
      clear hno hz hA hlt h hz0
      generalize E.length = n at *
      clear u1 u1' u2 u2' u3 u3' u4 u4' hk1 hk2
      obtain ⟨ok_, or_, f1, f2, a1, a2, e1, e2, g1, g2⟩ := o
      unfold poV at C1 C6 ⊢
      dsimp only at C1 C6 ⊢
      go_enter Tryz.func10, Tryz.ntmps10
      go_wp2_with (first | (go_at_call 33; refine (C6.out _).mono ?_; rintro e w' ⟨rfl, hg⟩; (first | obtain ⟨x, rfl⟩ := Grows.later2 hg | obtain ⟨x, rfl⟩ := Grows.later hg); clear hg) | (go_at_call 35; refine (C1.out _ GG).mono ?_; rintro e w' ⟨rfl, hg⟩; (first | obtain ⟨x, rfl⟩ := Grows.later2 hg | obtain ⟨x, rfl⟩ := Grows.later hg); clear hg) | (go_at_call 34; refine (C5.out _).mono ?_; rintro e w' ⟨rfl, hg⟩; (first | obtain ⟨x, rfl⟩ := Grows.later2 hg | obtain ⟨x, rfl⟩ := Grows.later hg); clear hg))
      go_ret
      exact ⟨rfl, GG⟩
    · have hpo : poB o = true := by cases e : poB o with
        | false => exact absurd (.inl e) hno
        | true => rfl
      have hr0 : r = 0 := by
        by_cases hr : r = 0
        · exact hr
        · exact absurd (.inr hr) hno
      subst hr0
      clear hno
      have hR := poB_k hpo
      have hbl := hA.tr.below (show N ≤ 1000 ∨ 4096 < N by omega)
      have hkl := keepW_len (whyK N s t E o P (V 0) 0 ts) o.k.toNat (o.r.toNat + 1)
      have hkK := (keepW_le (whyK N s t E o P (V 0) 0 ts) o.k.toNat (o.r.toNat + 1)).1
      have hgd := pen_good (ts := ts) hA.tr hA.path hpo (o.r.toNat + 1)
      have hfst := keep_first (whyK N s t E o P (V 0) 0 ts) (K := o.k.toNat) (by omega) o.r.toNat
      have C1 := hide (fun (X : World) (g : Grows w X) => (hA.ways X g).mono (fun e w' hh => gws_yes hh hpo rfl))
      clear hA
      generalize keepW (whyK N s t E o P (V 0) 0 ts) o.k.toNat (o.r.toNat + 1) = ks at *
      have hEl : E.length ≤ 1000000 := by omega
      have hrr := hpo
      unfold poB at hrr
      simp only [Bool.and_eq_true] at hrr
      have hm1 : 1 ≤ ks.length := (List.getElem?_eq_some_iff.1 hfst).1
      have hGD : ∀ i, i < ks.length → PenGd N s t E o P V ks i (gn ks i) := fun i hi => by
        obtain ⟨k, h1, h2⟩ := hgd i hi
        have : gn ks i = k := by unfold gn; rw [List.getD_eq_getElem?_getD, h1]; rfl
        rw [this]
        exact h2
      have h00 : gn ks 0 = 0 := by unfold gn; rw [List.getD_eq_getElem?_getD, hfst]; rfl
      have hVu : ∀ i, i < ks.length → U64 (V (gn ks i) : Int) := fun i hi => by
        have h1 := (hGD i hi).wt
        rw [← h1]
        have h2 := wtK_bd (hGD i hi).eds (icL (P (gn ks i))).length (Nat.le_refl _)
        have h3 := hbl (gn ks i)
        rw [icL_len] at h2 ⊢
        unfold U64
        omega
      have hV0 : U64 (V 0 : Int) := by have := hVu 0 hm1; rwa [h00] at this
      have hps : ks.map (fun j => (P j, V j)) = pthK (fun i => (P (gn ks i), V (gn ks i))) ks.length := by
        refine List.ext_getElem (by simp [pthK]) fun i h1 h2 => ?_
        have hi : i < ks.length := by simpa using h1
        simp [pthK, gn, hi]
      have hle : ∀ i, i < ks.length → V (gn ks 0) ≤ V (gn ks i) := fun i hi => by rw [h00]; exact (hGD i hi).le
      rw [hps] at C1
      refine penGoodGo N A E.length c s t o w (fun i => P (gn ks i)) (fun i => V (gn ks i)) (fun i j => sharedV N E (icL (P (gn ks i))) (icL (P (gn ks j)))) ks.length (by omega) hm1 hle C5.out C6.out (fun X g => (C1.out X g).mono ?_) (fun X g i hi A3 c3 o3 => ?_) (fun X g i hi A3 c3 o3 => ?_) (fun X g i hi A3 c3 o3 => ?_) (fun X i hi => ?_) (fun X i hi AL cL rs hrs A3 c3 o3 => ?_) (fun X g i j A3 A4 c3 c4 o3 o4 => ?_) (fun X i j hi hj => ?_)
      · rintro e w' ⟨A1, c1, rs1, rfl, hr1, hg⟩
        have hl := hr1.len
        simp [pthK] at hl
        have hc := hr1.own.cap
        rw [hl] at hc ⊢
        exact ⟨A1, c1, rs1, rfl, hl, ⟨hr1.own.base (Nat.zero_le _), hr1.rows, hr1.eqs⟩, hc, hg⟩
      · have hq := r8Weight N A E.length c E A3 _ c3 (icL (P (gn ks i))) X (h.grows g) hEl (by rw [← icL_nv]; exact o3.rd) (by have := hbl (gn ks i); omega)
        rw [(hGD i hi).eds, if_pos rfl, (hGD i hi).wt] at hq
        exact hq
      · have hq := r8Is N A E.length c E s t A3 _ c3 (icL (P (gn ks i))) X (h.grows g) hEl (by rw [← icL_nv]; exact o3.rd) (by have := hbl (gn ks i); omega)
        rw [(hGD i hi).is] at hq
        exact hq
      · have hq := r8Simple N A E.length c E s A3 _ c3 (icL (P (gn ks i))) X (h.grows g) hEl (by rw [← icL_nv]; exact o3.rd) (by have := hbl (gn ks i); omega)
        rw [(hGD i hi).sim] at hq
        exact hq
      · rw [h00]
        have hq := rStretched (V (gn ks i) : Int) o.e1 o.e2 (V 0 : Int) X (hVu i hi) u3 hV0
        rw [(hGD i hi).st] at hq
        exact hq
      · rw [← hps] at hrs
        have hrl : rs.length = ks.length := by have := hrs.len; simpa using this
        have hcut := hrs.cutG (k := i) (by omega)
        obtain ⟨q1, q2⟩ := hcut.had
        have hln : ((rs.take i).map rtH).length = i := by rw [List.length_map, List.length_take]; omega
        rw [hln] at q1
        have hxs : ((rs.take i).map rtH).map (·.xs) = ((ks.take i).map fun j => icL (P j)) := by
          rw [q2, ← List.map_take, List.map_map]
          rfl
        have hq := r29Had AL i cL ((rs.take i).map rtH) A3 _ c3 (icL (P (gn ks i))) X q1 (by omega) (fun x hx => by
          obtain ⟨y, hy, rfl⟩ := List.mem_map.1 hx
          have hm : (y.2.2.1, y.2.2.2) ∈ ks.map (fun j => (P j, V j)) := by rw [← hrs.eqs]; exact List.mem_map.2 ⟨y, List.mem_of_mem_take hy, rfl⟩
          obtain ⟨j, hj, e⟩ := List.mem_map.1 hm
          have e1 : y.2.2.1 = P j := by injection e with e _; exact e.symm
          show y.2.2.1.length ≤ 1000000
          rw [e1]
          have := hbl j
          omega) (by rw [← icL_nv]; exact o3.rd) (by have := hbl (gn ks i); omega)
        rw [hadB_xs (H' := (((ks.take i).map fun j => icL (P j)).map hrX)) (by rw [hxs, List.map_map]; exact (List.map_id _).symm), (hGD i hi).had] at hq
        exact hq
      · exact r8Shared N A E.length c E A3 _ c3 (icL (P (gn ks i))) A4 _ c4 (icL (P (gn ks j))) X (h.grows g) hEl (by rw [← icL_nv]; exact o3.rd) (by have := hbl (gn ks i); omega) o3.cap (by rw [← icL_nv]; exact o4.rd) (by have := hbl (gn ks j); omega)
      · rw [h00]
        have hq := rWithin (sharedV N E (icL (P (gn ks i))) (icL (P (gn ks j)))) o.g1 o.g2 (V 0 : Int) X (sharedV_u64 _ _ _ _) u4 hV0
        have hjj : ks[j]? = some (gn ks j) := by simp [gn, show j < ks.length by omega]
        rw [(hGD i hi).wi j (gn ks j) hj hjj] at hq
        exact hq
end Go.Proofs.YtgplpgldhoelcaaGreat

namespace Go.Proofs.YtgplpgldhoelcaaGreat.lawPenGood
open Go Go.ChangeShapes Go.WideShapes Go.ChangeAt Go.RowKit Go.Proofs.YtgplpgldhoelcaaGreat

theorem own : ownKnob Tryz.prog.godebug = none := by kernel_rfl
theorem laidOut : laidOutB Tryz.prog = true := by kernel_rfl

set_option maxRecDepth 100000 in
theorem lifted (os : Os) (started : os.Started) (H : Type) (enc : TypeId × Value → H) :
    ReturnsInHanded {} Tryz.checked os 10 .any (Rows.penGoodSpec.pre6 enc Tryz.prog Tryz.f10 Rows.penGoodRow.domain false) (Rows.penGoodSpec.post enc Tryz.prog Tryz.f10 false true false false) := by
  refine returnsInHanded_of_change (C := Tryz.checked) own started (by kernel_rfl) Tryz.func10
    (ChangeSpec.witness6 (enc := enc) (C := Tryz.checked) false ⟨#[], #[.agg #[.int .i64 0, .slice none 0 0], .int .i64 0, .int .i64 0, .agg #[.int .i64 0, .int .i64 0, .int .u64 0, .int .u64 0, .int .u64 0, .int .u64 0, .int .u64 0, .int .u64 0, .int .u64 0, .int .u64 0]], []⟩ 8 (by kernel_rfl) (by kernel_rfl) (by kernel_rfl) (by kernel_rfl)) ?_
  intro W base args ds gs before hval0 hW hcnd _
  have hval : ∀ (j : Nat) t v, Tryz.f10.params[j]? = some t → args[j]? = some v → Value.okWide Tryz.prog W .any base t v := hval0
  have hW' := hW
  obtain ⟨p, q, hA0, hV, rfl, hfz, hnd⟩ := hW
  have hA : DataW.TrodAll enc Tryz.prog W 0 (fun _ => true) true Tryz.f10.params.toList args.toList ds p := hA0
  rw [Tryz.params10] at hA hval
  obtain ⟨v0, vs0, d0, ds0, p0, q0, hargs, rfl, rfl, h0, r0⟩ := trodAll_cons hA
  obtain ⟨v1, vs1, d1, ds1, p1, q1, rfl, rfl, rfl, h1, r1⟩ := trodAll_cons r0
  obtain ⟨v2, vs2, d2, ds2, p2, q2, rfl, rfl, rfl, h2, r2⟩ := trodAll_cons r1
  obtain ⟨v3, vs3, d3, ds3, p3, q3, rfl, rfl, rfl, h3, r3⟩ := trodAll_cons r2
  obtain ⟨rfl, rfl, rfl⟩ := trodAll_nil r3
  obtain rfl : args = #[v0, v1, v2, v3] := by cases args; simp_all
  obtain ⟨rfl, rfl⟩ := trodVars_none hV
  have k0 := h0
  have lt0 : ∀ x ∈ p0, x.block < W.heap.size := by obtain ⟨m, hm⟩ := k0; exact DataW.trod_lt m _ _ _ hm
  obtain ⟨a0, A0, n0, c0, z0, rfl, x0, l0, w0, u0⟩ := open_graph Tryz.underlying35 Tryz.underlying3 Tryz.underlying33 Tryz.underlying84 Tryz.underlying3 Tryz.underlying3 Tryz.underlying41 ⟨rfl, rfl, rfl⟩ ⟨by kernel_rfl, by kernel_rfl, by kernel_rfl⟩ (by kernel_rfl) (by kernel_rfl) (by kernel_rfl) (hval 0 35 v0 rfl rfl) h0
  have k1 := h1
  have lt1 : ∀ x ∈ p1, x.block < W.heap.size := by obtain ⟨m, hm⟩ := k1; exact DataW.trod_lt m _ _ _ hm
  obtain ⟨a1, rfl, w1⟩ := open_i64 Tryz.underlying3 (hval 1 3 v1 rfl rfl) h1
  have k2 := h2
  have lt2 : ∀ x ∈ p2, x.block < W.heap.size := by obtain ⟨m, hm⟩ := k2; exact DataW.trod_lt m _ _ _ hm
  obtain ⟨a2, rfl, w2⟩ := open_i64 Tryz.underlying3 (hval 2 3 v2 rfl rfl) h2
  have k3 := h3
  have lt3 : ∀ x ∈ p3, x.block < W.heap.size := by obtain ⟨m, hm⟩ := k3; exact DataW.trod_lt m _ _ _ hm
  obtain ⟨o3, rfl, w3⟩ := open_popt Tryz.underlying73 Tryz.underlying3 Tryz.underlying3 ⟨rfl, rfl, rfl, rfl⟩ Tryz.underlying71 Tryz.underlying41 Tryz.underlying41 ⟨rfl, rfl⟩ ⟨by kernel_rfl, by kernel_rfl⟩ (by kernel_rfl) ⟨rfl, rfl, rfl, rfl, rfl, rfl⟩ ⟨by kernel_rfl, by kernel_rfl⟩ (by kernel_rfl) (hval 3 73 v3 rfl rfl) h3
  clear hA0 hval0
  refine (penGoodW a0 A0 n0 c0 z0 a1 a2 o3 W x0 l0 w0 u0 w1 w2 w3).mono fun e W' ⟨he, bel⟩ => ?_
  subst he
  exact ⟨_, rfl, _, _, _, [], _, [], hW', trodAll_mk1 (shut_bool Tryz.underlying4 _), (trodAll_cons_mk (Below.trod laidOut (by kernel_rfl) (of_decide_eq_true (by kernel_rfl)) k0 bel lt0) (trodAll_cons_mk (Below.trod laidOut (by kernel_rfl) (of_decide_eq_true (by kernel_rfl)) k1 bel lt1) (trodAll_cons_mk (Below.trod laidOut (by kernel_rfl) (of_decide_eq_true (by kernel_rfl)) k2 bel lt2) (trodAll_cons_mk (Below.trod laidOut (by kernel_rfl) (of_decide_eq_true (by kernel_rfl)) k3 bel lt3) trodAll_mk0)))), rfl, Below.frame bel _, fun h => by cases h⟩

theorem over : Rows.penGoodRow.holds Tryz.pinned (OpenSpec.ofChange Rows.penGoodSpec) :=
  OpenClaim.holds_of_wide 10 Tryz.f10 rfl rfl rfl rfl rfl rfl rfl ⟨rfl, rfl, rfl, rfl, rfl⟩ rfl rfl rfl rfl rfl (by kernel_rfl) Tryz.func10 (by kernel_rfl)
    (of_decide_eq_true (by kernel_rfl)) (by unfold Func.isWrapper; first | (rw [if_pos (by decide +kernel)]; kernel_rfl) | (rw [if_neg (by decide +kernel)]; exact ⟨rfl, rfl⟩))
    (fun os started H enc _ => lifted os started H enc)

end Go.Proofs.YtgplpgldhoelcaaGreat.lawPenGood
namespace Go.Proofs.YtgplpgldhoelcaaGreat
theorem penGood_proved : Rows.PenGoodSaid := lawPenGood.over
#print axioms penGood_proved
end Go.Proofs.YtgplpgldhoelcaaGreat

