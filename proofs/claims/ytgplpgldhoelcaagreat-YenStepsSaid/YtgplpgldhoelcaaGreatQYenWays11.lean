/- Contracts: the answer's rows of edges; whether a number is there. -/
import Derived.Deep.Strs
import Derived.Deep.DeepCutAuto
import Derived.Test.YtgplpgldhoelcaaGreatQYenWays01
import Derived.Test.YtgplpgldhoelcaaGreatQYenWays05
import Derived.Test.YtgplpgldhoelcaaGreatQYenWays10
namespace Go.Proofs.YtgplpgldhoelcaaGreat
open Go Go.RowKit
set_option maxHeartbeats 1000000 in
theorem r1Has (A : Option Addr) (n c : Nat) (l : List Int) (v : Int) (w : World) (h : Rd w A 1 n (l.map (.int .i64))) (hn : n ≤ 1000000) :
    Calls Tryz.prog 57 #[.slice A n c, .int .i64 v] w fun e w' => e = .returned (.bool (decide (v ∈ l))) ∧ w = w' := by
  have HL := hide (show l.length = n by simpa using h.len)
  have HR := hide h
  clear h
  go_enter Tryz.func57, Tryz.ntmps57
  go_wp2
  go_loop [5] (fun i => ∃ k : Nat, k ≤ n ∧ i = .int .i64 (k : Int) ∧ ∀ j, j < k → gi l j ≠ v) (fun i => n - (intOf i).toNat)
  case atStart => exact ⟨0, by omega, by go_num, fun j h1 => by omega⟩
  case round =>
    obtain ⟨q, hq, rfl, hall⟩ := hrel
    have HA := hide hall
    clear hall
    by_cases hend : n ≤ q
    · go_wp2
      go_ret
      refine ⟨ret_bool (decide_eq_false fun hm => ?_).symm, rfl⟩
      obtain ⟨j, hj, e⟩ := mem_gi hm
      exact HA.out j (by have := HL.out; omega) e
    · obtain ⟨b, off, rfl, hc⟩ := HR.out.ints (by omega)
      have hc1 := hc q (by omega)
      clear hc
      by_cases hv : gi l q = v
      · have HV := hide (show v ∈ l from hv ▸ gi_mem (by have := HL.out; omega))
        have hd : (gi l q == v) = true := by simpa using hv
        clear hv
        go_wp2
        go_ret
        exact ⟨ret_bool (decide_eq_true HV.out).symm, rfl⟩
      · have HV := hide hv
        have hd : (gi l q == v) = false := by simpa using hv
        clear hv
        go_wp2
        go_round
        case measure => simp [intOf]; omega
        case rel =>
          refine ⟨q + 1, by omega, by go_num, fun j h1 => ?_⟩
          by_cases hj : j = q
          · rw [hj]; exact HV.out
          · exact HA.out j (by omega)

end Go.Proofs.YtgplpgldhoelcaaGreat

namespace Go.Proofs.YtgplpgldhoelcaaGreat
open Go Go.RowKit
def cnt2 (x : Srch) (i : Nat) : Bool := !x.ne i && !x.nn (fN x.E i) && !x.nn (tN x.E i)
def rlxB (x : Srch) (d : List Nat) (i : Nat) : Bool := cnt2 x i && decide (gn d (nN x.E x.back i) < farV) && decide (gn d (nN x.E x.back i) + gn x.W i < gn d (toE x i))
def rlx (x : Srch) (d : List Nat) (i : Nat) : List Nat := if rlxB x d i = true then d.set (toE x i) (gn d (nN x.E x.back i) + gn x.W i) else d
def rlxK (x : Srch) (d : List Nat) (k : Nat) : List Nat := (List.range k).foldl (rlx x) d
def rnd (x : Srch) (d : List Nat) : List Nat := rlxK x d x.E.length
def rndK (x : Srch) (d : List Nat) : Nat → List Nat
  | 0 => d
  | k + 1 => rnd x (rndK x d k)
theorem rlxK_succ (x : Srch) (d : List Nat) (k : Nat) : rlxK x d (k + 1) = rlx x (rlxK x d k) k := by simp [rlxK, List.range_succ, List.foldl_append]
theorem rlx_len (x : Srch) (d : List Nat) (i : Nat) : (rlx x d i).length = d.length := by unfold rlx; split <;> simp
theorem rlxK_len (x : Srch) (d : List Nat) (k : Nat) : (rlxK x d k).length = d.length := by
  induction k with
  | zero => rfl
  | succ k ih => rw [rlxK_succ, rlx_len, ih]
theorem rndK_len (x : Srch) (d : List Nat) (k : Nat) : (rndK x d k).length = d.length := by
  induction k with
  | zero => rfl
  | succ k ih => show (rlxK x _ _).length = _; rw [rlxK_len, ih]
theorem gn_setN (d : List Nat) (i j f : Nat) (h : i < d.length) : gn (d.set i f) j = if j = i then f else gn d j := by
  unfold gn
  by_cases e : j = i
  · subst e; simp [h]
  · simp [e, Ne.symm e]
theorem rlx_le (x : Srch) (d : List Nat) (i v : Nat) (ht : toE x i < d.length) : gn (rlx x d i) v ≤ gn d v := by
  unfold rlx
  split
  · rename_i h
    rw [gn_setN _ _ _ _ ht]
    split
    · rename_i e
      unfold rlxB at h
      simp only [Bool.and_eq_true, decide_eq_true_eq] at h
      rw [e]
      omega
    · exact Nat.le_refl _
  · exact Nat.le_refl _
theorem rlxK_le (x : Srch) (d : List Nat) (v : Nat) (ht : ∀ i, i < x.E.length → toE x i < d.length) : ∀ k, k ≤ x.E.length → ∀ j, j ≤ k → gn (rlxK x d k) v ≤ gn (rlxK x d j) v := by
  intro k
  induction k with
  | zero => intro _ j hj; rw [Nat.le_zero.1 hj]; exact Nat.le_refl _
  | succ k ih =>
    intro hk j hj
    rcases Nat.lt_or_ge j (k + 1) with h | h
    · rw [rlxK_succ]
      exact Nat.le_trans (rlx_le x _ k v (by rw [rlxK_len]; exact ht k (by omega))) (ih (by omega) j (by omega))
    · rw [show j = k + 1 by omega]; exact Nat.le_refl _
theorem rnd_le (x : Srch) (d : List Nat) (v : Nat) (ht : ∀ i, i < x.E.length → toE x i < d.length) : gn (rnd x d) v ≤ gn d v := rlxK_le x d v ht _ (Nat.le_refl _) 0 (Nat.zero_le _)
theorem rnd_edge (x : Srch) (d : List Nat) (i : Nat) (hi : i < x.E.length) (ht : ∀ i, i < x.E.length → toE x i < d.length) (hc : cnt2 x i = true) (hf : gn d (nN x.E x.back i) < farV) : gn (rnd x d) (toE x i) ≤ gn d (nN x.E x.back i) + gn x.W i := by
  have h1 := rlxK_le x d (toE x i) ht _ (Nat.le_refl _) (i + 1) hi
  have h2 := rlxK_le x d (nN x.E x.back i) ht i (by omega) 0 (Nat.zero_le _)
  have h3 : gn (rlxK x d (i + 1)) (toE x i) ≤ gn (rlxK x d i) (nN x.E x.back i) + gn x.W i := by
    rw [rlxK_succ]
    unfold rlx
    have hl : toE x i < (rlxK x d i).length := by rw [rlxK_len]; exact ht i hi
    split
    · rw [gn_setN _ _ _ _ hl, if_pos rfl]; exact Nat.le_refl _
    · rename_i h
      unfold rlxB at h
      rw [hc, decide_eq_true (Nat.lt_of_le_of_lt h2 hf)] at h
      simp at h
      omega
  exact Nat.le_trans h1 (Nat.le_trans h3 (Nat.add_le_add_right h2 _))
def Sound (x : Srch) (s : Nat) (d : List Nat) : Prop := ∀ v, v < x.N → gn d v < farV → Way x s v (gn d v)
theorem Sound.rlx {x : Srch} {s i : Nat} {d : List Nat} (h : Sound x s d) (hl : d.length = x.N) (hi : i < x.E.length) (hn : nN x.E x.back i < x.N) (ht : toE x i < x.N) : Sound x s (rlx x d i) := by
  intro v hv hf
  unfold Go.Proofs.YtgplpgldhoelcaaGreat.rlx at hf ⊢
  split at hf
  · rename_i hb
    rw [if_pos hb]
    rw [gn_setN _ _ _ _ (by omega)] at hf ⊢
    by_cases e : v = toE x i
    · rw [if_pos e]
      unfold rlxB cnt2 at hb
      simp only [Bool.and_eq_true, decide_eq_true_eq] at hb
      rw [e]
      refine (h _ hn hb.1.2).step hi ?_
      unfold cntE toE
      rw [hb.1.1.1.1]
      split
      · rw [hb.1.1.1.2]; rfl
      · rw [hb.1.1.2]; rfl
    · rw [if_neg e] at hf ⊢
      exact h v hv hf
  · rename_i hb
    rw [if_neg hb]
    exact h v hv hf
theorem Sound.rnds {x : Srch} {s : Nat} {d : List Nat} (h : Sound x s d) (hl : d.length = x.N) (hn : ∀ i, i < x.E.length → nN x.E x.back i < x.N) (ht : ∀ i, i < x.E.length → toE x i < x.N) : ∀ k, Sound x s (rndK x d k) := by
  have one : ∀ d, d.length = x.N → Sound x s d → ∀ k, k ≤ x.E.length → Sound x s (rlxK x d k) := by
    intro d hl h k
    induction k with
    | zero => intro _; exact h
    | succ k ih =>
      intro hk
      rw [rlxK_succ]
      exact (ih (by omega)).rlx (by rw [rlxK_len]; exact hl) (by omega) (hn k (by omega)) (ht k (by omega))
  intro k
  induction k with
  | zero => exact h
  | succ k ih => exact one _ (by rw [rndK_len]; exact hl) ih _ (Nat.le_refl _)
def dBeg (N s : Nat) : List Nat := (List.replicate N farV).set s 0
theorem dBeg_at {N s v : Nat} (hs : s < N) (hv : v < N) : gn (dBeg N s) v = if v = s then 0 else farV := by
  unfold dBeg
  rw [gn_setN _ _ _ _ (by simpa using hs)]
  split
  · rfl
  · simp [gn, hv]
theorem Way.clean {x : Srch} {s v f : Nat} (h : Way x s v f) (hs : x.nn s = false) : x.nn v = false := by
  cases h with
  | here => exact hs
  | step h hi hc =>
    unfold cntE at hc
    simp only [Bool.and_eq_true, Bool.not_eq_true'] at hc
    exact hc.2
theorem rndK_hit {x : Srch} {s mw : Nat} {xs : List (Nat × Nat)} (h : Far x s mw xs) (hx : SrchIn x mw) (hb : x.N * mw < farV) (hm : x.most = 0) (hs : s < x.N) (hns : x.nn s = false) (_ : ∀ i, i < x.E.length → nN x.E x.back i < x.N) :
    ∀ (k j v f : Nat), j ≤ k → xs[j]? = some (v, f) → gn (rndK x (dBeg x.N s) k) v ≤ f := by
  have hlen : ∀ k, (rndK x (dBeg x.N s) k).length = x.N := fun k => by rw [rndK_len]; simp [dBeg]
  have hT : ∀ k i, i < x.E.length → toE x i < (rndK x (dBeg x.N s) k).length := fun k i hi => by rw [hlen]; exact hx.ends i hi
  have hzero : ∀ k, gn (rndK x (dBeg x.N s) k) s ≤ 0 := by
    intro k
    induction k with
    | zero => show gn (dBeg x.N s) s ≤ 0; rw [dBeg_at hs hs, if_pos rfl]; exact Nat.le_refl _
    | succ k ih => exact Nat.le_trans (rnd_le x _ s (hT k)) ih
  -- who comes ahead
  have pred : ∀ (j v f : Nat), xs[j]? = some (v, f) → v ≠ s → ∃ (i j' g : Nat), i < x.E.length ∧ toE x i = v ∧ xs[j']? = some (nN x.E x.back i, g) ∧ j' < j ∧ f = g + gn x.W i ∧ cnt2 x i = true ∧ g < farV := by
    intro j v f hj hvs
    have hmem : (v, f) ∈ xs := List.mem_of_getElem? hj
    have hw := (h.way _ _ hmem).2.1
    cases hw with
    | here => exact absurd rfl hvs
    | @step f' i hw hi hc =>
      obtain ⟨g, hg, hle⟩ := h.all _ _ hw (fun h => by omega)
      have hwg := (h.way _ _ hg)
      obtain ⟨g2, hg2, hle2⟩ := h.all _ _ (hwg.2.1.step hi hc) (fun h => by omega)
      have e := h.one hg2 hmem
      have hlo := hx.low i hi
      obtain ⟨j', hj'⟩ := List.mem_iff_getElem?.1 hg
      refine ⟨i, j', g, hi, rfl, hj', ?_, by omega, ?_, by have := hwg.2.2.2; omega⟩
      · rcases Nat.lt_or_ge j' j with hlt | hge
        · exact hlt
        · exfalso
          rcases Nat.lt_or_ge j j' with hlt | hge2
          · have h1 := List.getElem?_eq_some_iff.1 hj
            have h2 := List.getElem?_eq_some_iff.1 hj'
            obtain ⟨l1, e1⟩ := h1
            obtain ⟨l2, e2⟩ := h2
            have := List.pairwise_iff_getElem.1 h.sorted j j' l1 l2 hlt
            rw [e1, e2, ahead_yes] at this
            simp only at this
            omega
          · have hjj : j = j' := by omega
            rw [hjj] at hj
            rw [hj] at hj'
            have := (Prod.mk.inj (Option.some.inj hj')).2
            omega
      · have c1 := Way.clean (hwg.2.1) hns
        unfold cntE at hc
        unfold cnt2
        simp only [Bool.and_eq_true, Bool.not_eq_true'] at hc ⊢
        unfold nN at c1
        unfold toE at hc
        cases hbk : x.back with
        | true => rw [hbk] at c1 hc; exact ⟨⟨hc.1, hc.2⟩, c1⟩
        | false => rw [hbk] at c1 hc; exact ⟨⟨hc.1, c1⟩, hc.2⟩
  intro k
  induction k with
  | zero =>
    intro j v f hjk hj
    by_cases hvs : v = s
    · rw [hvs]; have := hzero 0; omega
    · obtain ⟨i, j', g, hi, hv, hj', hlt, _⟩ := pred j v f hj hvs
      omega
  | succ k ih =>
    intro j v f hjk hj
    by_cases hvs : v = s
    · rw [hvs]; have := hzero (k + 1); omega
    · obtain ⟨i, j', g, hi, hv, hj', hlt, hf, hc, hgf⟩ := pred j v f hj hvs
      have h1 := ih j' _ g (by omega) hj'
      have h2 := rnd_edge x (rndK x (dBeg x.N s) k) i hi (hT k) hc (by omega)
      rw [hv] at h2
      show gn (rnd x _) v ≤ f
      omega
theorem rndK_is {x : Srch} {s mw : Nat} {xs : List (Nat × Nat)} (h : Far x s mw xs) (hx : SrchIn x mw) (hb : x.N * mw < farV) (hm : x.most = 0) (hs : s < x.N) (hns : x.nn s = false) (hn : ∀ i, i < x.E.length → nN x.E x.back i < x.N) :
    rndK x (dBeg x.N s) (x.N + 1) = outL x.N xs := by
  have hlen : (rndK x (dBeg x.N s) (x.N + 1)).length = x.N := by rw [rndK_len]; simp [dBeg]
  have hle : ∀ k v, v < x.N → gn (rndK x (dBeg x.N s) k) v ≤ farV := by
    intro k v hv
    induction k with
    | zero => show gn (dBeg x.N s) v ≤ farV; rw [dBeg_at hs hv]; split; exact Nat.zero_le _; exact Nat.le_refl _
    | succ k ih => exact Nat.le_trans (rnd_le x _ v (fun i hi => by rw [rndK_len]; simp [dBeg]; exact hx.ends i hi)) ih
  have hsnd : Sound x s (rndK x (dBeg x.N s) (x.N + 1)) := Sound.rnds (fun v hv hf => by
    rw [dBeg_at hs hv] at hf ⊢
    split at hf
    · rename_i e; rw [if_pos e, e]; exact .here
    · exact absurd hf (Nat.lt_irrefl _)) (by simp [dBeg]) hn hx.ends _
  have hxl : xs.length ≤ x.N := by
    have h1 : (xs.map Prod.fst).length ≤ (List.range x.N).length := List.Nodup.length_le_of_subset h.nodup (fun v hv => by
      obtain ⟨⟨u, f⟩, hp, rfl⟩ := List.mem_map.1 hv
      exact List.mem_range.2 (h.way _ _ hp).1)
    simpa using h1
  refine List.ext_getElem (by rw [hlen, outL_len]) fun v h1 h2 => ?_
  have hv : v < x.N := by omega
  have key : gn (rndK x (dBeg x.N s) (x.N + 1)) v = gn (outL x.N xs) v := by
    rcases outL_cases h hb hv with ⟨k1, k2⟩ | ⟨k1, k2⟩
    · obtain ⟨j, hj⟩ := List.mem_iff_getElem?.1 k1
      have hjl := (List.getElem?_eq_some_iff.1 hj).1
      have h3 := rndK_hit h hx hb hm hs hns hn (x.N + 1) j _ _ (by omega) hj
      obtain ⟨g, hg, hg2⟩ := h.all _ _ (hsnd v hv (by omega)) (fun h => by omega)
      have := h.one hg k1
      omega
    · rw [k1]
      rcases Nat.lt_or_ge (gn (rndK x (dBeg x.N s) (x.N + 1)) v) farV with h3 | h3
      · obtain ⟨g, hg, _⟩ := h.all _ _ (hsnd v hv h3) (fun h => by omega)
        exact absurd hg (k2 g)
      · have := hle (x.N + 1) v hv
        omega
  simpa [gn, h1, h2] using key
def freeX (x : Srch) : Srch := { x with most := 0 }
theorem Way.free {x : Srch} {s v f : Nat} (h : Way x s v f) : Way (freeX x) s v f := by
  induction h with
  | here => exact .here
  | step h hi hc ih => exact Way.step (x := freeX x) ih hi hc
theorem Way.bound {x : Srch} {s v f : Nat} (h : Way (freeX x) s v f) : Way x s v f := by
  induction h with
  | here => exact .here
  | step h hi hc ih => exact Way.step (x := x) ih hi hc
def cutN (most f : Nat) : Nat := if 0 < most ∧ most < f then farV else f
def cutL (most : Nat) (d : List Nat) : List Nat := d.map (cutN most)
theorem far_cut {x : Srch} {s mw v : Nat} {xs ys : List (Nat × Nat)} (h : Far x s mw xs) (k : Far (freeX x) s mw ys) (hb : x.N * mw < farV) (hv : v < x.N) : gn (outL x.N xs) v = cutN x.most (gn (outL x.N ys) v) := by
  have hm0 : (freeX x).most = 0 := rfl
  rcases outL_cases k hb hv with ⟨k1, k2⟩ | ⟨k1, k2⟩
  · have k1 : (v, gn (outL x.N ys) v) ∈ ys := k1
    have k2 : gn (outL x.N ys) v < farV := k2
    have hw := (k.way _ _ k1).2.1.bound
    unfold cutN
    split
    · rename_i hc
      refine outL_no hv (fun hmem => ?_)
      obtain ⟨⟨u, g⟩, hp, rfl⟩ := List.mem_map.1 hmem
      have h1 := h.way _ _ hp
      obtain ⟨g2, hg2, hle⟩ := k.all _ _ h1.2.1.free (fun h => by omega)
      have e := k.one hg2 k1
      have := h1.2.2.1 hc.1
      omega
    · rename_i hc
      obtain ⟨g, hg, hle⟩ := h.all _ _ hw (fun h => by omega)
      obtain ⟨g2, hg2, hle2⟩ := k.all _ _ (h.way _ _ hg).2.1.free (fun h => by omega)
      have e := k.one hg2 k1
      rw [outL_at h.nodup hv hg]
      omega
  · have k1 : gn (outL x.N ys) v = farV := k1
    rw [k1]
    have e : cutN x.most farV = farV := by unfold cutN; split <;> rfl
    rw [e]
    refine outL_no hv (fun hmem => ?_)
    obtain ⟨⟨u, g⟩, hp, rfl⟩ := List.mem_map.1 hmem
    obtain ⟨g2, hg2, _⟩ := k.all _ _ (h.way _ _ hp).2.1.free (fun h => by omega)
    exact k2 g2 hg2
def refL (x : Srch) (s : Nat) : List Nat := if x.nn s = true then List.replicate x.N farV else cutL x.most (rndK x (dBeg x.N s) (x.N + 1))
theorem rndK_free (x : Srch) (d : List Nat) (k : Nat) : rndK (freeX x) d k = rndK x d k := by
  induction k with
  | zero => rfl
  | succ k ih =>
    show rnd (freeX x) (rndK (freeX x) d k) = rnd x (rndK x d k)
    rw [ih]
    rfl
theorem refL_is {x : Srch} {s mw : Nat} {xs ys : List (Nat × Nat)} (h : Far x s mw xs) (k : Far (freeX x) s mw ys) (hx : SrchIn x mw) (hb : x.N * mw < farV) (hs : s < x.N) (hns : x.nn s = false) (hn : ∀ i, i < x.E.length → nN x.E x.back i < x.N) : refL x s = outL x.N xs := by
  unfold refL
  rw [if_neg (by rw [hns]; exact Bool.false_ne_true)]
  have e := rndK_is k ⟨hx.ends, hx.low, hx.high⟩ hb rfl hs hns hn
  rw [rndK_free] at e
  have e : rndK x (dBeg x.N s) (x.N + 1) = outL x.N ys := e
  rw [e]
  refine List.ext_getElem (by simp [cutL, outL_len]) fun v h1 h2 => ?_
  have hv : v < x.N := by rw [outL_len] at h2; exact h2
  have key := far_cut h k hb hv
  have h3 : v < (outL x.N ys).length := by rw [outL_len]; exact hv
  simp [cutL]
  simp [gn, h2, h3] at key
  exact key.symm
def DAt (W0 : World) (gd N : Nat) (AX : Option Addr) (m : Nat) (X L : List Nat) (wr : World) : Prop :=
  ∃ y : Later W0, wr = y.now ∧ Own y.now W0.heap.size 41 1 (some ⟨gd, 0, none⟩) N N (wv L) ∧ Rd y.now AX 1 m (wv X) ∧ (0 < m → ∀ p, AX = some p → p.block ≠ gd)
theorem DAt.grow {W0 : World} {gd N : Nat} {AX : Option Addr} {m : Nat} {X L : List Nat} {wr w2 : World} (h : DAt W0 gd N AX m X L wr) (hg : Grows wr w2) : DAt W0 gd N AX m X L w2 := by
  obtain ⟨y, rfl, h1, h2, h3⟩ := h
  exact ⟨⟨w2, y.grows.trans hg⟩, rfl, h1.grows hg, h2.grows hg, h3⟩
theorem DAt.put {W0 : World} {gd N : Nat} {AX : Option Addr} {m : Nat} {X L : List Nat} {wr w2 : World} (h : DAt W0 gd N AX m X L wr) (hg : Grows wr w2) (hN : 0 < N) (j f : Nat) : DAt W0 gd N AX m X (L.set j f) (w2.setCell ⟨gd, j, none⟩ (.int .u64 (f : Int))) := by
  obtain ⟨y, rfl, h1, h2, h3⟩ := h.grow hg
  obtain ⟨y4, e4, ho⟩ := h1.put (j := j) y.grows hN (.int .u64 (f : Int))
  rw [wv_set] at ho
  rw [e4]
  refine ⟨y4, rfl, ho, ?_, h3⟩
  rw [← e4]
  exact h2.touch0 ((Touch.refl (fun k => k = gd) _).set (.inl rfl) _) (fun hm p hp => h3 hm p hp)
theorem DAt.cell {W0 : World} {gd N : Nat} {L : List Nat} {y : Later W0} (h : Own y.now W0.heap.size 41 1 (some ⟨gd, 0, none⟩) N N (wv L)) {j : Nat} (hj : j < L.length) : Mine y.now ⟨gd, j, none⟩ (.int .u64 (gn L j : Int)) := (h.row).1.mine (wv_at hj)
end Go.Proofs.YtgplpgldhoelcaaGreat

namespace Go.Proofs.YtgplpgldhoelcaaGreat
open Go Go.RowKit
def nearB (x : Srch) (d : List Nat) (v i : Nat) : Bool := decide (gn d (tN x.E i) < farV) && decide (gn d (tN x.E i) + gn x.W i = gn d v) && !x.ne i
inductive Fol (x : Srch) (d : List Nat) (t : Nat) : Nat → List Nat → Prop
  | here : Fol x d t t []
  | step {v i : Nat} {l : List Nat} : v ≠ t → i < x.E.length → fN x.E i = v → nearB x d v i = true → (∀ j, j < i → fN x.E j = v → nearB x d v j = false) → Fol x d t (tN x.E i) l → Fol x d t v (i :: l)
structure Near (x : Srch) (d : List Nat) (t : Nat) : Prop where
  ends : ∀ i, i < x.E.length → fN x.E i < x.N ∧ tN x.E i < x.N
  low : ∀ i, i < x.E.length → 1 ≤ gn x.W i
  zero : gn d t = 0
  by_ : ∀ v, v < x.N → v ≠ t → gn d v < farV → ∃ i, i < x.E.length ∧ fN x.E i = v ∧ nearB x d v i = true
  edge : ∀ i, i < x.E.length → cntE x i = true → gn d (tN x.E i) < farV → gn d (fN x.E i) ≤ gn d (tN x.E i) + gn x.W i
  clean : ∀ v, v < x.N → gn d v < farV → x.nn v = false
theorem least_of {p : Nat → Bool} : ∀ {n : Nat}, (∃ i, i < n ∧ p i = true) → ∃ i, i < n ∧ p i = true ∧ ∀ j, j < i → p j = false := by
  intro n
  induction n with
  | zero => rintro ⟨i, hi, _⟩; omega
  | succ n ih =>
    rintro ⟨i, hi, hp⟩
    by_cases h : ∃ j, j < n ∧ p j = true
    · obtain ⟨j, h1, h2, h3⟩ := ih h
      exact ⟨j, by omega, h2, h3⟩
    · have hn : ∀ j, j < n → p j = false := fun j hj => by
        cases hq : p j with
        | false => rfl
        | true => exact absurd ⟨j, hj, hq⟩ h
      have e : i = n := by
        rcases Nat.lt_or_ge i n with h1 | h1
        · rw [hn i h1] at hp; cases hp
        · omega
      subst e
      exact ⟨i, hi, hp, hn⟩
theorem nearB_yes {x : Srch} {d : List Nat} {v i : Nat} (h : nearB x d v i = true) : gn d (tN x.E i) < farV ∧ gn d (tN x.E i) + gn x.W i = gn d v ∧ x.ne i = false := by
  unfold nearB at h
  simp only [Bool.and_eq_true, decide_eq_true_eq, Bool.not_eq_true'] at h
  exact ⟨h.1.1, h.1.2, h.2⟩
theorem Near.fol {x : Srch} {d : List Nat} {t : Nat} (h : Near x d t) : ∀ (n v : Nat), gn d v ≤ n → v < x.N → gn d v < farV → ∃ l, Fol x d t v l := by
  intro n
  induction n with
  | zero =>
    intro v hn hv hf
    by_cases e : v = t
    · subst e; exact ⟨[], .here⟩
    · obtain ⟨i, hi, hfi, hb⟩ := h.by_ v hv e hf
      have h1 := (nearB_yes hb).2.1
      have h2 := h.low i hi
      omega
  | succ n ih =>
    intro v hn hv hf
    by_cases e : v = t
    · subst e; exact ⟨[], .here⟩
    · obtain ⟨i0, hi0, hfi0, hb0⟩ := h.by_ v hv e hf
      obtain ⟨i, hi, hp, hl⟩ := least_of (p := fun i => decide (fN x.E i = v) && nearB x d v i) (n := x.E.length) ⟨i0, hi0, by rw [hb0, decide_eq_true hfi0]; rfl⟩
      simp only [Bool.and_eq_true, decide_eq_true_eq] at hp
      have h1 := nearB_yes hp.2
      have h2 := h.low i hi
      obtain ⟨l, hfol⟩ := ih (tN x.E i) (by omega) (h.ends i hi).2 h1.1
      refine ⟨i :: l, .step e hi hp.1 hp.2 (fun j hj hfj => ?_) hfol⟩
      have := hl j hj
      rw [decide_eq_true hfj, Bool.true_and] at this
      exact this
theorem Fol.one {x : Srch} {d : List Nat} {t v : Nat} {l k : List Nat} (h : Fol x d t v l) (h2 : Fol x d t v k) : l = k := by
  induction h generalizing k with
  | here =>
    cases h2 with
    | here => rfl
    | step hne => exact absurd rfl hne
  | @step v i l hne hi hfi hb hl hfol ih =>
    cases h2 with
    | here => exact absurd rfl hne
    | @step _ j l2 _ hj hfj hb2 hl2 hfol2 =>
      have e : i = j := by
        rcases Nat.lt_trichotomy i j with h | h | h
        · rw [hl2 i h hfi] at hb; cases hb
        · exact h
        · rw [hl j h hfj] at hb2; cases hb2
      subst e
      rw [ih hfol2]
theorem Fol.down {x : Srch} {d : List Nat} {t v : Nat} {l : List Nat} (hn : Near x d t) (h : Fol x d t v l) (hv : v < x.N) : (v :: l.map (tN x.E)).Pairwise (fun a b => gn d b < gn d a) ∧ ∀ u, u ∈ v :: l.map (tN x.E) → u < x.N := by
  induction h with
  | here => exact ⟨by simp, fun u hu => by rw [List.mem_singleton.1 hu]; exact hv⟩
  | @step v i l hne hi hfi hb hl hfol ih =>
    obtain ⟨h1, h2⟩ := ih (hn.ends i hi).2
    have hlt : gn d (tN x.E i) < gn d v := by
      have h3 := (nearB_yes hb).2.1
      have h4 := hn.low i hi
      omega
    refine ⟨?_, fun u hu => ?_⟩
    · rw [List.map_cons]
      refine List.Pairwise.cons (fun u hu => ?_) h1
      rcases List.mem_cons.1 hu with e | e
      · rw [e]; exact hlt
      · exact Nat.lt_trans ((List.pairwise_cons.1 h1).1 u e) hlt
    · rw [List.map_cons] at hu
      rcases List.mem_cons.1 hu with e | e
      · rw [e]; exact hv
      · exact h2 u e
theorem Fol.nodup {x : Srch} {d : List Nat} {t v : Nat} {l : List Nat} (hn : Near x d t) (h : Fol x d t v l) (hv : v < x.N) : (v :: l.map (tN x.E)).Nodup :=
  (h.down hn hv).1.imp fun {a b} hab e => by rw [e] at hab; exact Nat.lt_irrefl _ hab
theorem Fol.short {x : Srch} {d : List Nat} {t v : Nat} {l : List Nat} (hn : Near x d t) (h : Fol x d t v l) (hv : v < x.N) : l.length < x.N := by
  have h1 := List.Nodup.length_le_of_subset (h.nodup hn hv) (l₂ := List.range x.N) (fun u hu => List.mem_range.2 ((h.down hn hv).2 u hu))
  simp at h1
  omega
theorem Fol.edges {x : Srch} {d : List Nat} {t v : Nat} {l : List Nat} (h : Fol x d t v l) : ∀ i ∈ l, i < x.E.length := by
  induction h with
  | here => intro i hi; cases hi
  | step hne hi hfi hb hl hfol ih =>
    intro j hj
    rcases List.mem_cons.1 hj with e | e
    · rw [e]; exact hi
    · exact ih j e
theorem Fol.next {x : Srch} {d : List Nat} {t v : Nat} {l : List Nat} (h : Fol x d t v l) (hne : v ≠ t) : ∃ i l', l = i :: l' ∧ i < x.E.length ∧ fN x.E i = v ∧ nearB x d v i = true ∧ (∀ j, j < i → fN x.E j = v → nearB x d v j = false) ∧ Fol x d t (tN x.E i) l' := by
  cases h with
  | here => exact absurd rfl hne
  | step h1 h2 h3 h4 h5 h6 => exact ⟨_, _, rfl, h2, h3, h4, h5, h6⟩
theorem Fol.end_ {x : Srch} {d : List Nat} {t : Nat} {l : List Nat} (h : Fol x d t t l) : l = [] := h.one .here
theorem Near.pos {x : Srch} {d : List Nat} {t v : Nat} (h : Near x d t) (hv : v < x.N) (hne : v ≠ t) : 0 < gn d v := by
  rcases Nat.lt_or_ge (gn d v) farV with hf | hf
  · obtain ⟨i, hi, _, hb⟩ := h.by_ v hv hne hf
    have h1 := (nearB_yes hb).2.1
    have h2 := h.low i hi
    omega
  · unfold farV at hf; omega
theorem Near.same {x : Srch} {d : List Nat} {t v i : Nat} (h : Near x d t) (hi : i < x.E.length) (hfi : fN x.E i = v) (hv : gn d v < farV) :
    (cnt2 x i && decide (gn d (tN x.E i) < farV) && decide (gn x.W i + gn d (tN x.E i) = gn d v)) = nearB x d v i := by
  unfold nearB cnt2
  have hfN := (h.ends i hi).1
  have htN := (h.ends i hi).2
  have c1 := h.clean (fN x.E i) hfN (by rw [hfi]; exact hv)
  rw [c1]
  by_cases hf : gn d (tN x.E i) < farV
  · rw [h.clean _ htN hf, decide_eq_true hf, Nat.add_comm]
    cases x.ne i <;> simp
  · rw [decide_eq_false hf]
    simp
theorem Near.of {x : Srch} {t mw : Nat} {xs : List (Nat × Nat)} (h : Far x t mw xs) (hx : SrchIn x mw) (hb : x.N * mw < farV) (hm : x.most = 0) (hk : x.back = true) (ends : ∀ i, i < x.E.length → fN x.E i < x.N ∧ tN x.E i < x.N) (ht : t < x.N) (hnt : x.nn t = false) : Near x (outL x.N xs) t := by
  have e1 : ∀ i, nN x.E x.back i = tN x.E i := fun i => by rw [hk]; rfl
  have e2 : ∀ i, toE x i = fN x.E i := fun i => by unfold toE; rw [hk]; rfl
  refine ⟨ends, hx.low, h.begin_ ht, fun v hv hvs hf => ?_, fun i hi hc hf => ?_, fun v hv hf => ?_⟩
  · rcases outL_cases h hb hv with ⟨h1, _⟩ | ⟨h1, _⟩
    · obtain ⟨f, hfe⟩ : ∃ f, gn (outL x.N xs) v = f := ⟨_, rfl⟩
      rw [hfe] at h1 hf
      have hw := (h.way _ _ h1).2.1
      cases hw with
      | here => exact absurd rfl hvs
      | @step f' i hw hi hc =>
        obtain ⟨g, hg, hle⟩ := h.all _ _ hw (fun h => by omega)
        have hwg := (h.way _ _ hg).2.1
        obtain ⟨g2, hg2, hle2⟩ := h.all _ _ (hwg.step hi hc) (fun h => by omega)
        have e := h.one hg2 h1
        have e3 := outL_at h.nodup (v := nN x.E x.back i) (by rw [e1]; exact (ends i hi).2) hg
        refine ⟨i, hi, (e2 i).symm, ?_⟩
        rw [e1] at e3
        unfold nearB
        unfold cntE at hc
        simp only [Bool.and_eq_true, Bool.not_eq_true'] at hc
        rw [e3, hc.1, hfe, decide_eq_true (show g < farV by omega), decide_eq_true (show g + gn x.W i = f' + gn x.W i by omega)]
        rfl
    · omega
  · have := h.edge hb hm (i := i) (by rw [e1]; exact (ends i hi).2) (by rw [e2]; exact (ends i hi).1) hi hc (by rw [e1]; exact hf)
    rw [e1, e2] at this
    exact this
  · rcases outL_cases h hb hv with ⟨h1, _⟩ | ⟨h1, _⟩
    · exact (h.way _ _ h1).2.1.clean hnt
    · omega
end Go.Proofs.YtgplpgldhoelcaaGreat

namespace Go.Proofs.YtgplpgldhoelcaaGreat
open Go Go.ChangeShapes Go.WideShapes Go.ChangeAt Go.RowKit

theorem flat_at {F : Nat → List Value} {size : Nat} (hs : 0 < size) : ∀ n, (∀ i, i < n → (F i).length = size) → ((List.range n).flatMap F).length = n * size ∧ ∀ i j, i < n → j < size → ((List.range n).flatMap F)[i * size + j]? = (F i)[j]?
  | 0, _ => ⟨by simp, fun i j h => by omega⟩
  | n + 1, h => by
    obtain ⟨ih1, ih2⟩ := flat_at hs n fun i hi => h i (by omega)
    have e : (List.range (n + 1)).flatMap F = (List.range n).flatMap F ++ F n := by rw [List.range_succ, List.flatMap_append]; simp
    rw [e]
    refine ⟨by rw [List.length_append, ih1, h n (by omega), Nat.succ_mul], fun i j hi hj => ?_⟩
    by_cases hin : i < n
    · have : i * size + j < n * size := by
        have := Nat.mul_le_mul_right size (show i + 1 ≤ n by omega)
        rw [Nat.succ_mul] at this
        omega
      rw [List.getElem?_append_left (by omega)]
      exact ih2 i j hin hj
    · obtain rfl : i = n := by omega
      rw [List.getElem?_append_right (by omega), ih1, show i * size + j - i * size = j by omega]

theorem add_plain (b off i : Nat) : (⟨b, off, none⟩ : Addr).add i = ⟨b, off + i, none⟩ := by
  unfold Addr.add
  split
  · rename_i h0; rw [h0]; rfl
  · rfl

section
variable {H : Type} {enc : TypeId × Value → H} {P : Program} {w : World} {base b0 : Nat} {held : Bool} {r : Reach} {t : TypeId} {v : Value} {d : DataW H} {p : List MemPlace}

theorem open_elems {e : TypeId} {sz fuel : Nat} {x : DataW H × List MemPlace} {cs : List Value} (ht : P.underlying t = some (.slice e)) (hc : P.cellsOf e = sz) (hsz : 0 < sz) (h : DataW.trod enc P w base (fun _ => true) held fuel t cs = some x) :
    ∃ (A : Option Addr) (n c : Nat) (F : Nat → List Value), cs = [.slice A n c] ∧ n ≤ c ∧ c ≤ maxLen ∧ Rd w A sz n ((List.range n).flatMap F) ∧ ∀ i, i < n → (F i).length = sz ∧ ∃ m y, DataW.trod enc P w base (fun _ => true) held m e (F i) = some y := by
  rcases Deep.open_slice ht h with ⟨rfl, _⟩ | ⟨a, n, c, m, k, D, Pl, rfl, _, hl, hm, hmm, _, hx⟩
  · exact ⟨none, 0, 0, fun _ => [], rfl, Nat.le_refl _, by unfold maxLen; omega, ⟨by simp, fun h => by omega⟩, fun i hi => by omega⟩
  · simp only [if_true] at hmm
    subst hmm
    rw [hc] at hx
    obtain ⟨F, hF⟩ := Deep.choose_lt (α := List Value) (p := fun i cs' => w.cells? base (a.add (i * sz)) sz = some cs' ∧ DataW.trod enc P w base (fun _ => true) held k e cs' = some (D i, Pl i)) hx
    have hlen : ∀ i, i < m → (F i).length = sz := fun i hi => (World.cells?_some (hF i hi).1).2.1
    refine ⟨_, n, m, F, rfl, hl, hm, ?_, fun i hi => ⟨hlen i (by omega), k, _, (hF i (by omega)).2⟩⟩
    obtain ⟨fl1, fl2⟩ := flat_at hsz n fun i hi => hlen i (by omega)
    refine ⟨fl1, fun hn _ => ?_⟩
    obtain ⟨b, off, spot⟩ := a
    have hcell : ∀ i j u, i < n → (F i)[j]? = some u → w.cell? (((⟨b, off, spot⟩ : Addr).add (i * sz)).add j) = some u := fun i j u hi hu => by
      have hj : j < sz := by
        rcases Nat.lt_or_ge j sz with h | h
        · exact h
        · rw [List.getElem?_eq_none (by rw [hlen i (by omega)]; exact h)] at hu; cases hu
      have := (World.cells?_some (hF i (by omega)).1).2.2 j hj
      rw [hu] at this
      exact this
    have hs : spot = none := by
      have h0 : ∃ u, (F 0)[0]? = some u := ⟨_, List.getElem?_eq_getElem (by rw [hlen 0 (by omega)]; exact hsz)⟩
      obtain ⟨u, hu⟩ := h0
      have := spot_none (hcell 0 0 u hn hu)
      simpa [Addr.add] using this
    subst hs
    refine ⟨b, off, rfl, fun q u hu => ?_⟩
    have hq : q < n * sz := by
      rcases Nat.lt_or_ge q (n * sz) with h | h
      · exact h
      · rw [List.getElem?_eq_none (by rw [fl1]; exact h)] at hu; cases hu
    have e : q = q / sz * sz + q % sz := (Nat.div_add_mod' q sz).symm
    have hi : q / sz < n := (Nat.div_lt_iff_lt_mul hsz).2 hq
    have hj : q % sz < sz := Nat.mod_lt _ hsz
    rw [e, fl2 _ _ hi hj] at hu
    have := hcell _ _ u hi hu
    rw [add_plain, add_plain, Nat.add_assoc, ← e] at this
    exact this

def edgOk (e : Edg) : Prop := I64 e.f ∧ I64 e.t ∧ U64 e.w

theorem open_edges {te : TypeId} {f0 f1 f2 : Field} {fuel : Nat} {x : DataW H × List MemPlace} {cs : List Value} (ht : P.underlying t = some (.slice te)) (hs : P.underlying te = some (.struct #[f0, f1, f2]))
    (h0 : P.underlying f0.type = some (.int .i64)) (h1 : P.underlying f1.type = some (.int .i64)) (h2 : P.underlying f2.type = some (.int .u64)) (ho : f0.offset = 0 ∧ f1.offset = 1 ∧ f2.offset = 2)
    (hcs : P.cellsOf f0.type = 1 ∧ P.cellsOf f1.type = 1 ∧ P.cellsOf f2.type = 1) (hc : P.cellsOf te = 3) (h : DataW.trod enc P w base (fun _ => true) held fuel t cs = some x) :
    ∃ (A : Option Addr) (n c : Nat) (E : List Edg), cs = [.slice A n c] ∧ n ≤ c ∧ Rd w A 3 n (esCells E) ∧ ∀ k, k < n → edgOk (ge E k) := by
  obtain ⟨A, n, c, F, rfl, hl, _, hr, hF⟩ := open_elems ht hc (by omega) h
  have hE : ∀ i, i < n → ∃ e : Edg, F i = eCells e ∧ edgOk e := fun i hi => by
    obtain ⟨hlen, m, y, hy⟩ := hF i hi
    obtain ⟨y0, y1, y2, k, _, _, e0, e1, e2⟩ := Deep.trod_struct3 hs hy
    rw [ho.1, hcs.1] at e0
    rw [ho.2.1, hcs.2.1] at e1
    rw [ho.2.2, hcs.2.2] at e2
    obtain ⟨c0, c1, c2, hFi⟩ : ∃ c0 c1 c2, F i = [c0, c1, c2] := by
      match F i, hlen with
      | [c0, c1, c2], _ => exact ⟨c0, c1, c2, rfl⟩
    rw [hFi] at e0 e1 e2 ⊢
    obtain ⟨a, ha, _, wa⟩ := DataW.trod_int h0 e0
    obtain ⟨b, hb, _, wb⟩ := DataW.trod_int h1 e1
    obtain ⟨g, hg, _, wg⟩ := DataW.trod_int h2 e2
    simp at ha hb hg
    subst ha hb hg
    exact ⟨⟨a, b, g⟩, rfl, wf_i64 wa, wf_i64 wb, wf_u64 wg⟩
  obtain ⟨f, hf⟩ := Deep.choose_lt (α := Option Edg) (p := fun i o => ∃ e, o = some e ∧ F i = eCells e ∧ edgOk e) (fun i hi => by obtain ⟨e, h⟩ := hE i hi; exact ⟨some e, e, rfl, h⟩)
  let f' : Nat → Edg := fun i => (f i).getD ⟨0, 0, 0⟩
  have hf' : ∀ i, i < n → F i = eCells (f' i) ∧ edgOk (f' i) := fun i hi => by
    obtain ⟨e, h1, h2⟩ := hf i hi
    simp only [f', h1, Option.getD_some]
    exact h2
  refine ⟨A, n, c, (List.range n).map f', rfl, hl, ?_, fun k hk => ?_⟩
  · have e : esCells ((List.range n).map f') = (List.range n).flatMap F := by
      unfold esCells
      rw [List.flatMap_map, List.flatMap_def, List.flatMap_def]
      exact congrArg List.flatten (List.map_congr_left fun i hi => ((hf' i (List.mem_range.1 hi)).1).symm)
    rw [e]
    exact hr
  · have : ge ((List.range n).map f') k = f' k := by simp [ge, hk]
    rw [this]
    exact (hf' k hk).2

theorem open_graph {f0 f1 g0 g1 g2 : Field} {te : TypeId} (ht : P.underlying t = some (.struct #[f0, f1])) (h0 : P.underlying f0.type = some (.int .i64)) (h1 : P.underlying f1.type = some (.slice te)) (hs : P.underlying te = some (.struct #[g0, g1, g2]))
    (k0 : P.underlying g0.type = some (.int .i64)) (k1 : P.underlying g1.type = some (.int .i64)) (k2 : P.underlying g2.type = some (.int .u64)) (ho : g0.offset = 0 ∧ g1.offset = 1 ∧ g2.offset = 2)
    (hcs : P.cellsOf g0.type = 1 ∧ P.cellsOf g1.type = 1 ∧ P.cellsOf g2.type = 1) (hc : P.cellsOf te = 3) (hone : Deep.oneCellFields P #[f0, f1] = true) (hC : P.cellsOf t = 2)
    (hv : Value.okWide P w r b0 t v) (h : DataW.Trod enc P w base (fun _ => true) held t v d p) :
    ∃ (N : Int) (A : Option Addr) (n c : Nat) (E : List Edg), v = .agg #[.int .i64 N, .slice A n c] ∧ I64 N ∧ n ≤ c ∧ Rd w A 3 n (esCells E) ∧ ∀ k, k < n → edgOk (ge E k) := by
  obtain ⟨c0, c1, y0, y1, m, rfl, rfl, rfl, e0, e1⟩ := Joins.open_agg2 ht hone hC hv h
  obtain ⟨x, hx, _, wx⟩ := DataW.trod_int h0 e0
  simp at hx
  subst hx
  obtain ⟨A, n, c, E, he, hl, hr, hE⟩ := open_edges h1 hs k0 k1 k2 ho hcs hc e1
  simp at he
  subst he
  exact ⟨x, A, n, c, E, rfl, wf_i64 wx, hl, hr, hE⟩

end

end Go.Proofs.YtgplpgldhoelcaaGreat

namespace Go.Proofs.YtgplpgldhoelcaaGreat
open Go Go.ChangeShapes Go.WideShapes Go.ChangeAt Go.RowKit Go.Deep
theorem dc_ok {N s : Int} {E : List Edg} {W : List Nat} (h : dcF N s E W = 0) : rightF N E = 0 ∧ 0 ≤ s ∧ s < N ∧ (W.length = 0 ∨ W.length = E.length) ∧ ∀ i, i < E.length → 1 ≤ gn (wtF N E W) i ∧ gn (wtF N E W) i ≤ 17592186044416 := by
  unfold dcF at h
  split at h
  · cases h
  split at h
  · cases h
  split at h
  · cases h
  split at h
  · cases h
  rename_i h1 h2 h3 h4
  have h1 : rightF N E = 0 := by omega
  have hb : nodeB N s = true := by cases hb : nodeB N s with | false => exact absurd hb h2 | true => rfl
  unfold nodeB at hb
  have hs := of_decide_eq_true hb
  obtain ⟨r1, r2, r3, r4, r5⟩ := right_in h1
  refine ⟨h1, hs.1, hs.2, by omega, fun i hi => ?_⟩
  unfold wtF
  rw [if_neg (by omega), if_neg h3]
  split
  · have hl : i < W.length := by omega
    have hm : gn W i ∈ W := by unfold gn; rw [List.getD_eq_getElem?_getD, List.getElem?_eq_getElem hl]; exact List.getElem_mem hl
    have : penB (gn W i) = false := by
      cases hp : penB (gn W i) with
      | false => rfl
      | true => exact absurd (List.any_eq_true.2 ⟨_, hm, hp⟩) h4
    unfold penB at this
    have := of_decide_eq_false this
    omega
  · have := r5 i hi
    have h2 : gn (eW E) i = (ge E i).w.toNat := by simp [gn, eW, ge, hi]
    rw [h2]
    omega
section
variable {H : Type} {enc : TypeId × Value → H} {P : Program} {w : World} {base b0 : Nat} {held : Bool} {r : Reach} {t : TypeId} {v : Value} {d : DataW H} {p : List MemPlace}
end
end Go.Proofs.YtgplpgldhoelcaaGreat

namespace Go.Proofs.YtgplpgldhoelcaaGreat
open Go Go.RowKit
def backO (o : DOpt) : DOpt := ⟨true, o.nn, o.ne, o.W, 0⟩
structure PathOk (NN sN tN : Nat) (E : List Edg) (o : DOpt) (xs : List (Nat × Nat)) : Prop where
  ok : WalkOk NN tN E (backO o)
  dc : dcF NN tN E o.W = 0
  dcs : dcF NN sN E o.W = 0
  node : sN < NN
  tr : if (tN : Int) ∈ o.nn then xs = [] else Trace (srchOf NN E (backO o)) (reachS 0 (st0 NN) tN 0) xs
  lt : ∀ p, p ∈ xs → p.1 < NN
  ref : refL (srchOf NN E (backO o)) tN = outL NN xs
  wb : ∀ i, i < E.length → 1 ≤ gn (wtF NN E o.W) i ∧ gn (wtF NN E o.W) i ≤ 17592186044416
  far : (tN : Int) ∉ o.nn → Far (srchOf NN E (backO o)) tN 17592186044416 xs
inductive IsPath (E : List Edg) (o : DOpt) (N s t : Int) : List Nat → Nat → Int → Prop
  | bad : dcF N s E o.W ≠ 0 → IsPath E o N s t [] 0 (dcF N s E o.W)
  | noNode : dcF N s E o.W = 0 → ¬ (0 ≤ t ∧ t < N) → IsPath E o N s t [] 0 7
  | noPath (NN sN tN : Nat) (xs : List (Nat × Nat)) : N = NN → s = sN → t = tN → PathOk NN sN tN E o xs → gn (outL NN xs) sN = farV → IsPath E o N s t [] 0 9
  | way (NN sN tN : Nat) (xs : List (Nat × Nat)) (l : List Nat) : N = NN → s = sN → t = tN → PathOk NN sN tN E o xs → gn (outL NN xs) sN < farV → Near (srchOf NN E (backO o)) (outL NN xs) tN → Fol (srchOf NN E (backO o)) (outL NN xs) tN sN l →
      IsPath E o N s t l (gn (outL NN xs) sN) 0
theorem dc_node {N s t : Int} {E : List Edg} {W : List Nat} (h : dcF N s E W = 0) (ht : 0 ≤ t ∧ t < N) : dcF N t E W = 0 := by
  unfold dcF at h ⊢
  split at h
  · cases h
  split at h
  · cases h
  rename_i h1 h2
  rw [if_neg h1, if_neg (by unfold nodeB; simp; omega)]
  exact h
theorem path_walk {NN sN tN : Nat} {E : List Edg} {o : DOpt} (hd : dcF NN sN E o.W = 0) (ht : tN < NN) (hnn : o.nn.length ≤ 1000000) (hne : o.ne.length ≤ 1000000) : ∃ xs, PathOk NN sN tN E o xs := by
  obtain ⟨rr, hs0, hsN, hwt, hwb⟩ := dc_ok hd
  obtain ⟨r1, r2, r3, r4, r5⟩ := right_in rr
  rw [Int.toNat_natCast] at r4
  have hok : WalkOk NN tN E (backO o) := ⟨rr, ht, hwt, by show (0 : Nat) < _; omega, hnn, hne⟩
  have hdt : dcF NN tN E o.W = 0 := dc_node hd ⟨by omega, by omega⟩
  have hb : NN * 17592186044416 < farV := by
    have : NN * 17592186044416 ≤ 4096 * 17592186044416 := Nat.mul_le_mul_right _ (by omega)
    unfold farV; omega
  by_cases hn : (tN : Int) ∈ o.nn
  · refine ⟨[], hok, hdt, hd, by omega, by rw [if_pos hn], fun p hp => (by cases hp), ?_, hwb, fun h => absurd hn h⟩
    unfold refL
    rw [if_pos (show (srchOf NN E (backO o)).nn tN = true from decide_eq_true hn)]
    rfl
  · obtain ⟨xs, h1, h2, h3⟩ := walk_is hok hwb (Nat.le_refl _) hn
    have hs := hok.srch
    have hin : SrchIn (srchOf NN E (backO o)) 17592186044416 := ⟨fun i hi => by
      have h1 := hs.ends.f i hi
      have h2 := hs.ends.t i hi
      unfold toE
      split
      · exact h1.1
      · exact h2.1, fun i hi => (hwb i hi).1, fun i hi => (hwb i hi).2⟩
    obtain ⟨ys, h4, h5⟩ := trace_whole (x := freeX (srchOf NN E (backO o))) (s := tN) (mw := 17592186044416) ⟨hin.ends, hin.low, hin.high⟩ hs.nodes hok.node (by omega)
    refine ⟨xs, hok, hdt, hd, by omega, h1, h3, refL_is h2 h5 hin hb hok.node (decide_eq_false hn) (fun i hi => ?_), hwb, fun _ => h2⟩
    have h1 := hs.ends.f i hi
    have h2 := hs.ends.t i hi
    unfold nN
    split
    · exact h2.1
    · exact h1.1
theorem PathOk.bound {NN sN tN : Nat} {E : List Edg} {o : DOpt} {xs : List (Nat × Nat)} (h : PathOk NN sN tN E o xs) : NN * 17592186044416 < farV ∧ NN ≤ 4096 ∧ E.length ≤ 16384 := by
  obtain ⟨r1, r2, r3, r4, r5⟩ := right_in h.ok.right
  have : NN * 17592186044416 ≤ 4096 * 17592186044416 := Nat.mul_le_mul_right _ (by omega)
  unfold farV
  exact ⟨by omega, by omega, r3⟩
theorem PathOk.near {NN sN tN : Nat} {E : List Edg} {o : DOpt} {xs : List (Nat × Nat)} (h : PathOk NN sN tN E o xs) (hn : (tN : Int) ∉ o.nn) : Near (srchOf NN E (backO o)) (outL NN xs) tN := by
  have hs := h.ok.srch
  have hin : SrchIn (srchOf NN E (backO o)) 17592186044416 := ⟨fun i hi => by
    have h1 := hs.ends.f i hi
    have h2 := hs.ends.t i hi
    unfold toE
    split
    · exact h1.1
    · exact h2.1, fun i hi => (h.wb i hi).1, fun i hi => (h.wb i hi).2⟩
  exact Near.of (x := srchOf NN E (backO o)) (h.far hn) hin h.bound.1 rfl rfl (fun i hi => ⟨(hs.ends.f i hi).1, (hs.ends.t i hi).1⟩) h.ok.node (decide_eq_false hn)
theorem isPath_any (E : List Edg) (o : DOpt) (N s t : Int) (hnn : o.nn.length ≤ 1000000) (hne : o.ne.length ≤ 1000000) : ∃ l f r, IsPath E o N s t l f r := by
  by_cases hd : dcF N s E o.W = 0
  · by_cases ht : 0 ≤ t ∧ t < N
    · obtain ⟨rr, hs0, hsN, _, _⟩ := dc_ok hd
      obtain ⟨NN, rfl⟩ : ∃ NN : Nat, N = (NN : Int) := ⟨N.toNat, by omega⟩
      obtain ⟨sN, rfl⟩ : ∃ sN : Nat, s = (sN : Int) := ⟨s.toNat, by omega⟩
      obtain ⟨tN, rfl⟩ : ∃ tN : Nat, t = (tN : Int) := ⟨t.toNat, by omega⟩
      obtain ⟨xs, hx⟩ := path_walk (tN := tN) (o := o) hd (by omega) hnn hne
      by_cases hn : (tN : Int) ∈ o.nn
      · have hxs : xs = [] := by have := hx.tr; rwa [if_pos hn] at this
        exact ⟨_, _, _, .noPath NN sN tN xs rfl rfl rfl hx (by rw [hxs]; exact outL_no hx.node (by simp))⟩
      · rcases outL_cases (x := srchOf NN E (backO o)) (hx.far hn) hx.bound.1 hx.node with ⟨_, h1⟩ | ⟨h1, _⟩
        · obtain ⟨l, hl⟩ := (hx.near hn).fol _ sN (Nat.le_refl _) hx.node h1
          exact ⟨_, _, _, .way NN sN tN xs l rfl rfl rfl hx h1 (hx.near hn) hl⟩
        · exact ⟨_, _, _, .noPath NN sN tN xs rfl rfl rfl hx h1⟩
    · exact ⟨_, _, _, .noNode hd ht⟩
  · exact ⟨_, _, _, .bad hd⟩
theorem IsPath.short {E : List Edg} {o : DOpt} {N s t r : Int} {l : List Nat} {f : Nat} (h : IsPath E o N s t l f r) : l.length ≤ 4096 ∧ f < farV := by
  cases h with
  | bad => exact ⟨Nat.zero_le _, by unfold farV; omega⟩
  | noNode => exact ⟨Nat.zero_le _, by unfold farV; omega⟩
  | noPath => exact ⟨Nat.zero_le _, by unfold farV; omega⟩
  | way NN sN tN xs l hN hs ht hok hf hn hl =>
    have h1 := hl.short hn hok.node
    have h2 := hok.bound.2.1
    have h3 : l.length < NN := h1
    exact ⟨by omega, hf⟩
end Go.Proofs.YtgplpgldhoelcaaGreat

namespace Go.Proofs.YtgplpgldhoelcaaGreat
open Go Go.RowKit
def ndI (E : List Edg) (s : Int) (l : List Int) : Nat → Int
  | 0 => s
  | k + 1 => (ge E (gi l k).toNat).t
def lkB (E : List Edg) (s : Int) (l : List Int) : Nat → Bool
  | 0 => true
  | k + 1 => lkB E s l k && decide ((ge E (gi l k).toNat).f = ndI E s l k)
def ndL (E : List Edg) (s : Int) (l : List Int) (k : Nat) : List Int := (List.range k).map (ndI E s l)
theorem ndL_len (E : List Edg) (s : Int) (l : List Int) (k : Nat) : (ndL E s l k).length = k := by simp [ndL]
def isB (N : Int) (E : List Edg) (s : Int) (l : List Int) : Bool := edgesB N E l && (nodeB N s && lkB E s l l.length)
def nodesL (N : Int) (E : List Edg) (s : Int) (l : List Int) : List Int := if isB N E s l then ndL E s l (l.length + 1) else []
theorem Own.cap {w : World} {B n c size : Nat} {e : TypeId} {A : Option Addr} {xs : List Value} (h : Own w B e size A n c xs) : n ≤ c := by
  rcases Nat.eq_zero_or_pos n with h0 | h0
  · omega
  · obtain ⟨_, _, _, _, _, h1, _⟩ := h.at_ h0
    exact h1
end Go.Proofs.YtgplpgldhoelcaaGreat

namespace Go.Proofs.YtgplpgldhoelcaaGreat
open Go Go.RowKit
def oneB (l : List Int) (k : Nat) : Bool := decide (∀ j, j < k → gi l j ∉ l.take j)
def simB (N : Int) (E : List Edg) (s : Int) (l : List Int) : Bool := isB N E s l && oneB (nodesL N E s l) (nodesL N E s l).length
end Go.Proofs.YtgplpgldhoelcaaGreat

namespace Go.Proofs.YtgplpgldhoelcaaGreat
open Go Go.RowKit
def ciL (l : List Nat) : List Int := l.map fun (i : Nat) => (i : Int)
theorem ciL_len (l : List Nat) : (ciL l).length = l.length := by simp [ciL]
theorem ciL_gi {l : List Nat} {k : Nat} (h : k < l.length) : gi (ciL l) k = (l[k] : Int) := by simp [ciL, gi, h]
def ndsN (E : List Edg) (v : Nat) (l : List Nat) : List Nat := v :: l.map (tN E)
theorem Fol.link {x : Srch} {d : List Nat} {t v : Nat} {l : List Nat} (h : Fol x d t v l) : ∀ k (hk : k < l.length), fN x.E l[k] = (ndsN x.E v l)[k]'(by simp [ndsN]; omega) := by
  induction h with
  | here => intro k hk; simp at hk
  | @step v i l hne hi hfi hb hl hfol ih =>
    intro k hk
    match k, hk with
    | 0, _ => simpa [ndsN] using hfi
    | k + 1, hk =>
      have := ih k (by simpa using hk)
      simpa [ndsN] using this
theorem Fol.last {x : Srch} {d : List Nat} {t v : Nat} {l : List Nat} (h : Fol x d t v l) : (ndsN x.E v l)[l.length]'(by simp [ndsN]) = t := by
  induction h with
  | here => rfl
  | @step v i l hne hi hfi hb hl hfol ih => simpa [ndsN] using ih
theorem ndI_is {N : Nat} {E : List Edg} (hE : InN N E) {v : Nat} {l : List Nat} (hl : ∀ i ∈ l, i < E.length) : ∀ k (hk : k ≤ l.length), ndI E (v : Int) (ciL l) k = ((ndsN E v l)[k]'(by simp [ndsN]; omega) : Int)
  | 0, _ => rfl
  | k + 1, hk => by
    have hk' : k < l.length := by omega
    show (ge E (gi (ciL l) k).toNat).t = _
    rw [ciL_gi hk', Int.toNat_natCast, (hE.t _ (hl _ (List.getElem_mem hk'))).2]
    simp [ndsN]
theorem lkB_is {N : Nat} {x : Srch} {d : List Nat} {t v : Nat} {l : List Nat} (hE : InN N x.E) (h : Fol x d t v l) : ∀ k, k ≤ l.length → lkB x.E (v : Int) (ciL l) k = true
  | 0, _ => rfl
  | k + 1, hk => by
    have hk' : k < l.length := by omega
    show (lkB x.E (v : Int) (ciL l) k && decide ((ge x.E (gi (ciL l) k).toNat).f = ndI x.E v (ciL l) k)) = true
    rw [lkB_is hE h k (by omega), ndI_is hE h.edges k (by omega), ciL_gi hk', Int.toNat_natCast, (hE.f _ (h.edges _ (List.getElem_mem hk'))).2, h.link k hk']
    simp
theorem Fol.isB {N : Nat} {x : Srch} {d : List Nat} {t v : Nat} {l : List Nat} (hE : InN N x.E) (h : Fol x d t v l) (hr : rightF N x.E = 0) (hv : v < N) : isB N x.E (v : Int) (ciL l) = true := by
  unfold Go.Proofs.YtgplpgldhoelcaaGreat.isB edgesB
  rw [ciL_len, lkB_is hE h _ (Nat.le_refl _), decide_eq_true hr, show nodeB (N : Int) (v : Int) = true from decide_eq_true ⟨by omega, by omega⟩]
  have : (ciL l).any (fun e => !edgeB x.E.length e) = false := by
    rw [List.any_eq_false]
    intro e he
    obtain ⟨i, hi, rfl⟩ := List.mem_map.1 he
    have := h.edges i hi
    unfold edgeB
    simp
    omega
  rw [this]
  rfl
theorem Fol.nodesL {N : Nat} {x : Srch} {d : List Nat} {t v : Nat} {l : List Nat} (hE : InN N x.E) (h : Fol x d t v l) (hr : rightF N x.E = 0) (hv : v < N) : nodesL N x.E (v : Int) (ciL l) = ciL (ndsN x.E v l) := by
  unfold Go.Proofs.YtgplpgldhoelcaaGreat.nodesL
  rw [if_pos (h.isB hE hr hv), ciL_len]
  refine List.ext_getElem (by simp [ndL_len, ciL, ndsN]) fun k h1 h2 => ?_
  have hk : k ≤ l.length := by rw [ndL_len] at h1; omega
  have e := ndI_is hE (v := v) h.edges k hk
  simp only [ndL, List.getElem_map, List.getElem_range, ciL]
  exact e
theorem oneB_is {L : List Nat} (h : L.Nodup) : oneB (ciL L) (ciL L).length = true := by
  refine decide_eq_true fun j hj hm => ?_
  rw [ciL_len] at hj
  rw [ciL_gi hj] at hm
  have e : (ciL L).take j = ciL (L.take j) := by simp [ciL, List.map_take]
  rw [e] at hm
  obtain ⟨i, hi, he⟩ := List.mem_map.1 hm
  have he : i = L[j] := by omega
  subst he
  obtain ⟨k, hk, hke⟩ := List.getElem_of_mem hi
  simp at hk
  rw [List.getElem_take] at hke
  exact List.pairwise_iff_getElem.1 h k j (by omega) hj (by omega) hke
theorem Fol.simple {N : Nat} {x : Srch} {d : List Nat} {t v : Nat} {l : List Nat} (hn : Near x d t) (hE : InN N x.E) (h : Fol x d t v l) (hr : rightF N x.E = 0) (hv : v < N) (hv2 : v < x.N) : simB N x.E (v : Int) (ciL l) = true := by
  unfold simB
  rw [h.isB hE hr hv, h.nodesL hE hr hv, Bool.true_and]
  exact oneB_is (h.nodup hn hv2)
end Go.Proofs.YtgplpgldhoelcaaGreat

