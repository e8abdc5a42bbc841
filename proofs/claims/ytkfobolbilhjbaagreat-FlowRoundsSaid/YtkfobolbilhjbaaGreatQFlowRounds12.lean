/- The answer's parts: an edge's ends, whether it counts, how far all nodes are, round by round; and the plain law: it comes to just what the search tells. -/
import Derived.Test.YtkfobolbilhjbaaGreatQFlowRounds10
import Derived.Test.YtkfobolbilhjbaaGreatQFlowRounds11
namespace Go.Proofs.YtkfobolbilhjbaaGreat
open Go Go.RowKit
def cnt2 (x : Srch) (i : Nat) : Bool := !x.ne i && !x.nn (fN x.E i) && !x.nn (tN x.E i)
def rlxB (x : Srch) (d : List Nat) (i : Nat) : Bool := cnt2 x i && decide (gn d (nN x.E x.back i) < farV) && decide (gn d (nN x.E x.back i) + gn x.W i < gn d (toE x i))
def rlx (x : Srch) (d : List Nat) (i : Nat) : List Nat := if rlxB x d i = true then d.set (toE x i) (gn d (nN x.E x.back i) + gn x.W i) else d
def rlxK (x : Srch) (d : List Nat) (k : Nat) : List Nat := (List.range k).foldl (rlx x) d
def rnd (x : Srch) (d : List Nat) : List Nat := rlxK x d x.E.length
def rndK (x : Srch) (d : List Nat) : Nat → List Nat
  | 0 => d
  | k + 1 => rnd x (rndK x d k)
theorem rlxK_succ (x : Srch) (d : List Nat) (k : Nat) : rlxK x d (k + 1) = rlx x (rlxK x d k) k := by simp [rlxK, List.range_succ, List.foldl_append]
theorem rlx_len (x : Srch) (d : List Nat) (i : Nat) : (rlx x d i).length = d.length := by unfold rlx; split <;> simp
theorem rlxK_len (x : Srch) (d : List Nat) (k : Nat) : (rlxK x d k).length = d.length := by
  induction k with
  | zero => rfl
  | succ k ih => rw [rlxK_succ, rlx_len, ih]
theorem rndK_len (x : Srch) (d : List Nat) (k : Nat) : (rndK x d k).length = d.length := by
  induction k with
  | zero => rfl
  | succ k ih => show (rlxK x _ _).length = _; rw [rlxK_len, ih]
theorem gn_setN (d : List Nat) (i j f : Nat) (h : i < d.length) : gn (d.set i f) j = if j = i then f else gn d j := by
  unfold gn
  by_cases e : j = i
  · subst e; simp [h]
  · simp [e, Ne.symm e]
theorem rlx_le (x : Srch) (d : List Nat) (i v : Nat) (ht : toE x i < d.length) : gn (rlx x d i) v ≤ gn d v := by
  unfold rlx
  split
  · rename_i h
    rw [gn_setN _ _ _ _ ht]
    split
    · rename_i e
      unfold rlxB at h
      simp only [Bool.and_eq_true, decide_eq_true_eq] at h
      rw [e]
      omega
    · exact Nat.le_refl _
  · exact Nat.le_refl _
theorem rlxK_le (x : Srch) (d : List Nat) (v : Nat) (ht : ∀ i, i < x.E.length → toE x i < d.length) : ∀ k, k ≤ x.E.length → ∀ j, j ≤ k → gn (rlxK x d k) v ≤ gn (rlxK x d j) v := by
  intro k
  induction k with
  | zero => intro _ j hj; rw [Nat.le_zero.1 hj]; exact Nat.le_refl _
  | succ k ih =>
    intro hk j hj
    rcases Nat.lt_or_ge j (k + 1) with h | h
    · rw [rlxK_succ]
      exact Nat.le_trans (rlx_le x _ k v (by rw [rlxK_len]; exact ht k (by omega))) (ih (by omega) j (by omega))
    · rw [show j = k + 1 by omega]; exact Nat.le_refl _
theorem rnd_le (x : Srch) (d : List Nat) (v : Nat) (ht : ∀ i, i < x.E.length → toE x i < d.length) : gn (rnd x d) v ≤ gn d v := rlxK_le x d v ht _ (Nat.le_refl _) 0 (Nat.zero_le _)
theorem rnd_edge (x : Srch) (d : List Nat) (i : Nat) (hi : i < x.E.length) (ht : ∀ i, i < x.E.length → toE x i < d.length) (hc : cnt2 x i = true) (hf : gn d (nN x.E x.back i) < farV) : gn (rnd x d) (toE x i) ≤ gn d (nN x.E x.back i) + gn x.W i := by
  have h1 := rlxK_le x d (toE x i) ht _ (Nat.le_refl _) (i + 1) hi
  have h2 := rlxK_le x d (nN x.E x.back i) ht i (by omega) 0 (Nat.zero_le _)
  have h3 : gn (rlxK x d (i + 1)) (toE x i) ≤ gn (rlxK x d i) (nN x.E x.back i) + gn x.W i := by
    rw [rlxK_succ]
    unfold rlx
    have hl : toE x i < (rlxK x d i).length := by rw [rlxK_len]; exact ht i hi
    split
    · rw [gn_setN _ _ _ _ hl, if_pos rfl]; exact Nat.le_refl _
    · rename_i h
      unfold rlxB at h
      rw [hc, decide_eq_true (Nat.lt_of_le_of_lt h2 hf)] at h
      simp at h
      omega
  exact Nat.le_trans h1 (Nat.le_trans h3 (Nat.add_le_add_right h2 _))
def Sound (x : Srch) (s : Nat) (d : List Nat) : Prop := ∀ v, v < x.N → gn d v < farV → Way x s v (gn d v)
theorem Sound.rlx {x : Srch} {s i : Nat} {d : List Nat} (h : Sound x s d) (hl : d.length = x.N) (hi : i < x.E.length) (hn : nN x.E x.back i < x.N) (ht : toE x i < x.N) : Sound x s (rlx x d i) := by
  intro v hv hf
  unfold Go.Proofs.YtkfobolbilhjbaaGreat.rlx at hf ⊢
  split at hf
  · rename_i hb
    rw [if_pos hb]
    rw [gn_setN _ _ _ _ (by omega)] at hf ⊢
    by_cases e : v = toE x i
    · rw [if_pos e]
      unfold rlxB cnt2 at hb
      simp only [Bool.and_eq_true, decide_eq_true_eq] at hb
      rw [e]
      refine (h _ hn hb.1.2).step hi ?_
      unfold cntE toE
      rw [hb.1.1.1.1]
      split
      · rw [hb.1.1.1.2]; rfl
      · rw [hb.1.1.2]; rfl
    · rw [if_neg e] at hf ⊢
      exact h v hv hf
  · rename_i hb
    rw [if_neg hb]
    exact h v hv hf
theorem Sound.rnds {x : Srch} {s : Nat} {d : List Nat} (h : Sound x s d) (hl : d.length = x.N) (hn : ∀ i, i < x.E.length → nN x.E x.back i < x.N) (ht : ∀ i, i < x.E.length → toE x i < x.N) : ∀ k, Sound x s (rndK x d k) := by
  have one : ∀ d, d.length = x.N → Sound x s d → ∀ k, k ≤ x.E.length → Sound x s (rlxK x d k) := by
    intro d hl h k
    induction k with
    | zero => intro _; exact h
    | succ k ih =>
      intro hk
      rw [rlxK_succ]
      exact (ih (by omega)).rlx (by rw [rlxK_len]; exact hl) (by omega) (hn k (by omega)) (ht k (by omega))
  intro k
  induction k with
  | zero => exact h
  | succ k ih => exact one _ (by rw [rndK_len]; exact hl) ih _ (Nat.le_refl _)
def dBeg (N s : Nat) : List Nat := (List.replicate N farV).set s 0
theorem dBeg_at {N s v : Nat} (hs : s < N) (hv : v < N) : gn (dBeg N s) v = if v = s then 0 else farV := by
  unfold dBeg
  rw [gn_setN _ _ _ _ (by simpa using hs)]
  split
  · rfl
  · simp [gn, hv]
theorem Way.clean {x : Srch} {s v f : Nat} (h : Way x s v f) (hs : x.nn s = false) : x.nn v = false := by
  cases h with
  | here => exact hs
  | step h hi hc =>
    unfold cntE at hc
    simp only [Bool.and_eq_true, Bool.not_eq_true'] at hc
    exact hc.2
theorem rndK_hit {x : Srch} {s mw : Nat} {xs : List (Nat × Nat)} (h : Far x s mw xs) (hx : SrchIn x mw) (hb : x.N * mw < farV) (hm : x.most = 0) (hs : s < x.N) (hns : x.nn s = false) (_ : ∀ i, i < x.E.length → nN x.E x.back i < x.N) :
    ∀ (k j v f : Nat), j ≤ k → xs[j]? = some (v, f) → gn (rndK x (dBeg x.N s) k) v ≤ f := by
  have hlen : ∀ k, (rndK x (dBeg x.N s) k).length = x.N := fun k => by rw [rndK_len]; simp [dBeg]
  have hT : ∀ k i, i < x.E.length → toE x i < (rndK x (dBeg x.N s) k).length := fun k i hi => by rw [hlen]; exact hx.ends i hi
  have hzero : ∀ k, gn (rndK x (dBeg x.N s) k) s ≤ 0 := by
    intro k
    induction k with
    | zero => show gn (dBeg x.N s) s ≤ 0; rw [dBeg_at hs hs, if_pos rfl]; exact Nat.le_refl _
    | succ k ih => exact Nat.le_trans (rnd_le x _ s (hT k)) ih
  -- who comes ahead
  have pred : ∀ (j v f : Nat), xs[j]? = some (v, f) → v ≠ s → ∃ (i j' g : Nat), i < x.E.length ∧ toE x i = v ∧ xs[j']? = some (nN x.E x.back i, g) ∧ j' < j ∧ f = g + gn x.W i ∧ cnt2 x i = true ∧ g < farV := by
    intro j v f hj hvs
    have hmem : (v, f) ∈ xs := List.mem_of_getElem? hj
    have hw := (h.way _ _ hmem).2.1
    cases hw with
    | here => exact absurd rfl hvs
    | @step f' i hw hi hc =>
      obtain ⟨g, hg, hle⟩ := h.all _ _ hw (fun h => by omega)
      have hwg := (h.way _ _ hg)
      obtain ⟨g2, hg2, hle2⟩ := h.all _ _ (hwg.2.1.step hi hc) (fun h => by omega)
      have e := h.one hg2 hmem
      have hlo := hx.low i hi
      obtain ⟨j', hj'⟩ := List.mem_iff_getElem?.1 hg
      refine ⟨i, j', g, hi, rfl, hj', ?_, by omega, ?_, by have := hwg.2.2.2; omega⟩
      · rcases Nat.lt_or_ge j' j with hlt | hge
        · exact hlt
        · exfalso
          rcases Nat.lt_or_ge j j' with hlt | hge2
          · have h1 := List.getElem?_eq_some_iff.1 hj
            have h2 := List.getElem?_eq_some_iff.1 hj'
            obtain ⟨l1, e1⟩ := h1
            obtain ⟨l2, e2⟩ := h2
            have := List.pairwise_iff_getElem.1 h.sorted j j' l1 l2 hlt
            rw [e1, e2, ahead_yes] at this
            simp only at this
            omega
          · have hjj : j = j' := by omega
            rw [hjj] at hj
            rw [hj] at hj'
            have := (Prod.mk.inj (Option.some.inj hj')).2
            omega
      · have c1 := Way.clean (hwg.2.1) hns
        unfold cntE at hc
        unfold cnt2
        simp only [Bool.and_eq_true, Bool.not_eq_true'] at hc ⊢
        unfold nN at c1
        unfold toE at hc
        cases hbk : x.back with
        | true => rw [hbk] at c1 hc; exact ⟨⟨hc.1, hc.2⟩, c1⟩
        | false => rw [hbk] at c1 hc; exact ⟨⟨hc.1, c1⟩, hc.2⟩
  intro k
  induction k with
  | zero =>
    intro j v f hjk hj
    by_cases hvs : v = s
    · rw [hvs]; have := hzero 0; omega
    · obtain ⟨i, j', g, hi, hv, hj', hlt, _⟩ := pred j v f hj hvs
      omega
  | succ k ih =>
    intro j v f hjk hj
    by_cases hvs : v = s
    · rw [hvs]; have := hzero (k + 1); omega
    · obtain ⟨i, j', g, hi, hv, hj', hlt, hf, hc, hgf⟩ := pred j v f hj hvs
      have h1 := ih j' _ g (by omega) hj'
      have h2 := rnd_edge x (rndK x (dBeg x.N s) k) i hi (hT k) hc (by omega)
      rw [hv] at h2
      show gn (rnd x _) v ≤ f
      omega
theorem rndK_is {x : Srch} {s mw : Nat} {xs : List (Nat × Nat)} (h : Far x s mw xs) (hx : SrchIn x mw) (hb : x.N * mw < farV) (hm : x.most = 0) (hs : s < x.N) (hns : x.nn s = false) (hn : ∀ i, i < x.E.length → nN x.E x.back i < x.N) :
    rndK x (dBeg x.N s) (x.N + 1) = outL x.N xs := by
  have hlen : (rndK x (dBeg x.N s) (x.N + 1)).length = x.N := by rw [rndK_len]; simp [dBeg]
  have hle : ∀ k v, v < x.N → gn (rndK x (dBeg x.N s) k) v ≤ farV := by
    intro k v hv
    induction k with
    | zero => show gn (dBeg x.N s) v ≤ farV; rw [dBeg_at hs hv]; split; exact Nat.zero_le _; exact Nat.le_refl _
    | succ k ih => exact Nat.le_trans (rnd_le x _ v (fun i hi => by rw [rndK_len]; simp [dBeg]; exact hx.ends i hi)) ih
  have hsnd : Sound x s (rndK x (dBeg x.N s) (x.N + 1)) := Sound.rnds (fun v hv hf => by
    rw [dBeg_at hs hv] at hf ⊢
    split at hf
    · rename_i e; rw [if_pos e, e]; exact .here
    · exact absurd hf (Nat.lt_irrefl _)) (by simp [dBeg]) hn hx.ends _
  have hxl : xs.length ≤ x.N := by
    have h1 : (xs.map Prod.fst).length ≤ (List.range x.N).length := List.Nodup.length_le_of_subset h.nodup (fun v hv => by
      obtain ⟨⟨u, f⟩, hp, rfl⟩ := List.mem_map.1 hv
      exact List.mem_range.2 (h.way _ _ hp).1)
    simpa using h1
  refine List.ext_getElem (by rw [hlen, outL_len]) fun v h1 h2 => ?_
  have hv : v < x.N := by omega
  have key : gn (rndK x (dBeg x.N s) (x.N + 1)) v = gn (outL x.N xs) v := by
    rcases outL_cases h hb hv with ⟨k1, k2⟩ | ⟨k1, k2⟩
    · obtain ⟨j, hj⟩ := List.mem_iff_getElem?.1 k1
      have hjl := (List.getElem?_eq_some_iff.1 hj).1
      have h3 := rndK_hit h hx hb hm hs hns hn (x.N + 1) j _ _ (by omega) hj
      obtain ⟨g, hg, hg2⟩ := h.all _ _ (hsnd v hv (by omega)) (fun h => by omega)
      have := h.one hg k1
      omega
    · rw [k1]
      rcases Nat.lt_or_ge (gn (rndK x (dBeg x.N s) (x.N + 1)) v) farV with h3 | h3
      · obtain ⟨g, hg, _⟩ := h.all _ _ (hsnd v hv h3) (fun h => by omega)
        exact absurd hg (k2 g)
      · have := hle (x.N + 1) v hv
        omega
  simpa [gn, h1, h2] using key
def freeX (x : Srch) : Srch := { x with most := 0 }
theorem Way.free {x : Srch} {s v f : Nat} (h : Way x s v f) : Way (freeX x) s v f := by
  induction h with
  | here => exact .here
  | step h hi hc ih => exact Way.step (x := freeX x) ih hi hc
theorem Way.bound {x : Srch} {s v f : Nat} (h : Way (freeX x) s v f) : Way x s v f := by
  induction h with
  | here => exact .here
  | step h hi hc ih => exact Way.step (x := x) ih hi hc
def cutN (most f : Nat) : Nat := if 0 < most ∧ most < f then farV else f
def cutL (most : Nat) (d : List Nat) : List Nat := d.map (cutN most)
theorem far_cut {x : Srch} {s mw v : Nat} {xs ys : List (Nat × Nat)} (h : Far x s mw xs) (k : Far (freeX x) s mw ys) (hb : x.N * mw < farV) (hv : v < x.N) : gn (outL x.N xs) v = cutN x.most (gn (outL x.N ys) v) := by
  have hm0 : (freeX x).most = 0 := rfl
  rcases outL_cases k hb hv with ⟨k1, k2⟩ | ⟨k1, k2⟩
  · have k1 : (v, gn (outL x.N ys) v) ∈ ys := k1
    have k2 : gn (outL x.N ys) v < farV := k2
    have hw := (k.way _ _ k1).2.1.bound
    unfold cutN
    split
    · rename_i hc
      refine outL_no hv (fun hmem => ?_)
      obtain ⟨⟨u, g⟩, hp, rfl⟩ := List.mem_map.1 hmem
      have h1 := h.way _ _ hp
      obtain ⟨g2, hg2, hle⟩ := k.all _ _ h1.2.1.free (fun h => by omega)
      have e := k.one hg2 k1
      have := h1.2.2.1 hc.1
      omega
    · rename_i hc
      obtain ⟨g, hg, hle⟩ := h.all _ _ hw (fun h => by omega)
      obtain ⟨g2, hg2, hle2⟩ := k.all _ _ (h.way _ _ hg).2.1.free (fun h => by omega)
      have e := k.one hg2 k1
      rw [outL_at h.nodup hv hg]
      omega
  · have k1 : gn (outL x.N ys) v = farV := k1
    rw [k1]
    have e : cutN x.most farV = farV := by unfold cutN; split <;> rfl
    rw [e]
    refine outL_no hv (fun hmem => ?_)
    obtain ⟨⟨u, g⟩, hp, rfl⟩ := List.mem_map.1 hmem
    obtain ⟨g2, hg2, _⟩ := k.all _ _ (h.way _ _ hp).2.1.free (fun h => by omega)
    exact k2 g2 hg2
def refL (x : Srch) (s : Nat) : List Nat := if x.nn s = true then List.replicate x.N farV else cutL x.most (rndK x (dBeg x.N s) (x.N + 1))
theorem rndK_free (x : Srch) (d : List Nat) (k : Nat) : rndK (freeX x) d k = rndK x d k := by
  induction k with
  | zero => rfl
  | succ k ih =>
    show rnd (freeX x) (rndK (freeX x) d k) = rnd x (rndK x d k)
    rw [ih]
    rfl
theorem refL_is {x : Srch} {s mw : Nat} {xs ys : List (Nat × Nat)} (h : Far x s mw xs) (k : Far (freeX x) s mw ys) (hx : SrchIn x mw) (hb : x.N * mw < farV) (hs : s < x.N) (hns : x.nn s = false) (hn : ∀ i, i < x.E.length → nN x.E x.back i < x.N) : refL x s = outL x.N xs := by
  unfold refL
  rw [if_neg (by rw [hns]; exact Bool.false_ne_true)]
  have e := rndK_is k ⟨hx.ends, hx.low, hx.high⟩ hb rfl hs hns hn
  rw [rndK_free] at e
  have e : rndK x (dBeg x.N s) (x.N + 1) = outL x.N ys := e
  rw [e]
  refine List.ext_getElem (by simp [cutL, outL_len]) fun v h1 h2 => ?_
  have hv : v < x.N := by rw [outL_len] at h2; exact h2
  have key := far_cut h k hb hv
  have h3 : v < (outL x.N ys).length := by rw [outL_len]; exact hv
  simp [cutL]
  simp [gn, h2, h3] at key
  exact key.symm
set_option maxHeartbeats 1000000 in
theorem r14Ends (x : Edg) (back : Bool) (w : World) : Calls Tryz.prog 73 #[eVal x, .bool back] w fun e w' => e = .returned (.tuple #[.int .i64 (if back then x.t else x.f), .int .i64 (if back then x.f else x.t)]) ∧ Grows w w' := by
  unfold eVal
  cases back with
  | true =>
    go_enter Tryz.func73, Tryz.ntmps73
    go_wp2_with fail
    ((first | refine wp_region_gen2 (by kernel_rfl) (by kernel_rfl) ?_ | refine wp_region_gen (by kernel_rfl) (by kernel_rfl) ?_); (repeat' ((first | refine gLex_val0 rfl (by kernel_rfl) (fun K hK => ?_) | refine gLex_undef rfl rfl rfl (by kernel_rfl) (fun K hK => ?_) | (refine gLex_ask rfl rfl rfl ?_; first | (apply gAsk_yes; kernel_rfl; intro K hK) | ((first | apply gAsk_no1 | apply gAsk_no2); kernel_rfl; intro K hK) | (apply gAsk_part; kernel_rfl; all_goals (intro h K hK; (try simp only [Bool.not_true] at h); (try simp only [Bool.not_false] at h); (try simp only [decide_eq_true_eq] at h); (try simp only [decide_eq_false_iff_not] at h); try (exfalso; first | contradiction | omega))))) <;> (go_simp; (try (simp only [↓IntWalk.iteOmega]; try go_simp)); (try simp (disch := omega) only [IntWalk.i64_in]); (try simp (disch := omega) only [IntWalk.u64_in]); refine hK _ ?_; clear hK K))); all_goals ((apply gLex_end); intro y))
    go_wp2_with fail
    go_ret2
    exact ⟨rfl, GG⟩
  | false =>
    go_enter Tryz.func73, Tryz.ntmps73
    go_wp2_with fail
    ((first | refine wp_region_gen2 (by kernel_rfl) (by kernel_rfl) ?_ | refine wp_region_gen (by kernel_rfl) (by kernel_rfl) ?_); (repeat' ((first | refine gLex_val0 rfl (by kernel_rfl) (fun K hK => ?_) | refine gLex_undef rfl rfl rfl (by kernel_rfl) (fun K hK => ?_) | (refine gLex_ask rfl rfl rfl ?_; first | (apply gAsk_yes; kernel_rfl; intro K hK) | ((first | apply gAsk_no1 | apply gAsk_no2); kernel_rfl; intro K hK) | (apply gAsk_part; kernel_rfl; all_goals (intro h K hK; (try simp only [Bool.not_true] at h); (try simp only [Bool.not_false] at h); (try simp only [decide_eq_true_eq] at h); (try simp only [decide_eq_false_iff_not] at h); try (exfalso; first | contradiction | omega))))) <;> (go_simp; (try (simp only [↓IntWalk.iteOmega]; try go_simp)); (try simp (disch := omega) only [IntWalk.i64_in]); (try simp (disch := omega) only [IntWalk.u64_in]); refine hK _ ?_; clear hK K))); all_goals ((apply gLex_end); intro y))
    go_wp2_with fail
    go_ret2
    exact ⟨rfl, GG⟩
set_option maxRecDepth 20000 in
set_option maxHeartbeats 4000000 in
theorem r14Counts (NN : Nat) (A : Option Addr) (c : Nat) (E : List Edg) (o : DOpt) (An Ae Aw : Option Addr) (cn ce cw : Nat) (i : Nat) (w : World) (h : Rd w A 3 E.length (esCells E)) (h2 : Rd w An 1 o.nn.length (o.nn.map (.int .i64))) (h3 : Rd w Ae 1 o.ne.length (o.ne.map (.int .i64))) (hnn : o.nn.length ≤ 1000000) (hne : o.ne.length ≤ 1000000) (hE : E.length ≤ 1000000)
    (hi : i < E.length) (hf : (ge E i).f = (fN E i : Int)) (ht : (ge E i).t = (tN E i : Int)) :
    Calls Tryz.prog 57 #[.agg #[.int .i64 (NN : Int), .slice A E.length c], .int .i64 (i : Int), oVal o.back (.slice An o.nn.length cn) (.slice Ae o.ne.length ce) Aw o.W.length cw o.most] w fun e w' => e = .returned (.bool (cnt2 (srchOf NN E o) i)) ∧ Grows w w' := by
  unfold oVal
  have HD : Hid (cnt2 (srchOf NN E o) i = (!decide ((i : Int) ∈ o.ne) && !decide ((fN E i : Int) ∈ o.nn) && !decide ((tN E i : Int) ∈ o.nn))) := rfl
  have C1 := hide (fun (W : World) (g : Grows w W) => r1Has Ae o.ne.length ce o.ne (i : Int) W (h3.grows g) hne)
  have C2 := hide (fun (W : World) (g : Grows w W) => r1Has An o.nn.length cn o.nn (fN E i : Int) W (h2.grows g) hnn)
  have C3 := hide (fun (W : World) (g : Grows w W) => r1Has An o.nn.length cn o.nn (tN E i : Int) W (h2.grows g) hnn)
  obtain ⟨b2, off2, rfl, hc2⟩ := h.edgesH (by omega)
  obtain ⟨c1, c2, c3⟩ := hc2 i hi
  rw [hf] at c1
  rw [ht] at c2
  clear hc2 h h2 h3 hf ht
  generalize cnt2 (srchOf NN E o) i = r at *
  generalize decide ((i : Int) ∈ o.ne) = q1 at *
  generalize decide ((fN E i : Int) ∈ o.nn) = q2 at *
  generalize decide ((tN E i : Int) ∈ o.nn) = q3 at *
  generalize fN E i = ff at *
  generalize tN E i = tt at *
  generalize (ge E i).w = gw at *
  cases q1 with
  | true =>
    clear C2 C3
    go_enter Tryz.func57, Tryz.ntmps57
    go_upto_region 1 with fail
    ((first | refine wp_region_gen2 (by kernel_rfl) (by kernel_rfl) ?_ | refine wp_region_gen (by kernel_rfl) (by kernel_rfl) ?_); (repeat' ((first | refine gLex_val0 rfl (by kernel_rfl) (fun K hK => ?_) | refine gLex_undef rfl rfl rfl (by kernel_rfl) (fun K hK => ?_) | (refine gLex_ask rfl rfl rfl ?_; first | (apply gAsk_yes; kernel_rfl; intro K hK) | ((first | apply gAsk_no1 | apply gAsk_no2); kernel_rfl; intro K hK) | (apply gAsk_part; kernel_rfl; all_goals (intro h K hK; (try simp only [Bool.not_true] at h); (try simp only [Bool.not_false] at h); (try simp only [decide_eq_true_eq] at h); (try simp only [decide_eq_false_iff_not] at h); try (exfalso; first | contradiction | omega))))) <;> (go_simp; (try (simp only [↓IntWalk.iteOmega]; try go_simp)); (try simp (disch := omega) only [IntWalk.i64_in]); (try simp (disch := omega) only [IntWalk.u64_in]); first | (refine hK _ ?_; clear hK K) | (apply Exists.intro; refine ⟨fun x => ?_, hK _ ?_⟩; (first | (go_at_call 72; with_reducible exact calls_same (C1.out _ GG))); clear hK K)))); all_goals ((apply gLex_end); intro y))
    go_wp2_with fail
    go_ret
    exact ⟨ret_bool (by rw [HD.out]; rfl), GG⟩
  | false =>
    cases q2 with
    | true =>
      clear C3
      go_enter Tryz.func57, Tryz.ntmps57
      go_upto_region 1 with fail
      ((first | refine wp_region_gen2 (by kernel_rfl) (by kernel_rfl) ?_ | refine wp_region_gen (by kernel_rfl) (by kernel_rfl) ?_); (repeat' ((first | refine gLex_val0 rfl (by kernel_rfl) (fun K hK => ?_) | refine gLex_undef rfl rfl rfl (by kernel_rfl) (fun K hK => ?_) | (refine gLex_ask rfl rfl rfl ?_; first | (apply gAsk_yes; kernel_rfl; intro K hK) | ((first | apply gAsk_no1 | apply gAsk_no2); kernel_rfl; intro K hK) | (apply gAsk_part; kernel_rfl; all_goals (intro h K hK; (try simp only [Bool.not_true] at h); (try simp only [Bool.not_false] at h); (try simp only [decide_eq_true_eq] at h); (try simp only [decide_eq_false_iff_not] at h); try (exfalso; first | contradiction | omega))))) <;> (go_simp; (try (simp only [↓IntWalk.iteOmega]; try go_simp)); (try simp (disch := omega) only [IntWalk.i64_in]); (try simp (disch := omega) only [IntWalk.u64_in]); first | (refine hK _ ?_; clear hK K) | (apply Exists.intro; refine ⟨fun x => ?_, hK _ ?_⟩; (first | (go_at_call 72; with_reducible exact calls_same (C1.out _ GG)) | (go_at_call 72; with_reducible exact calls_same (C2.out _ GG))); clear hK K)))); all_goals ((apply gLex_end); intro y))
      go_wp2_with fail
      go_ret
      exact ⟨ret_bool (by rw [HD.out]; rfl), GG⟩
    | false =>
      go_enter Tryz.func57, Tryz.ntmps57
      go_upto_region 1 with fail
      ((first | refine wp_region_gen2 (by kernel_rfl) (by kernel_rfl) ?_ | refine wp_region_gen (by kernel_rfl) (by kernel_rfl) ?_); (repeat' ((first | refine gLex_val0 rfl (by kernel_rfl) (fun K hK => ?_) | refine gLex_undef rfl rfl rfl (by kernel_rfl) (fun K hK => ?_) | (refine gLex_ask rfl rfl rfl ?_; first | (apply gAsk_yes; kernel_rfl; intro K hK) | ((first | apply gAsk_no1 | apply gAsk_no2); kernel_rfl; intro K hK) | (apply gAsk_part; kernel_rfl; all_goals (intro h K hK; (try simp only [Bool.not_true] at h); (try simp only [Bool.not_false] at h); (try simp only [decide_eq_true_eq] at h); (try simp only [decide_eq_false_iff_not] at h); try (exfalso; first | contradiction | omega))))) <;> (go_simp; (try (simp only [↓IntWalk.iteOmega]; try go_simp)); (try simp (disch := omega) only [IntWalk.i64_in]); (try simp (disch := omega) only [IntWalk.u64_in]); first | (refine hK _ ?_; clear hK K) | (apply Exists.intro; refine ⟨fun x => ?_, hK _ ?_⟩; (first | (go_at_call 72; with_reducible exact calls_same (C1.out _ GG)) | (go_at_call 72; with_reducible exact calls_same (C2.out _ GG)) | (go_at_call 72; with_reducible exact calls_same (C3.out _ GG))); clear hK K)))); all_goals ((apply gLex_end); intro y))
      go_wp2_with fail
      go_ret
      exact ⟨ret_bool (by rw [HD.out]; cases q3 <;> rfl), GG⟩
def DAt (W0 : World) (gd N : Nat) (AX : Option Addr) (m : Nat) (X L : List Nat) (wr : World) : Prop :=
  ∃ y : Later W0, wr = y.now ∧ Own y.now W0.heap.size 26 1 (some ⟨gd, 0, none⟩) N N (wv L) ∧ Rd y.now AX 1 m (wv X) ∧ (0 < m → ∀ p, AX = some p → p.block ≠ gd)
theorem DAt.grow {W0 : World} {gd N : Nat} {AX : Option Addr} {m : Nat} {X L : List Nat} {wr w2 : World} (h : DAt W0 gd N AX m X L wr) (hg : Grows wr w2) : DAt W0 gd N AX m X L w2 := by
  obtain ⟨y, rfl, h1, h2, h3⟩ := h
  exact ⟨⟨w2, y.grows.trans hg⟩, rfl, h1.grows hg, h2.grows hg, h3⟩
theorem DAt.put {W0 : World} {gd N : Nat} {AX : Option Addr} {m : Nat} {X L : List Nat} {wr w2 : World} (h : DAt W0 gd N AX m X L wr) (hg : Grows wr w2) (hN : 0 < N) (j f : Nat) : DAt W0 gd N AX m X (L.set j f) (w2.setCell ⟨gd, j, none⟩ (.int .u64 (f : Int))) := by
  obtain ⟨y, rfl, h1, h2, h3⟩ := h.grow hg
  obtain ⟨y4, e4, ho⟩ := h1.put (j := j) y.grows hN (.int .u64 (f : Int))
  rw [wv_set] at ho
  rw [e4]
  refine ⟨y4, rfl, ho, ?_, h3⟩
  rw [← e4]
  exact h2.touch0 ((Touch.refl (fun k => k = gd) _).set (.inl rfl) _) (fun hm p hp => h3 hm p hp)
theorem DAt.cell {W0 : World} {gd N : Nat} {L : List Nat} {y : Later W0} (h : Own y.now W0.heap.size 26 1 (some ⟨gd, 0, none⟩) N N (wv L)) {j : Nat} (hj : j < L.length) : Mine y.now ⟨gd, j, none⟩ (.int .u64 (gn L j : Int)) := (h.row).1.mine (wv_at hj)
def fillL (N k : Nat) : List Nat := List.replicate k farV ++ List.replicate (N - k) 0
theorem fillL_len {N k : Nat} (h : k ≤ N) : (fillL N k).length = N := by simp [fillL]; omega
theorem fillL_set {N k : Nat} (h : k < N) : (fillL N k).set k farV = fillL N (k + 1) := by
  apply List.ext_getElem?
  intro j
  have hl : k < (fillL N k).length := by rw [fillL_len (by omega)]; exact h
  by_cases e : j = k
  · subst e
    rw [List.getElem?_set_self hl]
    simp [fillL, List.getElem?_append]
  · rw [List.getElem?_set_ne (Ne.symm e)]
    unfold fillL
    rw [List.getElem?_append, List.getElem?_append]
    simp only [List.length_replicate, List.getElem?_replicate]
    by_cases h1 : j < k
    · rw [if_pos h1, if_pos (show j < k + 1 by omega), if_pos h1, if_pos (show j < k + 1 by omega)]
    · rw [if_neg h1, if_neg (show ¬ j < k + 1 by omega)]
      by_cases h2 : j - k < N - k
      · rw [if_pos h2, if_pos (by omega)]
      · rw [if_neg h2, if_neg (by omega)]
theorem fillL_all (N : Nat) : fillL N N = List.replicate N farV := by simp [fillL]
theorem rndK_fix {x : Srch} {d : List Nat} {k : Nat} (h : rnd x (rndK x d k) = rndK x d k) (j : Nat) : rndK x d (k + j) = rndK x d k := by
  induction j with
  | zero => rfl
  | succ j ih => show rnd x (rndK x d (k + j)) = _; rw [ih, h]
def cutK (most : Nat) (d : List Nat) (k : Nat) : List Nat := (d.take k).map (cutN most) ++ d.drop k
theorem cutK_len (most : Nat) (d : List Nat) (k : Nat) : (cutK most d k).length = d.length := by simp [cutK]; omega
theorem cutK_get (most : Nat) (d : List Nat) (k j : Nat) : (cutK most d k)[j]? = if j < k then d[j]?.map (cutN most) else d[j]? := by
  unfold cutK
  rw [List.getElem?_append]
  simp only [List.length_map, List.length_take, List.getElem?_map, List.getElem?_take, List.getElem?_drop]
  by_cases h1 : j < k
  · by_cases h2 : j < min k d.length
    · simp only [h1, h2, if_true]
    · have h3 : d.length ≤ j := by omega
      have h4 : d.length ≤ k + (j - min k d.length) := by omega
      simp only [h1, h2, if_true, if_false, List.getElem?_eq_none h3, List.getElem?_eq_none h4, Option.map_none]
  · have h2 : ¬ j < min k d.length := by omega
    rw [if_neg h2, if_neg h1]
    by_cases h3 : k ≤ d.length
    · rw [Nat.min_eq_left h3, show k + (j - k) = j by omega]
    · rw [List.getElem?_eq_none (by omega), List.getElem?_eq_none (by omega)]
theorem cutK_at {most : Nat} {d : List Nat} {k : Nat} : gn (cutK most d k) k = gn d k := by
  unfold gn
  rw [List.getD_eq_getElem?_getD, cutK_get, if_neg (by omega), ← List.getD_eq_getElem?_getD]
theorem cutK_set {most : Nat} {d : List Nat} {k : Nat} (h : k < d.length) : (cutK most d k).set k (cutN most (gn d k)) = cutK most d (k + 1) := by
  apply List.ext_getElem?
  intro j
  by_cases e : j = k
  · subst e
    rw [List.getElem?_set_self (by rw [cutK_len]; exact h), cutK_get, if_pos (by omega)]
    simp [gn, h]
  · rw [List.getElem?_set_ne (Ne.symm e), cutK_get, cutK_get]
    by_cases h1 : j < k
    · rw [if_pos h1, if_pos (by omega)]
    · rw [if_neg h1, if_neg (by omega)]
theorem cutK_same {most : Nat} {d : List Nat} {k : Nat} (h : k < d.length) (hc : ¬ (0 < most ∧ most < gn d k)) : cutK most d k = cutK most d (k + 1) := by
  rw [← cutK_set h]
  have e : cutN most (gn d k) = gn (cutK most d k) k := by rw [cutK_at]; unfold cutN; rw [if_neg hc]
  rw [e]
  have hl : k < (cutK most d k).length := by rw [cutK_len]; exact h
  apply List.ext_getElem?
  intro j
  by_cases ej : j = k
  · subst ej
    rw [List.getElem?_set_self hl]
    simp [gn, hl]
  · rw [List.getElem?_set_ne (Ne.symm ej)]
theorem cutK_all (most : Nat) (d : List Nat) : cutK most d d.length = cutL most d := by simp [cutK, cutL]
set_option maxRecDepth 40000 in
set_option maxHeartbeats 8000000 in
theorem r14All (NN s : Nat) (A : Option Addr) (c : Nat) (E : List Edg) (o : DOpt) (An Ae Aw : Option Addr) (cn ce cw : Nat) (w : World) (h : Rd w A 3 E.length (esCells E)) (h2 : Rd w An 1 o.nn.length (o.nn.map (.int .i64))) (h3 : Rd w Ae 1 o.ne.length (o.ne.map (.int .i64))) (h4 : Rd w Aw 1 o.W.length (wv o.W)) (hok : WalkOk NN s E o)
    (hwb : ∀ i, i < E.length → gn (wtF NN E o.W) i ≤ 17592186044416) :
    Calls Tryz.prog 55 #[.agg #[.int .i64 (NN : Int), .slice A E.length c], .int .i64 (s : Int), oVal o.back (.slice An o.nn.length cn) (.slice Ae o.ne.length ce) Aw o.W.length cw o.most] w fun e w' =>
      ∃ gd, e = .returned (.slice (some ⟨gd, 0, none⟩) NN NN) ∧ Row1 w' gd 26 1 NN NN (wv (refL (srchOf NN E o) s)) ∧ Grows w w' := by
  unfold oVal
  obtain ⟨r1, r2, r3, r4, r5⟩ := right_in hok.right
  rw [Int.toNat_natCast] at r4
  have hNb : NN ≤ 4096 := by omega
  have hNp : 0 < NN := by omega
  have hEb : E.length ≤ 16384 := r3
  have hsN := hok.node
  have hwl := hok.wlen
  have CH := hide (fun (W : World) (g : Grows w W) => r1Has An o.nn.length cn o.nn (s : Int) W (h2.grows g) hok.nns)
  have CW := hide (fun (W : World) (g : Grows w W) => r14Weights (NN : Int) A E.length c E o.back (.slice An o.nn.length cn) (.slice Ae o.ne.length ce) Aw o.W.length cw o.most o.W W (h.grows g) (h4.grows g) (by omega) (by have := hok.wts; omega))
  have CC := hide (fun (W : World) (g : Grows w W) (i : Nat) (hi : i < E.length) => r14Counts NN A c E o An Ae Aw cn ce cw i W (h.grows g) (h2.grows g) (h3.grows g) hok.nns hok.nes (by omega) hi (r4.f i hi).2 (r4.t i hi).2)
  unfold oVal at CW CC
  have HR := hide h
  have HEF := hide (fun i (hi : i < E.length) => r4.f i hi)
  have HET := hide (fun i (hi : i < E.length) => r4.t i hi)
  have HWB := hide hwb
  have hmost := hok.most
  clear h h2 h3 h4 r1 r2 r3 r4 r5 hok hwb
  go_enter Tryz.func55, Tryz.ntmps55
  go_upto_region 1 with fail
  obtain ⟨W0, hW0⟩ : ∃ W0, W0 = ((w.alloc (.cells #[.int .i64 (NN : Int), .slice A E.length c] 24)).alloc (.cells #[.bool o.back, .slice An o.nn.length cn, .slice Ae o.ne.length ce, .slice Aw o.W.length cw, .int .u64 (o.most : Int)] 61)) := ⟨_, rfl⟩
  have a1 : Arr W0 w.heap.size 24 [.int .i64 (NN : Int), .slice A E.length c] := by rw [hW0]; exact (Arr.make _ _ _).grow ((Grows.refl _).new _)
  have a2 : Arr W0 (w.heap.size + 1) 61 [.bool o.back, .slice An o.nn.length cn, .slice Ae o.ne.length ce, .slice Aw o.W.length cw, .int .u64 (o.most : Int)] := by
    rw [hW0]
    have := Arr.make (w.alloc (.cells #[.int .i64 (NN : Int), .slice A E.length c] 24)) [.bool o.back, .slice An o.nn.length cn, .slice Ae o.ne.length ce, .slice Aw o.W.length cw, .int .u64 (o.most : Int)] 61
    rw [show (w.alloc (.cells #[.int .i64 (NN : Int), .slice A E.length c] 24)).heap.size = w.heap.size + 1 by simp] at this
    exact this
  have hg0 : Grows w W0 := by rw [hW0]; exact ((Grows.refl w).new _).new _
  rw [← hW0]
  clear hW0
  generalize w.heap.size + 1 = b2 at *
  generalize w.heap.size = b1 at *
  go_wp2_with (at_make; refine wp_make1 elemU64 rfl _ _ rfl W0 (Grows.refl _) NN rfl rfl (by omega) (by omega) (by omega) ?_; intro gd y0 hgd hown0; have HO0 := hide hown0; clear hown0)
  go_loopw [8] (fun i wr => ∃ k : Nat, k ≤ NN ∧ i = .int .i64 (k : Int) ∧ ∃ y : Later W0, wr = y.now ∧ Own y.now W0.heap.size 26 1 (some ⟨gd, 0, none⟩) NN NN (wv (fillL NN k))) (fun i _ => NN - (Go.RowKit.intOf i).toNat)
  case atStart =>
    refine ⟨0, by omega, by go_num, y0, rfl, ?_⟩
    have := HO0.out
    simpa [fillL, wv] using this
  case round =>
    obtain ⟨q, hq, rfl, y, rfl, hown⟩ := hrel
    clear HO0
    by_cases hlt : q < NN
    · have mb : Mine y.now ⟨gd, q, none⟩ (.int .u64 (gn (fillL NN q) q : Int)) := (hown.row).1.mine (wv_at (by rw [fillL_len hq]; exact hlt))
      have HO := hide hown
      clear hown
      generalize gn (fillL NN q) q = old at *
      go_wp2_with fail
      obtain ⟨y4, e4, ho4⟩ := HO.out.put (j := q) y.grows hNp (.int .u64 ((farV : Nat) : Int))
      rw [wv_set, fillL_set hlt] at ho4
      have e4 : y.now.setCell ⟨gd, q, none⟩ (.int .u64 4611686018427387904) = y4.now := e4
      rw [e4]
      have HO4 := hide ho4
      clear e4 ho4
      go_roundw
      case measure => simp [Go.RowKit.intOf]; omega
      case rel => exact ⟨q + 1, by omega, by go_num, y4, rfl, HO4.out⟩
    · obtain rfl : q = NN := by omega
      rw [fillL_all] at hown
      have HO := hide hown
      clear hown hq hlt hgd y0
      by_cases hns : (s : Int) ∈ o.nn
      · have HF := hide (show refL (srchOf q E o) s = List.replicate q farV from by
          unfold refL
          exact if_pos (decide_eq_true hns))
        have hb : decide ((s : Int) ∈ o.nn) = true := decide_eq_true hns
        rw [hb] at CH
        clear hns hb
        go_wp2_with (go_at_call 72; refine (CH.out _ (hg0.trans GG)).mono ?_; rintro e w' ⟨rfl, rfl⟩)
        go_ret
        exact ⟨gd, rfl, by rw [HF.out]; exact (HO.out.row).1, hg0.trans y.grows⟩
      · have hb : decide ((s : Int) ∈ o.nn) = false := decide_eq_false hns
        have HF := hide (show refL (srchOf q E o) s = cutL o.most (rndK (srchOf q E o) (dBeg q s) (q + 1)) from by
          unfold refL
          exact if_neg (by show ¬ decide ((s : Int) ∈ o.nn) = true; rw [hb]; exact Bool.false_ne_true))
        rw [hb] at CH
        clear hns hb
        have mb : Mine y.now ⟨gd, s, none⟩ (.int .u64 (gn (List.replicate q farV) s : Int)) := (HO.out.row).1.mine (wv_at (by simpa using hsN))
        generalize gn (List.replicate q farV) s = old at *
        go_wp2_with fail
        refine (CH.out _ (hg0.trans GG)).mono ?_; rintro e w' ⟨rfl, rfl⟩
        go_upto_region 9 with fail
        obtain ⟨y4, e4, ho4⟩ := HO.out.put (j := s) y.grows hNp (.int .u64 ((0 : Nat) : Int))
        rw [wv_set] at ho4
        have e4 : y.now.setCell ⟨gd, s, none⟩ (.int .u64 0) = y4.now := e4
        rw [e4]
        have HO4 := hide (show Own y4.now W0.heap.size 26 1 (some ⟨gd, 0, none⟩) q q (wv (dBeg q s)) from ho4)
        clear e4 ho4 mb HO CH old
        go_wp2_with fail
        refine (CW.out _ (hg0.trans GG)).mono ?_; rintro e w5 ⟨A3, c3, rfl, hown3, hg⟩
        obtain ⟨y5, hy5⟩ : ∃ y5 : Later W0, w5 = y5.now := Grows.later2 hg
        subst hy5
        have HDA0 := hide (show DAt W0 gd q A3 E.length (wtF q E o.W) (dBeg q s) y5.now from ⟨y5, rfl, HO4.out.grows hg, by have := hown3.rd; rw [hwl] at this; exact this, fun _ p hp e => by
          have h1 := (hown3.ty p hp).1
          have h2 := ((HO4.out.row).1).lt
          omega⟩)
        rw [hwl]
        have hXW : (srchOf q E o).W = wtF q E o.W := rfl
        have HXL := hide hwl
        clear hown3 hg HO4 hwl CW
        have HSTP := hide (show ∀ (d : List Nat) (j : Nat), rlxK (srchOf q E o) d (j + 1) = if (cnt2 (srchOf q E o) j && decide (gn (rlxK (srchOf q E o) d j) (nN E o.back j) < farV) && decide (gn (rlxK (srchOf q E o) d j) (nN E o.back j) + gn (wtF q E o.W) j < gn (rlxK (srchOf q E o) d j) (toE (srchOf q E o) j))) = true then (rlxK (srchOf q E o) d j).set (toE (srchOf q E o) j) (gn (rlxK (srchOf q E o) d j) (nN E o.back j) + gn (wtF q E o.W) j) else rlxK (srchOf q E o) d j from fun d j => rlxK_succ _ d j)
        have HENDS := hide (show ∀ j, j < E.length → (nN E o.back j < q ∧ toE (srchOf q E o) j < q) ∧ (if o.back then (ge E j).t else (ge E j).f) = (nN E o.back j : Int) ∧ (if o.back then (ge E j).f else (ge E j).t) = (toE (srchOf q E o) j : Int) from fun j hj => by
          have h1 := HEF.out j hj
          have h2 := HET.out j hj
          unfold nN toE
          show (_ ∧ (if o.back = true then fN E j else tN E j) < q) ∧ _ ∧ _ = (((if o.back = true then fN E j else tN E j) : Nat) : Int)
          cases o.back with
          | true => exact ⟨⟨h2.1, h1.1⟩, h2.2, h1.2⟩
          | false => exact ⟨⟨h1.1, h2.1⟩, h1.2, h2.2⟩)
        clear HEF HET hXW
        generalize wtF q E o.W = X at *
        have HMX := hide (show ∀ k v, v < q → gn (rndK (srchOf q E o) (dBeg q s) k) v ≤ farV from fun k v hv => by
          induction k with
          | zero => show gn (dBeg q s) v ≤ farV; rw [dBeg_at hsN hv]; split; exact Nat.zero_le _; exact Nat.le_refl _
          | succ k ih => exact Nat.le_trans (rnd_le (srchOf q E o) _ v (fun i hi => by rw [rndK_len]; simp [dBeg]; exact (HENDS.out i hi).1.2)) ih)
        go_wp2_with fail
        go_loopw [10, 11] (fun cb rk wr => ∃ (k : Nat) (b : Bool), k ≤ q + 1 ∧ cb = .bool b ∧ rk = .int .i64 (k : Int) ∧ DAt W0 gd q A3 E.length X (rndK (srchOf q E o) (dBeg q s) k) wr ∧ (b = false → rnd (srchOf q E o) (rndK (srchOf q E o) (dBeg q s) k) = rndK (srchOf q E o) (dBeg q s) k)) (fun _ rk _ => q + 1 - (Go.RowKit.intOf rk).toNat)
        case atStart => exact ⟨0, true, by omega, rfl, by go_num, HDA0.out, fun h => by cases h⟩
        case round =>
          obtain ⟨k, b, hk, rfl, rfl, hda, hfx⟩ := hrel
          have HDL := hide (show (rndK (srchOf q E o) (dBeg q s) k).length = q from by rw [rndK_len]; simp [dBeg])
          have HKX := hide (HMX.out k)
          obtain ⟨y5', rfl, _⟩ := id hda
          have HDA := hide hda
          have HFX := hide hfx
          clear hda hfx HDA0
          by_cases hkq : k ≤ q
          · cases b with
            | true =>
              clear HF
              have HRN := hide (show rndK (srchOf q E o) (dBeg q s) (k + 1) = rnd (srchOf q E o) (rndK (srchOf q E o) (dBeg q s) k) from rfl)
              generalize hdk : rndK (srchOf q E o) (dBeg q s) k = d at *
              have HDK := hide hdk
              clear hdk
              go_wp2_with fail
              go_loopw [10, 12] (fun cb jk wr => ∃ (j : Nat) (b : Bool), j ≤ E.length ∧ cb = .bool b ∧ jk = .int .i64 (j : Int) ∧ DAt W0 gd q A3 E.length X (rlxK (srchOf q E o) d j) wr ∧ (b = false → rlxK (srchOf q E o) d j = d)) (fun _ jk _ => E.length - (Go.RowKit.intOf jk).toNat)
              case atStart => exact ⟨0, false, by omega, rfl, by go_num, HDA.out, fun _ => rfl⟩
              case round =>
                obtain ⟨j, b3, hj, rfl, rfl, ⟨y6, rfl, hown, hrx, hpx⟩, hno⟩ := hrel
                have HDB := hide (show DAt W0 gd q A3 E.length X (rlxK (srchOf q E o) d j) y6.now from ⟨y6, rfl, hown, hrx, hpx⟩)
                have HNOC := hide hno
                clear HDA hno
                by_cases hlt : j < E.length
                · have hLL : (rlxK (srchOf q E o) d j).length = q := by rw [rlxK_len]; exact HDL.out
                  obtain ⟨⟨hu, hv⟩, hen1, hen2⟩ := HENDS.out j hlt
                  have CEN := hide (fun (W : World) => r14Ends (ge E j) o.back W)
                  rw [hen1, hen2] at CEN
                  have CCI := hide (fun (W : World) (g : Grows w W) => CC.out W g j hlt)
                  have mu := (hown.row).1.mine (wv_at (W := rlxK (srchOf q E o) d j) (j := nN E o.back j) (by rw [hLL]; exact hu))
                  have mv := (hown.row).1.mine (wv_at (W := rlxK (srchOf q E o) d j) (j := toE (srchOf q E o) j) (by rw [hLL]; exact hv))
                  obtain ⟨_, bx, offx, rfl, hcx⟩ := hrx.wordsH (by omega)
                  have k1 := hcx j hlt
                  obtain ⟨b9, off9, rfl, hc9⟩ := HR.out.edgesH (by omega)
                  obtain ⟨z1', z2', z3'⟩ := hc9 j hlt
                  have z1 : Holds W0 _ _ := ⟨hg0.keeps z1'.cell⟩
                  have z2 : Holds W0 _ _ := ⟨hg0.keeps z2'.cell⟩
                  have z3 : Holds W0 _ _ := ⟨hg0.keeps z3'.cell⟩
                  clear z1' z2' z3'
                  have HSTEP0 := HSTP.out d j
                  have hub : gn (rlxK (srchOf q E o) d j) (nN E o.back j) ≤ farV := Nat.le_trans (rlxK_le (srchOf q E o) d _ (fun i hi => by rw [HDL.out]; exact (HENDS.out i hi).1.2) j (Nat.le_of_lt hlt) 0 (Nat.zero_le _)) (HKX.out _ hu)
                  have hwb2 := HWB.out j hlt
                  unfold eVal at CEN
                  clear hown hrx hpx hcx hc9 hLL hen1 hen2
                  generalize (ge E j).f = ef at *
                  generalize (ge E j).t = et at *
                  generalize (ge E j).w = ew at *
                  generalize nN E o.back j = uu at *
                  generalize toE (srchOf q E o) j = vv at *
                  generalize hcq : cnt2 (srchOf q E o) j = cq at *
                  clear hcq
                  generalize gn (rlxK (srchOf q E o) d j) uu = du at *
                  generalize gn (rlxK (srchOf q E o) d j) vv = dv at *
                  generalize gn X j = xw at *
                  unfold farV at hub
                  cases cq with
                  | false =>
                    have HSTEP := hide (show rlxK (srchOf q E o) d (j + 1) = rlxK (srchOf q E o) d j from by rw [HSTEP0]; rfl)
                    clear HSTEP0
                    go_upto_region 18 with fail
                    ((first | refine wp_region_gen (by kernel_rfl) (by kernel_rfl) ?_); (repeat' ((first | refine gLex_val0 rfl (by kernel_rfl) (fun K hK => ?_) | refine gLex_undef rfl rfl rfl (by kernel_rfl) (fun K hK => ?_) | (refine gLex_ask rfl rfl rfl ?_; first | (apply gAsk_yes; kernel_rfl; intro K hK) | ((first | apply gAsk_no1 | apply gAsk_no2); kernel_rfl; intro K hK) | (apply gAsk_part; kernel_rfl; all_goals (intro h K hK; (try simp only [Bool.not_true] at h); (try simp only [Bool.not_false] at h); (try simp only [decide_eq_true_eq] at h); (try simp only [decide_eq_false_iff_not] at h); try (exfalso; first | contradiction | omega))))) <;> (go_simp; (try (simp only [↓IntWalk.iteOmega]; try go_simp)); (try simp (disch := omega) only [IntWalk.i64_in]); (try simp (disch := omega) only [IntWalk.u64_in]); first | (refine hK _ ?_; clear hK K) | (apply Exists.intro; refine ⟨fun x => ?_, hK _ ?_⟩; (first | (go_at_call 73; exact CEN.out _)); clear hK K)))); all_goals ((apply gLex_end); intro y7))
                    go_upto_region 19 with fail
                    ((first | refine wp_region_gen (by kernel_rfl) (by kernel_rfl) ?_); (repeat' ((first | refine gLex_val0 rfl (by kernel_rfl) (fun K hK => ?_) | refine gLex_undef rfl rfl rfl (by kernel_rfl) (fun K hK => ?_) | (refine gLex_ask rfl rfl rfl ?_; first | (apply gAsk_yes; kernel_rfl; intro K hK) | ((first | apply gAsk_no1 | apply gAsk_no2); kernel_rfl; intro K hK) | (apply gAsk_part; kernel_rfl; all_goals (intro h K hK; (try simp only [Bool.not_true] at h); (try simp only [Bool.not_false] at h); (try simp only [decide_eq_true_eq] at h); (try simp only [decide_eq_false_iff_not] at h); try (exfalso; first | contradiction | omega))))) <;> (go_simp; (try (simp only [↓IntWalk.iteOmega]; try go_simp)); (try simp (disch := omega) only [IntWalk.i64_in]); (try simp (disch := omega) only [IntWalk.u64_in]); first | (refine hK _ ?_; clear hK K) | (apply Exists.intro; refine ⟨fun x => ?_, hK _ ?_⟩; (first | (go_at_call 57; exact CCI.out _ (hg0.trans (y6.grows.trans GG)))); clear hK K)))); all_goals ((apply gLex_end); intro y8))
                    go_wp2_with fail
                    have hfin := HDB.out.grow (w2 := y8.now) (y7.grows.trans y8.grows)
                    have HFIN := hide (show DAt W0 gd q _ E.length X (rlxK (srchOf q E o) d (j + 1)) y8.now from by rw [HSTEP.out]; exact hfin)
                    clear hfin
                    go_roundw
                    case measure => simp [Go.RowKit.intOf]; omega
                    case rel => exact ⟨j + 1, b3, by omega, by go_num, by go_num, HFIN.out, fun h => by rw [HSTEP.out]; exact HNOC.out h⟩
                  | true =>
                    by_cases h1 : du < 4611686018427387904
                    · have hb1 : decide ((du : Int) < 4611686018427387904) = true := decide_eq_true (by omega)
                      by_cases h2 : du + xw < dv
                      · have hb2 : decide ((du : Int) + (xw : Int) < (dv : Int)) = true := decide_eq_true (by omega)
                        have HSTEP := hide (show (rlxK (srchOf q E o) d j).set vv (du + xw) = rlxK (srchOf q E o) d (j + 1) from by
                          rw [HSTEP0, if_pos]
                          rw [decide_eq_true h2, decide_eq_true (show du < farV from h1)]; rfl)
                        clear HSTEP0 h2
                        go_upto_region 18 with fail
                        ((first | refine wp_region_gen (by kernel_rfl) (by kernel_rfl) ?_); (repeat' ((first | refine gLex_val0 rfl (by kernel_rfl) (fun K hK => ?_) | refine gLex_undef rfl rfl rfl (by kernel_rfl) (fun K hK => ?_) | (refine gLex_ask rfl rfl rfl ?_; first | (apply gAsk_yes; kernel_rfl; intro K hK) | ((first | apply gAsk_no1 | apply gAsk_no2); kernel_rfl; intro K hK) | (apply gAsk_part; kernel_rfl; all_goals (intro h K hK; (try simp only [Bool.not_true] at h); (try simp only [Bool.not_false] at h); (try simp only [decide_eq_true_eq] at h); (try simp only [decide_eq_false_iff_not] at h); try (exfalso; first | contradiction | omega))))) <;> (go_simp; (try (simp only [↓IntWalk.iteOmega]; try go_simp)); (try simp (disch := omega) only [IntWalk.i64_in]); (try simp (disch := omega) only [IntWalk.u64_in]); first | (refine hK _ ?_; clear hK K) | (apply Exists.intro; refine ⟨fun x => ?_, hK _ ?_⟩; (first | (go_at_call 73; exact CEN.out _)); clear hK K)))); all_goals ((apply gLex_end); intro y7))
                        go_upto_region 19 with fail
                        ((first | refine wp_region_gen (by kernel_rfl) (by kernel_rfl) ?_); (repeat' ((first | refine gLex_val0 rfl (by kernel_rfl) (fun K hK => ?_) | refine gLex_undef rfl rfl rfl (by kernel_rfl) (fun K hK => ?_) | (refine gLex_ask rfl rfl rfl ?_; first | (apply gAsk_yes; kernel_rfl; intro K hK) | ((first | apply gAsk_no1 | apply gAsk_no2); kernel_rfl; intro K hK) | (apply gAsk_part; kernel_rfl; all_goals (intro h K hK; (try simp only [Bool.not_true] at h); (try simp only [Bool.not_false] at h); (try simp only [decide_eq_true_eq] at h); (try simp only [decide_eq_false_iff_not] at h); try (exfalso; first | contradiction | omega))))) <;> (go_simp; (try (simp only [↓IntWalk.iteOmega]; try go_simp)); (try simp (disch := omega) only [IntWalk.i64_in]); (try simp (disch := omega) only [IntWalk.u64_in]); first | (refine hK _ ?_; clear hK K) | (apply Exists.intro; refine ⟨fun x => ?_, hK _ ?_⟩; (first | (go_at_call 57; exact CCI.out _ (hg0.trans (y6.grows.trans GG)))); clear hK K)))); all_goals ((apply gLex_end); intro y8))
                        go_upto_region 20 with fail
                        (refine wp_region_tail1 12 (by kernel_rfl) (by kernel_rfl) ?_; simp only [List.take_succ_cons, List.take_zero, List.drop_succ_cons, List.drop_zero]; (repeat' ((first | refine gLex_val0 rfl (by kernel_rfl) (fun K hK => ?_) | refine gLex_undef rfl rfl rfl (by kernel_rfl) (fun K hK => ?_) | (refine gLex_ask rfl rfl rfl ?_; first | (apply gAsk_yes; kernel_rfl; intro K hK) | ((first | apply gAsk_no1 | apply gAsk_no2); kernel_rfl; intro K hK))) <;> (go_simp; (try (simp only [↓IntWalk.iteOmega]; try go_simp)); (try simp (disch := omega) only [IntWalk.i64_in]); (try simp (disch := omega) only [IntWalk.u64_in]); refine hK _ ?_; clear hK K))))
                        refine gLex_endT (fun y9 => ?_)
                        go_wp2_with fail
                        have hfin := HDB.out.put (w2 := y9.now) (y7.grows.trans (y8.grows.trans y9.grows)) hNp vv (du + xw)
                        rw [HSTEP.out] at hfin
                        have HFIN := hide hfin
                        clear hfin
                        have e9 : ((du + xw : Nat) : Int) = (du : Int) + (xw : Int) := Int.natCast_add du xw
                        rw [e9] at HFIN
                        clear e9
                        go_roundw
                        case measure => simp [Go.RowKit.intOf]; omega
                        case rel => exact ⟨j + 1, true, by omega, by go_num, by go_num, HFIN.out, fun h => by cases h⟩
                      · have hb2 : decide ((du : Int) + (xw : Int) < (dv : Int)) = false := decide_eq_false (by omega)
                        have HSTEP := hide (show rlxK (srchOf q E o) d (j + 1) = rlxK (srchOf q E o) d j from by
                          rw [HSTEP0, if_neg]
                          rw [decide_eq_false h2]; simp)
                        clear HSTEP0 h2
                        go_upto_region 18 with fail
                        ((first | refine wp_region_gen (by kernel_rfl) (by kernel_rfl) ?_); (repeat' ((first | refine gLex_val0 rfl (by kernel_rfl) (fun K hK => ?_) | refine gLex_undef rfl rfl rfl (by kernel_rfl) (fun K hK => ?_) | (refine gLex_ask rfl rfl rfl ?_; first | (apply gAsk_yes; kernel_rfl; intro K hK) | ((first | apply gAsk_no1 | apply gAsk_no2); kernel_rfl; intro K hK) | (apply gAsk_part; kernel_rfl; all_goals (intro h K hK; (try simp only [Bool.not_true] at h); (try simp only [Bool.not_false] at h); (try simp only [decide_eq_true_eq] at h); (try simp only [decide_eq_false_iff_not] at h); try (exfalso; first | contradiction | omega))))) <;> (go_simp; (try (simp only [↓IntWalk.iteOmega]; try go_simp)); (try simp (disch := omega) only [IntWalk.i64_in]); (try simp (disch := omega) only [IntWalk.u64_in]); first | (refine hK _ ?_; clear hK K) | (apply Exists.intro; refine ⟨fun x => ?_, hK _ ?_⟩; (first | (go_at_call 73; exact CEN.out _)); clear hK K)))); all_goals ((apply gLex_end); intro y7))
                        go_upto_region 19 with fail
                        ((first | refine wp_region_gen (by kernel_rfl) (by kernel_rfl) ?_); (repeat' ((first | refine gLex_val0 rfl (by kernel_rfl) (fun K hK => ?_) | refine gLex_undef rfl rfl rfl (by kernel_rfl) (fun K hK => ?_) | (refine gLex_ask rfl rfl rfl ?_; first | (apply gAsk_yes; kernel_rfl; intro K hK) | ((first | apply gAsk_no1 | apply gAsk_no2); kernel_rfl; intro K hK) | (apply gAsk_part; kernel_rfl; all_goals (intro h K hK; (try simp only [Bool.not_true] at h); (try simp only [Bool.not_false] at h); (try simp only [decide_eq_true_eq] at h); (try simp only [decide_eq_false_iff_not] at h); try (exfalso; first | contradiction | omega))))) <;> (go_simp; (try (simp only [↓IntWalk.iteOmega]; try go_simp)); (try simp (disch := omega) only [IntWalk.i64_in]); (try simp (disch := omega) only [IntWalk.u64_in]); first | (refine hK _ ?_; clear hK K) | (apply Exists.intro; refine ⟨fun x => ?_, hK _ ?_⟩; (first | (go_at_call 57; exact CCI.out _ (hg0.trans (y6.grows.trans GG)))); clear hK K)))); all_goals ((apply gLex_end); intro y8))
                        go_wp2_with fail
                        have hfin := HDB.out.grow (w2 := y8.now) (y7.grows.trans y8.grows)
                        have HFIN := hide (show DAt W0 gd q _ E.length X (rlxK (srchOf q E o) d (j + 1)) y8.now from by rw [HSTEP.out]; exact hfin)
                        clear hfin
                        go_roundw
                        case measure => simp [Go.RowKit.intOf]; omega
                        case rel => exact ⟨j + 1, b3, by omega, by go_num, by go_num, HFIN.out, fun h => by rw [HSTEP.out]; exact HNOC.out h⟩
                    · have hb1 : decide ((du : Int) < 4611686018427387904) = false := decide_eq_false (by omega)
                      have HSTEP := hide (show rlxK (srchOf q E o) d (j + 1) = rlxK (srchOf q E o) d j from by
                        rw [HSTEP0, if_neg]
                        rw [decide_eq_false (show ¬ du < farV from h1)]; simp)
                      clear HSTEP0
                      go_upto_region 18 with fail
                      ((first | refine wp_region_gen (by kernel_rfl) (by kernel_rfl) ?_); (repeat' ((first | refine gLex_val0 rfl (by kernel_rfl) (fun K hK => ?_) | refine gLex_undef rfl rfl rfl (by kernel_rfl) (fun K hK => ?_) | (refine gLex_ask rfl rfl rfl ?_; first | (apply gAsk_yes; kernel_rfl; intro K hK) | ((first | apply gAsk_no1 | apply gAsk_no2); kernel_rfl; intro K hK) | (apply gAsk_part; kernel_rfl; all_goals (intro h K hK; (try simp only [Bool.not_true] at h); (try simp only [Bool.not_false] at h); (try simp only [decide_eq_true_eq] at h); (try simp only [decide_eq_false_iff_not] at h); try (exfalso; first | contradiction | omega))))) <;> (go_simp; (try (simp only [↓IntWalk.iteOmega]; try go_simp)); (try simp (disch := omega) only [IntWalk.i64_in]); (try simp (disch := omega) only [IntWalk.u64_in]); first | (refine hK _ ?_; clear hK K) | (apply Exists.intro; refine ⟨fun x => ?_, hK _ ?_⟩; (first | (go_at_call 73; exact CEN.out _)); clear hK K)))); all_goals ((apply gLex_end); intro y7))
                      go_upto_region 19 with fail
                      ((first | refine wp_region_gen (by kernel_rfl) (by kernel_rfl) ?_); (repeat' ((first | refine gLex_val0 rfl (by kernel_rfl) (fun K hK => ?_) | refine gLex_undef rfl rfl rfl (by kernel_rfl) (fun K hK => ?_) | (refine gLex_ask rfl rfl rfl ?_; first | (apply gAsk_yes; kernel_rfl; intro K hK) | ((first | apply gAsk_no1 | apply gAsk_no2); kernel_rfl; intro K hK) | (apply gAsk_part; kernel_rfl; all_goals (intro h K hK; (try simp only [Bool.not_true] at h); (try simp only [Bool.not_false] at h); (try simp only [decide_eq_true_eq] at h); (try simp only [decide_eq_false_iff_not] at h); try (exfalso; first | contradiction | omega))))) <;> (go_simp; (try (simp only [↓IntWalk.iteOmega]; try go_simp)); (try simp (disch := omega) only [IntWalk.i64_in]); (try simp (disch := omega) only [IntWalk.u64_in]); first | (refine hK _ ?_; clear hK K) | (apply Exists.intro; refine ⟨fun x => ?_, hK _ ?_⟩; (first | (go_at_call 57; exact CCI.out _ (hg0.trans (y6.grows.trans GG)))); clear hK K)))); all_goals ((apply gLex_end); intro y8))
                      go_wp2_with fail
                      have hfin := HDB.out.grow (w2 := y8.now) (y7.grows.trans y8.grows)
                      have HFIN := hide (show DAt W0 gd q _ E.length X (rlxK (srchOf q E o) d (j + 1)) y8.now from by rw [HSTEP.out]; exact hfin)
                      clear hfin
                      go_roundw
                      case measure => simp [Go.RowKit.intOf]; omega
                      case rel => exact ⟨j + 1, b3, by omega, by go_num, by go_num, HFIN.out, fun h => by rw [HSTEP.out]; exact HNOC.out h⟩
                · obtain rfl : j = E.length := by omega
                  clear hown hrx hpx
                  go_wp2_with fail
                  go_roundw
                  case measure => simp [Go.RowKit.intOf]; omega
                  case rel =>
                    refine ⟨k + 1, b3, by omega, by go_num, by go_num, ?_, fun h => ?_⟩
                    · rw [HRN.out]; exact HDB.out
                    · have e := HNOC.out h
                      rw [HRN.out]
                      show rnd (srchOf q E o) (rnd (srchOf q E o) d) = rnd (srchOf q E o) d
                      have e2 : rnd (srchOf q E o) d = d := e
                      rw [e2, e2]
            | false =>
              have HFN := hide (show rndK (srchOf q E o) (dBeg q s) (q + 1) = rndK (srchOf q E o) (dBeg q s) k from by
                have := rndK_fix (HFX.out rfl) (q + 1 - k)
                rw [show k + (q + 1 - k) = q + 1 by omega] at this
                exact this)
              clear HFX HKX
              generalize rndK (srchOf q E o) (dBeg q s) k = d at *
              go_wp2_with fail
              go_loopw [15] (fun i wr => ∃ k : Nat, k ≤ q ∧ i = .int .i64 (k : Int) ∧ DAt W0 gd q A3 E.length X (cutK o.most d k) wr) (fun i _ => q - (Go.RowKit.intOf i).toNat)
              case atStart => exact ⟨0, by omega, by go_num, by have := HDA.out; simpa [cutK] using this⟩
              case round =>
                obtain ⟨k2, hk2, rfl, y6, rfl, hown, hrx, hpx⟩ := hrel
                have HDB := hide (show DAt W0 gd q A3 E.length X (cutK o.most d k2) y6.now from ⟨y6, rfl, hown, hrx, hpx⟩)
                clear HDA
                by_cases hlt : k2 < q
                · have mb : Mine y6.now ⟨gd, k2, none⟩ (.int .u64 (gn (cutK o.most d k2) k2 : Int)) := (hown.row).1.mine (wv_at (by rw [cutK_len, HDL.out]; exact hlt))
                  rw [cutK_at] at mb
                  have hkl : k2 < d.length := by rw [HDL.out]; exact hlt
                  clear hown hrx hpx
                  by_cases hm : 0 < o.most ∧ o.most < gn d k2
                  · have HS := hide (show (cutK o.most d k2).set k2 farV = cutK o.most d (k2 + 1) from by
                      rw [← cutK_set hkl]
                      unfold cutN
                      rw [if_pos hm])
                    have hb1 : decide ((0 : Int) < (o.most : Int)) = true := decide_eq_true (by omega)
                    have hb2 : decide ((o.most : Int) < (gn d k2 : Int)) = true := decide_eq_true (by omega)
                    obtain ⟨hn1, hn2⟩ := hm
                    generalize gn d k2 = dv at *
                    go_upto_region 25 with fail
                    ((first | refine wp_region_gen (by kernel_rfl) (by kernel_rfl) ?_); (repeat' ((first | refine gLex_val0 rfl (by kernel_rfl) (fun K hK => ?_) | refine gLex_undef rfl rfl rfl (by kernel_rfl) (fun K hK => ?_) | (refine gLex_ask rfl rfl rfl ?_; first | (apply gAsk_yes; kernel_rfl; intro K hK) | ((first | apply gAsk_no1 | apply gAsk_no2); kernel_rfl; intro K hK) | (apply gAsk_part; kernel_rfl; all_goals (intro h K hK; (try simp only [Bool.not_true] at h); (try simp only [Bool.not_false] at h); (try simp only [decide_eq_true_eq] at h); (try simp only [decide_eq_false_iff_not] at h); try (exfalso; first | contradiction | omega))))) <;> (go_simp; (try (simp only [↓IntWalk.iteOmega]; try go_simp)); (try simp (disch := omega) only [IntWalk.i64_in]); (try simp (disch := omega) only [IntWalk.u64_in]); refine hK _ ?_; clear hK K))); all_goals ((apply gLex_end); intro y7))
                    go_wp2_with fail
                    have hfin := HDB.out.put (w2 := y7.now) y7.grows hNp k2 farV
                    rw [HS.out] at hfin
                    have HFIN := hide hfin
                    clear hfin
                    go_roundw
                    case measure => simp [Go.RowKit.intOf]; omega
                    case rel => exact ⟨k2 + 1, by omega, by go_num, HFIN.out⟩
                  · have HS := hide (cutK_same hkl hm)
                    by_cases hm0 : o.most = 0
                    · have hb1 : decide ((0 : Int) < (o.most : Int)) = false := decide_eq_false (by omega)
                      have hn1 : ¬ 0 < o.most := by omega
                      clear hm hm0
                      generalize gn d k2 = dv at *
                      go_upto_region 25 with fail
                      ((first | refine wp_region_gen (by kernel_rfl) (by kernel_rfl) ?_); (repeat' ((first | refine gLex_val0 rfl (by kernel_rfl) (fun K hK => ?_) | refine gLex_undef rfl rfl rfl (by kernel_rfl) (fun K hK => ?_) | (refine gLex_ask rfl rfl rfl ?_; first | (apply gAsk_yes; kernel_rfl; intro K hK) | ((first | apply gAsk_no1 | apply gAsk_no2); kernel_rfl; intro K hK) | (apply gAsk_part; kernel_rfl; all_goals (intro h K hK; (try simp only [Bool.not_true] at h); (try simp only [Bool.not_false] at h); (try simp only [decide_eq_true_eq] at h); (try simp only [decide_eq_false_iff_not] at h); try (exfalso; first | contradiction | omega))))) <;> (go_simp; (try (simp only [↓IntWalk.iteOmega]; try go_simp)); (try simp (disch := omega) only [IntWalk.i64_in]); (try simp (disch := omega) only [IntWalk.u64_in]); refine hK _ ?_; clear hK K))); all_goals ((apply gLex_end); intro y7))
                      go_wp2_with fail
                      have hfin := HDB.out.grow (w2 := y7.now) y7.grows
                      rw [HS.out] at hfin
                      have HFIN := hide hfin
                      clear hfin
                      go_roundw
                      case measure => simp [Go.RowKit.intOf]; omega
                      case rel => exact ⟨k2 + 1, by omega, by go_num, HFIN.out⟩
                    · have hb1 : decide ((0 : Int) < (o.most : Int)) = true := decide_eq_true (by omega)
                      have hb2 : decide ((o.most : Int) < (gn d k2 : Int)) = false := decide_eq_false (by omega)
                      have hn1 : 0 < o.most := by omega
                      have hn2 : ¬ o.most < gn d k2 := by omega
                      clear hm hm0
                      generalize gn d k2 = dv at *
                      go_upto_region 25 with fail
                      ((first | refine wp_region_gen (by kernel_rfl) (by kernel_rfl) ?_); (repeat' ((first | refine gLex_val0 rfl (by kernel_rfl) (fun K hK => ?_) | refine gLex_undef rfl rfl rfl (by kernel_rfl) (fun K hK => ?_) | (refine gLex_ask rfl rfl rfl ?_; first | (apply gAsk_yes; kernel_rfl; intro K hK) | ((first | apply gAsk_no1 | apply gAsk_no2); kernel_rfl; intro K hK) | (apply gAsk_part; kernel_rfl; all_goals (intro h K hK; (try simp only [Bool.not_true] at h); (try simp only [Bool.not_false] at h); (try simp only [decide_eq_true_eq] at h); (try simp only [decide_eq_false_iff_not] at h); try (exfalso; first | contradiction | omega))))) <;> (go_simp; (try (simp only [↓IntWalk.iteOmega]; try go_simp)); (try simp (disch := omega) only [IntWalk.i64_in]); (try simp (disch := omega) only [IntWalk.u64_in]); refine hK _ ?_; clear hK K))); all_goals ((apply gLex_end); intro y7))
                      go_wp2_with fail
                      have hfin := HDB.out.grow (w2 := y7.now) y7.grows
                      rw [HS.out] at hfin
                      have HFIN := hide hfin
                      clear hfin
                      go_roundw
                      case measure => simp [Go.RowKit.intOf]; omega
                      case rel => exact ⟨k2 + 1, by omega, by go_num, HFIN.out⟩
                · obtain rfl : k2 = q := by omega
                  have he : cutK o.most d k2 = refL (srchOf k2 E o) s := by
                    rw [HF.out, HFN.out, ← HDL.out, cutK_all]
                  rw [he] at hown
                  have HO7 := hide hown
                  clear hown hrx hpx HDB
                  go_wp2_with fail
                  go_ret
                  exact ⟨gd, rfl, (HO7.out.row).1, hg0.trans y6.grows⟩
          · have HFN := hide (show rndK (srchOf q E o) (dBeg q s) (q + 1) = rndK (srchOf q E o) (dBeg q s) k from by rw [show q + 1 = k by omega])
            clear HFX HKX
            generalize rndK (srchOf q E o) (dBeg q s) k = d at *
            go_wp2_with fail
            go_loopw [15] (fun i wr => ∃ k : Nat, k ≤ q ∧ i = .int .i64 (k : Int) ∧ DAt W0 gd q A3 E.length X (cutK o.most d k) wr) (fun i _ => q - (Go.RowKit.intOf i).toNat)
            case atStart => exact ⟨0, by omega, by go_num, by have := HDA.out; simpa [cutK] using this⟩
            case round =>
              obtain ⟨k2, hk2, rfl, y6, rfl, hown, hrx, hpx⟩ := hrel
              have HDB := hide (show DAt W0 gd q A3 E.length X (cutK o.most d k2) y6.now from ⟨y6, rfl, hown, hrx, hpx⟩)
              clear HDA
              by_cases hlt : k2 < q
              · have mb : Mine y6.now ⟨gd, k2, none⟩ (.int .u64 (gn (cutK o.most d k2) k2 : Int)) := (hown.row).1.mine (wv_at (by rw [cutK_len, HDL.out]; exact hlt))
                rw [cutK_at] at mb
                have hkl : k2 < d.length := by rw [HDL.out]; exact hlt
                clear hown hrx hpx
                by_cases hm : 0 < o.most ∧ o.most < gn d k2
                · have HS := hide (show (cutK o.most d k2).set k2 farV = cutK o.most d (k2 + 1) from by
                    rw [← cutK_set hkl]
                    unfold cutN
                    rw [if_pos hm])
                  have hb1 : decide ((0 : Int) < (o.most : Int)) = true := decide_eq_true (by omega)
                  have hb2 : decide ((o.most : Int) < (gn d k2 : Int)) = true := decide_eq_true (by omega)
                  obtain ⟨hn1, hn2⟩ := hm
                  generalize gn d k2 = dv at *
                  go_upto_region 25 with fail
                  ((first | refine wp_region_gen (by kernel_rfl) (by kernel_rfl) ?_); (repeat' ((first | refine gLex_val0 rfl (by kernel_rfl) (fun K hK => ?_) | refine gLex_undef rfl rfl rfl (by kernel_rfl) (fun K hK => ?_) | (refine gLex_ask rfl rfl rfl ?_; first | (apply gAsk_yes; kernel_rfl; intro K hK) | ((first | apply gAsk_no1 | apply gAsk_no2); kernel_rfl; intro K hK) | (apply gAsk_part; kernel_rfl; all_goals (intro h K hK; (try simp only [Bool.not_true] at h); (try simp only [Bool.not_false] at h); (try simp only [decide_eq_true_eq] at h); (try simp only [decide_eq_false_iff_not] at h); try (exfalso; first | contradiction | omega))))) <;> (go_simp; (try (simp only [↓IntWalk.iteOmega]; try go_simp)); (try simp (disch := omega) only [IntWalk.i64_in]); (try simp (disch := omega) only [IntWalk.u64_in]); refine hK _ ?_; clear hK K))); all_goals ((apply gLex_end); intro y7))
                  go_wp2_with fail
                  have hfin := HDB.out.put (w2 := y7.now) y7.grows hNp k2 farV
                  rw [HS.out] at hfin
                  have HFIN := hide hfin
                  clear hfin
                  go_roundw
                  case measure => simp [Go.RowKit.intOf]; omega
                  case rel => exact ⟨k2 + 1, by omega, by go_num, HFIN.out⟩
                · have HS := hide (cutK_same hkl hm)
                  by_cases hm0 : o.most = 0
                  · have hb1 : decide ((0 : Int) < (o.most : Int)) = false := decide_eq_false (by omega)
                    have hn1 : ¬ 0 < o.most := by omega
                    clear hm hm0
                    generalize gn d k2 = dv at *
                    go_upto_region 25 with fail
                    ((first | refine wp_region_gen (by kernel_rfl) (by kernel_rfl) ?_); (repeat' ((first | refine gLex_val0 rfl (by kernel_rfl) (fun K hK => ?_) | refine gLex_undef rfl rfl rfl (by kernel_rfl) (fun K hK => ?_) | (refine gLex_ask rfl rfl rfl ?_; first | (apply gAsk_yes; kernel_rfl; intro K hK) | ((first | apply gAsk_no1 | apply gAsk_no2); kernel_rfl; intro K hK) | (apply gAsk_part; kernel_rfl; all_goals (intro h K hK; (try simp only [Bool.not_true] at h); (try simp only [Bool.not_false] at h); (try simp only [decide_eq_true_eq] at h); (try simp only [decide_eq_false_iff_not] at h); try (exfalso; first | contradiction | omega))))) <;> (go_simp; (try (simp only [↓IntWalk.iteOmega]; try go_simp)); (try simp (disch := omega) only [IntWalk.i64_in]); (try simp (disch := omega) only [IntWalk.u64_in]); refine hK _ ?_; clear hK K))); all_goals ((apply gLex_end); intro y7))
                    go_wp2_with fail
                    have hfin := HDB.out.grow (w2 := y7.now) y7.grows
                    rw [HS.out] at hfin
                    have HFIN := hide hfin
                    clear hfin
                    go_roundw
                    case measure => simp [Go.RowKit.intOf]; omega
                    case rel => exact ⟨k2 + 1, by omega, by go_num, HFIN.out⟩
                  · have hb1 : decide ((0 : Int) < (o.most : Int)) = true := decide_eq_true (by omega)
                    have hb2 : decide ((o.most : Int) < (gn d k2 : Int)) = false := decide_eq_false (by omega)
                    have hn1 : 0 < o.most := by omega
                    have hn2 : ¬ o.most < gn d k2 := by omega
                    clear hm hm0
                    generalize gn d k2 = dv at *
                    go_upto_region 25 with fail
                    ((first | refine wp_region_gen (by kernel_rfl) (by kernel_rfl) ?_); (repeat' ((first | refine gLex_val0 rfl (by kernel_rfl) (fun K hK => ?_) | refine gLex_undef rfl rfl rfl (by kernel_rfl) (fun K hK => ?_) | (refine gLex_ask rfl rfl rfl ?_; first | (apply gAsk_yes; kernel_rfl; intro K hK) | ((first | apply gAsk_no1 | apply gAsk_no2); kernel_rfl; intro K hK) | (apply gAsk_part; kernel_rfl; all_goals (intro h K hK; (try simp only [Bool.not_true] at h); (try simp only [Bool.not_false] at h); (try simp only [decide_eq_true_eq] at h); (try simp only [decide_eq_false_iff_not] at h); try (exfalso; first | contradiction | omega))))) <;> (go_simp; (try (simp only [↓IntWalk.iteOmega]; try go_simp)); (try simp (disch := omega) only [IntWalk.i64_in]); (try simp (disch := omega) only [IntWalk.u64_in]); refine hK _ ?_; clear hK K))); all_goals ((apply gLex_end); intro y7))
                    go_wp2_with fail
                    have hfin := HDB.out.grow (w2 := y7.now) y7.grows
                    rw [HS.out] at hfin
                    have HFIN := hide hfin
                    clear hfin
                    go_roundw
                    case measure => simp [Go.RowKit.intOf]; omega
                    case rel => exact ⟨k2 + 1, by omega, by go_num, HFIN.out⟩
              · obtain rfl : k2 = q := by omega
                have he : cutK o.most d k2 = refL (srchOf k2 E o) s := by
                  rw [HF.out, HFN.out, ← HDL.out, cutK_all]
                rw [he] at hown
                have HO7 := hide hown
                clear hown hrx hpx HDB
                go_wp2_with fail
                go_ret
                exact ⟨gd, rfl, (HO7.out.row).1, hg0.trans y6.grows⟩
end Go.Proofs.YtkfobolbilhjbaaGreat

