/- Plain law: who hangs together, when ends are joined one by one. -/
import Derived.Test.YtomednfddpggaaaGreatQStatFar16
import Derived.Test.YtomednfddpggaaaGreatQStatFar20
import Derived.Test.YtomednfddpggaaaGreatQStatFar08
import Derived.Test.YtomednfddpggaaaGreatQStatFar02
import Derived.Test.YtomednfddpggaaaGreatQStatFar07
import Derived.Test.YtomednfddpggaaaGreatQStatFar14
import Derived.Test.YtomednfddpggaaaGreatQStatFar01
import Derived.WideKeyPair
/- Plain law: who hangs together, when ends are joined one by one. -/
namespace Go.Proofs.YtomednfddpggaaaGreat
open Go Go.RowKit
def wkF (L : List Nat) : Nat → Nat → Nat
  | 0, v => v
  | n + 1, v => if gn L v = v then v else wkF L n (gn L v)
def rt (L : List Nat) (v : Nat) : Nat := wkF L v v
structure Wk (N : Nat) (L : List Nat) : Prop where
  len : L.length = N
  dn : ∀ v, gn L v ≤ v
theorem wkF_eq {N : Nat} {L : List Nat} (h : Wk N L) : ∀ n m v, v ≤ n → v ≤ m → wkF L n v = wkF L m v := by
  have h0 : gn L 0 = 0 := Nat.le_zero.1 (h.dn 0)
  intro n
  induction n with
  | zero =>
    intro m v hn hm
    obtain rfl : v = 0 := by omega
    cases m with
    | zero => rfl
    | succ m => unfold wkF; rw [if_pos h0]
  | succ n ih =>
    intro m v hn hm
    cases m with
    | zero =>
      obtain rfl : v = 0 := by omega
      unfold wkF; rw [if_pos h0]
    | succ m =>
      unfold wkF
      split
      · rfl
      · rename_i hv
        have := h.dn v
        exact ih m _ (by omega) (by omega)
theorem rt_fix {L : List Nat} {v : Nat} (hv : gn L v = v) : rt L v = v := by
  unfold rt
  cases v with
  | zero => rfl
  | succ v => unfold wkF; rw [if_pos hv]
theorem Wk.step {N : Nat} {L : List Nat} (h : Wk N L) {v : Nat} (hv : gn L v ≠ v) : rt L v = rt L (gn L v) := by
  have h1 := h.dn v
  unfold rt
  cases v with
  | zero => omega
  | succ v =>
    conv => lhs; unfold wkF
    rw [if_neg hv]
    exact wkF_eq h _ _ _ (by omega) (Nat.le_refl _)
theorem Wk.le {N : Nat} {L : List Nat} (h : Wk N L) (v : Nat) : rt L v ≤ v := by
  induction v using Nat.strongRecOn with
  | _ v ih =>
    by_cases hv : gn L v = v
    · rw [rt_fix hv]; exact Nat.le_refl _
    · have := h.dn v
      rw [h.step hv]
      have := ih (gn L v) (by omega)
      omega
theorem Wk.root {N : Nat} {L : List Nat} (h : Wk N L) (v : Nat) : gn L (rt L v) = rt L v := by
  induction v using Nat.strongRecOn with
  | _ v ih =>
    by_cases hv : gn L v = v
    · rw [rt_fix hv]; exact hv
    · have := h.dn v
      rw [h.step hv]
      exact ih (gn L v) (by omega)
theorem Wk.rtrt {N : Nat} {L : List Nat} (h : Wk N L) (v : Nat) : rt L (rt L v) = rt L v := rt_fix (h.root v)
theorem Wk.press {N : Nat} {L : List Nat} (h : Wk N L) {v : Nat} (hv : v < N) : Wk N (L.set v (rt L v)) ∧ ∀ x, rt (L.set v (rt L v)) x = rt L x := by
  have hvl : v < L.length := by rw [h.len]; exact hv
  have hW : Wk N (L.set v (rt L v)) := ⟨by rw [List.length_set, h.len], fun x => by
    rw [gn_set _ _ _ _ hvl]
    split
    · rename_i e; rw [e]; exact h.le v
    · exact h.dn x⟩
  refine ⟨hW, fun x => ?_⟩
  induction x using Nat.strongRecOn with
  | _ x ih =>
    have hg := gn_set L v x (rt L v) hvl
    by_cases hx : x = v
    · subst hx
      rw [if_pos rfl] at hg
      by_cases hr : rt L x = x
      · rw [rt_fix (by rw [hg]; exact hr), hr]
      · have := h.le x
        rw [hW.step (by rw [hg]; exact hr), hg, ih _ (by omega), h.rtrt]
    · rw [if_neg hx] at hg
      by_cases hr : gn L x = x
      · rw [rt_fix (by rw [hg]; exact hr), rt_fix hr]
      · have := h.dn x
        rw [hW.step (by rw [hg]; exact hr), hg, ih _ (by omega), h.step hr]
theorem Wk.join {N : Nat} {L : List Nat} (h : Wk N L) {m k : Nat} (hm : m < N) (hk : k ≤ m) (h1 : gn L m = m) (h2 : gn L k = k) : Wk N (L.set m k) ∧ ∀ x, rt (L.set m k) x = if rt L x = m then k else rt L x := by
  have hml : m < L.length := by rw [h.len]; exact hm
  have hW : Wk N (L.set m k) := ⟨by rw [List.length_set, h.len], fun x => by
    rw [gn_set _ _ _ _ hml]
    split
    · omega
    · exact h.dn x⟩
  refine ⟨hW, fun x => ?_⟩
  induction x using Nat.strongRecOn with
  | _ x ih =>
    have hg := gn_set L m x k hml
    by_cases hx : x = m
    · subst hx
      rw [if_pos rfl] at hg
      rw [rt_fix h1, if_pos rfl]
      by_cases hr : k = x
      · rw [rt_fix (by rw [hg]; exact hr), hr]
      · rw [hW.step (by rw [hg]; exact hr), hg, ih _ (by omega), rt_fix h2]
        split <;> rfl
    · rw [if_neg hx] at hg
      by_cases hr : gn L x = x
      · rw [rt_fix (by rw [hg]; exact hr), rt_fix hr, if_neg hx]
      · have := h.dn x
        rw [hW.step (by rw [hg]; exact hr), hg, ih _ (by omega), h.step hr]
structure WkE (N : Nat) (E : List Edg) (i : Nat) (R : Nat → Nat) : Prop where
  same : ∀ j, j < i → R (fN E j) = R (tN E j)
  lone : ∀ v, v < N → (∀ j, j < E.length → fN E j ≠ v ∧ tN E j ≠ v) → ∀ x, x < N → (R x = v ↔ x = v)
  con : ∀ x, x < N → Con E All1 (R x) x
theorem wk_begin (N : Nat) (E : List Edg) : Wk N (List.range N) ∧ WkE N E 0 (rt (List.range N)) := by
  have hg : ∀ v, v < N → gn (List.range N) v = v := fun v hv => by simp [gn, hv]
  refine ⟨⟨by simp, fun v => ?_⟩, ⟨fun j hj => by omega, fun v _ _ x hx => by rw [rt_fix (hg x hx)], fun x hx => by rw [rt_fix (hg x hx)]; exact .here⟩⟩
  by_cases hv : v < N
  · rw [hg v hv]; exact Nat.le_refl _
  · have : gn (List.range N) v = 0 := by simp [gn, hv]
    omega
theorem WkE.next {N i : Nat} {E : List Edg} {L : List Nat} (hE : InN N E) (hi : i < E.length) (h : Wk N L) (k : WkE N E i (rt L)) :
    Wk N (L.set (max (rt L (fN E i)) (rt L (tN E i))) (min (rt L (fN E i)) (rt L (tN E i)))) ∧ WkE N E (i + 1) (rt (L.set (max (rt L (fN E i)) (rt L (tN E i))) (min (rt L (fN E i)) (rt L (tN E i))))) := by
  have f1 := (hE.f i hi).1
  have t1 : tN E i < N := by have := (hE i hi).2; unfold tN; omega
  have g1 := h.root (fN E i)
  have g2 := h.root (tN E i)
  have l1 := h.le (fN E i)
  have l2 := h.le (tN E i)
  have hl := k.lone
  obtain ⟨a, ha⟩ : ∃ a, rt L (fN E i) = a := ⟨_, rfl⟩
  obtain ⟨b, hb⟩ : ∃ b, rt L (tN E i) = b := ⟨_, rfl⟩
  rw [ha] at g1 l1
  rw [hb] at g2 l2
  rw [ha, hb]
  have hmx : gn L (max a b) = max a b := by rcases Nat.le_total a b with e | e <;> simp [Nat.max_def, e, g1, g2]
  have hmn : gn L (min a b) = min a b := by rcases Nat.le_total a b with e | e <;> simp [Nat.min_def, e, g1, g2]
  obtain ⟨hW, hr⟩ := h.join (m := max a b) (k := min a b) (by omega) (by omega) hmx hmn
  have hcon := k.con
  have hft : Con E All1 a b := by
    rw [← ha, ← hb]
    exact (hcon _ f1).trans ((Con.one (Inc.ends hi) trivial).trans (hcon _ t1).symm)
  refine ⟨hW, fun j hj => ?_, fun v hv hno x hx => ?_, fun x hx => ?_⟩
  · rw [hr, hr]
    by_cases hji : j = i
    · subst hji
      rw [ha, hb]
      rcases Nat.lt_trichotomy a b with e | e | e
      · rw [if_neg (by omega), if_pos (by omega)]; omega
      · subst e; rfl
      · rw [if_pos (by omega), if_neg (by omega)]; omega
    · rw [k.same j (by omega)]
  · obtain ⟨n1, n2⟩ := hno i hi
    have na : a ≠ v := fun e => n1 ((hl v hv hno _ f1).1 (by rw [ha]; exact e))
    have nb : b ≠ v := fun e => n2 ((hl v hv hno _ t1).1 (by rw [hb]; exact e))
    have nm : max a b ≠ v := by omega
    have nk : min a b ≠ v := by omega
    rw [hr]
    have hlx := hl v hv hno x hx
    split
    · rename_i e
      constructor
      · intro e2; exact absurd e2 nk
      · intro e2; rw [hlx.2 e2] at e; omega
    · exact hlx
  · rw [hr]
    have hcx := hcon x hx
    split
    · rename_i e
      rw [e] at hcx
      rcases Nat.le_total a b with h | h
      · rw [Nat.max_eq_right h] at hcx
        rw [Nat.min_eq_left h]
        exact hft.trans hcx
      · rw [Nat.max_eq_left h] at hcx
        rw [Nat.min_eq_right h]
        exact hft.symm.trans hcx
    · exact hcx
theorem WkE.rch {N : Nat} {E : List Edg} {R : Nat → Nat} (k : WkE N E E.length R) {s v : Nat} (h : Rch E false s v) : R s = R v := by
  induction h with
  | here => rfl
  | @step v i h hi hv ih =>
    rw [ih, ← hv]
    exact k.same i hi
theorem WkE.is {N : Nat} {E : List Edg} {R : Nat → Nat} (k : WkE N E E.length R) {u v : Nat} (hu : u < N) (hv : v < N) : R u = R v ↔ Con E All1 u v := by
  constructor
  · intro h
    have h1 := k.con u hu
    rw [h] at h1
    exact h1.symm.trans (k.con v hv)
  · intro h
    clear hv
    induction h with
    | here => rfl
    | @step y z i h hi _ ih =>
      have hs := k.same i hi.1
      rcases hi.2 with ⟨rfl, rfl⟩ | ⟨rfl, rfl⟩
      · exact ih.trans hs
      · exact ih.trans hs.symm
theorem fsts_all (l : List Int) : (fsts l l.length).Nodup ∧ ∀ x, x ∈ fsts l l.length ↔ x ∈ l := by
  have := fsts_is l l.length (Nat.le_refl _)
  rwa [List.take_length] at this
theorem wk_counts {N : Nat} {E : List Edg} {R : Nat → Nat} (hE : InN N E) (hN : 1 ≤ N) (k : WkE N E E.length R) (l : List Int) (hl : l.length = N) (hR : ∀ v, v < N → gi l v = (R v : Int)) (lone : List Nat) (hlo : lone.Nodup) (hlone : ∀ v ∈ lone, v < N ∧ ∀ j, j < E.length → fN E j ≠ v ∧ tN E j ≠ v) :
    1 ≤ (fsts l l.length).length ∧ (fsts l l.length).length ≤ (fsts (strongL N E) (strongL N E).length).length ∧ (fsts (strongL N E) (strongL N E).length).length ≤ N ∧ lone.length ≤ (fsts l l.length).length := by
  obtain ⟨n1, m1⟩ := fsts_all l
  obtain ⟨n2, m2⟩ := fsts_all (strongL N E)
  have hsl : (strongL N E).length = N := strongL_len hE
  have hmem : ∀ v, v < N → gi l v ∈ l := fun v hv => gi_mem (by omega)
  refine ⟨?_, ?_, ?_, ?_⟩
  · have h1 := (m1 _).2 (hmem 0 (by omega))
    exact List.length_pos_of_mem h1
  · let g : Int → Int := fun z => if h : ∃ v, v < N ∧ gi (strongL N E) v = z then gi l h.choose else 0
    have h1 : ∀ x ∈ fsts l l.length, x ∈ (fsts (strongL N E) (strongL N E).length).map g := fun x hx => by
      obtain ⟨j, hj, e⟩ := List.getElem_of_mem ((m1 x).1 hx)
      have e' : gi l j = x := by simp [gi, hj, e]
      rw [List.mem_map]
      refine ⟨gi (strongL N E) j, (m2 _).2 (gi_mem (by omega)), ?_⟩
      have hex : ∃ v, v < N ∧ gi (strongL N E) v = gi (strongL N E) j := ⟨j, by omega, rfl⟩
      show (if h : ∃ v, v < N ∧ gi (strongL N E) v = gi (strongL N E) j then gi l h.choose else 0) = x
      rw [dif_pos hex]
      obtain ⟨c1, c2⟩ := hex.choose_spec
      have hs := ((strong_is hE c1 (show j < N by omega)).1 c2).1
      rw [← e', hR _ c1, hR j (by omega), k.rch hs]
    have := len_le_of_sub _ _ n1 h1
    rwa [List.length_map] at this
  · have := len_le_of_sub _ _ n2 (fun x hx => (m2 x).1 hx)
    omega
  · have h1 : ∀ x ∈ lone.map (fun (v : Nat) => (v : Int)), x ∈ fsts l l.length := fun x hx => by
      obtain ⟨v, hv, rfl⟩ := List.mem_map.1 hx
      obtain ⟨v1, v2⟩ := hlone v hv
      have e := (k.lone v v1 v2 v v1).2 rfl
      have e2 := hR v v1
      rw [e] at e2
      rw [← e2]
      exact (m1 _).2 (hmem v v1)
    have h2 : (lone.map (fun (v : Nat) => (v : Int))).Nodup := List.Pairwise.map _ (fun (a b : Nat) (e : a ≠ b) => (by omega : (a : Int) ≠ (b : Int))) hlo
    have := len_le_of_sub _ _ h2 h1
    rwa [List.length_map] at this
end Go.Proofs.YtomednfddpggaaaGreat

/- Plain law: a graph in numbers. -/
namespace Go.Proofs.YtomednfddpggaaaGreat
open Go Go.RowKit
def sumW (E : List Edg) : Nat → Int
  | 0 => 0
  | k + 1 => sumW E k + (ge E k).w
def mostW (E : List Edg) : Nat → Int
  | 0 => 0
  | k + 1 => max (mostW E k) (ge E k).w
def leastW (E : List Edg) : Nat → Int
  | 0 => 0
  | k + 1 => min (if k = 0 then (ge E k).w else leastW E k) (ge E k).w
def WIn (E : List Edg) (n : Nat) : Prop := ∀ i, i < n → 1 ≤ (ge E i).w ∧ (ge E i).w ≤ 4294967296
theorem stat_w {E : List Edg} {n : Nat} (h : WIn E n) : ∀ k, k ≤ n → (0 ≤ sumW E k ∧ sumW E k ≤ k * 4294967296) ∧ (0 ≤ mostW E k ∧ mostW E k ≤ 4294967296) ∧ (0 ≤ leastW E k ∧ leastW E k ≤ 4294967296) ∧ (k : Int) * leastW E k ≤ sumW E k ∧ sumW E k ≤ k * mostW E k
  | 0, _ => by simp [sumW, mostW, leastW]
  | k + 1, hk => by
    obtain ⟨⟨a1, a2⟩, ⟨b1, b2⟩, ⟨c1, c2⟩, d1, d2⟩ := stat_w h k (by omega)
    obtain ⟨w1, w2⟩ := h k (by omega)
    have hm : mostW E (k + 1) = max (mostW E k) (ge E k).w := rfl
    have hl : leastW E (k + 1) = min (if k = 0 then (ge E k).w else leastW E k) (ge E k).w := rfl
    have hs : sumW E (k + 1) = sumW E k + (ge E k).w := rfl
    have hx : (k : Int) * mostW E k ≤ k * mostW E (k + 1) := Int.mul_le_mul_of_nonneg_left (by omega) (by omega)
    have hl2 : (k : Int) * leastW E (k + 1) ≤ k * leastW E k := by
      by_cases h0 : k = 0
      · subst h0; simp
      · rw [if_neg h0] at hl
        exact Int.mul_le_mul_of_nonneg_left (by omega) (by omega)
    have hl3 : 0 ≤ leastW E (k + 1) ∧ leastW E (k + 1) ≤ (ge E k).w := by
      rw [hl]
      split <;> omega
    have e1 : ((k + 1 : Nat) : Int) * leastW E (k + 1) = k * leastW E (k + 1) + leastW E (k + 1) := by rw [Int.natCast_add, Int.add_mul]; simp
    have e2 : ((k + 1 : Nat) : Int) * mostW E (k + 1) = k * mostW E (k + 1) + mostW E (k + 1) := by rw [Int.natCast_add, Int.add_mul]; simp
    rw [e1, e2]
    refine ⟨⟨by omega, by omega⟩, ⟨by omega, by omega⟩, ⟨hl3.1, by omega⟩, by omega, by omega⟩
def dgL (f : Nat → Nat) (N : Nat) : Nat → List Int
  | 0 => List.replicate N 0
  | k + 1 => (dgL f N k).set (f k) (gi (dgL f N k) (f k) + 1)
theorem dgL_len (f : Nat → Nat) (N : Nat) : ∀ k, (dgL f N k).length = N
  | 0 => by simp [dgL]
  | k + 1 => by unfold dgL; rw [List.length_set, dgL_len f N k]
theorem dgL_in {f : Nat → Nat} {N n : Nat} (hf : ∀ i, i < n → f i < N) (v : Nat) : ∀ k, k ≤ n → 0 ≤ gi (dgL f N k) v ∧ gi (dgL f N k) v ≤ k ∧ ((∃ i, i < k ∧ f i = v) → 1 ≤ gi (dgL f N k) v)
  | 0, _ => by
    have : gi (dgL f N 0) v = 0 := by
      unfold gi dgL
      rw [List.getD_eq_getElem?_getD, List.getElem?_replicate]
      split <;> rfl
    rw [this]
    exact ⟨by omega, by omega, fun ⟨i, hi, _⟩ => by omega⟩
  | k + 1, hk => by
    obtain ⟨h1, h2, h3⟩ := dgL_in hf v k (by omega)
    have hg : gi (dgL f N (k + 1)) v = if v = f k then gi (dgL f N k) (f k) + 1 else gi (dgL f N k) v := gi_set2 _ _ _ _ (by rw [dgL_len]; exact hf k (by omega))
    rw [hg]
    split
    · rename_i e
      rw [← e]
      exact ⟨by omega, by omega, fun _ => by omega⟩
    · rename_i e
      exact ⟨h1, by omega, fun ⟨i, hi, he⟩ => h3 ⟨i, by
        rcases Nat.lt_or_ge i k with h | h
        · exact h
        · exact absurd (by rw [← he, show i = k by omega]) e, he⟩⟩
def mxD (d : List Int) : Nat → Int
  | 0 => 0
  | v + 1 => max (mxD d v) (gi d v)
theorem mxD_in {d : List Int} {m : Int} (h0 : 0 ≤ m) (h : ∀ v, gi d v ≤ m) : ∀ k, 0 ≤ mxD d k ∧ mxD d k ≤ m
  | 0 => ⟨by simp [mxD], h0⟩
  | k + 1 => by
    have := mxD_in h0 h k
    have h1 := h k
    have e : mxD d (k + 1) = max (mxD d k) (gi d k) := rfl
    omega
def lonL (a b : List Int) (n : Nat) : List Nat := (List.range n).filter fun v => decide (max (gi a v) (gi b v) = 0)
theorem lonL_next (a b : List Int) (n : Nat) : (lonL a b (n + 1)).length = (lonL a b n).length + (if max (gi a n) (gi b n) = 0 then 1 else 0) := by
  unfold lonL
  rw [List.range_succ, List.filter_append, List.length_append]
  congr 1
  by_cases h : max (gi a n) (gi b n) = 0 <;> simp [h]
theorem lonL_le (a b : List Int) (n : Nat) : (lonL a b n).length ≤ n := by
  have := List.length_filter_le (fun v => decide (max (gi a v) (gi b v) = 0)) (List.range n)
  rw [List.length_range] at this
  exact this
theorem lonL_is {N : Nat} {E : List Edg} (hE : InN N E) : (lonL (dgL (fN E) N E.length) (dgL (tN E) N E.length) N).Nodup ∧ ∀ v ∈ lonL (dgL (fN E) N E.length) (dgL (tN E) N E.length) N, v < N ∧ ∀ j, j < E.length → fN E j ≠ v ∧ tN E j ≠ v := by
  have t1 : ∀ i, i < E.length → tN E i < N := fun i hi => by have := (hE i hi).2; unfold tN; omega
  refine ⟨List.Pairwise.filter _ List.nodup_range, fun v hv => ?_⟩
  unfold lonL at hv
  rw [List.mem_filter, List.mem_range, decide_eq_true_eq] at hv
  obtain ⟨h1, h2⟩ := hv
  obtain ⟨_, _, f3⟩ := dgL_in (fun i hi => (hE.f i hi).1) v E.length (Nat.le_refl _)
  obtain ⟨_, _, g3⟩ := dgL_in t1 v E.length (Nat.le_refl _)
  refine ⟨h1, fun j hj => ⟨fun e => ?_, fun e => ?_⟩⟩
  · have := f3 ⟨j, hj, e⟩; omega
  · have := g3 ⟨j, hj, e⟩; omega
end Go.Proofs.YtomednfddpggaaaGreat

/- A graph without an edge (plain). -/
namespace Go.Proofs.YtomednfddpggaaaGreat
open Go Go.RowKit
theorem erase_any {p : Edg → Bool} {E : List Edg} (e : Nat) (h : E.any p = false) : (E.eraseIdx e).any p = false := by
  rw [List.any_eq_false] at h ⊢
  exact fun x hx => h x (List.mem_of_mem_eraseIdx hx)
theorem right_erase {N : Int} {E : List Edg} (e : Nat) (h : rightF N E = 0) : rightF N (E.eraseIdx e) = 0 := by
  have hl : (E.eraseIdx e).length ≤ E.length := List.length_eraseIdx_le E e
  unfold rightF at h ⊢
  split at h
  · cases h
  rename_i h1
  split at h
  · cases h
  rename_i h2
  split at h
  · cases h
  rename_i h3
  split at h
  · cases h
  rename_i h4
  rw [if_neg h1, if_neg (by omega), if_neg (by rw [erase_any e (by simpa using h3)]; simp), if_neg (by rw [erase_any e (by simpa using h4)]; simp)]
theorem ge_erase {E : List Edg} {e i : Nat} (he : e < E.length) (hi : i < (E.eraseIdx e).length) : ge (E.eraseIdx e) i = ge E (if i < e then i else i + 1) := by
  unfold ge
  rw [List.getD_eq_getElem?_getD, List.getD_eq_getElem?_getD, List.getElem?_eraseIdx]
  split <;> rfl
end Go.Proofs.YtomednfddpggaaaGreat

/- Plain law: who hangs together, round by round; how many parts there are, and without which edges there are more. -/
namespace Go.Proofs.YtomednfddpggaaaGreat
open Go Go.RowKit
def wk1 (E : List Edg) (l : List Int) (i : Nat) : List Int := (l.set (fN E i) (min (gi l (fN E i)) (gi l (tN E i)))).set (tN E i) (min (gi l (fN E i)) (gi l (tN E i)))
def wkK (E : List Edg) (l : List Int) : Nat → List Int
  | 0 => l
  | k + 1 => wk1 E (wkK E l k) k
def idL (N : Nat) : List Int := (List.range N).map fun (v : Nat) => (v : Int)
def wkN (N : Nat) (E : List Edg) : Nat → List Int
  | 0 => idL N
  | k + 1 => wkK E (wkN N E k) E.length
def weakL (N : Nat) (E : List Edg) : List Int := wkN N E N
theorem idL_len (N : Nat) : (idL N).length = N := by simp [idL]
theorem idL_at {N v : Nat} (h : v < N) : gi (idL N) v = v := by simp [gi, idL, h]
theorem wk1_len (E : List Edg) (l : List Int) (i : Nat) : (wk1 E l i).length = l.length := by simp [wk1]
theorem wkK_len (E : List Edg) (l : List Int) : ∀ k, (wkK E l k).length = l.length
  | 0 => rfl
  | k + 1 => by unfold wkK; rw [wk1_len, wkK_len E l k]
theorem wkN_len (N : Nat) (E : List Edg) : ∀ k, (wkN N E k).length = N
  | 0 => idL_len N
  | k + 1 => by unfold wkN; rw [wkK_len, wkN_len N E k]
theorem weakL_len (N : Nat) (E : List Edg) : (weakL N E).length = N := wkN_len N E N
section
variable {N : Nat} {E : List Edg}
theorem wk1_at (hE : InN N E) {l : List Int} (hl : l.length = N) {i : Nat} (hi : i < E.length) (v : Nat) : gi (wk1 E l i) v = if v = fN E i ∨ v = tN E i then min (gi l (fN E i)) (gi l (tN E i)) else gi l v := by
  have h1 := (hE.f i hi).1
  have h2 := (hE.t i hi).1
  unfold wk1
  rw [gi_set2 _ _ _ _ (by rw [List.length_set, hl]; exact h2), gi_set2 _ _ _ _ (by rw [hl]; exact h1)]
  by_cases e : v = tN E i
  · rw [if_pos e, if_pos (.inr e)]
  · rw [if_neg e]
    by_cases e2 : v = fN E i
    · rw [if_pos e2, if_pos (.inl e2)]
    · rw [if_neg e2, if_neg (by omega)]
theorem wk1_le (hE : InN N E) {l : List Int} (hl : l.length = N) {i : Nat} (hi : i < E.length) (v : Nat) : gi (wk1 E l i) v ≤ gi l v := by
  rw [wk1_at hE hl hi]
  split
  · rename_i h; rcases h with h | h <;> subst h <;> omega
  · omega
theorem wkK_le (hE : InN N E) {l : List Int} (hl : l.length = N) (v : Nat) (k : Nat) (hk : k ≤ E.length) : ∀ j, j ≤ k → gi (wkK E l k) v ≤ gi (wkK E l j) v := by
  induction k with
  | zero => intro j hj; obtain rfl : j = 0 := by omega
            exact Int.le_refl _
  | succ k ih =>
    intro j hj
    by_cases e : j = k + 1
    · rw [e]; exact Int.le_refl _
    · have h1 := ih (by omega) j (by omega)
      have h2 := wk1_le hE (show (wkK E l k).length = N by rw [wkK_len]; exact hl) (show k < E.length by omega) v
      show gi (wk1 E (wkK E l k) k) v ≤ _
      exact Int.le_trans h2 h1
structure WkI (N : Nat) (E : List Edg) (l : List Int) : Prop where
  len : l.length = N
  at_ : ∀ v, v < N → ∃ x : Nat, gi l v = (x : Int) ∧ x ≤ v ∧ Con E All1 x v
theorem WkI.begin_ : WkI N E (idL N) := ⟨idL_len N, fun v hv => ⟨v, idL_at hv, Nat.le_refl _, .here⟩⟩
theorem WkI.step (hE : InN N E) {l : List Int} (h : WkI N E l) {i : Nat} (hi : i < E.length) : WkI N E (wk1 E l i) := by
  refine ⟨by rw [wk1_len, h.len], fun v hv => ?_⟩
  have h1 := (hE.f i hi).1
  have h2 := (hE.t i hi).1
  rw [wk1_at hE h.len hi]
  split
  · rename_i hv2
    obtain ⟨a, a1, a2, a3⟩ := h.at_ _ h1
    obtain ⟨b, b1, b2, b3⟩ := h.at_ _ h2
    have hft : Con E All1 (fN E i) (tN E i) := Con.one (Inc.ends hi) trivial
    obtain ⟨c, c1, c2, c3⟩ := h.at_ v hv
    have ca : Con E All1 a v := by
      rcases hv2 with e | e <;> subst e
      · exact a3
      · exact a3.trans hft
    have cb : Con E All1 b v := by
      rcases hv2 with e | e <;> subst e
      · exact b3.trans hft.symm
      · exact b3
    rw [a1, b1]
    have hle : min a b ≤ v := by rcases hv2 with e | e <;> subst e <;> omega
    rcases Nat.le_total a b with hab | hab
    · exact ⟨a, by omega, by omega, ca⟩
    · exact ⟨b, by omega, by omega, cb⟩
  · exact h.at_ v hv
theorem WkI.steps (hE : InN N E) {l : List Int} (h : WkI N E l) : ∀ k, k ≤ E.length → WkI N E (wkK E l k)
  | 0, _ => h
  | k + 1, hk => (WkI.steps hE h k (by omega)).step hE (by omega)
theorem WkI.rounds (hE : InN N E) : ∀ k, WkI N E (wkN N E k)
  | 0 => WkI.begin_
  | k + 1 => (WkI.rounds hE k).steps hE _ (Nat.le_refl _)
theorem Con.lt (hE : InN N E) {P : Nat → Prop} {x y : Nat} (h : Con E P x y) (hx : x < N) : y < N := by
  cases h with
  | here => exact hx
  | step _ hi _ =>
    have h1 := (hE.f _ hi.1).1
    have h2 := (hE.t _ hi.1).1
    rcases hi.2 with ⟨_, e⟩ | ⟨_, e⟩ <;> omega
def Lst (E : List Edg) (u : Nat) : Prop := ∀ x, Con E All1 u x → u ≤ x
theorem lst_any (E : List Edg) : ∀ v, ∃ u, Lst E u ∧ Con E All1 u v := fun v => by
  induction v using Nat.strongRecOn with
  | _ v ih =>
    by_cases h : Lst E v
    · exact ⟨v, h, .here⟩
    · have ⟨x, hx⟩ := Classical.not_forall.1 h
      have ⟨h1, h2⟩ := Classical.not_imp.1 hx
      obtain ⟨u, h3, h4⟩ := ih x (by omega)
      exact ⟨u, h3, h4.trans h1.symm⟩
theorem WkI.ge {l : List Int} (h : WkI N E l) {u v : Nat} (hu : Lst E u) (hc : Con E All1 u v) (hv : v < N) : (u : Int) ≤ gi l v := by
  obtain ⟨x, e, _, hx⟩ := h.at_ v hv
  have := hu x (hc.trans hx.symm)
  omega
def isU (l : List Int) (u : Nat) : List Bool := l.map fun x => decide (x = (u : Int))
theorem isU_at {l : List Int} {u v : Nat} (hv : v < l.length) : bb (isU l u) v = true ↔ gi l v = (u : Int) := by simp [bb, isU, gi, hv]
theorem isU_no {l : List Int} {u v : Nat} (hv : ¬ v < l.length) : bb (isU l u) v = false := bb_ge (by simp [isU]; omega)
theorem weak_rounds (hE : InN N E) {u : Nat} (hu : Lst E u) (hN : u < N) : ∀ k, (∀ v, Con E All1 u v → gi (wkN N E k) v = (u : Int)) ∨ k + 1 ≤ (isU (wkN N E k) u).count true
  | 0 => by
    right
    refine List.count_pos_iff.2 ?_
    have h1 : bb (isU (wkN N E 0) u) u = true := (isU_at (by rw [wkN_len]; exact hN)).2 (idL_at hN)
    have hl : u < (isU (wkN N E 0) u).length := by simp [isU, wkN_len, hN]
    have : (isU (wkN N E 0) u)[u] = true := by simpa [bb, hl] using h1
    rw [← this]; exact List.getElem_mem _
  | k + 1 => by
    have hl := wkN_len N E k
    have hl2 := wkN_len N E (k + 1)
    have hw := WkI.rounds hE k
    have hw2 := WkI.rounds hE (k + 1)
    have hmono : ∀ v, gi (wkN N E (k + 1)) v ≤ gi (wkN N E k) v := fun v => wkK_le hE hl v E.length (Nat.le_refl _) 0 (Nat.zero_le _)
    have hkeep : ∀ v, v < N → gi (wkN N E k) v = (u : Int) → gi (wkN N E (k + 1)) v = (u : Int) := fun v hv e => by
      have h1 := hmono v
      obtain ⟨x, e1, e2, e3⟩ := hw.at_ v hv
      have : x = u := by omega
      subst this
      have h2 := hw2.ge hu e3 hv
      omega
    by_cases hall : ∀ v, Con E All1 u v → gi (wkN N E k) v = (u : Int)
    · left
      exact fun v hc => hkeep v (hc.lt hE hN) (hall v hc)
    · right
      have h1 := (weak_rounds hE hu hN k).resolve_left hall
      have hu0 : gi (wkN N E k) u = (u : Int) := by
        obtain ⟨x, e1, e2, e3⟩ := hw.at_ u hN
        have := hu x e3.symm
        omega
      -- somewhere an edge leads out of those who have the number
      have hex : ∃ i x y, Inc E i x y ∧ gi (wkN N E k) x = (u : Int) ∧ gi (wkN N E k) y ≠ (u : Int) := Classical.byContradiction fun hno => by
        refine hall fun v hc => ?_
        refine hc.stay (S := fun v => gi (wkN N E k) v = (u : Int)) hu0 fun i a b ha hi _ => ?_
        exact Classical.byContradiction fun hb => hno ⟨i, a, b, hi, ha, hb⟩
      obtain ⟨i, x, y, hi, hx, hy⟩ := hex
      have hxN : x < N := by
        have h1 := (hE.f _ hi.1).1
        have h2 := (hE.t _ hi.1).1
        rcases hi.2 with ⟨e, _⟩ | ⟨e, _⟩ <;> omega
      have hyN : y < N := (Con.one (P := All1) hi trivial).lt hE hxN
      have hcx : Con E All1 u x := by
        obtain ⟨z, e1, e2, e3⟩ := hw.at_ x hxN
        have : z = u := by omega
        subst this
        exact e3
      have hcy : Con E All1 u y := hcx.trans (Con.one hi trivial)
      have hnew : gi (wkN N E (k + 1)) y = (u : Int) := by
        have g1 : gi (wkK E (wkN N E k) i) x ≤ gi (wkN N E k) x := wkK_le hE hl x i (by have := hi.1; omega) 0 (Nat.zero_le _)
        have g2 : gi (wkN N E (k + 1)) y ≤ gi (wkK E (wkN N E k) (i + 1)) y := wkK_le hE hl y E.length (Nat.le_refl _) (i + 1) hi.1
        have g3 : gi (wkK E (wkN N E k) (i + 1)) y ≤ gi (wkK E (wkN N E k) i) x := by
          show gi (wk1 E (wkK E (wkN N E k) i) i) y ≤ _
          rw [wk1_at hE (by rw [wkK_len, hl]) hi.1]
          rcases hi.2 with ⟨e1, e2⟩ | ⟨e1, e2⟩
          · rw [if_pos (.inr e2.symm), e1]; omega
          · rw [if_pos (.inl e2.symm), e1]; omega
        have g4 := hw2.ge hu hcy hyN
        omega
      have hm := cnt_mono (isU (wkN N E k) u) (isU (wkN N E (k + 1)) u) (by simp [isU, hl, hl2]) (fun v hv => by
        by_cases hvN : v < N
        · exact (isU_at (by rw [hl2]; exact hvN)).2 (hkeep v hvN ((isU_at (by rw [hl]; exact hvN)).1 hv))
        · rw [isU_no (by rw [hl]; exact hvN)] at hv; cases hv)
      have := hm.2 ⟨y, by
        cases hb : bb (isU (wkN N E k) u) y with
        | false => rfl
        | true => exact absurd ((isU_at (by rw [hl]; exact hyN)).1 hb) hy, (isU_at (by rw [hl2]; exact hyN)).2 hnew⟩
      omega
theorem weak_least (hE : InN N E) {u v : Nat} (hu : Lst E u) (hN : u < N) (hc : Con E All1 u v) : gi (weakL N E) v = (u : Int) := by
  rcases weak_rounds hE hu hN N with h | h
  · exact h v hc
  · have := List.count_le_length (a := true) (l := isU (wkN N E N) u)
    have hl : (isU (wkN N E N) u).length = N := by simp [isU, wkN_len]
    omega
theorem weak_is (hE : InN N E) {u v : Nat} (hu : u < N) (hv : v < N) : gi (weakL N E) u = gi (weakL N E) v ↔ Con E All1 u v := by
  constructor
  · intro h
    obtain ⟨x, e1, _, e3⟩ := (WkI.rounds hE N).at_ u hu
    obtain ⟨y, f1, _, f3⟩ := (WkI.rounds hE N).at_ v hv
    have h' : gi (wkN N E N) u = gi (wkN N E N) v := h
    have : x = y := by omega
    subst this
    exact e3.symm.trans f3
  · intro h
    obtain ⟨z, h1, h2⟩ := lst_any E u
    have hz : z < N := h2.symm.lt hE hu
    rw [weak_least hE h1 hz h2, weak_least hE h1 hz (h2.trans h)]
end
theorem con_erase {E : List Edg} {e x y : Nat} (he : e < E.length) : Con (E.eraseIdx e) All1 x y ↔ Con E (fun j => j ≠ e) x y := by
  have hl : (E.eraseIdx e).length = E.length - 1 := List.length_eraseIdx_of_lt he
  have key : ∀ j, j < (E.eraseIdx e).length → fN (E.eraseIdx e) j = fN E (if j < e then j else j + 1) ∧ tN (E.eraseIdx e) j = tN E (if j < e then j else j + 1) := fun j hj => by
    have := ge_erase he hj
    constructor
    · show (ge _ _).f.toNat = (ge _ _).f.toNat; rw [this]
    · show (ge _ _).t.toNat = (ge _ _).t.toNat; rw [this]
  constructor
  · intro h
    induction h with
    | here => exact .here
    | @step y z i h hi _ ih =>
      obtain ⟨k1, k2⟩ := key i hi.1
      refine ih.step (i := if i < e then i else i + 1) ⟨by have := hi.1; split <;> omega, ?_⟩ (by split <;> omega)
      rw [← k1, ← k2]
      exact hi.2
  · intro h
    induction h with
    | here => exact .here
    | @step y z i h hi hp ih =>
      obtain ⟨j, hj, hji⟩ : ∃ j, j < (E.eraseIdx e).length ∧ (if j < e then j else j + 1) = i := by
        have := hi.1
        by_cases h : i < e
        · exact ⟨i, by omega, if_pos h⟩
        · exact ⟨i - 1, by omega, by rw [if_neg (by omega)]; omega⟩
      obtain ⟨k1, k2⟩ := key j hj
      rw [hji] at k1 k2
      refine ih.step (i := j) ⟨hj, ?_⟩ trivial
      rw [k1, k2]
      exact hi.2
theorem inN_erase {N : Nat} {E : List Edg} (h : InN N E) (e : Nat) (he : e < E.length) : InN N (E.eraseIdx e) := fun i hi => by
  rw [ge_erase he hi]
  have hl : (E.eraseIdx e).length = E.length - 1 := List.length_eraseIdx_of_lt he
  exact h _ (by split <;> omega)
theorem fsts_le {N : Nat} {a b : List Int} (ha : a.length = N) (hb : b.length = N) (h : ∀ u v, u < N → v < N → gi b u = gi b v → gi a u = gi a v) {L : List Int} (hL : ∀ x, x ∈ fsts a a.length → ∃ v, v < N ∧ gi a v = x ∧ gi b v ∈ L) :
    (fsts a a.length).length ≤ L.length := by
  let g : Int → Int := fun z => if h : ∃ v, v < N ∧ gi b v = z then gi a h.choose else 0
  have h1 : ∀ x ∈ fsts a a.length, x ∈ L.map g := fun x hx => by
    obtain ⟨v, hv, e, hm⟩ := hL x hx
    rw [List.mem_map]
    refine ⟨_, hm, ?_⟩
    have hex : ∃ w, w < N ∧ gi b w = gi b v := ⟨v, hv, rfl⟩
    show (if h : ∃ w, w < N ∧ gi b w = gi b v then gi a h.choose else 0) = x
    rw [dif_pos hex]
    obtain ⟨c1, c2⟩ := hex.choose_spec
    rw [h _ _ c1 hv c2, e]
  have := len_le_of_sub _ _ (fsts_is a a.length (Nat.le_refl _)).1 h1
  rwa [List.length_map] at this
theorem fsts_mem {a : List Int} {x : Int} : x ∈ fsts a a.length ↔ ∃ v, v < a.length ∧ gi a v = x := by
  rw [(fsts_is a a.length (Nat.le_refl _)).2, List.take_length]
  constructor
  · intro h
    obtain ⟨j, hj, e⟩ := List.getElem_of_mem h
    exact ⟨j, hj, by simp [gi, hj, e]⟩
  · rintro ⟨v, hv, rfl⟩
    exact gi_mem hv
theorem more_parts {N : Nat} {E : List Edg} (hE : InN N E) {e : Nat} (he : e < E.length) : (fsts (weakL N E) N).length < (fsts (weakL N (E.eraseIdx e)) N).length ↔ Brg E e := by
  have la := weakL_len N E
  have lb := weakL_len N (E.eraseIdx e)
  have hE' := inN_erase hE e he
  have h1 := (hE.f e he).1
  have h2 := (hE.t e he).1
  have ab : ∀ u v, u < N → v < N → gi (weakL N (E.eraseIdx e)) u = gi (weakL N (E.eraseIdx e)) v → gi (weakL N E) u = gi (weakL N E) v := fun u v hu hv h => by
    rw [weak_is hE' hu hv, con_erase he] at h
    rw [weak_is hE hu hv]
    exact h.mono fun _ _ _ => trivial
  constructor
  · intro hlt hc
    have ba : ∀ u v, u < N → v < N → gi (weakL N E) u = gi (weakL N E) v → gi (weakL N (E.eraseIdx e)) u = gi (weakL N (E.eraseIdx e)) v := fun u v hu hv h => by
      rw [weak_is hE hu hv] at h
      rw [weak_is hE' hu hv, con_erase he]
      clear ab hlt
      induction h with
      | here => exact .here
      | @step y z i h hi _ ih =>
        have hy : y < N := h.lt hE hu
        refine (ih hy).trans ?_
        by_cases hie : i = e
        · subst hie
          rcases hi.2 with ⟨rfl, rfl⟩ | ⟨rfl, rfl⟩
          · exact hc
          · exact hc.symm
        · exact Con.one hi hie
    have := fsts_le (a := weakL N (E.eraseIdx e)) (b := weakL N E) (N := N) lb la ba (L := fsts (weakL N E) (weakL N E).length) (fun x hx => by
      obtain ⟨v, hv, e⟩ := fsts_mem.1 hx
      rw [lb] at hv
      exact ⟨v, hv, e, fsts_mem.2 ⟨v, by rw [la]; exact hv, rfl⟩⟩)
    rw [la, lb] at this
    omega
  · intro hb
    have hne : gi (weakL N (E.eraseIdx e)) (fN E e) ≠ gi (weakL N (E.eraseIdx e)) (tN E e) := fun h => by
      rw [weak_is hE' h1 h2, con_erase he] at h
      exact hb h
    have hsame : gi (weakL N E) (fN E e) = gi (weakL N E) (tN E e) := (weak_is hE h1 h2).2 (Con.one (Inc.ends he) trivial)
    have hmem : ∀ v, v < N → gi (weakL N (E.eraseIdx e)) v ∈ fsts (weakL N (E.eraseIdx e)) N := fun v hv => by
      have := (fsts_mem (a := weakL N (E.eraseIdx e)) (x := gi (weakL N (E.eraseIdx e)) v)).2 ⟨v, by rw [lb]; exact hv, rfl⟩
      rwa [lb] at this
    have hle := fsts_le (a := weakL N E) (b := weakL N (E.eraseIdx e)) (N := N) la lb ab (L := (fsts (weakL N (E.eraseIdx e)) N).erase (gi (weakL N (E.eraseIdx e)) (tN E e))) (fun x hx => by
      obtain ⟨v, hv, ev⟩ := fsts_mem.1 hx
      rw [la] at hv
      by_cases hvt : gi (weakL N (E.eraseIdx e)) v = gi (weakL N (E.eraseIdx e)) (tN E e)
      · refine ⟨fN E e, h1, ?_, (List.mem_erase_of_ne hne).2 (hmem _ h1)⟩
        rw [hsame, ← ab v (tN E e) hv h2 hvt, ev]
      · exact ⟨v, hv, ev, (List.mem_erase_of_ne hvt).2 (hmem v hv)⟩)
    have hlen := List.length_erase_of_mem (hmem _ h2)
    have hpos := List.length_pos_of_mem (hmem _ h2)
    rw [la] at hle
    omega
end Go.Proofs.YtomednfddpggaaaGreat

/- Plain law: how many parts there are, of both kinds, and how many nodes stand alone. -/
namespace Go.Proofs.YtomednfddpggaaaGreat
open Go Go.RowKit
def partsN (N : Nat) (E : List Edg) : Nat := (fsts (weakL N E) N).length
def strongN (N : Nat) (E : List Edg) : Nat := (fsts (strongL N E) N).length
theorem parts_any {N : Nat} {E : List Edg} (hE : InN N E) {l : List Int} (hl : l.length = N) (h : ∀ u v, u < N → v < N → (gi l u = gi l v ↔ Con E All1 u v)) : (fsts l N).length = partsN N E := by
  have la := weakL_len N E
  have ab : ∀ u v, u < N → v < N → gi (weakL N E) u = gi (weakL N E) v → gi l u = gi l v := fun u v hu hv e => (h u v hu hv).2 ((weak_is hE hu hv).1 e)
  have ba : ∀ u v, u < N → v < N → gi l u = gi l v → gi (weakL N E) u = gi (weakL N E) v := fun u v hu hv e => (weak_is hE hu hv).2 ((h u v hu hv).1 e)
  have h1 := fsts_le (a := l) (b := weakL N E) (N := N) hl la ab (L := fsts (weakL N E) (weakL N E).length) (fun x hx => by
    obtain ⟨v, hv, e⟩ := fsts_mem.1 hx
    rw [hl] at hv
    exact ⟨v, hv, e, fsts_mem.2 ⟨v, by rw [la]; exact hv, rfl⟩⟩)
  have h2 := fsts_le (a := weakL N E) (b := l) (N := N) la hl ba (L := fsts l l.length) (fun x hx => by
    obtain ⟨v, hv, e⟩ := fsts_mem.1 hx
    rw [la] at hv
    exact ⟨v, hv, e, fsts_mem.2 ⟨v, by rw [hl]; exact hv, rfl⟩⟩)
  rw [la, hl] at h1 h2
  unfold partsN
  omega
theorem rch_con {E : List Edg} {s v : Nat} (h : Rch E false s v) : Con E All1 s v := by
  induction h with
  | here => exact .here
  | @step y i h hi hv ih =>
    subst hv
    exact ih.step (Inc.ends hi) trivial
theorem con_lone {E : List Edg} {v x : Nat} (hv : ∀ j, j < E.length → fN E j ≠ v ∧ tN E j ≠ v) (h : Con E All1 v x) : x = v := by
  induction h with
  | here => rfl
  | @step y z i h hi _ ih =>
    subst ih
    obtain ⟨k1, k2⟩ := hv i hi.1
    rcases hi.2 with ⟨e, _⟩ | ⟨e, _⟩
    · exact absurd e k1
    · exact absurd e k2
theorem fsts_le_all {l : List Int} {N : Nat} (hl : l.length = N) : (fsts l N).length ≤ N := by
  have h := len_le_of_sub (fsts l l.length) l (fsts_is l l.length (Nat.le_refl _)).1 (fun x hx => by
    have := ((fsts_is l l.length (Nat.le_refl _)).2 x).1 hx
    rwa [List.take_length] at this)
  rw [hl] at h
  exact h
theorem parts_counts {N : Nat} {E : List Edg} (hE : InN N E) (hN : 1 ≤ N) (lone : List Nat) (hlo : lone.Nodup) (hlone : ∀ v ∈ lone, v < N ∧ ∀ j, j < E.length → fN E j ≠ v ∧ tN E j ≠ v) :
    1 ≤ partsN N E ∧ partsN N E ≤ strongN N E ∧ strongN N E ≤ N ∧ lone.length ≤ partsN N E := by
  have la := weakL_len N E
  have lb : (strongL N E).length = N := strongL_len hE
  refine ⟨?_, ?_, fsts_le_all lb, ?_⟩
  · have := (fsts_mem (a := weakL N E) (x := gi (weakL N E) 0)).2 ⟨0, by omega, rfl⟩
    rw [la] at this
    exact List.length_pos_of_mem this
  · have h1 := fsts_le (a := weakL N E) (b := strongL N E) (N := N) la lb (fun u v hu hv e => by
      rw [weak_is hE hu hv]
      exact rch_con ((strong_is hE hu hv).1 e).1) (L := fsts (strongL N E) (strongL N E).length) (fun x hx => by
      obtain ⟨v, hv, e⟩ := fsts_mem.1 hx
      rw [la] at hv
      exact ⟨v, hv, e, fsts_mem.2 ⟨v, by rw [lb]; exact hv, rfl⟩⟩)
    rw [la, lb] at h1
    exact h1
  · have h2 : (lone.map (gi (weakL N E))).Nodup := by
      have hp : lone.Pairwise fun a b => gi (weakL N E) a ≠ gi (weakL N E) b := hlo.imp_of_mem fun {a b} ha hb hab e => by
        obtain ⟨ha1, ha2⟩ := hlone a ha
        obtain ⟨hb1, _⟩ := hlone b hb
        rw [weak_is hE ha1 hb1] at e
        exact hab (con_lone ha2 e).symm
      exact List.Pairwise.map _ (fun _ _ h => h) hp
    have h1 : ∀ x ∈ lone.map (gi (weakL N E)), x ∈ fsts (weakL N E) N := fun x hx => by
      obtain ⟨v, hv, rfl⟩ := List.mem_map.1 hx
      have := (fsts_mem (a := weakL N E) (x := gi (weakL N E) v)).2 ⟨v, by rw [la]; exact (hlone v hv).1, rfl⟩
      rwa [la] at this
    have := len_le_of_sub _ _ h2 h1
    rwa [List.length_map] at this
end Go.Proofs.YtomednfddpggaaaGreat

/- Contracts: the document's answer on who is come to; are two rows of truths the same? -/
namespace Go.Proofs.YtomednfddpggaaaGreat
open Go Go.RowKit
attribute [local go_sem] Oper.semAt_some
theorem run_makeBools2 (n : Nat) (hn : n ≤ 1000000000) (w : World) : (Instr.makeSlice 131 (.int .i64 (n : Int)) (.int .i64 (n : Int))).run Tryz.prog w = .ok (.slice (some ⟨w.heap.size, 0, none⟩) n n) (w.alloc (.cells (List.replicate n (Value.bool false)).toArray 4)) := by
  have h : (Tryz.prog.info? 4).map (fun i => (i.zero, i.size, i.bytes)) = some (some (.bool false), 1, 1) := by kernel_rfl
  obtain ⟨i, h1, h2, h3, h4⟩ := info_parts h
  have := run_make_row (P := Tryz.prog) 131 4 i (.bool false) Tryz.underlying131 h1 h2 h3 rfl .i64 .i64 n (by rw [h4]; omega) (by omega) w
  have e : madeCells #[Value.bool false] n = (List.replicate n (Value.bool false)).toArray := Array.ext' (by rw [toList_madeCells_one])
  rw [e] at this
  exact this
def RBAt (W0 : World) (gd : Nat) (L : List Bool) (wr : World) : Prop :=
  ∃ y : Later W0, wr = y.now ∧ Arr y.now gd 4 (L.map .bool) ∧ W0.heap.size ≤ gd
theorem RBAt.grow {W0 : World} {gd : Nat} {L : List Bool} {wr w2 : World} (h : RBAt W0 gd L wr) (hg : Grows wr w2) : RBAt W0 gd L w2 := by
  obtain ⟨y, rfl, h1, h2⟩ := h
  exact ⟨⟨w2, y.grows.trans hg⟩, rfl, h1.grow hg, h2⟩
theorem RBAt.put {W0 : World} {gd : Nat} {L : List Bool} {wr w2 : World} (h : RBAt W0 gd L wr) (hg : Grows wr w2) (j : Nat) (b : Bool) : RBAt W0 gd (L.set j b) (w2.setCell ⟨gd, j, none⟩ (.bool b)) := by
  obtain ⟨y, rfl, h1, h2⟩ := h.grow hg
  have hk : Grows W0 (y.now.setCell ⟨gd, j, none⟩ (.bool b)) := ((Touch.refl (fun k => k = gd) _).set (.inl rfl) _).later y.grows (fun k hk => by rw [hk]; exact h2)
  refine ⟨⟨_, hk⟩, rfl, ?_, h2⟩
  rw [List.map_set]
  exact h1.set j _
theorem bb_at {L : List Bool} {j : Nat} (h : j < L.length) : (L.map Value.bool)[j]? = some (.bool (bb L j)) := by simp [bb, h]
def tvs (l : List Bool) : List Value := l.map .bool
def light17 (N : Int) (n : Nat) : Bool := lightG N n && (decide (N ≤ 30) || decide (4096 < N)) && decide (n ≤ 100)
end Go.Proofs.YtomednfddpggaaaGreat

/- Contract: who hangs together, by the document's answer, round by round. -/
namespace Go.Proofs.YtomednfddpggaaaGreat
open Go Go.RowKit
attribute [local go_sem] Oper.semAt_some
def RIAt (W0 : World) (gd : Nat) (L : List Int) (wr : World) : Prop :=
  ∃ y : Later W0, wr = y.now ∧ Arr y.now gd 3 (L.map (.int .i64)) ∧ W0.heap.size ≤ gd
theorem RIAt.grow {W0 : World} {gd : Nat} {L : List Int} {wr w2 : World} (h : RIAt W0 gd L wr) (hg : Grows wr w2) : RIAt W0 gd L w2 := by
  obtain ⟨y, rfl, h1, h2⟩ := h
  exact ⟨⟨w2, y.grows.trans hg⟩, rfl, h1.grow hg, h2⟩
theorem RIAt.put {W0 : World} {gd : Nat} {L : List Int} {wr w2 : World} (h : RIAt W0 gd L wr) (hg : Grows wr w2) (j : Nat) (b : Int) : RIAt W0 gd (L.set j b) (w2.setCell ⟨gd, j, none⟩ (.int .i64 b)) := by
  obtain ⟨y, rfl, h1, h2⟩ := h.grow hg
  have hk : Grows W0 (y.now.setCell ⟨gd, j, none⟩ (.int .i64 b)) := ((Touch.refl (fun k => k = gd) _).set (.inl rfl) _).later y.grows (fun k hk => by rw [hk]; exact h2)
  refine ⟨⟨_, hk⟩, rfl, ?_, h2⟩
  rw [List.map_set]
  exact h1.set j _
theorem gi_at {L : List Int} {j : Nat} (h : j < L.length) : (L.map (Value.int .i64))[j]? = some (.int .i64 (gi L j)) := by simp [gi, h]
def fillI (N k : Nat) : List Int := idL k ++ List.replicate (N - k) 0
theorem fillI_len {N k : Nat} (h : k ≤ N) : (fillI N k).length = N := by simp [fillI, idL_len]; omega
theorem fillI_zero (N : Nat) : fillI N 0 = List.replicate N 0 := by simp [fillI, idL]
theorem fillI_all (N : Nat) : fillI N N = idL N := by simp [fillI]
theorem fillI_set {N k : Nat} (h : k < N) : (fillI N k).set k (k : Int) = fillI N (k + 1) := by
  have hl : (idL k).length = k := idL_len k
  have e1 : List.replicate (N - k) (0 : Int) = 0 :: List.replicate (N - (k + 1)) 0 := by
    rw [show N - k = (N - (k + 1)) + 1 by omega, List.replicate_succ]
  have e2 : idL (k + 1) = idL k ++ [(k : Int)] := by simp [idL, List.range_succ]
  unfold fillI
  rw [List.set_append_right _ _ (by omega), hl, Nat.sub_self, e1, List.set_cons_zero, e2, List.append_assoc]
  rfl
theorem loops_no {N : Nat} {E : List Edg} (hr : rightF N E = 0) (i : Nat) (hi : i < E.length) : fN E i ≠ tN E i := by
  obtain ⟨r1, r2, r3, r4, r5⟩ := right_in hr
  rw [Int.toNat_natCast] at r4
  obtain ⟨f1, f2⟩ := r4.f i hi
  obtain ⟨t1, t2⟩ := r4.t i hi
  intro he
  unfold rightF at hr
  rw [if_neg (by omega), if_neg (by omega)] at hr
  split at hr
  · cases hr
  · rename_i h3
    have h4 : E.any (looseB (N : Int)) = false := by simpa using h3
    rw [List.any_eq_false] at h4
    have h5 := h4 _ (List.getElem_mem hi)
    have hg : ge E i = E[i] := by simp [ge, hi]
    rw [← hg] at h5
    apply h5
    have : (ge E i).f = (ge E i).t := by omega
    simp [looseB, this]
end Go.Proofs.YtomednfddpggaaaGreat

/- Maps from pairs of numbers to numbers that a call makes. -/
namespace Go.Proofs.YtomednfddpggaaaGreat
open Go Go.RowKit Go.Maps Go.WideMaps
theorem arrP : ArrKey Tryz.prog 89 3 2 := ⟨Tryz.underlying89, by kernel_rfl, by kernel_rfl, by kernel_rfl⟩
theorem keyedP : Keyed Tryz.prog 89 := Keyed.of_law arrP.law
theorem typesP : ∃ m, Tryz.prog.types.size = m + 1 := ⟨Tryz.prog.types.size - 1, by decide +kernel⟩
def kP (a b : Int) : Lit := .string (keyBytes [.int .i64 a, .int .i64 b])
theorem keyLitP (a b : Int) : WideAt.IsKeyLit (kP a b) := by trivial
theorem keyOfP {a b : Int} (wa : I64 a) (wb : I64 b) : keyOf Tryz.prog 89 (.agg #[.int .i64 a, .int .i64 b]) = some (kP a b) := keyOf_pair arrP Tryz.underlying3 typesP (i64_wf wa) (i64_wf wb)
theorem kP_inj {a b c d : Int} (wa : I64 a) (wb : I64 b) (wc : I64 c) (wd : I64 d) (h : kP a b = kP c d) : a = c ∧ b = d := by
  have h1 := keyOfP wa wb
  rw [h] at h1
  have := keyedP.inj h1 (keyOfP wc wd)
  injection this with this
  injection this with this
  injection this with h2 h3
  injection h2 with _ h2
  injection h3 with h3
  injection h3 with _ h3
  exact ⟨h2, h3⟩
def MapPI (w : World) (b n : Nat) (f : Int → Int → Bool) : Prop :=
  ∃ D : DataW Unit, w.ownsMap Tryz.prog 89 (plainElem Tryz.prog 3) b n D ∧ (∀ x y, I64 x → I64 y → Maps.has D (kP x y) = f x y)
theorem MapPI.made (w : World) : MapPI (w.alloc (.map #[] 0)) w.heap.size 0 (fun _ _ => false) :=
  ⟨.map [], World.ownsMap_made _ _ _ _, fun _ _ _ _ => rfl⟩
theorem MapPI.grows {w w' : World} {b n : Nat} {f : Int → Int → Bool} (h : MapPI w b n f) (hg : Grows w w') : MapPI w' b n f := by
  obtain ⟨D, h1, h2⟩ := h
  exact ⟨D, h1.kept (row := none) ⟨hg.os, hg.tape, hg.output, hg.size, fun i hi _ => hg.block i hi⟩ (by simp), h2⟩
theorem MapPI.row {w w' : World} {b n B n' c size : Nat} {f : Int → Int → Bool} {e : TypeId} {A : Option Addr} {xs : List Value} (h : MapPI w b n f) (ho : Own w B e size A n' c xs) (hg : w.grownBy w' (Value.slice A n' c).ownBlock) : MapPI w' b n f := by
  obtain ⟨D, h1, h2⟩ := h
  refine ⟨D, h1.kept hg ?_, h2⟩
  obtain ⟨es, clock, hb, _⟩ := h1
  intro hc
  rcases ho.2 with ⟨h3, _⟩ | ⟨g, cap, cur, h3, _, h4, _⟩
  · injection h3 with h3
    subst h3
    simp [Value.ownBlock] at hc
  · injection h3 with h3
    subst h3
    simp [Value.ownBlock] at hc
    subst hc
    rw [hb] at h4
    cases h4
section
variable {w : World} {ops : Array Oper} {rest : List Oper} {o : Oper} {a : Act} {Q : Exit → Act → World → Prop}
theorem wp_mapPutP (hg : o.guard = none) (m x v : Operand) (hop : o.op = Op.mapUpdate 88 m x v) (b n : Nat) (f : Int → Int → Bool) (hm : a.eval m = .map (some b)) (hown : MapPI w b n f) (hn : n < maxLen)
    (k1 k2 y : Int) (hx : a.eval x = .agg #[.int .i64 k1, .int .i64 k2]) (hv : a.eval v = .int .i64 y) (w1 : I64 k1) (w2 : I64 k2) (wy : I64 y)
    (hK : ∀ w', MapPI w' b (n + 1) (fun p q => decide (p = k1 ∧ q = k2) || f p q) → w.grownBy w' (some b) → wpList Tryz.prog ops Q rest (a.put o.dst undef) w') :
    wpList Tryz.prog ops Q (o :: rest) a w := by
  obtain ⟨D, h1, h3⟩ := hown
  refine wpList_mapUpdate_own w hg m x v 88 hop 89 3 keyedP Tryz.underlying88 (plainElem Tryz.prog 3) b n D hm h1 hn _ _ (kP k1 k2) hx hv (keyOfP w1 w2) (.lit (.int .i64 y)) [] (plainElem_int Tryz.underlying3 (i64_wf wy)) ?_
  intro w' h' hgr
  refine hK w' ⟨_, h', fun p q wp wq => ?_⟩ hgr
  by_cases e : p = k1 ∧ q = k2
  · obtain ⟨rfl, rfl⟩ := e
    rw [Maps.has_put_same (h1.isMap) (keyLitP p q)]; simp
  · rw [Maps.has_put_other (by intro h; exact e (kP_inj wp wq w1 w2 h)), h3 p q wp wq]; simp [e]
theorem wp_mapGetOkP (hg : o.guard = none) (m x : Operand) (hop : o.op = Op.lookup 88 m x true) (b n : Nat) (f : Int → Int → Bool) (hm : a.eval m = .map (some b)) (hown : MapPI w b n f)
    (k1 k2 : Int) (hx : a.eval x = .agg #[.int .i64 k1, .int .i64 k2]) (w1 : I64 k1) (w2 : I64 k2)
    (hK : ∀ z : Int, wpList Tryz.prog ops Q rest (a.put o.dst (.tuple #[.int .i64 z, .bool (f k1 k2)])) w) : wpList Tryz.prog ops Q (o :: rest) a w := by
  obtain ⟨D, h1, h3⟩ := hown
  refine wpList_lookup_own_ok_int w hg m x 88 hop 89 3 .i64 keyedP Tryz.underlying88 Tryz.underlying3 (zeroI w) b n D hm h1 _ (kP k1 k2) hx (keyOfP w1 w2) ?_
  intro c hc _
  rw [h3 k1 k2 w1 w2]
  exact hK c
end
end Go.Proofs.YtomednfddpggaaaGreat
