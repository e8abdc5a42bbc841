/- A region that draws its order, by an invariant: what is known while some of its operations are done. -/
import Derived.Shelf.Slices.CompactI
import Derived.Laws.IdiomCopy
import Derived.Shelf.RegionOpen
import Derived.Shelf.Spec.SlicesInsertGrow
import Derived.Test.YtgplpgldhoelcaaGreatQPenWays00
import Derived.Test.YtgplpgldhoelcaaGreatQPenWays02
import Derived.Test.YtgplpgldhoelcaaGreatQPenWays05
import Derived.Test.YtgplpgldhoelcaaGreatQPenWays06
import Derived.Test.YtgplpgldhoelcaaGreatQPenWays15
namespace Go.Proofs.YtgplpgldhoelcaaGreat
open Go
section
variable {P : Program}
theorem ready_mem {md : Region.Mode} {ops : Array Oper} {listed : Array Bool} {i : Nat} : i ∈ Region.ready md ops listed ↔ i < ops.size ∧ listed.getD i true = false ∧ ∃ o, ops[i]? = some o ∧ ∀ e ∈ o.after, Region.binds md e = true → listed.getD e.on false = true := by
  unfold Region.ready
  rw [List.mem_filter, List.mem_range]
  constructor
  · rintro ⟨h1, h2⟩
    rw [Bool.and_eq_true, Bool.not_eq_true'] at h2
    refine ⟨h1, h2.1, ops[i], by simp [h1], fun e he hb => ?_⟩
    have h3 := h2.2
    simp only [Array.getElem?_eq_getElem h1, Option.map_some, Option.getD_some, Array.all_eq_true'] at h3
    have := h3 e he
    rw [hb] at this
    simpa using this
  · rintro ⟨h1, h2, o, h3, h4⟩
    refine ⟨h1, ?_⟩
    rw [h2, h3]
    simp only [Bool.not_false, Bool.true_and, Option.map_some, Option.getD_some, Array.all_eq_true']
    intro e he
    cases hb : Region.binds md e
    · rfl
    · simpa using h4 e he hb
def backB (l : List Oper) : Bool := (List.range l.length).all fun i => match l[i]? with | some o => o.after.all fun e => !Region.binds .any e || decide (e.on < i) | none => true
theorem backB_spec {l : List Oper} (h : backB l = true) {i : Nat} {o : Oper} (ho : l[i]? = some o) {e : Edge} (he : e ∈ o.after) (hb : Region.binds .any e = true) : e.on < i := by
  unfold backB at h
  rw [List.all_eq_true] at h
  have hi : i < l.length := (List.getElem?_eq_some_iff.1 ho).1
  have := h i (by simpa using hi)
  rw [ho] at this
  simp only [Array.all_eq_true'] at this
  have := this e he
  rw [hb] at this
  simpa using this
theorem all_listed {l : List Oper} (hB : backB l = true) {listed : Array Bool} (hs : listed.size = l.length) (h : Region.ready .any l.toArray listed = []) : ∀ n j, j < n → j < l.length → listed.getD j true = true := by
  intro n
  induction n with
  | zero => intro j hj; omega
  | succ n ih =>
    intro j hj hl
    by_cases hjn : j < n
    · exact ih j hjn hl
    · cases hd : listed.getD j true with
      | true => rfl
      | false =>
        exfalso
        have : j ∈ Region.ready .any l.toArray listed := ready_mem.2 ⟨by simpa using hl, hd, l[j], by simp [hl], fun e he hb => by
          have h1 := backB_spec hB (i := j) (o := l[j]) (by simp [hl]) he hb
          have h2 := ih e.on (by omega) (by omega)
          have h3 : e.on < listed.size := by omega
          simp only [Array.getD, h3, dite_true] at h2 ⊢
          exact h2⟩
        rw [h] at this
        cases this
variable {l : List Oper} {Q : Exit → Act → World → Prop}
theorem set_getD (listed : Array Bool) (i : Nat) (hi : i < listed.size) : (fun j => (listed.setIfInBounds i true).getD j true) = fun j => if j = i then true else listed.getD j true := by
  funext j
  by_cases h : j = i
  · subst h; simp [Array.getD, hi]
  · rw [if_neg h]
    simp only [Array.getD, Array.size_setIfInBounds]
    by_cases hj : j < listed.size
    · simp [hj, Ne.symm h]
    · simp [hj]
theorem wpAny_inv (hB : backB l = true) (I : (Nat → Bool) → Act → World → Prop)
    (hs : ∀ D a w, I D a w → ∀ i o, l[i]? = some o → D i = false → (∀ e ∈ o.after, Region.binds .any e = true → D e.on = true) → ∀ K : Act → World → Prop, (∀ a' w', I (fun j => if j = i then true else D j) a' w' → K a' w') →
      if Region.wanted o (yielded l.toArray a.tmps) = true then Oper.wp P o a w K Q else K (a.put o.dst undef) w)
    (he : ∀ D a w, I D a w → (∀ j, j < l.length → D j = true) → Q .normal a w) :
    ∀ (fuel : Nat) (listed : Array Bool) (a : Act) (w : World), listed.size = l.length → listed.toList.count false ≤ fuel → I (fun j => listed.getD j true) a w → wpAny P .any l.toArray Q fuel listed a w
  | 0, listed, a, w, hl, hc, hI => by
    have hall : ∀ j, j < l.length → listed.getD j true = true := fun j hj => by
      have h0 : listed.toList.count false = 0 := by omega
      rw [List.count_eq_zero] at h0
      have h1 : j < listed.size := by omega
      cases hd : listed.getD j true with
      | true => rfl
      | false =>
        exfalso
        simp only [Array.getD, h1, dite_true] at hd
        exact h0 (by rw [← hd]; simp)
    refine ⟨?_, he _ a w hI hall⟩
    rw [List.eq_nil_iff_forall_not_mem]
    intro i hi
    obtain ⟨h1, h2, _⟩ := ready_mem.1 hi
    rw [hall i (by simpa using h1)] at h2
    cases h2
  | fuel + 1, listed, a, w, hl, hc, hI => by
    refine ⟨fun hn => he _ a w hI fun j hj => all_listed hB hl hn (j + 1) j (by omega) hj, fun i hi => ?_⟩
    obtain ⟨h1, h2, o, h3, h4⟩ := ready_mem.1 hi
    have hil : i < listed.size := by rw [hl]; simpa using h1
    have hst := hs _ a w hI i o (by simpa using h3) h2 (fun e he hb => by
      have := h4 e he hb
      by_cases hj : e.on < listed.size
      · simp only [Array.getD, hj, dite_true] at this ⊢; exact this
      · simp [Array.getD, hj]) (wpAny P .any l.toArray Q fuel (listed.setIfInBounds i true)) (fun a' w' hI' => by
      refine wpAny_inv hB I hs he fuel _ a' w' (by simpa using hl) ?_ (by rw [set_getD listed i hil]; exact hI')
      have hd : listed[i] = false := by have h9 := h2; simp only [Array.getD, hil, dite_true] at h9; exact h9
      have : (listed.setIfInBounds i true).toList = listed.toList.set i true := by simp
      rw [this, List.count_set (by simpa using hil)]
      have e1 : listed.toList[i]'(by simpa using hil) = false := by simpa using hd
      rw [e1]
      have : 0 < listed.toList.count false := List.count_pos_iff.2 (by rw [← e1]; exact List.getElem_mem _)
      simp
      simp at hc this
      omega)
    unfold wpOp
    rw [h3]
    simp only
    split
    · rename_i hw
      rw [if_pos hw] at hst
      exact .inl hst
    · rename_i hw
      rw [if_neg hw] at hst
      exact hst
theorem wp_region_inv {id : Nat} {a : Act} {w : World} (hm : P.follows .mixedOrders = true) (hB : backB l = true) (I : (Nat → Bool) → Act → World → Prop) (h0 : I (fun j => decide (l.length ≤ j)) a w.drew)
    (hs : ∀ D a w, I D a w → ∀ i o, l[i]? = some o → D i = false → (∀ e ∈ o.after, Region.binds .any e = true → D e.on = true) → ∀ K : Act → World → Prop, (∀ a' w', I (fun j => if j = i then true else D j) a' w' → K a' w') →
      if Region.wanted o (yielded l.toArray a.tmps) = true then Oper.wp P o a w K Q else K (a.put o.dst undef) w)
    (he : ∀ D a w, I D a w → (∀ j, j < l.length → D j = true) → Q .normal a w) : (Code.region id l.toArray true).wp P Q a w := by
  refine wp_region_any hm ?_
  refine wpAny_inv hB I hs he _ _ a _ (by simp) (by simp) ?_
  have : (fun j => (Array.replicate l.toArray.size false).getD j true) = fun j => decide (l.length ≤ j) := by
    funext j
    by_cases hj : j < l.length
    · simp [Array.getD, hj]
    · simp [Array.getD, hj]; omega
  rw [this]
  exact h0
def dstOf (l : List Oper) (j : Nat) : Option Tmp := (l[j]?).bind (·.dst)
def injB (l : List Oper) : Bool := (List.range l.length).all fun i => (List.range l.length).all fun j => decide (i = j) || decide (dstOf l i = none) || decide (dstOf l i ≠ dstOf l j)
theorem injB_spec (h : injB l = true) {i j : Nat} {t : Tmp} (hi : dstOf l i = some t) (hj : dstOf l j = some t) : i = j := by
  have lt : ∀ {k : Nat}, dstOf l k = some t → k < l.length := fun {k} hk => by
    rcases Nat.lt_or_ge k l.length with h | h
    · exact h
    · rw [dstOf, List.getElem?_eq_none h] at hk; cases hk
  unfold injB at h
  rw [List.all_eq_true] at h
  have h1 := h i (by simpa using lt hi)
  rw [List.all_eq_true] at h1
  have h2 := h1 j (by simpa using lt hj)
  simp only [Bool.or_eq_true, decide_eq_true_eq] at h2
  rcases h2 with (h2 | h2) | h2
  · exact h2
  · rw [hi] at h2; cases h2
  · rw [hi, hj] at h2; exact absurd rfl h2
structure TabI (l : List Oper) (a0 : Act) (D : Nat → Bool) (g : Nat → Value) (a : Act) : Prop where
  d : a.defers = a0.defers
  n : a.tmps.size = a0.tmps.size
  out : ∀ t, (∀ j, dstOf l j ≠ some t) → a.eval (.tmp t) = a0.eval (.tmp t)
  at_ : ∀ j t, dstOf l j = some t → D j = true → a.eval (.tmp t) = g j
theorem put_eval (a : Act) (t s : Tmp) (v : Value) (ht : t < a.tmps.size) : (a.put (some t) v).eval (.tmp s) = if s = t then v else a.eval (.tmp s) := by
  show (a.tmps.setIfInBounds t v).getD s undef = if s = t then v else a.tmps.getD s undef
  by_cases h : s = t
  · subst h
    simp [Array.getD, ht]
  · rw [if_neg h]
    simp only [Array.getD, Array.size_setIfInBounds]
    by_cases hs : s < a.tmps.size
    · simp [hs, Ne.symm h]
    · simp [hs]
def updG (g : Nat → Value) (i : Nat) (v : Value) : Nat → Value := fun j => if j = i then v else g j
theorem TabI.put {a0 : Act} {D : Nat → Bool} {g : Nat → Value} {a : Act} (hJ : injB l = true) (h : TabI l a0 D g a) {i : Nat} {o : Oper} (ho : l[i]? = some o) (hsz : ∀ t, o.dst = some t → t < a0.tmps.size) (v : Value) :
    TabI l a0 (fun j => if j = i then true else D j) (updG g i v) (a.put o.dst v) := by
  have hd : dstOf l i = o.dst := by simp [dstOf, ho]
  cases hdst : o.dst with
  | none =>
    refine ⟨h.d, h.n, h.out, fun j t hj hD => ?_⟩
    have hji : j ≠ i := fun e => by rw [e, hd, hdst] at hj; cases hj
    simp only [updG, if_neg hji] at hD ⊢
    exact h.at_ j t hj hD
  | some s =>
    have hs : s < a.tmps.size := by rw [h.n]; exact hsz s hdst
    refine ⟨h.d, by simpa [Act.put] using h.n, fun t ht => ?_, fun j t hj hD => ?_⟩
    · rw [put_eval _ _ _ _ hs, if_neg (fun e => by subst e; exact ht i (by rw [hd, hdst]))]
      exact h.out t ht
    · rw [put_eval _ _ _ _ hs]
      by_cases hji : j = i
      · subst hji
        rw [hd, hdst] at hj
        injection hj with hj
        rw [if_pos hj.symm]
        simp [updG]
      · simp only [updG, if_neg hji] at hD ⊢
        rw [if_neg (fun e => by subst e; exact hji (injB_spec hJ hj (by rw [hd, hdst])))]
        exact h.at_ j t hj hD
def putAll (l : List Oper) (g : Nat → Value) (a0 : Act) : Nat → Act
  | 0 => a0
  | k + 1 => (putAll l g a0 k).put (dstOf l k) (g k)
theorem putAll_size (l : List Oper) (g : Nat → Value) (a0 : Act) : ∀ k, (putAll l g a0 k).tmps.size = a0.tmps.size
  | 0 => rfl
  | k + 1 => by
    have ih := putAll_size l g a0 k
    simp only [putAll]
    cases dstOf l k with
    | none => exact ih
    | some t => simpa [Act.put] using ih
theorem putAll_defers (l : List Oper) (g : Nat → Value) (a0 : Act) : ∀ k, (putAll l g a0 k).defers = a0.defers
  | 0 => rfl
  | k + 1 => by
    have ih := putAll_defers l g a0 k
    simp only [putAll]
    cases dstOf l k with
    | none => exact ih
    | some t => exact ih
theorem putAll_eval (hJ : injB l = true) (g : Nat → Value) (a0 : Act) (hsz : ∀ j t, dstOf l j = some t → t < a0.tmps.size) (t : Tmp) : ∀ k, (∀ j, j < k → dstOf l j = some t → (putAll l g a0 k).eval (.tmp t) = g j) ∧ ((∀ j, j < k → dstOf l j ≠ some t) → (putAll l g a0 k).eval (.tmp t) = a0.eval (.tmp t))
  | 0 => ⟨fun j hj => absurd hj (by omega), fun _ => rfl⟩
  | k + 1 => by
    obtain ⟨ih1, ih2⟩ := putAll_eval hJ g a0 hsz t k
    simp only [putAll]
    cases hk : dstOf l k with
    | none =>
      refine ⟨fun j hj hd => ?_, fun h => ih2 fun j hj => h j (by omega)⟩
      by_cases e : j = k
      · subst e; rw [hk] at hd; cases hd
      · exact ih1 j (by omega) hd
    | some s =>
      have hs : s < (putAll l g a0 k).tmps.size := by rw [putAll_size]; exact hsz k s hk
      refine ⟨fun j hj hd => ?_, fun h => ?_⟩
      · rw [put_eval _ _ _ _ hs]
        by_cases e : j = k
        · subst e
          rw [hk] at hd
          injection hd with hd
          rw [if_pos hd.symm]
        · rw [if_neg (fun e2 => by subst e2; exact e (injB_spec hJ hd hk))]
          exact ih1 j (by omega) hd
      · rw [put_eval _ _ _ _ hs, if_neg (fun e => by subst e; exact h k (by omega) hk)]
        exact ih2 fun j hj => h j (by omega)
theorem TabI.all {a0 : Act} {D : Nat → Bool} {g : Nat → Value} {a : Act} (hJ : injB l = true) (h : TabI l a0 D g a) (hD : ∀ j, j < l.length → D j = true) (hsz : ∀ j t, dstOf l j = some t → t < a0.tmps.size) : a = putAll l g a0 l.length := by
  have key : ∀ t : Nat, a.eval (.tmp t) = (putAll l g a0 l.length).eval (.tmp t) := fun t => by
    obtain ⟨h1, h2⟩ := putAll_eval hJ g a0 hsz t l.length
    by_cases hj : ∃ j, j < l.length ∧ dstOf l j = some t
    · obtain ⟨j, hj, hd⟩ := hj
      rw [h1 j hj hd]
      exact h.at_ j t hd (hD j hj)
    · have hn : ∀ j, dstOf l j ≠ some t := fun j hd => hj ⟨j, (by
        rcases Nat.lt_or_ge j l.length with h | h
        · exact h
        · rw [dstOf, List.getElem?_eq_none h] at hd; cases hd), hd⟩
      rw [h2 fun j _ => hn j]
      exact h.out t hn
  have e1 : a.tmps = (putAll l g a0 l.length).tmps := by
    refine Array.ext (by rw [h.n, putAll_size]) fun t h1 h2 => ?_
    have := key t
    simp only [Act.eval, Array.getD, h1, h2, dite_true] at this
    exact this
  have e2 : a.defers = (putAll l g a0 l.length).defers := by rw [h.d, putAll_defers]
  cases a
  simp only at e1 e2
  subst e1 e2
  rfl
def waitB (l : List Oper) (i j : Nat) : Bool := match l[i]? with | some o => o.after.any fun e => decide (e.on = j) && Region.binds .any e | none => false
theorem waitB_spec {i j : Nat} {o : Oper} (ho : l[i]? = some o) (h : waitB l i j = true) : ∃ e ∈ o.after, e.on = j ∧ Region.binds .any e = true := by
  unfold waitB at h
  rw [ho] at h
  simp only [Array.any_eq_true'] at h
  obtain ⟨e, he, h⟩ := h
  rw [Bool.and_eq_true, decide_eq_true_eq] at h
  exact ⟨e, he, h.1, h.2⟩
end
end Go.Proofs.YtgplpgldhoelcaaGreat

namespace Go.Proofs.YtgplpgldhoelcaaGreat
open Go Go.RowKit
section
variable {P : Program} {Q : Exit → Act → World → Prop} {l : List Oper}
end
theorem ev_nfK {a : Act} {t : Tmp} {v : Value} (h : a.eval (.tmp t) = v) : a.tmps[t]?.getD undef = v := by
  rw [← h]
  simp [Act.eval]
theorem notDstK {l : List Oper} {t : Tmp} (h : (l.all fun o => decide (o.dst ≠ some t)) = true) : ∀ j, dstOf l j ≠ some t := fun j hj => by
  unfold dstOf at hj
  cases ho : l[j]? with
  | none => rw [ho] at hj; cases hj
  | some o =>
    rw [ho] at hj
    rw [List.all_eq_true] at h
    exact of_decide_eq_true (h o (List.mem_of_getElem? ho)) hj
section
variable {w : World} {i1 i2 : Nat} {p1 p2 : Addr} {v1 v2 : Value} {D : Nat → Bool}
end
end Go.Proofs.YtgplpgldhoelcaaGreat

namespace Go.Proofs.YtgplpgldhoelcaaGreat
open Go Go.RowKit
structure TabL (l : List Oper) (a0 : Act) (D : Nat → Bool) (g : Nat → Value) (a : Act) : Prop where
  d : a.defers = a0.defers
  n : a.tmps.size = a0.tmps.size
  out : ∀ t, (∀ j, dstOf l j = some t → D j = false) → a.eval (.tmp t) = a0.eval (.tmp t)
  at_ : ∀ j t, dstOf l j = some t → D j = true → a.eval (.tmp t) = g j
section
variable {P : Program} {Q : Exit → Act → World → Prop} {l : List Oper}
theorem TabL.put {a0 : Act} {D : Nat → Bool} {g g' : Nat → Value} {a : Act} (hJ : injB l = true) (h : TabL l a0 D g a) {i : Nat} {o : Oper} (ho : l[i]? = some o) (hsz : ∀ t, o.dst = some t → t < a0.tmps.size) (v : Value) (hg : ∀ j t, dstOf l j = some t → D j = true → g' j = g j) (hv : o.dst = none ∨ v = g' i) (hDi : D i = false) :
    TabL l a0 (fun j => if j = i then true else D j) g' (a.put o.dst v) := by
  have hd : dstOf l i = o.dst := by simp [dstOf, ho]
  cases hdst : o.dst with
  | none =>
    refine ⟨h.d, h.n, fun t ht => h.out t fun j hj => ?_, fun j t hj hD => ?_⟩
    · have := ht j hj
      by_cases e : j = i
      · rw [e]; exact hDi
      · simpa [e] using this
    · have hji : j ≠ i := fun e => by rw [e, hd, hdst] at hj; cases hj
      simp only [if_neg hji] at hD
      rw [hg j t hj hD]
      exact h.at_ j t hj hD
  | some s =>
    have hs : s < a.tmps.size := by rw [h.n]; exact hsz s hdst
    have hvi : v = g' i := by
      rcases hv with hv | hv
      · rw [hdst] at hv; cases hv
      · exact hv
    refine ⟨h.d, by simpa [Act.put] using h.n, fun t ht => ?_, fun j t hj hD => ?_⟩
    · rw [put_eval _ _ _ _ hs, if_neg (fun e => by
        subst e
        have := ht i (by rw [hd, hdst])
        simp at this)]
      refine h.out t fun j hj => ?_
      have := ht j hj
      by_cases e : j = i
      · rw [e]; exact hDi
      · simpa [e] using this
    · rw [put_eval _ _ _ _ hs]
      by_cases hji : j = i
      · subst hji
        rw [hd, hdst] at hj
        injection hj with hj
        rw [if_pos hj.symm]
        exact hvi
      · simp only [if_neg hji] at hD
        rw [if_neg (fun e => by subst e; exact hji (injB_spec hJ hj (by rw [hd, hdst])))]
        rw [hg j t hj hD]
        exact h.at_ j t hj hD
theorem TabL.all {a0 : Act} {D : Nat → Bool} {g : Nat → Value} {a : Act} (hJ : injB l = true) (h : TabL l a0 D g a) (hD : ∀ j, j < l.length → D j = true) (hsz : ∀ j t, dstOf l j = some t → t < a0.tmps.size) : a = putAll l g a0 l.length := by
  have key : ∀ t : Nat, a.eval (.tmp t) = (putAll l g a0 l.length).eval (.tmp t) := fun t => by
    obtain ⟨h1, h2⟩ := putAll_eval hJ g a0 hsz t l.length
    by_cases hj : ∃ j, j < l.length ∧ dstOf l j = some t
    · obtain ⟨j, hj, hd⟩ := hj
      rw [h1 j hj hd]
      exact h.at_ j t hd (hD j hj)
    · have hn : ∀ j, dstOf l j ≠ some t := fun j hd => hj ⟨j, (by
        rcases Nat.lt_or_ge j l.length with h | h
        · exact h
        · rw [dstOf, List.getElem?_eq_none h] at hd; cases hd), hd⟩
      rw [h2 fun j _ => hn j]
      exact h.out t (fun j hj => absurd hj (hn j))
  have e1 : a.tmps = (putAll l g a0 l.length).tmps := by
    refine Array.ext (by rw [h.n, putAll_size]) fun t h1 h2 => ?_
    have := key t
    simp only [Act.eval, Array.getD, h1, h2, dite_true] at this
    exact this
  have e2 : a.defers = (putAll l g a0 l.length).defers := by rw [h.d, putAll_defers]
  cases a
  simp only at e1 e2
  subst e1 e2
  rfl
def freeB (l : List Oper) : Bool := l.all fun o => o.guard.isNone
theorem wp_region_late {id : Nat} {a0 : Act} {w : World} (hm : P.follows .mixedOrders = true) (hB : backB l = true) (hJ : injB l = true) (hsz : ((List.range l.length).all fun j => match dstOf l j with | some t => decide (t < a0.tmps.size) | none => true) = true) (hL : freeB l = true)
    {Γ : Type} (V : Γ → Nat → Value) (M : Γ → (Nat → Bool) → World → Prop) (c0 : Γ) (h0 : M c0 (fun j => decide (l.length ≤ j)) w.drew)
    (hs : ∀ (c : Γ) (a : Act) (D : Nat → Bool), (∀ j t, dstOf l j = some t → D j = true → a.eval (.tmp t) = V c j) → (∀ t, (∀ j, dstOf l j = some t → D j = false) → a.eval (.tmp t) = a0.eval (.tmp t)) → ∀ i o, l[i]? = some o → (∀ i j, D i = true → waitB l i j = true → D j = true) → D i = false → (∀ j, waitB l i j = true → D j = true) → ∀ w1, M c D w1 → runsTo P (fun u w' => ∃ c', M c' (fun j => if j = i then true else D j) w' ∧ (∀ j, j < l.length → D j = true → V c' j = V c j) ∧ (o.dst = none ∨ u = V c' i)) ((execOp a.eval o).run P w1))
    (he : ∀ c w1, M c (fun _ => true) w1 → Q .normal (putAll l (V c) a0 l.length) w1) : (Code.region id l.toArray true).wp P Q a0 w := by
  have hsz' : ∀ j t, dstOf l j = some t → t < a0.tmps.size := fun j t hd => by
    have hj : j < l.length := by
      rcases Nat.lt_or_ge j l.length with h | h
      · exact h
      · rw [dstOf, List.getElem?_eq_none h] at hd; cases hd
    rw [List.all_eq_true] at hsz
    have := hsz j (by simpa using hj)
    rw [hd] at this
    simpa using this
  refine wp_region_inv hm hB (fun D a w => (∃ c, M c D w ∧ TabL l a0 D (V c) a) ∧ (∀ i j, D i = true → waitB l i j = true → D j = true) ∧ ∀ j, l.length ≤ j → D j = true) ⟨⟨c0, h0, ⟨rfl, rfl, fun _ _ => rfl, fun j t hd hD => ?_⟩⟩, fun i j hD hE => ?_, fun j hj => decide_eq_true hj⟩ ?_ ?_
  · exfalso
    rw [decide_eq_true_eq] at hD
    rw [dstOf, List.getElem?_eq_none hD] at hd
    cases hd
  · exfalso
    rw [decide_eq_true_eq] at hD
    unfold waitB at hE
    rw [List.getElem?_eq_none hD] at hE
    cases hE
  · rintro D a w ⟨⟨c, hM, ht⟩, hcl, hbig⟩ i o ho hD hpre K hK
    have hpre' : ∀ j, waitB l i j = true → D j = true := fun j hE => by
      obtain ⟨e, he, rfl, hb⟩ := waitB_spec ho hE
      exact hpre e he hb
    have hgd : o.guard = none := by
      unfold freeB at hL
      rw [List.all_eq_true] at hL
      simpa using hL o (List.mem_of_getElem? ho)
    rw [if_pos (by unfold Region.wanted; rw [hgd])]
    have step : ∀ u w', (∃ c', M c' (fun j => if j = i then true else D j) w' ∧ (∀ j, j < l.length → D j = true → V c' j = V c j) ∧ (o.dst = none ∨ u = V c' i)) → K (a.put o.dst u) w' := fun u w' ⟨c', hM', hsame, hu⟩ => by
      refine hK _ _ ⟨⟨c', hM', ht.put hJ ho (fun t hd => hsz' i t (by simp [dstOf, ho, hd])) u (fun j t hj hDj => hsame j ?_ hDj) hu hD⟩, fun i' j hDi hE => ?_, fun j hj => ?_⟩
      · rcases Nat.lt_or_ge j l.length with h | h
        · exact h
        · rw [dstOf, List.getElem?_eq_none h] at hj; cases hj
      · show (if j = i then true else D j) = true
        by_cases e : j = i
        · rw [if_pos e]
        · rw [if_neg e]
          by_cases e2 : i' = i
          · subst e2; exact hpre' j hE
          · have hDi' : (if i' = i then true else D i') = true := hDi
            rw [if_neg e2] at hDi'
            exact hcl i' j hDi' hE
      · show (if j = i then true else D j) = true
        split
        · rfl
        · exact hbig j hj
    have hrun := hs c a D ht.at_ ht.out i o ho hcl hD hpre' w hM
    unfold Oper.wp
    generalize (execOp a.eval o).run P w = res at hrun
    cases res with
    | halt x w' => simp only [runsTo] at hrun
    | ok x w' =>
      cases x <;> simp only [runsTo] at hrun <;> simp only [Oper.upon]
      case value u => exact step u _ hrun
      case skip => exact step _ _ hrun
      case enter f args =>
        refine hrun.mono fun e w'' ⟨u, he, h1⟩ => ?_
        subst he
        exact step u _ h1
  · rintro D a w ⟨⟨c, hM, ht⟩, _, hbig⟩ hD
    have e1 : D = fun _ => true := funext fun j => by
      rcases Nat.lt_or_ge j l.length with h | h
      · exact hD j h
      · exact hbig j h
    subst e1
    rw [ht.all hJ hD hsz']
    exact he c w hM
theorem notDstL {l : List Oper} {t : Tmp} {D : Nat → Bool} (h : (l.all fun o => decide (o.dst ≠ some t)) = true) : ∀ j, dstOf l j = some t → D j = false := fun j hj => absurd hj (notDstK h j)
end
theorem runsTo_monoY {P : Program} {Q Q' : Value → World → Prop} {r : Result Next} (h : runsTo P Q r) (hi : ∀ u w, Q u w → Q' u w) : runsTo P Q' r := by
  cases r with
  | halt x w' => simp only [runsTo] at h
  | ok x w' =>
    cases x <;> simp only [runsTo] at h ⊢
    case value u => exact hi _ _ h
    case skip => exact hi _ _ h
    case enter f args => exact h.mono fun e w'' ⟨u, he, h1⟩ => ⟨u, he, hi _ _ h1⟩
end Go.Proofs.YtgplpgldhoelcaaGreat

namespace Go.Proofs.YtgplpgldhoelcaaGreat
open Go Go.RowKit
attribute [local go_sem] Oper.semAt_some
theorem Mine.growR {w w' : World} {p : Addr} {v : Value} (h : Mine w p v) (hg : Grows w w') : Mine w' p v := h.touch (hg.touch (fun _ => False)) id
theorem Rd.natsU {w : World} {A : Option Addr} {n : Nat} {W : List Nat} (h : Rd w A 1 n (wv W)) (hn : 0 < n) : ∃ b off, A = some ⟨b, off, none⟩ ∧ ∀ k, k < n → Holds w ⟨b, off + k, none⟩ (.int .u64 (gn W k : Int)) := by
  have hl : W.length = n := h.wlen
  obtain ⟨b, off, e, hc⟩ := h.2 hn (by omega)
  refine ⟨b, off, e, fun k hk => ⟨?_⟩⟩
  have hk2 : k < W.length := by omega
  exact hc k _ (by simp [wv, gn, hk2])
set_option maxRecDepth 20000 in
set_option maxHeartbeats 8000000 in
theorem penRaise (A : Option Addr) (n c : Nat) (W : List Nat) (B : Option Addr) (m d : Nat) (l : List Int) (f1 f2 : Int) (w : World) (h : Rd w A 1 n (wv W)) (hn : n ≤ 1000000) (h2 : Rd w B 1 m (l.map (.int .i64))) (hm : m ≤ 1000000) (hW : ∀ i, gn W i < 18446744073709551616) :
    Calls Tryz.prog 45 #[.slice A n c, .slice B m d, .agg #[.int .u64 f1, .int .u64 f2]] w (GiveU w (raiseL W l f1 f2)) := by
  have hlen : W.length = n := h.wlen
  have hll : l.length = m := by simpa using h2.len
  unfold GiveU
  have hrl : (raiseL W l f1 f2).length = n := by unfold raiseL; rw [rsK_len, hlen]
  rw [hrl]
  have C1 := hide (fun (X : World) (g : Grows w X) => cloneU A n c W X (h.grows g) hn)
  have C2 := hide (fun (X : World) => ratioRight f1 f2 X)
  have HR := hide h
  have HL := hide h2
  have HLEN := hide hlen
  have HLL := hide hll
  have HW := hide hW
  cases hrr : rrB f1 f2 with
  | false =>
    rw [hrr] at C2
    rw [show raiseL W l f1 f2 = W from rsK_no hrr _]
    clear h h2 hlen hll hW hrr hrl
    go_enter Tryz.func45, Tryz.ntmps45
    go_wp2_with (first
      | (go_at_call 115; refine (C1.out _ GG).mono ?_; rintro e w' ⟨A1, c1, rfl, ho1, hg⟩; obtain ⟨x1, rfl⟩ := hg.later; have HO1 := hide ho1; clear hg ho1)
      | (go_at_call 92; refine (C2.out _).mono ?_; rintro e w' ⟨rfl, hg⟩; obtain ⟨x2, rfl⟩ := hg.later; clear hg))
    go_ret
    exact ⟨A1, c1, rfl, (HO1.out.base (B' := w.heap.size) (by simp)).grows (show Grows x1.now _ from GG), GG⟩
  | true =>
    rw [hrr] at C2
    have HRR := hide hrr
    clear h h2 hlen hll hW hrr hrl
    go_enter Tryz.func45, Tryz.ntmps45
    go_upto_region 1 with fail
    obtain ⟨wg, hwg⟩ : ∃ wg, wg = w.alloc (.cells #[.int .u64 f1, .int .u64 f2] 71) := ⟨_, rfl⟩
    have hgg : Grows w wg := by rw [hwg]; exact (Grows.refl _).new _
    have a1 : Arr wg w.heap.size 71 [.int .u64 f1, .int .u64 f2] := by rw [hwg]; exact Arr.make _ _ _
    rw [← hwg]
    clear hwg
    obtain ⟨b5, hb5⟩ : ∃ b, b = w.heap.size := ⟨_, rfl⟩
    rw [← hb5] at a1 ⊢
    clear hb5
    go_wp2_with (first
      | (go_at_call 115; refine (C1.out _ (hgg.trans GG)).mono ?_; rintro e w' ⟨A1, c1, rfl, ho1, hg⟩; have hgx := (show Grows wg w' from hg); obtain ⟨x1, rfl⟩ := hg.later; have HO1 := hide ho1; clear hg ho1 hgx)
      | (go_at_call 92; refine (C2.out _).mono ?_; rintro e w' ⟨rfl, hg⟩; obtain ⟨x2, rfl⟩ := hg.later; clear hg))
    have HS := hide (HO1.out.base (B' := wg.heap.size) (Nat.le_refl _))
    go_loopw [18] (fun tk wr => ∃ q : Nat, q ≤ m ∧ tk = .int .i64 (q : Int) ∧ ∃ y : Later wg, wr = y.now ∧ Hid (Own y.now wg.heap.size 41 1 A1 n c1 (wv (rsK W l f1 f2 q)))) (fun tk _ => m - (Go.RowKit.intOf tk).toNat)
    case atStart =>
      obtain ⟨y0, hy0⟩ : ∃ y0 : Later wg, y0.now = x2.now := by
        obtain ⟨z, hz⟩ := (show Grows wg x2.now from GG).later
        exact ⟨z, hz.symm⟩
      exact ⟨0, by omega, by go_num, y0, hy0.symm, hide (by rw [hy0, rsK_zero]; exact HO1.out.grows (show Grows x1.now x2.now from GG))⟩
    case round =>
      obtain ⟨q, hq, rfl, y, rfl, HO⟩ := hrel
      by_cases hlt : q < m
      · obtain ⟨bl, ol, rfl, hcl⟩ := (HL.out.grows hgg).intsH (by omega)
        have kl := hcl q hlt
        clear hcl
        have hql : q < l.length := by have := HLL.out; omega
        by_cases hz : 0 ≤ gi l q ∧ gi l q < (n : Int)
        · obtain ⟨zi, hzi⟩ : ∃ zi : Nat, gi l q = (zi : Int) := ⟨(gi l q).toNat, by omega⟩
          have hzn : zi < n := by omega
          have HST := hide (show (rsK W l f1 f2 q).set zi (upV (gn W zi) f1 f2 maxPen) = rsK W l f1 f2 (q + 1) from rsK_in HRR.out hql hzi (by have := HLEN.out; omega))
          obtain ⟨b, off, rfl, hcW⟩ := (HR.out.grows hgg).natsU (by omega)
          have kW0 := hcW zi hzn
          clear hcW
          obtain ⟨g, hA1, hBg, _⟩ := HO.out.atS (by omega)
          subst hA1
          have hmine := (HO.out.row.1.mine (j := zi) (u := .int .u64 (gn (rsK W l f1 f2 q) zi : Int)) (by
            have : zi < (rsK W l f1 f2 q).length := by rw [rsK_len]; have := HLEN.out; omega
            simp [wv, gn, this]))
          have CU := hide (fun (X : World) => show Calls Tryz.prog 116 #[.int .u64 (gn W zi : Int), .agg #[.int .u64 f1, .int .u64 f2], .int .u64 17592186044416] X fun e w' => e = .returned (.int .u64 (upV (gn W zi) f1 f2 maxPen : Int)) ∧ Grows X w' from ratioUp (gn W zi) f1 f2 maxPen (HW.out zi) (by decide) X)
          have HSET := hide (fun (wx : World) (hgx : Grows y.now wx) => show ∃ y2 : Later wg, wx.setCell ⟨g, zi, none⟩ (.int .u64 (upV (gn W zi) f1 f2 maxPen : Int)) = y2.now ∧ Own y2.now wg.heap.size 41 1 (some ⟨g, 0, none⟩) n c1 (wv (rsK W l f1 f2 (q + 1))) from by
            obtain ⟨y2, e2, o2⟩ := (HO.out.grows hgx).putS (j := zi) (y.grows.trans hgx) (by omega) (.int .u64 (upV (gn W zi) f1 f2 maxPen : Int))
            refine ⟨y2, e2, ?_⟩
            rw [← HST.out]
            simpa [wv, List.map_set] using o2)
          have mO := hide hmine
          rw [hzi] at kl
          have hz0 : (0 : Int) ≤ (zi : Int) := by omega
          generalize upV (gn W zi) f1 f2 maxPen = v at *
          generalize gn W zi = x at *
          generalize ((gn (rsK W l f1 f2 q) zi : Nat) : Int) = old at *
          clear hz hzi hql hmine
          go_upto_region 8 with fail
          go_wp2_with fail
          obtain ⟨WR, hWR⟩ : ∃ WR, WR = y.now := ⟨_, rfl⟩
          have aE : Arr WR b5 71 [.int .u64 f1, .int .u64 f2] := by rw [hWR]; exact a1.grow y.grows
          have kW : Holds WR ⟨b, off + zi, none⟩ (.int .u64 (x : Int)) := by rw [hWR]; exact kW0.touch (y.grows.touch (fun _ => False)) id
          rw [← hWR] at mO HSET ⊢
          obtain ⟨VV, hVV⟩ : ∃ V : Unit → Nat → Value, V = fun q j => ([.slice (some ⟨g, 0, none⟩) n c1, .int .i64 (zi : Int), .slice (some ⟨b, off, none⟩) n c, .int .i64 (zi : Int), .pointer (some ⟨b, off + zi, none⟩), .int .u64 (x : Int), .agg #[.int .u64 f1, .int .u64 f2], .int .u64 (v : Int), .pointer (some ⟨g, zi, none⟩), undef] : List Value).getD j undef := ⟨_, rfl⟩
          refine wp_region_late (by kernel_rfl) (by kernel_rfl) (by kernel_rfl) (by kernel_rfl) (by kernel_rfl) VV
            (fun _ D w1 => (D 9 = false → Grows WR w1) ∧ (D 9 = true → ∃ wx, Grows WR wx ∧ w1 = wx.setCell ⟨g, zi, none⟩ (.int .u64 (v : Int))))
            () ⟨fun _ => (Grows.refl _).drew, fun h => absurd h (by simp)⟩ ?hs ?he
          case hs =>
            subst hVV
            intro q9 a D hV hO i9 oo' ho hcl hD hpre w1 hM
            obtain ⟨h1, h2⟩ := hM
            match i9, ho, hD, hpre with
              | 0, ho, hD, hpre =>
                cases (show some _ = some oo' from ho)
                have e7 := ev_nfK ((hO 7 (notDstL (by kernel_rfl))).trans rfl)
                have n9 : D 9 = false := by
                  cases hd : D 9 with
                  | false => rfl
                  | true => exact absurd (hcl 8 0 (hcl 9 8 hd (by kernel_rfl)) (by kernel_rfl)) (by rw [hD]; exact Bool.false_ne_true)
                have j1 := h1 n9
                have zE := aE.grow j1
                have zW := kW.touch (j1.touch (fun _ => False)) id
                refine runsTo_monoY (Q := fun uu w2 => w2 = w1 ∧ uu = (.slice (some ⟨g, 0, none⟩) n c1 : Value)) ?_ (fun uu w2 hq => ⟨(), ?_, fun _ _ _ => rfl, .inr hq.2⟩)
                · clear h1 h2 j1
                  go_simp
                  all_goals (first | exact ⟨rfl, rfl⟩ | rfl)
                · obtain ⟨rfl, _⟩ := hq
                  exact ⟨fun _ => j1, fun hd => absurd (show D 9 = true by simpa using hd) (by rw [n9]; exact Bool.false_ne_true)⟩
              | 1, ho, hD, hpre =>
                cases (show some _ = some oo' from ho)
                have e9 := ev_nfK ((hO 9 (notDstL (by kernel_rfl))).trans rfl)
                have n9 : D 9 = false := by
                  cases hd : D 9 with
                  | false => rfl
                  | true => exact absurd (hcl 8 1 (hcl 9 8 hd (by kernel_rfl)) (by kernel_rfl)) (by rw [hD]; exact Bool.false_ne_true)
                have j1 := h1 n9
                have zE := aE.grow j1
                have zW := kW.touch (j1.touch (fun _ => False)) id
                refine runsTo_monoY (Q := fun uu w2 => w2 = w1 ∧ uu = (.int .i64 (zi : Int) : Value)) ?_ (fun uu w2 hq => ⟨(), ?_, fun _ _ _ => rfl, .inr hq.2⟩)
                · clear h1 h2 j1
                  go_simp
                  all_goals (first | exact ⟨rfl, rfl⟩ | rfl)
                · obtain ⟨rfl, _⟩ := hq
                  exact ⟨fun _ => j1, fun hd => absurd (show D 9 = true by simpa using hd) (by rw [n9]; exact Bool.false_ne_true)⟩
              | 2, ho, hD, hpre =>
                cases (show some _ = some oo' from ho)
                have e0 := ev_nfK ((hO 0 (notDstL (by kernel_rfl))).trans rfl)
                have n9 : D 9 = false := by
                  cases hd : D 9 with
                  | false => rfl
                  | true => exact absurd (hcl 4 2 (hcl 5 4 (hcl 7 5 (hcl 9 7 hd (by kernel_rfl)) (by kernel_rfl)) (by kernel_rfl)) (by kernel_rfl)) (by rw [hD]; exact Bool.false_ne_true)
                have j1 := h1 n9
                have zE := aE.grow j1
                have zW := kW.touch (j1.touch (fun _ => False)) id
                refine runsTo_monoY (Q := fun uu w2 => w2 = w1 ∧ uu = (.slice (some ⟨b, off, none⟩) n c : Value)) ?_ (fun uu w2 hq => ⟨(), ?_, fun _ _ _ => rfl, .inr hq.2⟩)
                · clear h1 h2 j1
                  go_simp
                  all_goals (first | exact ⟨rfl, rfl⟩ | rfl)
                · obtain ⟨rfl, _⟩ := hq
                  exact ⟨fun _ => j1, fun hd => absurd (show D 9 = true by simpa using hd) (by rw [n9]; exact Bool.false_ne_true)⟩
              | 3, ho, hD, hpre =>
                cases (show some _ = some oo' from ho)
                have e9 := ev_nfK ((hO 9 (notDstL (by kernel_rfl))).trans rfl)
                have n9 : D 9 = false := by
                  cases hd : D 9 with
                  | false => rfl
                  | true => exact absurd (hcl 4 3 (hcl 5 4 (hcl 7 5 (hcl 9 7 hd (by kernel_rfl)) (by kernel_rfl)) (by kernel_rfl)) (by kernel_rfl)) (by rw [hD]; exact Bool.false_ne_true)
                have j1 := h1 n9
                have zE := aE.grow j1
                have zW := kW.touch (j1.touch (fun _ => False)) id
                refine runsTo_monoY (Q := fun uu w2 => w2 = w1 ∧ uu = (.int .i64 (zi : Int) : Value)) ?_ (fun uu w2 hq => ⟨(), ?_, fun _ _ _ => rfl, .inr hq.2⟩)
                · clear h1 h2 j1
                  go_simp
                  all_goals (first | exact ⟨rfl, rfl⟩ | rfl)
                · obtain ⟨rfl, _⟩ := hq
                  exact ⟨fun _ => j1, fun hd => absurd (show D 9 = true by simpa using hd) (by rw [n9]; exact Bool.false_ne_true)⟩
              | 4, ho, hD, hpre =>
                cases (show some _ = some oo' from ho)
                have e32 := ev_nfK (hV 2 32 rfl (hpre 2 (by kernel_rfl)))
                have e33 := ev_nfK (hV 3 33 rfl (hpre 3 (by kernel_rfl)))
                have n9 : D 9 = false := by
                  cases hd : D 9 with
                  | false => rfl
                  | true => exact absurd (hcl 5 4 (hcl 7 5 (hcl 9 7 hd (by kernel_rfl)) (by kernel_rfl)) (by kernel_rfl)) (by rw [hD]; exact Bool.false_ne_true)
                have j1 := h1 n9
                have zE := aE.grow j1
                have zW := kW.touch (j1.touch (fun _ => False)) id
                refine runsTo_monoY (Q := fun uu w2 => w2 = w1 ∧ uu = (.pointer (some ⟨b, off + zi, none⟩) : Value)) ?_ (fun uu w2 hq => ⟨(), ?_, fun _ _ _ => rfl, .inr hq.2⟩)
                · clear h1 h2 j1
                  go_simp
                  all_goals (first | exact ⟨rfl, rfl⟩ | rfl)
                · obtain ⟨rfl, _⟩ := hq
                  exact ⟨fun _ => j1, fun hd => absurd (show D 9 = true by simpa using hd) (by rw [n9]; exact Bool.false_ne_true)⟩
              | 5, ho, hD, hpre =>
                cases (show some _ = some oo' from ho)
                have e34 := ev_nfK (hV 4 34 rfl (hpre 4 (by kernel_rfl)))
                have n9 : D 9 = false := by
                  cases hd : D 9 with
                  | false => rfl
                  | true => exact absurd (hcl 7 5 (hcl 9 7 hd (by kernel_rfl)) (by kernel_rfl)) (by rw [hD]; exact Bool.false_ne_true)
                have j1 := h1 n9
                have zE := aE.grow j1
                have zW := kW.touch (j1.touch (fun _ => False)) id
                refine runsTo_monoY (Q := fun uu w2 => w2 = w1 ∧ uu = (.int .u64 (x : Int) : Value)) ?_ (fun uu w2 hq => ⟨(), ?_, fun _ _ _ => rfl, .inr hq.2⟩)
                · clear h1 h2 j1
                  go_simp
                  all_goals (first | exact ⟨rfl, rfl⟩ | rfl)
                · obtain ⟨rfl, _⟩ := hq
                  exact ⟨fun _ => j1, fun hd => absurd (show D 9 = true by simpa using hd) (by rw [n9]; exact Bool.false_ne_true)⟩
              | 6, ho, hD, hpre =>
                cases (show some _ = some oo' from ho)
                have e5 := ev_nfK ((hO 5 (notDstL (by kernel_rfl))).trans rfl)
                have n9 : D 9 = false := by
                  cases hd : D 9 with
                  | false => rfl
                  | true => exact absurd (hcl 7 6 (hcl 9 7 hd (by kernel_rfl)) (by kernel_rfl)) (by rw [hD]; exact Bool.false_ne_true)
                have j1 := h1 n9
                have zE := aE.grow j1
                have zW := kW.touch (j1.touch (fun _ => False)) id
                refine runsTo_monoY (Q := fun uu w2 => w2 = w1 ∧ uu = (.agg #[.int .u64 f1, .int .u64 f2] : Value)) ?_ (fun uu w2 hq => ⟨(), ?_, fun _ _ _ => rfl, .inr hq.2⟩)
                · clear h1 h2 j1
                  go_simp
                  all_goals (first | exact ⟨rfl, rfl⟩ | rfl)
                · obtain ⟨rfl, _⟩ := hq
                  exact ⟨fun _ => j1, fun hd => absurd (show D 9 = true by simpa using hd) (by rw [n9]; exact Bool.false_ne_true)⟩
              | 7, ho, hD, hpre =>
                cases (show some _ = some oo' from ho)
                have e35 := ev_nfK (hV 5 35 rfl (hpre 5 (by kernel_rfl)))
                have e36 := ev_nfK (hV 6 36 rfl (hpre 6 (by kernel_rfl)))
                have n9 : D 9 = false := by
                  cases hd : D 9 with
                  | false => rfl
                  | true => exact absurd (hcl 9 7 hd (by kernel_rfl)) (by rw [hD]; exact Bool.false_ne_true)
                have j1 := h1 n9
                have CC := hide (CU.out w1)
                refine runsTo_monoY (Q := fun uu w2 => uu = (.int .u64 (v : Int) : Value) ∧ Grows w1 w2) ?_ (fun uu w2 hq => ⟨(), ⟨fun _ => j1.trans hq.2, fun hd => absurd (show D 9 = true by simpa using hd) (by rw [n9]; exact Bool.false_ne_true)⟩, fun _ _ _ => rfl, .inr hq.1⟩)
                clear h1 h2 j1
                go_simp
                refine CC.out.mono ?_
                rintro e w2 ⟨rfl, hg5⟩
                exact ⟨_, rfl, rfl, hg5⟩
              | 8, ho, hD, hpre =>
                cases (show some _ = some oo' from ho)
                have e30 := ev_nfK (hV 0 30 rfl (hpre 0 (by kernel_rfl)))
                have e31 := ev_nfK (hV 1 31 rfl (hpre 1 (by kernel_rfl)))
                have n9 : D 9 = false := by
                  cases hd : D 9 with
                  | false => rfl
                  | true => exact absurd (hcl 9 8 hd (by kernel_rfl)) (by rw [hD]; exact Bool.false_ne_true)
                have j1 := h1 n9
                have zE := aE.grow j1
                have zW := kW.touch (j1.touch (fun _ => False)) id
                refine runsTo_monoY (Q := fun uu w2 => w2 = w1 ∧ uu = (.pointer (some ⟨g, zi, none⟩) : Value)) ?_ (fun uu w2 hq => ⟨(), ?_, fun _ _ _ => rfl, .inr hq.2⟩)
                · clear h1 h2 j1
                  go_simp
                  all_goals (first | exact ⟨rfl, rfl⟩ | rfl)
                · obtain ⟨rfl, _⟩ := hq
                  exact ⟨fun _ => j1, fun hd => absurd (show D 9 = true by simpa using hd) (by rw [n9]; exact Bool.false_ne_true)⟩
              | 9, ho, hD, hpre =>
                cases (show some _ = some oo' from ho)
                have e38 := ev_nfK (hV 8 38 rfl (hpre 8 (by kernel_rfl)))
                have e37 := ev_nfK (hV 7 37 rfl (hpre 7 (by kernel_rfl)))
                have n9 : D 9 = false := hD
                have j1 := h1 n9
                have mM : Mine w1 ⟨g, zi, none⟩ (.int .u64 old) := mO.out.growR j1
                refine runsTo_monoY (Q := fun uu w2 => w2 = w1.setCell ⟨g, zi, none⟩ (.int .u64 (v : Int))) ?_ (fun uu w2 hq => ⟨(), ⟨fun hd => absurd hd (by simp), fun _ => ⟨w1, j1, hq⟩⟩, fun _ _ _ => rfl, .inl rfl⟩)
                clear h1 h2 j1
                go_simp
                all_goals rfl
              | n + 10, ho, hD, hpre => cases ho
          case he =>
            subst hVV
            intro q9 w1 hM
            obtain ⟨wx, hgx, rfl⟩ := hM.2 rfl
            simp only [putAll, dstOf, List.length_cons, List.length_nil, Nat.reduceAdd, List.getElem?_cons_zero, List.getElem?_cons_succ, Option.bind_some, List.getD_cons_zero, List.getD_cons_succ, Act.put, List.setIfInBounds_toArray, List.set_cons_zero, List.set_cons_succ]
            obtain ⟨y2, e2, o2⟩ := HSET.out wx hgx
            have HO2 := hide o2
            rw [e2]
            clear HO hWR o2
            go_wp2_with fail
            go_roundw
            case measure => simp [Go.RowKit.intOf]; omega
            case rel => exact ⟨q + 1, by omega, by go_num, y2, rfl, HO2⟩
        · have HST := hide (show rsK W l f1 f2 (q + 1) = rsK W l f1 f2 q from rsK_out hql (by have := HLEN.out; omega))
          have HO2 := hide (show Own y.now wg.heap.size 41 1 A1 n c1 (wv (rsK W l f1 f2 (q + 1))) from by rw [HST.out]; exact HO.out)
          have hzz : (decide ((0 : Int) ≤ gi l q) = false) ∨ (decide ((0 : Int) ≤ gi l q) = true ∧ decide (gi l q < (n : Int)) = false) := by
            by_cases h0 : 0 ≤ gi l q
            · exact .inr ⟨decide_eq_true h0, decide_eq_false (by omega)⟩
            · exact .inl (decide_eq_false h0)
          generalize gi l q = z at *
          clear hz hql HST
          rcases hzz with hz1 | ⟨hz1, hz2⟩
          all_goals
            go_wp2_with fail
            go_roundw
            case measure => simp [Go.RowKit.intOf]; omega
            case rel => exact ⟨q + 1, by omega, by go_num, y, rfl, HO2⟩
      · obtain rfl : m = q := by omega
        go_wp2_with fail
        go_ret
        exact ⟨A1, c1, rfl, by
          have h5 := HO.out.base (B' := w.heap.size) hgg.size
          unfold raiseL
          rw [HLL.out]
          exact h5, hgg.trans y.grows⟩
end Go.Proofs.YtgplpgldhoelcaaGreat

namespace Go.Proofs.YtgplpgldhoelcaaGreat
open Go Go.RowKit
section
variable {w : World} {e : TypeId} {ops : Array Oper} {rest : List Oper} {o : Oper} {a : Act} {Q : Exit → Act → World → Prop}
theorem wp_appT {t : TypeId} {size : Nat} (E : Elem t e size) (hgd : o.guard = none) (s x : Operand) (ho : o.op = .call { callee := .builtin .append, args := #[s, x], argTypes := #[t, t] })
    (B : Nat) (hB : B ≤ w.heap.size) (n c : Nat) (A : Option Addr) (xs : List Value) (hs : a.eval s = .slice A n c) (hown : Own w B e size A n c xs) (g c' : Nat) (news : List Value) (hx : a.eval x = .slice (some ⟨g, 0, none⟩) 1 c')
    (hl : news.length = size) (hv : ∀ j u, news[j]? = some u → w.cell? ⟨g, j, none⟩ = some u) (h1 : ∀ u ∈ news, u.oneCell' = true) (hnm : n + 1 ≤ 1000000000000)
    (h : ∀ A' c'' w', Own w' B e size A' (n + 1) c'' (xs ++ news) → Touch (fun k => ∃ p, A = some p ∧ p.block = k) w w' → (∀ p, A' = some p → (∃ q, A = some q ∧ q.block = p.block) ∨ New w w' p.block) → wpList Tryz.prog ops Q rest (a.put o.dst (.slice A' (n + 1) c'')) w') :
    wpList Tryz.prog ops Q (o :: rest) a w := by
  obtain ⟨i, z, bytes, hi, hz, hsz, hby, hzs, hb64⟩ := E.info
  obtain ⟨v', w', hr, hown', hgr, _, hat⟩ := run_append_own_at (P := Tryz.prog) w B t o.type e i z size bytes E.under hi hz hsz hby hzs E.pos (.slice A n c) n xs hown ⟨g, 0, none⟩ 1 c' news (by omega) (fun j u hu => by rw [add_pl2, Nat.zero_add]; exact hv j u hu) h1 (by unfold maxLen; omega) (Nat.le_trans (Nat.mul_le_mul hnm hb64) (by omega)) hB
  refine Lib.wpList_append_run w hgd s x t t ho _ _ hs hx _ w' hr ?_
  obtain ⟨A', c'', rfl⟩ := own_form hown'
  refine h A' c'' w' hown' ((Touch.refl _ w).grown hgr fun k hk => .inl (by
    cases A with
    | none => simp [Value.ownBlock] at hk
    | some p => simp [Value.ownBlock] at hk; exact ⟨p, rfl, hk⟩)) fun p hp => ?_
  subst hp
  simp only [Value.ownBlock] at hat
  rcases hat with hat | hat
  · cases A with
    | none => cases hat
    | some q => injection hat with hat; exact .inl ⟨q, rfl, hat.symm⟩
  · injection hat with hat
    exact .inr ⟨by omega, (World.ownsRow.lt hown' p.block rfl).2⟩
end
end Go.Proofs.YtgplpgldhoelcaaGreat

