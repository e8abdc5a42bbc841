/- A region that draws its order, by an invariant: what is known while some of its operations are done. -/
import Derived.Test.YtomednfddpggaaaGreatQBridgeRows00
import Derived.Test.YtomednfddpggaaaGreatQBridgeRows02
import Derived.Test.YtomednfddpggaaaGreatQBridgeRows08
import Derived.Test.YtomednfddpggaaaGreatQBridgeRows22
import Derived.Test.YtomednfddpggaaaGreatQBridgeRows04
import Derived.Test.YtomednfddpggaaaGreatQBridgeRows10
import Derived.Test.YtomednfddpggaaaGreatQBridgeRows06
import Derived.WalkMore
import Derived.Deep.DeepCutAuto
/- A region that draws its order, by an invariant: what is known while some of its operations are done. -/
namespace Go.Proofs.YtomednfddpggaaaGreat
open Go
section
variable {P : Program}
theorem ready_mem {md : Region.Mode} {ops : Array Oper} {listed : Array Bool} {i : Nat} : i ∈ Region.ready md ops listed ↔ i < ops.size ∧ listed.getD i true = false ∧ ∃ o, ops[i]? = some o ∧ ∀ e ∈ o.after, Region.binds md e = true → listed.getD e.on false = true := by
  unfold Region.ready
  rw [List.mem_filter, List.mem_range]
  constructor
  · rintro ⟨h1, h2⟩
    rw [Bool.and_eq_true, Bool.not_eq_true'] at h2
    refine ⟨h1, h2.1, ops[i], by simp [h1], fun e he hb => ?_⟩
    have h3 := h2.2
    simp only [Array.getElem?_eq_getElem h1, Option.map_some, Option.getD_some, Array.all_eq_true'] at h3
    have := h3 e he
    rw [hb] at this
    simpa using this
  · rintro ⟨h1, h2, o, h3, h4⟩
    refine ⟨h1, ?_⟩
    rw [h2, h3]
    simp only [Bool.not_false, Bool.true_and, Option.map_some, Option.getD_some, Array.all_eq_true']
    intro e he
    cases hb : Region.binds md e
    · rfl
    · simpa using h4 e he hb
def backB (l : List Oper) : Bool := (List.range l.length).all fun i => match l[i]? with | some o => o.after.all fun e => !Region.binds .any e || decide (e.on < i) | none => true
theorem backB_spec {l : List Oper} (h : backB l = true) {i : Nat} {o : Oper} (ho : l[i]? = some o) {e : Edge} (he : e ∈ o.after) (hb : Region.binds .any e = true) : e.on < i := by
  unfold backB at h
  rw [List.all_eq_true] at h
  have hi : i < l.length := (List.getElem?_eq_some_iff.1 ho).1
  have := h i (by simpa using hi)
  rw [ho] at this
  simp only [Array.all_eq_true'] at this
  have := this e he
  rw [hb] at this
  simpa using this
theorem all_listed {l : List Oper} (hB : backB l = true) {listed : Array Bool} (hs : listed.size = l.length) (h : Region.ready .any l.toArray listed = []) : ∀ n j, j < n → j < l.length → listed.getD j true = true := by
  intro n
  induction n with
  | zero => intro j hj; omega
  | succ n ih =>
    intro j hj hl
    by_cases hjn : j < n
    · exact ih j hjn hl
    · cases hd : listed.getD j true with
      | true => rfl
      | false =>
        exfalso
        have : j ∈ Region.ready .any l.toArray listed := ready_mem.2 ⟨by simpa using hl, hd, l[j], by simp [hl], fun e he hb => by
          have h1 := backB_spec hB (i := j) (o := l[j]) (by simp [hl]) he hb
          have h2 := ih e.on (by omega) (by omega)
          have h3 : e.on < listed.size := by omega
          simp only [Array.getD, h3, dite_true] at h2 ⊢
          exact h2⟩
        rw [h] at this
        cases this
variable {l : List Oper} {Q : Exit → Act → World → Prop}
theorem set_getD (listed : Array Bool) (i : Nat) (hi : i < listed.size) : (fun j => (listed.setIfInBounds i true).getD j true) = fun j => if j = i then true else listed.getD j true := by
  funext j
  by_cases h : j = i
  · subst h; simp [Array.getD, hi]
  · rw [if_neg h]
    simp only [Array.getD, Array.size_setIfInBounds]
    by_cases hj : j < listed.size
    · simp [hj, Array.getElem_setIfInBounds, Ne.symm h]
    · simp [hj]
theorem wpAny_inv (hB : backB l = true) (I : (Nat → Bool) → Act → World → Prop)
    (hs : ∀ D a w, I D a w → ∀ i o, l[i]? = some o → D i = false → (∀ e ∈ o.after, Region.binds .any e = true → D e.on = true) → ∀ K : Act → World → Prop, (∀ a' w', I (fun j => if j = i then true else D j) a' w' → K a' w') →
      if Region.wanted o (yielded l.toArray a.tmps) = true then Oper.wp P o a w K Q else K (a.put o.dst undef) w)
    (he : ∀ D a w, I D a w → (∀ j, j < l.length → D j = true) → Q .normal a w) :
    ∀ (fuel : Nat) (listed : Array Bool) (a : Act) (w : World), listed.size = l.length → listed.toList.count false ≤ fuel → I (fun j => listed.getD j true) a w → wpAny P .any l.toArray Q fuel listed a w
  | 0, listed, a, w, hl, hc, hI => by
    have hall : ∀ j, j < l.length → listed.getD j true = true := fun j hj => by
      have h0 : listed.toList.count false = 0 := by omega
      rw [List.count_eq_zero] at h0
      have h1 : j < listed.size := by omega
      cases hd : listed.getD j true with
      | true => rfl
      | false =>
        exfalso
        simp only [Array.getD, h1, dite_true] at hd
        exact h0 (by rw [← hd]; simp)
    refine ⟨?_, he _ a w hI hall⟩
    rw [List.eq_nil_iff_forall_not_mem]
    intro i hi
    obtain ⟨h1, h2, _⟩ := ready_mem.1 hi
    rw [hall i (by simpa using h1)] at h2
    cases h2
  | fuel + 1, listed, a, w, hl, hc, hI => by
    refine ⟨fun hn => he _ a w hI fun j hj => all_listed hB hl hn (j + 1) j (by omega) hj, fun i hi => ?_⟩
    obtain ⟨h1, h2, o, h3, h4⟩ := ready_mem.1 hi
    have hil : i < listed.size := by rw [hl]; simpa using h1
    have hst := hs _ a w hI i o (by simpa using h3) h2 (fun e he hb => by
      have := h4 e he hb
      by_cases hj : e.on < listed.size
      · simp only [Array.getD, hj, dite_true] at this ⊢; exact this
      · simp [Array.getD, hj]) (wpAny P .any l.toArray Q fuel (listed.setIfInBounds i true)) (fun a' w' hI' => by
      refine wpAny_inv hB I hs he fuel _ a' w' (by simpa using hl) ?_ (by rw [set_getD listed i hil]; exact hI')
      have hd : listed[i] = false := by have h9 := h2; simp only [Array.getD, hil, dite_true] at h9; exact h9
      have : (listed.setIfInBounds i true).toList = listed.toList.set i true := by simp
      rw [this, List.count_set (by simpa using hil)]
      have e1 : listed.toList[i]'(by simpa using hil) = false := by simpa using hd
      rw [e1]
      have : 0 < listed.toList.count false := List.count_pos_iff.2 (by rw [← e1]; exact List.getElem_mem _)
      simp
      simp at hc this
      omega)
    unfold wpOp
    rw [h3]
    simp only
    split
    · rename_i hw
      rw [if_pos hw] at hst
      exact .inl hst
    · rename_i hw
      rw [if_neg hw] at hst
      exact hst
theorem wp_region_inv {id : Nat} {a : Act} {w : World} (hm : P.follows .mixedOrders = true) (hB : backB l = true) (I : (Nat → Bool) → Act → World → Prop) (h0 : I (fun j => decide (l.length ≤ j)) a w.drew)
    (hs : ∀ D a w, I D a w → ∀ i o, l[i]? = some o → D i = false → (∀ e ∈ o.after, Region.binds .any e = true → D e.on = true) → ∀ K : Act → World → Prop, (∀ a' w', I (fun j => if j = i then true else D j) a' w' → K a' w') →
      if Region.wanted o (yielded l.toArray a.tmps) = true then Oper.wp P o a w K Q else K (a.put o.dst undef) w)
    (he : ∀ D a w, I D a w → (∀ j, j < l.length → D j = true) → Q .normal a w) : (Code.region id l.toArray true).wp P Q a w := by
  refine wp_region_any hm ?_
  refine wpAny_inv hB I hs he _ _ a _ (by simp) (by simp) ?_
  have : (fun j => (Array.replicate l.toArray.size false).getD j true) = fun j => decide (l.length ≤ j) := by
    funext j
    by_cases hj : j < l.length
    · simp [Array.getD, hj]
    · simp [Array.getD, hj]; omega
  rw [this]
  exact h0
def dstOf (l : List Oper) (j : Nat) : Option Tmp := (l[j]?).bind (·.dst)
def injB (l : List Oper) : Bool := (List.range l.length).all fun i => (List.range l.length).all fun j => decide (i = j) || decide (dstOf l i = none) || decide (dstOf l i ≠ dstOf l j)
theorem injB_spec (h : injB l = true) {i j : Nat} {t : Tmp} (hi : dstOf l i = some t) (hj : dstOf l j = some t) : i = j := by
  have lt : ∀ {k : Nat}, dstOf l k = some t → k < l.length := fun {k} hk => by
    rcases Nat.lt_or_ge k l.length with h | h
    · exact h
    · rw [dstOf, List.getElem?_eq_none h] at hk; cases hk
  unfold injB at h
  rw [List.all_eq_true] at h
  have h1 := h i (by simpa using lt hi)
  rw [List.all_eq_true] at h1
  have h2 := h1 j (by simpa using lt hj)
  simp only [Bool.or_eq_true, decide_eq_true_eq] at h2
  rcases h2 with (h2 | h2) | h2
  · exact h2
  · rw [hi] at h2; cases h2
  · rw [hi, hj] at h2; exact absurd rfl h2
structure TabI (l : List Oper) (a0 : Act) (D : Nat → Bool) (g : Nat → Value) (a : Act) : Prop where
  d : a.defers = a0.defers
  n : a.tmps.size = a0.tmps.size
  out : ∀ t, (∀ j, dstOf l j ≠ some t) → a.eval (.tmp t) = a0.eval (.tmp t)
  at_ : ∀ j t, dstOf l j = some t → D j = true → a.eval (.tmp t) = g j
theorem put_eval (a : Act) (t s : Tmp) (v : Value) (ht : t < a.tmps.size) : (a.put (some t) v).eval (.tmp s) = if s = t then v else a.eval (.tmp s) := by
  show (a.tmps.setIfInBounds t v).getD s undef = if s = t then v else a.tmps.getD s undef
  by_cases h : s = t
  · subst h
    simp [Array.getD, ht]
  · rw [if_neg h]
    simp only [Array.getD, Array.size_setIfInBounds]
    by_cases hs : s < a.tmps.size
    · simp [hs, Array.getElem_setIfInBounds, Ne.symm h]
    · simp [hs]
def updG (g : Nat → Value) (i : Nat) (v : Value) : Nat → Value := fun j => if j = i then v else g j
theorem TabI.put {a0 : Act} {D : Nat → Bool} {g : Nat → Value} {a : Act} (hJ : injB l = true) (h : TabI l a0 D g a) {i : Nat} {o : Oper} (ho : l[i]? = some o) (hsz : ∀ t, o.dst = some t → t < a0.tmps.size) (v : Value) :
    TabI l a0 (fun j => if j = i then true else D j) (updG g i v) (a.put o.dst v) := by
  have hd : dstOf l i = o.dst := by simp [dstOf, ho]
  cases hdst : o.dst with
  | none =>
    refine ⟨h.d, h.n, h.out, fun j t hj hD => ?_⟩
    have hji : j ≠ i := fun e => by rw [e, hd, hdst] at hj; cases hj
    simp only [updG, if_neg hji] at hD ⊢
    exact h.at_ j t hj hD
  | some s =>
    have hs : s < a.tmps.size := by rw [h.n]; exact hsz s hdst
    refine ⟨h.d, by simpa [Act.put] using h.n, fun t ht => ?_, fun j t hj hD => ?_⟩
    · rw [put_eval _ _ _ _ hs, if_neg (fun e => by subst e; exact ht i (by rw [hd, hdst]))]
      exact h.out t ht
    · rw [put_eval _ _ _ _ hs]
      by_cases hji : j = i
      · subst hji
        rw [hd, hdst] at hj
        injection hj with hj
        rw [if_pos hj.symm]
        simp [updG]
      · simp only [updG, if_neg hji] at hD ⊢
        rw [if_neg (fun e => by subst e; exact hji (injB_spec hJ hj (by rw [hd, hdst])))]
        exact h.at_ j t hj hD
def putAll (l : List Oper) (g : Nat → Value) (a0 : Act) : Nat → Act
  | 0 => a0
  | k + 1 => (putAll l g a0 k).put (dstOf l k) (g k)
theorem putAll_size (l : List Oper) (g : Nat → Value) (a0 : Act) : ∀ k, (putAll l g a0 k).tmps.size = a0.tmps.size
  | 0 => rfl
  | k + 1 => by
    have ih := putAll_size l g a0 k
    simp only [putAll]
    cases dstOf l k with
    | none => exact ih
    | some t => simpa [Act.put] using ih
theorem putAll_defers (l : List Oper) (g : Nat → Value) (a0 : Act) : ∀ k, (putAll l g a0 k).defers = a0.defers
  | 0 => rfl
  | k + 1 => by
    have ih := putAll_defers l g a0 k
    simp only [putAll]
    cases dstOf l k with
    | none => exact ih
    | some t => exact ih
theorem putAll_eval (hJ : injB l = true) (g : Nat → Value) (a0 : Act) (hsz : ∀ j t, dstOf l j = some t → t < a0.tmps.size) (t : Tmp) : ∀ k, (∀ j, j < k → dstOf l j = some t → (putAll l g a0 k).eval (.tmp t) = g j) ∧ ((∀ j, j < k → dstOf l j ≠ some t) → (putAll l g a0 k).eval (.tmp t) = a0.eval (.tmp t))
  | 0 => ⟨fun j hj => absurd hj (by omega), fun _ => rfl⟩
  | k + 1 => by
    obtain ⟨ih1, ih2⟩ := putAll_eval hJ g a0 hsz t k
    simp only [putAll]
    cases hk : dstOf l k with
    | none =>
      refine ⟨fun j hj hd => ?_, fun h => ih2 fun j hj => h j (by omega)⟩
      by_cases e : j = k
      · subst e; rw [hk] at hd; cases hd
      · exact ih1 j (by omega) hd
    | some s =>
      have hs : s < (putAll l g a0 k).tmps.size := by rw [putAll_size]; exact hsz k s hk
      refine ⟨fun j hj hd => ?_, fun h => ?_⟩
      · rw [put_eval _ _ _ _ hs]
        by_cases e : j = k
        · subst e
          rw [hk] at hd
          injection hd with hd
          rw [if_pos hd.symm]
        · rw [if_neg (fun e2 => by subst e2; exact e (injB_spec hJ hd hk))]
          exact ih1 j (by omega) hd
      · rw [put_eval _ _ _ _ hs, if_neg (fun e => by subst e; exact h k (by omega) hk)]
        exact ih2 fun j hj => h j (by omega)
theorem TabI.all {a0 : Act} {D : Nat → Bool} {g : Nat → Value} {a : Act} (hJ : injB l = true) (h : TabI l a0 D g a) (hD : ∀ j, j < l.length → D j = true) (hsz : ∀ j t, dstOf l j = some t → t < a0.tmps.size) : a = putAll l g a0 l.length := by
  have key : ∀ t : Nat, a.eval (.tmp t) = (putAll l g a0 l.length).eval (.tmp t) := fun t => by
    obtain ⟨h1, h2⟩ := putAll_eval hJ g a0 hsz t l.length
    by_cases hj : ∃ j, j < l.length ∧ dstOf l j = some t
    · obtain ⟨j, hj, hd⟩ := hj
      rw [h1 j hj hd]
      exact h.at_ j t hd (hD j hj)
    · have hn : ∀ j, dstOf l j ≠ some t := fun j hd => hj ⟨j, (by
        rcases Nat.lt_or_ge j l.length with h | h
        · exact h
        · rw [dstOf, List.getElem?_eq_none h] at hd; cases hd), hd⟩
      rw [h2 fun j _ => hn j]
      exact h.out t hn
  have e1 : a.tmps = (putAll l g a0 l.length).tmps := by
    refine Array.ext (by rw [h.n, putAll_size]) fun t h1 h2 => ?_
    have := key t
    simp only [Act.eval, Array.getD, h1, h2, dite_true] at this
    exact this
  have e2 : a.defers = (putAll l g a0 l.length).defers := by rw [h.d, putAll_defers]
  cases a
  simp only at e1 e2
  subst e1 e2
  rfl
def waitB (l : List Oper) (i j : Nat) : Bool := match l[i]? with | some o => o.after.any fun e => decide (e.on = j) && Region.binds .any e | none => false
theorem waitB_spec {i j : Nat} {o : Oper} (ho : l[i]? = some o) (h : waitB l i j = true) : ∃ e ∈ o.after, e.on = j ∧ Region.binds .any e = true := by
  unfold waitB at h
  rw [ho] at h
  simp only [Array.any_eq_true'] at h
  obtain ⟨e, he, h⟩ := h
  rw [Bool.and_eq_true, decide_eq_true_eq] at h
  exact ⟨e, he, h.1, h.2⟩
theorem wp_region_tab {id : Nat} {a0 : Act} {w : World} (hm : P.follows .mixedOrders = true) (hB : backB l = true) (hJ : injB l = true) (hsz : ((List.range l.length).all fun j => match dstOf l j with | some t => decide (t < a0.tmps.size) | none => true) = true)
    (J : (Nat → Bool) → (Nat → Value) → World → Prop) (h0 : J (fun j => decide (l.length ≤ j)) (fun _ => undef) w.drew)
    (hs : ∀ D g a w, TabI l a0 D g a → J D g w → (∀ i j, D i = true → waitB l i j = true → D j = true) → ∀ i o, l[i]? = some o → D i = false → (∀ j, waitB l i j = true → D j = true) → ∀ K : Act → World → Prop, (∀ v w', J (fun j => if j = i then true else D j) (updG g i v) w' → K (a.put o.dst v) w') →
      if Region.wanted o (yielded l.toArray a.tmps) = true then Oper.wp P o a w K Q else K (a.put o.dst undef) w)
    (he : ∀ D g w, J D g w → (∀ j, j < l.length → D j = true) → Q .normal (putAll l g a0 l.length) w) : (Code.region id l.toArray true).wp P Q a0 w := by
  have hsz' : ∀ j t, dstOf l j = some t → t < a0.tmps.size := fun j t hd => by
    have hj : j < l.length := by
      rcases Nat.lt_or_ge j l.length with h | h
      · exact h
      · rw [dstOf, List.getElem?_eq_none h] at hd; cases hd
    rw [List.all_eq_true] at hsz
    have := hsz j (by simpa using hj)
    rw [hd] at this
    simpa using this
  refine wp_region_inv hm hB (fun D a w => (∃ g, TabI l a0 D g a ∧ J D g w) ∧ ∀ i j, D i = true → waitB l i j = true → D j = true) ⟨⟨fun _ => undef, ⟨rfl, rfl, fun _ _ => rfl, fun j t hd hD => ?_⟩, h0⟩, fun i j hD hE => ?_⟩ ?_ ?_
  · exfalso
    rw [decide_eq_true_eq] at hD
    rw [dstOf, List.getElem?_eq_none hD] at hd
    cases hd
  · exfalso
    rw [decide_eq_true_eq] at hD
    unfold waitB at hE
    rw [List.getElem?_eq_none hD] at hE
    cases hE
  · rintro D a w ⟨⟨g, ht, hj⟩, hcl⟩ i o ho hD hpre K hK
    have hpre' : ∀ j, waitB l i j = true → D j = true := fun j hE => by
      obtain ⟨e, he, rfl, hb⟩ := waitB_spec ho hE
      exact hpre e he hb
    refine hs D g a w ht hj hcl i o ho hD hpre' K fun v w' hj' => hK _ _ ⟨⟨_, ht.put hJ ho (fun t hd => hsz' i t (by simp [dstOf, ho, hd])) v, hj'⟩, fun i' j hDi hE => ?_⟩
    show (if j = i then true else D j) = true
    by_cases e : j = i
    · rw [if_pos e]
    · rw [if_neg e]
      by_cases e2 : i' = i
      · subst e2; exact hpre' j hE
      · have hDi' : (if i' = i then true else D i') = true := hDi
        rw [if_neg e2] at hDi'
        exact hcl i' j hDi' hE
  · rintro D a w ⟨⟨g, ht, hj⟩, _⟩ hD
    rw [ht.all hJ hD hsz']
    exact he D g w hj hD
end
end Go.Proofs.YtomednfddpggaaaGreat

/- Regions that draw their order: what each operation leaves is known, whatever is done already; stores go to cells that no other operation reads. -/
namespace Go.Proofs.YtomednfddpggaaaGreat
open Go Go.RowKit
section
variable {P : Program} {Q : Exit → Act → World → Prop} {l : List Oper}
def knowB (l : List Oper) : Bool := (List.range l.length).all fun i => match l[i]? with
  | some o => o.guard.isNone && (match o.op with | .select .. => false | _ => true) && ((o.looksAt l.toArray).all fun t => ((List.range l.length).all fun j => decide (dstOf l j ≠ some t)) || ((List.range l.length).any fun j => decide (dstOf l j = some t) && waitB l i j))
  | none => true
theorem knowB_spec (h : knowB l = true) {i : Nat} {o : Oper} (ho : l[i]? = some o) : o.guard = none ∧ (∀ cs b, o.op ≠ .select cs b) ∧ ∀ t ∈ o.looksAt l.toArray, (∀ j, dstOf l j ≠ some t) ∨ ∃ j, dstOf l j = some t ∧ waitB l i j = true := by
  unfold knowB at h
  rw [List.all_eq_true] at h
  have hi : i < l.length := (List.getElem?_eq_some_iff.1 ho).1
  have h1 := h i (by simpa using hi)
  simp only [ho, Bool.and_eq_true, Option.isNone_iff_eq_none] at h1
  obtain ⟨⟨h2, h3⟩, h4⟩ := h1
  refine ⟨h2, fun cs b e => ?_, fun t ht => ?_⟩
  · rw [e] at h3; cases h3
  · rw [List.all_eq_true] at h4
    have h5 := h4 t ht
    rw [Bool.or_eq_true] at h5
    rcases h5 with h5 | h5
    · left
      intro j hj
      rw [List.all_eq_true] at h5
      have hlt : j < l.length := by
        rcases Nat.lt_or_ge j l.length with h | h
        · exact h
        · rw [dstOf, List.getElem?_eq_none h] at hj; cases hj
      have := h5 j (by simpa using hlt)
      exact of_decide_eq_true this hj
    · right
      rw [List.any_eq_true] at h5
      obtain ⟨j, _, h6⟩ := h5
      rw [Bool.and_eq_true, decide_eq_true_eq] at h6
      exact ⟨j, h6.1, h6.2⟩
theorem putAll_congr {g V : Nat → Value} (a0 : Act) : ∀ k, (∀ j, j < k → dstOf l j ≠ none → g j = V j) → putAll l g a0 k = putAll l V a0 k
  | 0, _ => rfl
  | k + 1, h => by
    have ih := putAll_congr a0 k (fun j hj => h j (by omega))
    simp only [putAll]
    rw [ih]
    cases hk : dstOf l k with
    | none => rfl
    | some t => rw [h k (by omega) (by rw [hk]; exact fun e => by cases e)]
theorem wp_region_know {id : Nat} {a0 : Act} {w : World} (hm : P.follows .mixedOrders = true) (hB : backB l = true) (hJ : injB l = true) (hsz : ((List.range l.length).all fun j => match dstOf l j with | some t => decide (t < a0.tmps.size) | none => true) = true) (hL : knowB l = true)
    (V : Nat → Value) (W : (Nat → Bool) → World) (h0 : W (fun j => decide (l.length ≤ j)) = w.drew)
    (hs : ∀ a : Act, (∀ j t, dstOf l j = some t → a.eval (.tmp t) = V j) → (∀ t, (∀ j, dstOf l j ≠ some t) → a.eval (.tmp t) = a0.eval (.tmp t)) → ∀ i o, l[i]? = some o → ∀ D : Nat → Bool, (∀ i j, D i = true → waitB l i j = true → D j = true) → D i = false → (∀ j, waitB l i j = true → D j = true) → runsTo P (fun u w' => w' = W (fun j => if j = i then true else D j) ∧ (o.dst = none ∨ u = V i)) ((execOp a.eval o).run P (W D)))
    (he : Q .normal (putAll l V a0 l.length) (W fun _ => true)) : (Code.region id l.toArray true).wp P Q a0 w := by
  have hsz' : ∀ j t, dstOf l j = some t → t < a0.tmps.size := fun j t hd => by
    have hj : j < l.length := by
      rcases Nat.lt_or_ge j l.length with h | h
      · exact h
      · rw [dstOf, List.getElem?_eq_none h] at hd; cases hd
    rw [List.all_eq_true] at hsz
    have := hsz j (by simpa using hj)
    rw [hd] at this
    simpa using this
  refine wp_region_tab hm hB hJ hsz (fun D g w' => w' = W D ∧ (∀ j, l.length ≤ j → D j = true) ∧ ∀ j, D j = true → j < l.length → dstOf l j ≠ none → g j = V j) ⟨h0.symm, fun j hj => decide_eq_true hj, fun j hD hj => ?_⟩ ?_ ?_
  · have := of_decide_eq_true hD; omega
  · rintro D g a w' hT ⟨rfl, hbig, hg⟩ hcl i o ho hD hpre K hK
    obtain ⟨k1, k2, k3⟩ := knowB_spec hL ho
    have hil : i < l.length := (List.getElem?_eq_some_iff.1 ho).1
    have hdst : dstOf l i = o.dst := by simp [dstOf, ho]
    rw [if_pos (by unfold Region.wanted; rw [k1])]
    have e : execOp a.eval o = execOp (putAll l V a0 l.length).eval o := by
      refine execOp_congr o k2 fun x hx => ?_
      cases x with
      | tmp t =>
        have ht : t ∈ o.looksAt l.toArray := List.mem_append_left _ (List.mem_filterMap.2 ⟨.tmp t, by simpa using hx, rfl⟩)
        obtain ⟨p1, p2⟩ := putAll_eval hJ V a0 hsz' t l.length
        rcases k3 t ht with h | ⟨j, hj, hw⟩
        · rw [hT.out t h, p2 (fun j _ => h j)]
        · have hjl : j < l.length := by
            rcases Nat.lt_or_ge j l.length with h | h
            · exact h
            · rw [dstOf, List.getElem?_eq_none h] at hj; cases hj
          rw [hT.at_ j t hj (hpre j hw), p1 j hjl hj, hg j (hpre j hw) hjl (by rw [hj]; exact fun e => by cases e)]
      | _ => rfl
    have step : ∀ u, (o.dst = none ∨ u = V i) → K (a.put o.dst u) (W (fun j => if j = i then true else D j)) := fun u hu => by
      refine hK u _ ⟨rfl, fun j hj => ?_, fun j hDj hj hd => ?_⟩
      · simp only []
        split
        · rfl
        · exact hbig j hj
      · by_cases hji : j = i
        · subst hji
          rcases hu with hu | hu
          · rw [hdst] at hd; exact absurd hu hd
          · simpa [updG] using hu
        · simp only [if_neg hji] at hDj
          simpa [updG, hji] using hg j hDj hj hd
    have hV : ∀ j t, dstOf l j = some t → (putAll l V a0 l.length).eval (.tmp t) = V j := fun j t hj => by
      have hjl : j < l.length := by
        rcases Nat.lt_or_ge j l.length with h | h
        · exact h
        · rw [dstOf, List.getElem?_eq_none h] at hj; cases hj
      exact (putAll_eval hJ V a0 hsz' t l.length).1 j hjl hj
    have hO : ∀ t, (∀ j, dstOf l j ≠ some t) → (putAll l V a0 l.length).eval (.tmp t) = a0.eval (.tmp t) := fun t h => (putAll_eval hJ V a0 hsz' t l.length).2 (fun j _ => h j)
    have hrun := hs _ hV hO i o ho D hcl hD hpre
    unfold Oper.wp
    rw [e]
    generalize (execOp (putAll l V a0 l.length).eval o).run P (W D) = res at hrun
    cases res with
    | halt x w' => simp only [runsTo] at hrun
    | ok x w' =>
      cases x <;> simp only [runsTo] at hrun <;> simp only [Oper.upon]
      case value u =>
        obtain ⟨rfl, h2⟩ := hrun
        exact step u h2
      case skip =>
        obtain ⟨rfl, h2⟩ := hrun
        exact step _ h2
      case enter f args =>
        refine hrun.mono fun e w'' ⟨u, he, h1, h2⟩ => ?_
        subst he h1
        exact step u h2
  · rintro D g w' ⟨rfl, hbig, hg⟩ hD
    have e1 : D = fun _ => true := funext fun j => by
      rcases Nat.lt_or_ge j l.length with h | h
      · exact hD j h
      · exact hbig j h
    subst e1
    rw [putAll_congr (V := V) a0 l.length (fun j hj hd => hg j rfl hj hd)]
    exact he
end
theorem ev_nfK {a : Act} {t : Tmp} {v : Value} (h : a.eval (.tmp t) = v) : a.tmps[t]?.getD undef = v := by
  rw [← h]
  simp [Act.eval]
theorem notDstK {l : List Oper} {t : Tmp} (h : (l.all fun o => decide (o.dst ≠ some t)) = true) : ∀ j, dstOf l j ≠ some t := fun j hj => by
  unfold dstOf at hj
  cases ho : l[j]? with
  | none => rw [ho] at hj; cases hj
  | some o =>
    rw [ho] at hj
    rw [List.all_eq_true] at h
    exact of_decide_eq_true (h o (List.mem_of_getElem? ho)) hj
def st2 (w : World) (i1 : Nat) (p1 : Addr) (v1 : Value) (i2 : Nat) (p2 : Addr) (v2 : Value) (D : Nat → Bool) : World :=
  if D i2 = true then (if D i1 = true then w.setCell p1 v1 else w).setCell p2 v2 else if D i1 = true then w.setCell p1 v1 else w
section
variable {w : World} {i1 i2 : Nat} {p1 p2 : Addr} {v1 v2 : Value} {D : Nat → Bool}
theorem st2_no {i : Nat} (h1 : i1 ≠ i) (h2 : i2 ≠ i) : st2 w i1 p1 v1 i2 p2 v2 (fun j => if j = i then true else D j) = st2 w i1 p1 v1 i2 p2 v2 D := by
  unfold st2
  simp only [if_neg h1, if_neg h2]
theorem st2_two (h : i1 ≠ i2) : st2 w i1 p1 v1 i2 p2 v2 (fun j => if j = i2 then true else D j) = (if D i1 = true then w.setCell p1 v1 else w).setCell p2 v2 := by
  unfold st2
  simp only [if_pos rfl, if_neg h, if_true]
theorem st2_b (h : i1 ≠ i2) (hD : D i2 = false) : st2 w i1 p1 v1 i2 p2 v2 (fun j => if j = i2 then true else D j) = (st2 w i1 p1 v1 i2 p2 v2 D).setCell p2 v2 := by
  rw [st2_two h]
  unfold st2
  rw [hD]
  simp
theorem set_comm (hp : p1.block ≠ p2.block) : (w.setCell p1 v1).setCell p2 v2 = (w.setCell p2 v2).setCell p1 v1 := by
  unfold World.setCell
  congr 1
  refine Array.ext (by simp) fun k h1 h2 => ?_
  simp only [Array.getElem_modify]
  by_cases e1 : p1.block = k
  · have e2 : p2.block ≠ k := fun e => hp (by rw [e1, e])
    simp [e1, e2]
  · by_cases e2 : p2.block = k
    · simp [e1, e2]
    · simp [e1, e2]
theorem st2_a (h : i1 ≠ i2) (hp : p1.block ≠ p2.block) (hD : D i1 = false) : st2 w i1 p1 v1 i2 p2 v2 (fun j => if j = i1 then true else D j) = (st2 w i1 p1 v1 i2 p2 v2 D).setCell p1 v1 := by
  unfold st2
  rw [hD]
  simp only [if_neg (Ne.symm h), if_true, Bool.false_eq_true, if_false]
  split
  · rw [set_comm hp]
  · rfl
theorem st2_start {n : Nat} (h1 : i1 < n) (h2 : i2 < n) : st2 w i1 p1 v1 i2 p2 v2 (fun j => decide (n ≤ j)) = w := by
  unfold st2
  rw [if_neg (by simp; omega), if_neg (by simp; omega)]
theorem st2_all : st2 w i1 p1 v1 i2 p2 v2 (fun _ => true) = (w.setCell p1 v1).setCell p2 v2 := rfl
theorem st2_arr {g : Nat} {t : TypeId} {cs : List Value} (h : Arr w g t cs) (h1 : p1.block ≠ g) (h2 : p2.block ≠ g) : Arr (st2 w i1 p1 v1 i2 p2 v2 D) g t cs := by
  unfold st2
  split
  · refine Arr.other ?_ h2 _
    split
    · exact h.other h1 _
    · exact h
  · split
    · exact h.other h1 _
    · exact h
theorem st2_len {g k1 k2 : Nat} {t : TypeId} {cs : List Value} (h : Arr w g t cs) (q1 : p1 = ⟨g, k1, none⟩ ∨ p1.block ≠ g) (q2 : p2 = ⟨g, k2, none⟩ ∨ p2.block ≠ g) : ∃ cs', Arr (st2 w i1 p1 v1 i2 p2 v2 D) g t cs' ∧ cs'.length = cs.length := by
  have s1 : ∀ {w : World} {cs : List Value} {p : Addr} {k : Nat} (v : Value), Arr w g t cs → (p = ⟨g, k, none⟩ ∨ p.block ≠ g) → ∃ cs', Arr (w.setCell p v) g t cs' ∧ cs'.length = cs.length := by
    intro w cs p k v h hp
    rcases hp with rfl | hp
    · exact ⟨_, h.set k v, by simp⟩
    · exact ⟨_, h.other hp v, rfl⟩
  unfold st2
  split
  · split
    · obtain ⟨cs', a1, a2⟩ := s1 v1 h q1
      obtain ⟨cs'', a3, a4⟩ := s1 v2 a1 q2
      exact ⟨cs'', a3, by omega⟩
    · exact s1 v2 h q2
  · split
    · exact s1 v1 h q1
    · exact ⟨cs, h, rfl⟩
end
end Go.Proofs.YtomednfddpggaaaGreat

/- Regions that draw their order, in a round of a range over a function: by an invariant, and where each operation's value is known. -/
namespace Go.Proofs.YtomednfddpggaaaGreat
open Go Go.RowKit
section
variable {F : Fence} {m : Nat} {P : Program} {Q : Exit → Act → World → Prop} {l : List Oper}
theorem wpAnyIn_inv (hF : WideF F) (hB : backB l = true) (I : (Nat → Bool) → Act → World → Prop)
    (hs : ∀ D a w, I D a w → ∀ i o, l[i]? = some o → D i = false → (∀ e ∈ o.after, Region.binds .any e = true → D e.on = true) → ∀ K : Act → World → Prop, (∀ a' w', I (fun j => if j = i then true else D j) a' w' → K a' w') →
      if Region.wanted o (yielded l.toArray a.tmps) = true then Oper.wpIn F m P o a w K Q else K (a.put o.dst undef) w)
    (he : ∀ D a w, I D a w → (∀ j, j < l.length → D j = true) → Q .normal a w) :
    ∀ (fuel : Nat) (listed : Array Bool) (a : Act) (w : World), listed.size = l.length → listed.toList.count false ≤ fuel → I (fun j => listed.getD j true) a w → wpAnyIn F m P .any l.toArray Q fuel listed a w
  | 0, listed, a, w, hl, hc, hI => by
    have hall : ∀ j, j < l.length → listed.getD j true = true := fun j hj => by
      have h0 : listed.toList.count false = 0 := by omega
      rw [List.count_eq_zero] at h0
      have h1 : j < listed.size := by omega
      cases hd : listed.getD j true with
      | true => rfl
      | false =>
        exfalso
        simp only [Array.getD, h1, dite_true] at hd
        exact h0 (by rw [← hd]; simp)
    refine ⟨?_, he _ a w hI hall⟩
    rw [List.eq_nil_iff_forall_not_mem]
    intro i hi
    obtain ⟨h1, h2, _⟩ := ready_mem.1 hi
    rw [hall i (by simpa using h1)] at h2
    cases h2
  | fuel + 1, listed, a, w, hl, hc, hI => by
    refine ⟨fun hn => he _ a w hI fun j hj => all_listed hB hl hn (j + 1) j (by omega) hj, fun i hi => ?_⟩
    obtain ⟨h1, h2, o, h3, h4⟩ := ready_mem.1 hi
    have hil : i < listed.size := by rw [hl]; simpa using h1
    have hst := hs _ a w hI i o (by simpa using h3) h2 (fun e he hb => by
      have := h4 e he hb
      by_cases hj : e.on < listed.size
      · simp only [Array.getD, hj, dite_true] at this ⊢; exact this
      · simp [Array.getD, hj]) (wpAnyIn F m P .any l.toArray Q fuel (listed.setIfInBounds i true)) (fun a' w' hI' => by
      refine wpAnyIn_inv hF hB I hs he fuel _ a' w' (by simpa using hl) ?_ (by rw [set_getD listed i hil]; exact hI')
      have hd : listed[i] = false := by have h9 := h2; simp only [Array.getD, hil, dite_true] at h9; exact h9
      have : (listed.setIfInBounds i true).toList = listed.toList.set i true := by simp
      rw [this, List.count_set (by simpa using hil)]
      have e1 : listed.toList[i]'(by simpa using hil) = false := by simpa using hd
      rw [e1]
      have : 0 < listed.toList.count false := List.count_pos_iff.2 (by rw [← e1]; exact List.getElem_mem _)
      simp
      simp at hc this
      omega)
    unfold wpOpIn
    rw [h3]
    simp only
    split
    · rename_i hw
      rw [if_pos hw] at hst
      exact hst
    · rename_i hw
      rw [if_neg hw] at hst
      exact ⟨fun f _ => hF.fn f, hst⟩
theorem wpIn_region_inv {id : Nat} {a : Act} {w : World} (hm : P.follows .mixedOrders = true) (hF : WideF F) (hB : backB l = true) (I : (Nat → Bool) → Act → World → Prop) (h0 : I (fun j => decide (l.length ≤ j)) a w.drew)
    (hs : ∀ D a w, I D a w → ∀ i o, l[i]? = some o → D i = false → (∀ e ∈ o.after, Region.binds .any e = true → D e.on = true) → ∀ K : Act → World → Prop, (∀ a' w', I (fun j => if j = i then true else D j) a' w' → K a' w') →
      if Region.wanted o (yielded l.toArray a.tmps) = true then Oper.wpIn F m P o a w K Q else K (a.put o.dst undef) w)
    (he : ∀ D a w, I D a w → (∀ j, j < l.length → D j = true) → Q .normal a w) : (Code.region id l.toArray true).wpIn F m P Q a w := by
  refine wpIn_region_any hm ?_
  refine wpAnyIn_inv hF hB I hs he _ _ a _ (by simp) (by simp) ?_
  have : (fun j => (Array.replicate l.toArray.size false).getD j true) = fun j => decide (l.length ≤ j) := by
    funext j
    by_cases hj : j < l.length
    · simp [Array.getD, hj]
    · simp [Array.getD, hj]; omega
  rw [this]
  exact h0
theorem wpIn_region_tab {id : Nat} {a0 : Act} {w : World} (hm : P.follows .mixedOrders = true) (hF : WideF F) (hB : backB l = true) (hJ : injB l = true) (hsz : ((List.range l.length).all fun j => match dstOf l j with | some t => decide (t < a0.tmps.size) | none => true) = true)
    (J : (Nat → Bool) → (Nat → Value) → World → Prop) (h0 : J (fun j => decide (l.length ≤ j)) (fun _ => undef) w.drew)
    (hs : ∀ D g a w, TabI l a0 D g a → J D g w → (∀ i j, D i = true → waitB l i j = true → D j = true) → ∀ i o, l[i]? = some o → D i = false → (∀ j, waitB l i j = true → D j = true) → ∀ K : Act → World → Prop, (∀ v w', J (fun j => if j = i then true else D j) (updG g i v) w' → K (a.put o.dst v) w') →
      if Region.wanted o (yielded l.toArray a.tmps) = true then Oper.wpIn F m P o a w K Q else K (a.put o.dst undef) w)
    (he : ∀ D g w, J D g w → (∀ j, j < l.length → D j = true) → Q .normal (putAll l g a0 l.length) w) : (Code.region id l.toArray true).wpIn F m P Q a0 w := by
  have hsz' : ∀ j t, dstOf l j = some t → t < a0.tmps.size := fun j t hd => by
    have hj : j < l.length := by
      rcases Nat.lt_or_ge j l.length with h | h
      · exact h
      · rw [dstOf, List.getElem?_eq_none h] at hd; cases hd
    rw [List.all_eq_true] at hsz
    have := hsz j (by simpa using hj)
    rw [hd] at this
    simpa using this
  refine wpIn_region_inv hm hF hB (fun D a w => (∃ g, TabI l a0 D g a ∧ J D g w) ∧ ∀ i j, D i = true → waitB l i j = true → D j = true) ⟨⟨fun _ => undef, ⟨rfl, rfl, fun _ _ => rfl, fun j t hd hD => ?_⟩, h0⟩, fun i j hD hE => ?_⟩ ?_ ?_
  · exfalso
    rw [decide_eq_true_eq] at hD
    rw [dstOf, List.getElem?_eq_none hD] at hd
    cases hd
  · exfalso
    rw [decide_eq_true_eq] at hD
    unfold waitB at hE
    rw [List.getElem?_eq_none hD] at hE
    cases hE
  · rintro D a w ⟨⟨g, ht, hj⟩, hcl⟩ i o ho hD hpre K hK
    have hpre' : ∀ j, waitB l i j = true → D j = true := fun j hE => by
      obtain ⟨e, he, rfl, hb⟩ := waitB_spec ho hE
      exact hpre e he hb
    refine hs D g a w ht hj hcl i o ho hD hpre' K fun v w' hj' => hK _ _ ⟨⟨_, ht.put hJ ho (fun t hd => hsz' i t (by simp [dstOf, ho, hd])) v, hj'⟩, fun i' j hDi hE => ?_⟩
    show (if j = i then true else D j) = true
    by_cases e : j = i
    · rw [if_pos e]
    · rw [if_neg e]
      by_cases e2 : i' = i
      · subst e2; exact hpre' j hE
      · have hDi' : (if i' = i then true else D i') = true := hDi
        rw [if_neg e2] at hDi'
        exact hcl i' j hDi' hE
  · rintro D a w ⟨⟨g, ht, hj⟩, _⟩ hD
    rw [ht.all hJ hD hsz']
    exact he D g w hj hD
theorem wpIn_region_know {id : Nat} {a0 : Act} {w : World} (hm : P.follows .mixedOrders = true) (hF : WideF F) (hnd : noDefer l = true) (hB : backB l = true) (hJ : injB l = true) (hsz : ((List.range l.length).all fun j => match dstOf l j with | some t => decide (t < a0.tmps.size) | none => true) = true) (hL : knowB l = true)
    (V : Nat → Value) (W : (Nat → Bool) → World) (h0 : W (fun j => decide (l.length ≤ j)) = w.drew)
    (hs : ∀ a : Act, (∀ j t, dstOf l j = some t → a.eval (.tmp t) = V j) → (∀ t, (∀ j, dstOf l j ≠ some t) → a.eval (.tmp t) = a0.eval (.tmp t)) → ∀ i o, l[i]? = some o → ∀ D : Nat → Bool, (∀ i j, D i = true → waitB l i j = true → D j = true) → D i = false → (∀ j, waitB l i j = true → D j = true) → runsTo P (fun u w' => w' = W (fun j => if j = i then true else D j) ∧ (o.dst = none ∨ u = V i)) ((execOp a.eval o).run P (W D)))
    (he : Q .normal (putAll l V a0 l.length) (W fun _ => true)) : (Code.region id l.toArray true).wpIn F m P Q a0 w := by
  have hsz' : ∀ j t, dstOf l j = some t → t < a0.tmps.size := fun j t hd => by
    have hj : j < l.length := by
      rcases Nat.lt_or_ge j l.length with h | h
      · exact h
      · rw [dstOf, List.getElem?_eq_none h] at hd; cases hd
    rw [List.all_eq_true] at hsz
    have := hsz j (by simpa using hj)
    rw [hd] at this
    simpa using this
  refine wpIn_region_tab hm hF hB hJ hsz (fun D g w' => w' = W D ∧ (∀ j, l.length ≤ j → D j = true) ∧ ∀ j, D j = true → j < l.length → dstOf l j ≠ none → g j = V j) ⟨h0.symm, fun j hj => decide_eq_true hj, fun j hD hj => ?_⟩ ?_ ?_
  · have := of_decide_eq_true hD; omega
  · rintro D g a w' hT ⟨rfl, hbig, hg⟩ hcl i o ho hD hpre K hK
    obtain ⟨k1, k2, k3⟩ := knowB_spec hL ho
    have hil : i < l.length := (List.getElem?_eq_some_iff.1 ho).1
    have hdst : dstOf l i = o.dst := by simp [dstOf, ho]
    rw [if_pos (by unfold Region.wanted; rw [k1])]
    have e : execOp a.eval o = execOp (putAll l V a0 l.length).eval o := by
      refine execOp_congr o k2 fun x hx => ?_
      cases x with
      | tmp t =>
        have ht : t ∈ o.looksAt l.toArray := List.mem_append_left _ (List.mem_filterMap.2 ⟨.tmp t, by simpa using hx, rfl⟩)
        obtain ⟨p1, p2⟩ := putAll_eval hJ V a0 hsz' t l.length
        rcases k3 t ht with h | ⟨j, hj, hw⟩
        · rw [hT.out t h, p2 (fun j _ => h j)]
        · have hjl : j < l.length := by
            rcases Nat.lt_or_ge j l.length with h | h
            · exact h
            · rw [dstOf, List.getElem?_eq_none h] at hj; cases hj
          rw [hT.at_ j t hj (hpre j hw), p1 j hjl hj, hg j (hpre j hw) hjl (by rw [hj]; exact fun e => by cases e)]
      | _ => rfl
    have step : ∀ u, (o.dst = none ∨ u = V i) → K (a.put o.dst u) (W (fun j => if j = i then true else D j)) := fun u hu => by
      refine hK u _ ⟨rfl, fun j hj => ?_, fun j hDj hj hd => ?_⟩
      · simp only []
        split
        · rfl
        · exact hbig j hj
      · by_cases hji : j = i
        · subst hji
          rcases hu with hu | hu
          · rw [hdst] at hd; exact absurd hu hd
          · simpa [updG] using hu
        · simp only [if_neg hji] at hDj
          simpa [updG, hji] using hg j hDj hj hd
    have hV : ∀ j t, dstOf l j = some t → (putAll l V a0 l.length).eval (.tmp t) = V j := fun j t hj => by
      have hjl : j < l.length := by
        rcases Nat.lt_or_ge j l.length with h | h
        · exact h
        · rw [dstOf, List.getElem?_eq_none h] at hj; cases hj
      exact (putAll_eval hJ V a0 hsz' t l.length).1 j hjl hj
    have hO : ∀ t, (∀ j, dstOf l j ≠ some t) → (putAll l V a0 l.length).eval (.tmp t) = a0.eval (.tmp t) := fun t h => (putAll_eval hJ V a0 hsz' t l.length).2 (fun j _ => h j)
    have hrun := hs _ hV hO i o ho D hcl hD hpre
    rw [← e] at hrun
    exact wpIn_of_runs hF (by
      rw [noDefer, List.all_eq_true] at hnd
      exact hnd o (List.mem_of_getElem? ho)) hrun fun u w'' ⟨h1, h2⟩ => by rw [h1]; exact step u h2
  · rintro D g w' ⟨rfl, hbig, hg⟩ hD
    have e1 : D = fun _ => true := funext fun j => by
      rcases Nat.lt_or_ge j l.length with h | h
      · exact hD j h
      · exact hbig j h
    subst e1
    rw [putAll_congr (V := V) a0 l.length (fun j hj hd => hg j rfl hj hd)]
    exact he
end
end Go.Proofs.YtomednfddpggaaaGreat

/- Who comes to whom (Tarjan): what lies in memory. -/
namespace Go.Proofs.YtomednfddpggaaaGreat
open Go Go.RowKit
attribute [local go_sem] Oper.semAt_some
structure TjB where
  (bx ba bm bl bp bu N : Nat)
def TjOwn (b : TjB) (A : Option Addr) (k : Nat) : Prop := (k = b.bx ∨ k = b.bm ∨ k = b.bl ∨ k = b.bp ∨ k = b.bu) ∨ ∃ p, A = some p ∧ p.block = k
structure TjAt (w : World) (b : TjB) (A : Option Addr) (c : Nat) (s : TjS) : Prop where
  x : Arr w b.bx 182 [.pointer (some ⟨b.ba, 0, none⟩), .slice (some ⟨b.bm, 0, none⟩) b.N b.N, .slice (some ⟨b.bl, 0, none⟩) b.N b.N, .slice (some ⟨b.bp, 0, none⟩) b.N b.N, .slice A s.stk.length c, .int .i64 s.now, .slice (some ⟨b.bu, 0, none⟩) b.N b.N]
  m : Arr w b.bm 3 (s.met.map (.int .i64))
  l : Arr w b.bl 3 (s.low.map (.int .i64))
  p : Arr w b.bp 3 (s.part.map (.int .i64))
  u : Arr w b.bu 4 (s.und.map .bool)
  o : Own w 0 3 1 A s.stk.length c (nv s.stk)
  dis : b.bm ≠ b.bl ∧ b.bm ≠ b.bp ∧ b.bl ≠ b.bp
  disA : ∀ p, A = some p → p.block ≠ b.bm ∧ p.block ≠ b.bl ∧ p.block ≠ b.bp
theorem TjAt.touch {w w' : World} {b : TjB} {A : Option Addr} {c : Nat} {s : TjS} {S : Nat → Prop} (h : TjAt w b A c s) (ht : Touch S w w') (hS : ∀ k, TjOwn b A k → ¬ S k) : TjAt w' b A c s :=
  ⟨h.x.touch ht (hS _ (.inl (.inl rfl))), h.m.touch ht (hS _ (.inl (.inr (.inl rfl)))), h.l.touch ht (hS _ (.inl (.inr (.inr (.inl rfl))))), h.p.touch ht (hS _ (.inl (.inr (.inr (.inr (.inl rfl)))))), h.u.touch ht (hS _ (.inl (.inr (.inr (.inr (.inr rfl)))))), h.o.touch ht (fun p hp => hS _ (.inr ⟨p, hp, rfl⟩)), h.dis, h.disA⟩
theorem TjAt.grow {w w' : World} {b : TjB} {A : Option Addr} {c : Nat} {s : TjS} (h : TjAt w b A c s) (hg : Grows w w') : TjAt w' b A c s := h.touch (hg.touch (fun _ => False)) (fun _ _ => id)
section
variable {w : World} {b : TjB} {A : Option Addr} {c : Nat} {s : TjS}
theorem TjAt.nes (h : TjAt w b A c s) : (b.bx ≠ b.bm ∧ b.bx ≠ b.bl ∧ b.bx ≠ b.bp ∧ b.bx ≠ b.bu) ∧ (b.bu ≠ b.bm ∧ b.bu ≠ b.bl ∧ b.bu ≠ b.bp) ∧ (∀ p, A = some p → p.block ≠ b.bx ∧ p.block ≠ b.bu) :=
  ⟨⟨h.x.ne h.m (by decide), h.x.ne h.l (by decide), h.x.ne h.p (by decide), h.x.ne h.u (by decide)⟩, ⟨h.u.ne h.m (by decide), h.u.ne h.l (by decide), h.u.ne h.p (by decide)⟩, fun p hp => ⟨h.o.not_arr h.x (by decide) p hp, h.o.not_arr h.u (by decide) p hp⟩⟩
theorem TjAt.lts (h : TjAt w b A c s) : ∀ k, TjOwn b A k → k < w.heap.size := by
  rintro k ((rfl | rfl | rfl | rfl | rfl) | ⟨p, rfl, rfl⟩)
  · exact h.x.lt
  · exact h.m.lt
  · exact h.l.lt
  · exact h.p.lt
  · exact h.u.lt
  · exact (World.ownsRow.lt h.o p.block rfl).2
theorem TjAt.setMet (h : TjAt w b A c s) (v : Nat) (x : Int) : TjAt (w.setCell ⟨b.bm, v, none⟩ (.int .i64 x)) b A c { s with met := s.met.set v x } := by
  obtain ⟨⟨n1, n2, n3, n4⟩, ⟨n5, n6, n7⟩, n8⟩ := h.nes
  obtain ⟨d1, d2, d3⟩ := h.dis
  exact ⟨h.x.other (Ne.symm n1) _, by rw [List.map_set]; exact h.m.set v _, h.l.other d1 _, h.p.other d2 _, h.u.other (Ne.symm n5) _, h.o.othr (fun p hp => (h.disA p hp).1) _, h.dis, h.disA⟩
theorem TjAt.setLow (h : TjAt w b A c s) (v : Nat) (x : Int) : TjAt (w.setCell ⟨b.bl, v, none⟩ (.int .i64 x)) b A c { s with low := s.low.set v x } := by
  obtain ⟨⟨n1, n2, n3, n4⟩, ⟨n5, n6, n7⟩, n8⟩ := h.nes
  obtain ⟨d1, d2, d3⟩ := h.dis
  exact ⟨h.x.other (Ne.symm n2) _, h.m.other (Ne.symm d1) _, by rw [List.map_set]; exact h.l.set v _, h.p.other d3 _, h.u.other (Ne.symm n6) _, h.o.othr (fun p hp => (h.disA p hp).2.1) _, h.dis, h.disA⟩
theorem TjAt.setPart (h : TjAt w b A c s) (v : Nat) (x : Int) : TjAt (w.setCell ⟨b.bp, v, none⟩ (.int .i64 x)) b A c { s with part := s.part.set v x } := by
  obtain ⟨⟨n1, n2, n3, n4⟩, ⟨n5, n6, n7⟩, n8⟩ := h.nes
  obtain ⟨d1, d2, d3⟩ := h.dis
  exact ⟨h.x.other (Ne.symm n3) _, h.m.other (Ne.symm d2) _, h.l.other (Ne.symm d3) _, by rw [List.map_set]; exact h.p.set v _, h.u.other (Ne.symm n7) _, h.o.othr (fun p hp => (h.disA p hp).2.2) _, h.dis, h.disA⟩
theorem TjAt.setUnd (h : TjAt w b A c s) (v : Nat) (x : Bool) : TjAt (w.setCell ⟨b.bu, v, none⟩ (.bool x)) b A c { s with und := s.und.set v x } := by
  obtain ⟨⟨n1, n2, n3, n4⟩, ⟨n5, n6, n7⟩, n8⟩ := h.nes
  exact ⟨h.x.other (Ne.symm n4) _, h.m.other n5 _, h.l.other n6 _, h.p.other n7 _, by rw [List.map_set]; exact h.u.set v _, h.o.othr (fun p hp => (n8 p hp).2) _, h.dis, h.disA⟩
theorem TjAt.setNow (h : TjAt w b A c s) (x : Int) : TjAt (w.setCell ⟨b.bx, 5, none⟩ (.int .i64 x)) b A c { s with now := x } := by
  obtain ⟨⟨n1, n2, n3, n4⟩, ⟨n5, n6, n7⟩, n8⟩ := h.nes
  exact ⟨h.x.set 5 _, h.m.other n1 _, h.l.other n2 _, h.p.other n3 _, h.u.other n4 _, h.o.othr (fun p hp => (n8 p hp).1) _, h.dis, h.disA⟩
def TjS.mark (s : TjS) (v : Nat) : TjS := { s with now := s.now + 1, met := s.met.set v (s.now + 1), low := s.low.set v (s.now + 1) }
theorem TjAt.push {w2 w3 : World} {A2 : Option Addr} {c2 v : Nat} (h : TjAt w b A c s) (ht : Touch (fun k => k = b.bu ∨ ∃ p, A = some p ∧ p.block = k) w w2) (ho : Own w2 0 3 1 A2 (s.stk.length + 1) c2 (nv s.stk ++ [.int .i64 (v : Int)]))
    (hA : ∀ p, A2 = some p → (∃ q, A = some q ∧ q.block = p.block) ∨ w.heap.size ≤ p.block) (hu : Arr w2 b.bu 4 (s.und.map .bool) ∧ w3 = (w2.setCell ⟨b.bx, 4, none⟩ (.slice A2 (s.stk.length + 1) c2)).setCell ⟨b.bu, v, none⟩ (.bool true) ∨
      Arr w2 b.bu 4 ((s.und.set v true).map .bool) ∧ w3 = w2.setCell ⟨b.bx, 4, none⟩ (.slice A2 (s.stk.length + 1) c2)) :
    TjAt w3 b A2 c2 { s with stk := s.stk ++ [v], und := s.und.set v true } ∧ Touch (TjOwn b A) w w3 ∧ ∀ k, TjOwn b A2 k → TjOwn b A k ∨ w.heap.size ≤ k := by
  obtain ⟨⟨n1, n2, n3, n4⟩, ⟨n5, n6, n7⟩, n8⟩ := h.nes
  have hlt := h.lts
  have qx : Arr w2 b.bx 182 _ := h.x.touch ht fun e => by
    rcases e with e | ⟨p, hp, e⟩
    · exact n4 e
    · exact (n8 p hp).1 e
  have qm := h.m.touch ht fun e => by
    rcases e with e | ⟨p, hp, e⟩
    · exact n5 e.symm
    · exact (h.disA p hp).1 e
  have ql := h.l.touch ht fun e => by
    rcases e with e | ⟨p, hp, e⟩
    · exact n6 e.symm
    · exact (h.disA p hp).2.1 e
  have qp := h.p.touch ht fun e => by
    rcases e with e | ⟨p, hp, e⟩
    · exact n7 e.symm
    · exact (h.disA p hp).2.2 e
  have hd : ∀ p, A2 = some p → p.block ≠ b.bm ∧ p.block ≠ b.bl ∧ p.block ≠ b.bp := fun p hp => by
    rcases hA p hp with ⟨q, hq, e⟩ | hge
    · rw [← e]; exact h.disA q hq
    · have a1 := h.m.lt; have a2 := h.l.lt; have a3 := h.p.lt
      omega
  have hown : ∀ k, TjOwn b A2 k → TjOwn b A k ∨ w.heap.size ≤ k := by
    rintro k (hk | ⟨p, hp, rfl⟩)
    · exact .inl (.inl hk)
    · rcases hA p hp with ⟨q, hq, e⟩ | hge
      · exact .inl (.inr ⟨q, hq, e⟩)
      · exact .inr hge
  have key : ∀ (und : List Bool), Arr w2 b.bu 4 (und.map .bool) → TjAt (w2.setCell ⟨b.bx, 4, none⟩ (.slice A2 (s.stk.length + 1) c2)) b A2 c2 { s with stk := s.stk ++ [v], und := und } := fun und hu => by
    have e1 : (s.stk ++ [v]).length = s.stk.length + 1 := by simp
    have e2 : nv (s.stk ++ [v]) = nv s.stk ++ [.int .i64 (v : Int)] := by simp [nv]
    refine ⟨?_, qm.other n1 _, ql.other n2 _, qp.other n3 _, hu.other n4 _, ?_, h.dis, hd⟩
    · have := qx.set 4 (.slice A2 (s.stk.length + 1) c2)
      show Arr _ _ _ [_, _, _, _, .slice A2 (s.stk ++ [v]).length c2, _, _]
      rw [e1]
      exact this
    · show Own _ _ _ _ _ (s.stk ++ [v]).length _ (nv (s.stk ++ [v]))
      rw [e1, e2]
      exact ho.othr (fun p hp => ho.not_arr qx (by decide) p hp) _
  have hto : Touch (TjOwn b A) w w2 := ht.mono fun k hk => by
    rcases hk with rfl | hk
    · exact .inl (.inr (.inr (.inr (.inr rfl))))
    · exact .inr hk
  rcases hu with ⟨hu, rfl⟩ | ⟨hu, rfl⟩
  · exact ⟨(key s.und hu).setUnd v true, (hto.set (.inl (.inl (.inl rfl))) _).set (.inl (.inl (.inr (.inr (.inr (.inr rfl)))))) _, hown⟩
  · exact ⟨key _ hu, hto.set (.inl (.inl (.inl rfl))) _, hown⟩
end
end Go.Proofs.YtomednfddpggaaaGreat

/- Tarjan's walk: a node is put on the stack (a region that draws its order): what is known in its midst. -/
namespace Go.Proofs.YtomednfddpggaaaGreat
open Go Go.RowKit
structure TjR (b : TjB) (A : Option Addr) (c : Nat) (s : TjS) (v : Nat) (W : World) (V : Nat → Option Value) (D : Nat → Bool) (g : Nat → Value) (w : World) : Prop where
  cs : ∀ j u, V j = some u → D j = true → g j = u
  touch : Touch (fun k => (k = b.bx ∨ k = b.bu) ∨ ∃ p, A = some p ∧ p.block = k) W w
  lit : D 11 = true → D 12 = false → ∃ q, g 11 = .slice (some ⟨q, 0, none⟩) 1 1 ∧ Holds w ⟨q, 0, none⟩ (.int .i64 (v : Int)) ∧ W.heap.size ≤ q
  old : D 12 = false → Own w 0 3 1 A s.stk.length c (nv s.stk)
  new : D 12 = true → ∃ A2 c2, g 12 = .slice A2 (s.stk.length + 1) c2 ∧ Own w 0 3 1 A2 (s.stk.length + 1) c2 (nv s.stk ++ [.int .i64 (v : Int)]) ∧ ∀ p, A2 = some p → (∃ q, A = some q ∧ q.block = p.block) ∨ W.heap.size ≤ p.block
  x : Arr w b.bx 182 [.pointer (some ⟨b.ba, 0, none⟩), .slice (some ⟨b.bm, 0, none⟩) b.N b.N, .slice (some ⟨b.bl, 0, none⟩) b.N b.N, .slice (some ⟨b.bp, 0, none⟩) b.N b.N, if D 15 = true then g 12 else .slice A s.stk.length c, .int .i64 s.now, .slice (some ⟨b.bu, 0, none⟩) b.N b.N]
  u : Arr w b.bu 4 ((if D 17 = true then s.und.set v true else s.und).map .bool)
section
variable {b : TjB} {A : Option Addr} {c v : Nat} {s : TjS} {W w w' : World} {V : Nat → Option Value} {D : Nat → Bool} {g : Nat → Value}
theorem updG_no (g : Nat → Value) {i j : Nat} (u : Value) (h : j ≠ i) : updG g i u j = g j := if_neg h
theorem updG_yes (g : Nat → Value) (i : Nat) (u : Value) : updG g i u i = u := if_pos rfl
theorem TjR.plain (h : TjR b A c s v W V D g w) (hg : Grows w w') {i : Nat} {u : Value} (hi : i ≠ 11 ∧ i ≠ 12 ∧ i ≠ 15 ∧ i ≠ 17) (hv : ∀ x, V i = some x → u = x) :
    TjR b A c s v W V (fun j => if j = i then true else D j) (updG g i u) w' := by
  obtain ⟨n11, n12, n15, n17⟩ := hi
  have ne : ∀ j : Nat, j ≠ i → (if j = i then true else D j) = D j := fun j hj => if_neg hj
  refine ⟨fun j x hx hD => ?_, h.touch.grows hg, ?_, ?_, ?_, ?_, ?_⟩
  · by_cases e : j = i
    · subst e; rw [updG_yes]; exact hv x hx
    · rw [updG_no _ _ e]; exact h.cs j x hx (by rwa [ne j e] at hD)
  · simp only [ne 11 (Ne.symm n11), ne 12 (Ne.symm n12), updG_no g u (Ne.symm n11)]
    intro p q
    obtain ⟨x, y, z, t⟩ := h.lit p q
    exact ⟨x, y, ⟨hg.keeps z.cell⟩, t⟩
  · simp only [ne 12 (Ne.symm n12)]
    exact fun p => (h.old p).grows hg
  · simp only [ne 12 (Ne.symm n12), updG_no g u (Ne.symm n12)]
    intro p
    obtain ⟨x, y, z, t, r⟩ := h.new p
    exact ⟨x, y, z, t.grows hg, r⟩
  · simp only [ne 15 (Ne.symm n15), updG_no g u (Ne.symm n12)]
    exact h.x.grow hg
  · simp only [ne 17 (Ne.symm n17)]
    exact h.u.grow hg
theorem TjR.litS (h : TjR b A c s v W V D g w) (hV : V 11 = none) :
    TjR b A c s v W V (fun j => if j = 11 then true else D j) (updG g 11 (.slice (some ⟨w.heap.size, 0, none⟩) 1 1)) (w.alloc (.cells #[.int .i64 (v : Int)] 3)) := by
  have hg : Grows w (w.alloc (.cells #[.int .i64 (v : Int)] 3)) := (Grows.refl w).new _
  refine ⟨fun j x hx hD => ?_, h.touch.grows hg, ?_, ?_, ?_, ?_, ?_⟩
  · by_cases e : j = 11
    · subst e; rw [hV] at hx; cases hx
    · rw [updG_no _ _ e]; exact h.cs j x hx (by simpa [e] using hD)
  · intro _ _
    exact ⟨w.heap.size, updG_yes _ _ _, inferInstance, h.touch.size⟩
  · simp only [show ((12 : Nat) = 11) = False by decide, if_false]
    exact fun p => (h.old p).grows hg
  · simp only [show ((12 : Nat) = 11) = False by decide, if_false, updG_no g _ (show (12 : Nat) ≠ 11 by decide)]
    intro p
    obtain ⟨x, y, z, t, r⟩ := h.new p
    exact ⟨x, y, z, t.grows hg, r⟩
  · simp only [show ((15 : Nat) = 11) = False by decide, if_false, updG_no g _ (show (12 : Nat) ≠ 11 by decide)]
    exact h.x.grow hg
  · simp only [show ((17 : Nat) = 11) = False by decide, if_false]
    exact h.u.grow hg
theorem TjR.appS (hW : TjAt W b A c s) (h : TjR b A c s v W V D g w) (hV : V 12 = none) (h15 : D 15 = false) {A2 : Option Addr} {c2 : Nat}
    (ho : Own w' 0 3 1 A2 (s.stk.length + 1) c2 (nv s.stk ++ [.int .i64 (v : Int)])) (ht : Touch (fun k => ∃ p, A = some p ∧ p.block = k) w w') (hl : ∀ p, A2 = some p → (∃ q, A = some q ∧ q.block = p.block) ∨ New w w' p.block) :
    TjR b A c s v W V (fun j => if j = 12 then true else D j) (updG g 12 (.slice A2 (s.stk.length + 1) c2)) w' := by
  obtain ⟨_, _, n8⟩ := hW.nes
  refine ⟨fun j x hx hD => ?_, h.touch.trans (ht.mono fun k hk => .inr hk), ?_, ?_, ?_, ?_, ?_⟩
  · by_cases e : j = 12
    · subst e; rw [hV] at hx; cases hx
    · rw [updG_no _ _ e]; exact h.cs j x hx (by simpa [e] using hD)
  · intro _ q
    simp at q
  · intro q
    simp at q
  · intro _
    exact ⟨A2, c2, updG_yes _ _ _, ho, fun p hp => (hl p hp).imp id fun hn => Nat.le_trans h.touch.size hn.1⟩
  · simp only [show ((15 : Nat) = 12) = False by decide, if_false, h15, Bool.false_eq_true]
    have := h.x
    rw [h15] at this
    simp only [Bool.false_eq_true, if_false] at this
    exact this.touch ht (by rintro ⟨p, hp, e⟩; exact (n8 p hp).1 e)
  · simp only [show ((17 : Nat) = 12) = False by decide, if_false]
    exact h.u.touch ht (by rintro ⟨p, hp, e⟩; exact (n8 p hp).2 e)
theorem TjR.stS (h : TjR b A c s v W V D g w) (hV : V 15 = none) (h12 : D 12 = true) {u : Value} :
    TjR b A c s v W V (fun j => if j = 15 then true else D j) (updG g 15 u) (w.setCell ⟨b.bx, 4, none⟩ (g 12)) := by
  have n4 := h.x.ne h.u (by decide)
  refine ⟨fun j x hx hD => ?_, h.touch.set (.inl (.inl (.inl rfl))) _, ?_, ?_, ?_, ?_, ?_⟩
  · by_cases e : j = 15
    · subst e; rw [hV] at hx; cases hx
    · rw [updG_no _ _ e]; exact h.cs j x hx (by simpa [e] using hD)
  · intro _ q
    simp [h12] at q
  · intro q
    simp [h12] at q
  · intro _
    obtain ⟨x, y, z, t, r⟩ := h.new h12
    exact ⟨x, y, by rw [updG_no g _ (show (12 : Nat) ≠ 15 by decide)]; exact z, t.othr (fun p hp => t.not_arr h.x (by decide) p hp) _, r⟩
  · simp only [updG_no g _ (show (12 : Nat) ≠ 15 by decide), if_true]
    have := h.x.set 4 (g 12)
    simpa using this
  · simp only [show ((17 : Nat) = 15) = False by decide, if_false]
    exact h.u.other n4 _
theorem TjR.suS (hlt : b.bu < W.heap.size) (h : TjR b A c s v W V D g w) (hV : V 17 = none) (h17 : D 17 = false) {u : Value} :
    TjR b A c s v W V (fun j => if j = 17 then true else D j) (updG g 17 u) (w.setCell ⟨b.bu, v, none⟩ (.bool true)) := by
  have n4 := h.x.ne h.u (by decide)
  have far : ∀ A n c xs, Own w 0 3 1 A n c xs → Own (w.setCell ⟨b.bu, v, none⟩ (.bool true)) 0 3 1 A n c xs := fun A n c xs ho => ho.othr (fun p hp => ho.not_arr h.u (by decide) p hp) _
  refine ⟨fun j x hx hD => ?_, h.touch.set (.inl (.inl (.inr rfl))) _, ?_, ?_, ?_, ?_, ?_⟩
  · by_cases e : j = 17
    · subst e; rw [hV] at hx; cases hx
    · rw [updG_no _ _ e]; exact h.cs j x hx (by simpa [e] using hD)
  · simp only [show ((11 : Nat) = 17) = False by decide, show ((12 : Nat) = 17) = False by decide, if_false, updG_no g _ (show (11 : Nat) ≠ 17 by decide)]
    intro p q
    obtain ⟨x, y, z, t⟩ := h.lit p q
    have ht : Touch (fun k => k = b.bu) w (w.setCell ⟨b.bu, v, none⟩ (.bool true)) := (Touch.refl (fun k => k = b.bu) w).set (p := ⟨b.bu, v, none⟩) (.inl rfl) _
    exact ⟨x, y, ⟨ht.cell (by show ¬ x = b.bu; omega) z.cell⟩, t⟩
  · simp only [show ((12 : Nat) = 17) = False by decide, if_false]
    exact fun p => far _ _ _ _ (h.old p)
  · simp only [show ((12 : Nat) = 17) = False by decide, if_false, updG_no g _ (show (12 : Nat) ≠ 17 by decide)]
    intro p
    obtain ⟨x, y, z, t, r⟩ := h.new p
    exact ⟨x, y, z, far _ _ _ _ t, r⟩
  · simp only [show ((15 : Nat) = 17) = False by decide, if_false, updG_no g _ (show (12 : Nat) ≠ 17 by decide)]
    exact h.x.other (Ne.symm n4) _
  · have := h.u.set v (.bool true)
    rw [h17] at this
    simpa [List.map_set] using this
theorem TjR.fin (hW : TjAt W b A c s) (h : TjR b A c s v W V D g w) (hD : ∀ j, j < 18 → D j = true) :
    ∃ A2 c2, TjAt w b A2 c2 { s with stk := s.stk ++ [v], und := s.und.set v true } ∧ Touch (TjOwn b A) W w ∧ ∀ k, TjOwn b A2 k → TjOwn b A k ∨ W.heap.size ≤ k := by
  obtain ⟨⟨n1, n2, n3, n4⟩, ⟨n5, n6, n7⟩, n8⟩ := hW.nes
  obtain ⟨A2, c2, e, ho, hl⟩ := h.new (hD 12 (by decide))
  have out : ∀ {k}, (k = b.bm ∨ k = b.bl ∨ k = b.bp) → ¬ ((k = b.bx ∨ k = b.bu) ∨ ∃ p, A = some p ∧ p.block = k) := by
    rintro k hk ((e | e) | ⟨p, hp, e⟩)
    · rcases hk with rfl | rfl | rfl
      · exact n1 e.symm
      · exact n2 e.symm
      · exact n3 e.symm
    · rcases hk with rfl | rfl | rfl
      · exact n5 e.symm
      · exact n6 e.symm
      · exact n7 e.symm
    · obtain ⟨a1, a2, a3⟩ := hW.disA p hp
      rcases hk with rfl | rfl | rfl
      · exact a1 e
      · exact a2 e
      · exact a3 e
  have e1 : (s.stk ++ [v]).length = s.stk.length + 1 := by simp
  have e2 : nv (s.stk ++ [v]) = nv s.stk ++ [.int .i64 (v : Int)] := by simp [nv]
  have q1 := h.x
  rw [hD 15 (by decide), if_pos rfl, e] at q1
  have q2 := h.u
  rw [hD 17 (by decide), if_pos rfl] at q2
  refine ⟨A2, c2, ⟨?_, hW.m.touch h.touch (out (.inl rfl)), hW.l.touch h.touch (out (.inr (.inl rfl))), hW.p.touch h.touch (out (.inr (.inr rfl))), q2, ?_, hW.dis, fun p hp => ?_⟩, h.touch.mono ?_, ?_⟩
  · show Arr _ _ _ [_, _, _, _, .slice A2 (s.stk ++ [v]).length c2, _, _]
    rw [e1]; exact q1
  · show Own _ _ _ _ _ (s.stk ++ [v]).length _ (nv (s.stk ++ [v]))
    rw [e1, e2]; exact ho
  · rcases hl p hp with ⟨q, hq, e3⟩ | hge
    · rw [← e3]; exact hW.disA q hq
    · have a1 := hW.m.lt; have a2 := hW.l.lt; have a3 := hW.p.lt
      omega
  · rintro k ((rfl | rfl) | hk)
    · exact .inl (.inl rfl)
    · exact .inl (.inr (.inr (.inr (.inr rfl))))
    · exact .inr hk
  · rintro k (hk | ⟨p, hp, rfl⟩)
    · exact .inl (.inl hk)
    · rcases hl p hp with ⟨q, hq, e3⟩ | hge
      · exact .inl (.inr ⟨q, hq, e3⟩)
      · exact .inr hge
end
end Go.Proofs.YtomednfddpggaaaGreat
