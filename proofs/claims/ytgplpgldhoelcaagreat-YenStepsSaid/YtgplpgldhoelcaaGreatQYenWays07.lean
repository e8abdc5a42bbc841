/- Regions that draw their order and end in a call that all the rest leads to: the same one walk, and the call last. -/
import Derived.Test.YtgplpgldhoelcaaGreatQYenWays06
namespace Go.Proofs.YtgplpgldhoelcaaGreat
open Go Go.RowKit

def usersB (md : Region.Mode) (ops : Array Oper) (k : Nat) : Bool :=
  (List.range k).all fun i => (List.range (k + 1)).any fun j => decide (i < j) && match ops[j]? with
    | some oj => oj.after.any fun e => Region.binds md e && e.on == i
    | none => false
def lexTail (md : Region.Mode) (ops : Array Oper) (tail : Nat) : Nat → Nat → Array Bool → Bool
  | 0, _, listed => (Region.ready md ops listed == [tail]) && (Region.ready md ops (listed.setIfInBounds tail true)).isEmpty
  | fuel + 1, k, listed => (Region.ready md ops listed).contains k && Region.free md ops listed k && lexTail md ops tail fuel (k + 1) (listed.setIfInBounds k true)
def Closed (md : Region.Mode) (ops : Array Oper) (l : Array Bool) : Prop :=
  ∀ j oj, ops[j]? = some oj → l.getD j false = true → ∀ e ∈ oj.after, Region.binds md e = true → l.getD e.on false = true

section
variable {P : Program} {ops : Array Oper} {md : Region.Mode} {w0 : World} {k : Nat}

theorem users_spec (h : usersB md ops k = true) {i : Nat} (hi : i < k) : ∃ j oj, i < j ∧ j ≤ k ∧ ops[j]? = some oj ∧ ∃ e ∈ oj.after, Region.binds md e = true ∧ e.on = i := by
  unfold usersB at h
  rw [List.all_eq_true] at h
  have h1 := h i (List.mem_range.2 hi)
  rw [List.any_eq_true] at h1
  obtain ⟨j, hj, h2⟩ := h1
  rw [Bool.and_eq_true, decide_eq_true_eq] at h2
  obtain ⟨h3, h4⟩ := h2
  cases ho : ops[j]? with
  | none => rw [ho] at h4; cases h4
  | some oj =>
    rw [ho] at h4
    simp only at h4
    rw [Array.any_eq_true'] at h4
    obtain ⟨e, he, h5⟩ := h4
    rw [Bool.and_eq_true, beq_iff_eq] at h5
    exact ⟨j, oj, h3, by have := List.mem_range.1 hj; omega, ho, e, he, h5.1, h5.2⟩
theorem tail_last (hu : usersB md ops k = true) {l : Array Bool} (hc : Closed md ops l) (hk : k ∈ Region.ready md ops l) (d : Nat) : ∀ i, i < k → k - i ≤ d → l.getD i false = true := by
  obtain ⟨_, ok, hok, hall⟩ := mem_ready.1 hk
  induction d with
  | zero => intro i hi h; omega
  | succ d ih =>
    intro i hi h
    obtain ⟨j, oj, h1, h2, h3, e, he, hb, heq⟩ := users_spec hu hi
    rcases Nat.lt_or_ge j k with hj | hj
    · have := hc j oj h3 (ih j hj (by omega)) e he hb
      rw [heq] at this
      exact this
    · obtain rfl : j = k := by omega
      rw [h3] at hok
      obtain rfl := Option.some.inj hok
      have := hall e he hb
      rw [heq] at this
      exact this
theorem closed_step {l : Array Bool} (hc : Closed md ops l) {i : Nat} (hi : i ∈ Region.ready md ops l) : Closed md ops (l.setIfInBounds i true) := by
  obtain ⟨_, oi, hoi, hall⟩ := mem_ready.1 hi
  intro j oj hoj hj e he hb
  refine getD_set_true ?_
  by_cases h : i = j
  · subst h
    rw [hoi] at hoj
    obtain rfl := Option.some.inj hoj
    exact hall e he hb
  · rw [getD_set_ne false h] at hj
    exact hc j oj hoj hj e he hb

def gAnyU (P : Program) (md : Region.Mode) (ops : Array Oper) (w0 : World) (k : Nat) (T : Act → Env → Prop) : Nat → Array Bool → Act → Env → Prop
  | 0, l, a, G => Region.ready md ops l = [k] ∧ Region.ready md ops (l.setIfInBounds k true) = [] ∧ T a G
  | n + 1, l, a, G => Region.ready md ops l ≠ [] ∧ ∀ i ∈ Region.ready md ops l, i ≠ k ∧ gOp P ops w0 i (gAnyU P md ops w0 k T n (l.setIfInBounds i true)) a G

theorem gAnyU_first (hu : usersB md ops k = true) {T : Act → Env → Prop} {i : Nat} {oi : Oper} {r : Out} (hi : ops[i]? = some oi) (hik : i < k) : ∀ (n : Nat) (l : Array Bool) (a : Act) (G : Env), Closed md ops l →
    (∀ j oj, ops[j]? = some oj → j ≠ i → l.getD j true = false → (∀ e ∈ oj.after, Region.binds md e = true → e.on ≠ i) → oi.apart ops oj = true) →
    i ∈ Region.ready md ops l → Leaves P ops w0 oi a G r →
    gAnyU P md ops w0 k T n (l.setIfInBounds i true) (putA a oi.dst r) (putG G oi.dst r) → gAnyU P md ops w0 k T (n + 1) l a G := by
  intro n
  have notk : ∀ (l : Array Bool), Closed md ops l → i ∈ Region.ready md ops l → ∀ j ∈ Region.ready md ops l, j ≠ k := by
    intro l hc hr j hj e
    subst e
    have h1 := tail_last hu hc hj j i hik (by omega)
    have h2 := (mem_ready.1 hr).1
    rcases Nat.lt_or_ge i l.size with h' | h'
    · simp [h'] at h1 h2
      rw [h1] at h2; cases h2
    · simp [Array.getElem?_eq_none h'] at h1
  induction n with
  | zero =>
    intro l a G hc _ hr hy H
    refine ⟨fun h => (by rw [h] at hr; cases hr), fun j hj => ⟨notk l hc hr j hj, ?_⟩⟩
    by_cases hji : j = i
    · subst hji; unfold gOp; simp only [hi]; exact ⟨r, hy, H⟩
    · have := ready_mono hj hji
      rw [H.1] at this
      exact absurd (List.mem_singleton.1 this) (notk l hc hr j hj)
  | succ n ih =>
    intro l a G hc hfree hr hy H
    refine ⟨fun h => (by rw [h] at hr; cases hr), fun j hj => ⟨notk l hc hr j hj, ?_⟩⟩
    by_cases hji : j = i
    · subst hji; unfold gOp; simp only [hi]; exact ⟨r, hy, H⟩
    · have hstep := (H.2 j (ready_mono hj hji)).2
      obtain ⟨hun, oj, hoj, hall⟩ := mem_ready.1 hj
      have hi0 := (mem_ready.1 hr).1
      have hnot : ∀ e ∈ oj.after, Region.binds md e = true → e.on ≠ i := fun e he hb heq => by
        have hl := hall e he hb
        rw [heq] at hl
        rcases Nat.lt_or_ge i l.size with h' | h'
        · simp [h'] at hi0 hl; rw [hi0] at hl; cases hl
        · simp [Array.getElem?_eq_none h'] at hl
      have hcomm := gOp_put hoj (hfree j oj hoj hji hun hnot) hy hstep
      refine gOp_mono (fun a' G' hk => ?_) hcomm
      refine ih (l.setIfInBounds j true) a' G' (closed_step hc hj) (fun k ok hk' hki hunk hnok => hfree k ok hk' hki ?_ hnok) (ready_mono hr (Ne.symm hji)) hk.1 ?_
      · by_cases hjk : j = k
        · subst hjk; exact hun
        · rw [getD_set_ne true hjk] at hunk; exact hunk
      · rw [Array.setIfInBounds_comm _ _ hji]
        exact hk.2
theorem gAnyU_of_lex (hu : usersB md ops k = true) {T : Act → Env → Prop} : ∀ (l : List Oper) (i : Nat) (listed : Array Bool) (a : Act) (G : Env), (∀ j, j < l.length → l[j]? = ops[i + j]?) → i + l.length = k → Closed md ops listed →
    lexTail md ops k l.length i listed = true → gLex P ops w0 T l a G → gAnyU P md ops w0 k T l.length listed a G
  | [], _, _, _, _, _, _, _, hB, h => by
    simp only [List.length_nil, lexTail, Bool.and_eq_true, beq_iff_eq, List.isEmpty_iff] at hB
    exact ⟨hB.1, hB.2, h⟩
  | o :: l, i, listed, a, G, hl, hlen, hc, hB, h => by
    have h0 : ops[i]? = some o := by simpa using (hl 0 (by simp)).symm
    simp only [List.length_cons, lexTail, Bool.and_eq_true] at hB
    obtain ⟨⟨hr, hf⟩, hB'⟩ := hB
    obtain ⟨r, hy, hK⟩ := h
    have hr' : i ∈ Region.ready md ops listed := by simpa using hr
    exact gAnyU_first hu h0 (by simp at hlen; omega) l.length listed a G hc (Region.free_spec h0 hf) hr' hy
      (gAnyU_of_lex hu l (i + 1) _ _ _ (fun j hj => by have := hl (j + 1) (by simp; omega); simpa [Nat.add_assoc, Nat.add_comm 1 j] using this) (by simp at hlen; omega) (closed_step hc hr') hB' hK)

variable {F : Fence} {m : Nat}
theorem wpAnyIn_of_gAnyU (hF : WideF F) {o : Oper} (ho : ops[k]? = some o) (hg : o.guard = none) {Q : Exit → Act → World → Prop} : ∀ (n : Nat) (l : Array Bool) (a : Act) (G : Env) (a' : Act) (w : World), (∀ i oi, ops[i]? = some oi → i ≠ k → (match oi.op with | .defer _ => false | _ => true) = true) → Grows w0 w → AllLast G → Conc G a a' w →
    gAnyU P md ops w0 k (fun a G => ∀ w, Grows w0 w → ∀ a', Conc G a a' w → o.wpIn F m P a' w (fun a w => Q .normal a w) Q) n l a G → wpAnyIn F m P md ops Q (n + 1) l a' w
  | 0, l, a, G, a', w, _, hw, _, hc, h => by
    obtain ⟨h1, h2, h3⟩ := h
    refine ⟨fun h0 => (by rw [h1] at h0; cases h0), fun i hi => ?_⟩
    rw [h1] at hi
    obtain rfl := List.mem_singleton.1 hi
    unfold wpOpIn
    simp only [ho]
    have hwt : Region.wanted o (yielded ops a'.tmps) = true := by unfold Region.wanted; rw [hg]
    rw [if_pos hwt]
    exact Oper.wpIn_mono (fun a w h => ⟨h2, h⟩) (h3 w hw a' hc)
  | n + 1, l, a, G, a', w, hnd, hw, hG, hc, h => by
    refine ⟨fun h0 => absurd h0 h.1, fun i hi => ?_⟩
    obtain ⟨hik, h1⟩ := h.2 i hi
    unfold gOp at h1
    unfold wpOpIn
    split
    · rename_i ho
      simp only [ho] at h1
      exact wpAnyIn_of_gAnyU hF (by assumption) hg n _ a G a' w hnd hw hG hc h1
    · rename_i o2 ho2
      simp only [ho2] at h1
      obtain ⟨r, ⟨hgf, hd, hy⟩, hK⟩ := h1
      rw [wanted_conc hgf hc]
      rcases hy with ⟨hwant, hl, hf, howe⟩ | ⟨hwant, rfl⟩
      · rw [if_pos hwant]
        exact wpIn_of_runs hF (hnd i o2 ho2 hik) (howe w hw a' (fun t _ => hc.2 t)) fun u w' hq =>
          wpAnyIn_of_gAnyU hF (by assumption) hg n _ _ _ _ _ hnd (hw.trans hq.1) (hG.putG hl) (hc.step hG hq.1 hd hf hq.2) hK
      · rw [hwant]
        simp only [Bool.false_eq_true, if_false]
        refine ⟨fun f _ => hF.fn f, ?_⟩
        have hG0 : putG G o2.dst (.inl undef) = G := by cases o2.dst <;> rfl
        rw [hG0] at hK
        have hc0 := hc.step hG (Grows.refl w) hd (r := .inl undef) (u := undef) trivial rfl
        rw [hG0] at hc0
        exact wpAnyIn_of_gAnyU hF (by assumption) hg n _ _ _ _ _ hnd hw hG hc0 hK

theorem wpIn_region_tail (hF : WideF F) {id : Nat} {Q : Exit → Act → World → Prop} {a : Act} {w : World} {l : List Oper} {o : Oper} (hm : P.follows .mixedOrders = true) (hB : lexTail .any (l ++ [o]).toArray l.length l.length 0 (Array.replicate (l.length + 1) false) = true)
    (hu : usersB .any (l ++ [o]).toArray l.length = true) (hnd : noDefer l = true) (hg : o.guard = none)
    (h : gLex P (l ++ [o]).toArray w (fun a G => ∀ w', Grows w w' → ∀ a', Conc G a a' w' → o.wpIn F m P a' w' (fun a w => Q .normal a w) Q) l a Env.no) : (Code.region id (l ++ [o]).toArray true).wpIn F m P Q a w := by
  have hsz : (l ++ [o]).toArray.size = l.length + 1 := by simp
  refine wpIn_region_any hm ?_
  rw [hsz]
  refine wpAnyIn_of_gAnyU (w0 := w) (k := l.length) hF (o := o) (by simp) hg l.length _ a Env.no _ _ (fun i oi hi hik => ?_) (Grows.drawn w _) (fun t p h => by cases h) ⟨rfl, fun t => rfl⟩ ?_
  · have hlt : i < l.length := by
      have := (Array.getElem?_eq_some_iff.1 hi).1
      rw [hsz] at this
      omega
    have h2 : l[i]? = some oi := by
      rw [List.getElem?_toArray, List.getElem?_append_left hlt] at hi
      exact hi
    have h3 : oi ∈ l := List.mem_of_getElem? h2
    unfold noDefer at hnd
    rw [List.all_eq_true] at hnd
    exact hnd oi h3
  · refine gAnyU_of_lex hu l 0 _ a Env.no (fun j hj => ?_) (by omega) (fun j oj _ hj => ?_) hB h
    · rw [Nat.zero_add, List.getElem?_toArray, List.getElem?_append_left hj]
    · exfalso
      by_cases hj2 : j < l.length + 1
      · simp [hj2] at hj
      · simp [hj2] at hj
theorem wpIn_region_tailN (n : Nat) (hF : WideF F) {id : Nat} {Q : Exit → Act → World → Prop} {a : Act} {w : World} {ls : List Oper} {o : Oper} (ho : ls.drop n = [o]) (hm : P.follows .mixedOrders = true) (hB : lexTail .any ls.toArray n n 0 (Array.replicate (n + 1) false) = true)
    (hu : usersB .any ls.toArray n = true) (hnd : noDefer ls = true) (hg : o.guard = none)
    (h : gLex P ls.toArray w (fun a G => ∀ w', Grows w w' → ∀ a', Conc G a a' w' → o.wpIn F m P a' w' (fun a w => Q .normal a w) Q) (ls.take n) a Env.no) : (Code.region id ls.toArray true).wpIn F m P Q a w := by
  have hs : ls = ls.take n ++ [o] := by rw [← ho, List.take_append_drop]
  have hl : (ls.take n).length = n := by
    have h1 : (ls.drop n).length = 1 := by rw [ho]; rfl
    rw [List.length_drop] at h1
    rw [List.length_take]
    omega
  have hnd2 : noDefer (ls.take n) = true := by
    unfold noDefer at *
    rw [List.all_eq_true] at *
    exact fun x hx => hnd x (List.mem_of_mem_take hx)
  have key := wpIn_region_tail (m := m) (id := id) (Q := Q) (a := a) (w := w) (l := ls.take n) (o := o) hF hm (by rw [hl, ← hs]; exact hB) (by rw [hl, ← hs]; exact hu) hnd2 hg (by rw [← hs]; exact h)
  rw [← hs] at key
  exact key
theorem gLex_tail {Q : Exit → Act → World → Prop} {a : Act} {o : Oper} (h : ∀ x : Later w0, o.wpIn F m P a x.now (fun a w => Q .normal a w) Q) :
    gLex P ops w0 (fun a G => ∀ w', Grows w0 w' → ∀ a', Conc G a a' w' → o.wpIn F m P a' w' (fun a w => Q .normal a w) Q) [] a Env.no :=
  fun w' hw a' hc => by
    rw [conc_no hc]
    exact h ⟨w', hw⟩
end
end Go.Proofs.YtgplpgldhoelcaaGreat

