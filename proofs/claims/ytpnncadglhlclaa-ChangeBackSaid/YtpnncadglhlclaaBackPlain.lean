/- Plain: what is undone is as it was; what makes one graph of another one does. -/
import Derived.Test.YtpnncadglhlclaaUndo
import Derived.Test.YtpnncadglhlclaaDiff
import Derived.Test.YtpnncadglhlclaaWeight
namespace Go.Proofs.Ytpnncadglhlclaa
open Go Go.RowKit
theorem gc_app {V W : List Chg} {j : Nat} (h : j < V.length) : gc (V ++ W) j = gc V j := by
  unfold gc
  simp [List.getD_eq_getElem?_getD, List.getElem?_append_left h]
theorem gc_last (V : List Chg) (c : Chg) : gc (V ++ [c]) V.length = c := by simp [gc]
theorem apE_app (E : List Edg) (V W : List Chg) : ∀ k, k ≤ V.length → apE E (V ++ W) k = apE E V k
  | 0, _ => rfl
  | k + 1, h => by rw [apE_succ, apE_succ, apE_app E V W k (by omega), gc_app (by omega)]
theorem apE_snoc (E : List Edg) (V : List Chg) (c : Chg) : apE E (V ++ [c]) (V ++ [c]).length = setW (apE E V V.length) c.e.toNat c.w := by
  rw [List.length_append, List.length_singleton, apE_succ, apE_app E V [c] _ (Nat.le_refl _), gc_last]
theorem apE_ft (E : List Edg) (L : List Chg) : ∀ k j, j < E.length → (ge (apE E L k) j).f = (ge E j).f ∧ (ge (apE E L k) j).t = (ge E j).t
  | 0, _, _ => ⟨rfl, rfl⟩
  | k + 1, j, hj => by
    obtain ⟨h1, h2⟩ := apE_ft E L k j hj
    rw [apE_succ, ge_setW _ _ _ _ (by rw [apE_len]; exact hj)]
    split
    · exact ⟨h1, h2⟩
    · exact ⟨h1, h2⟩
theorem apE_no (E : List Edg) (L : List Chg) : ∀ k j, j < E.length → (∀ i, i < k → 0 ≤ (gc L i).e) → hasK L j k = false → ge (apE E L k) j = ge E j
  | 0, _, _, _, _ => rfl
  | k + 1, j, hj, hp, h => by
    have h : (hasK L j k || decide ((gc L k).e = j)) = false := h
    rw [Bool.or_eq_false_iff] at h
    have h2 := of_decide_eq_false h.2
    have h3 := hp k (by omega)
    rw [apE_succ, ge_setW _ _ _ _ (by rw [apE_len]; exact hj), if_neg (by omega)]
    exact apE_no E L k j hj (fun i hi => hp i (by omega)) h.1
theorem chB_mk {m : Nat} {c : Chg} (h1 : 0 ≤ c.e ∧ c.e < m) (h2 : 1 ≤ c.w ∧ c.w ≤ 4294967296) : chB m c = true := by
  refine chB_at.2 ?_
  unfold chF
  rw [show edgeB m c.e = true from decide_eq_true h1, show wtB c.w = true from decide_eq_true h2]
  rfl
theorem ap_ok {N : Int} {E : List Edg} {V : List Chg} (hr : rightF N E = 0) (h : ∀ c ∈ V, (0 ≤ c.e ∧ c.e < E.length) ∧ 1 ≤ c.w ∧ c.w ≤ 4294967296) :
    apN N E V = N ∧ apL N E V = apE E V V.length ∧ apI N E V = 0 ∧ apF N E V = 0 :=
  ap_all hr fun j hj => by
    have hm : gc V j ∈ V := by
      have : gc V j = V[j] := by simp [gc, hj]
      rw [this]; exact List.getElem_mem hj
    obtain ⟨h1, h2⟩ := h _ hm
    exact chB_mk h1 h2
theorem un_mem {E : List Edg} {L : List Chg} : ∀ k, ∀ c ∈ unL E L k, 0 ≤ c.e ∧ c.e < k ∧ c.w = (ge E c.e.toNat).w
  | 0, c, h => by simp [unL] at h
  | k + 1, c, h => by
    have h : c ∈ (if hasK L k L.length then unL E L k ++ [⟨k, (ge E k).w⟩] else unL E L k) := h
    split at h
    · rcases List.mem_append.1 h with h | h
      · have := un_mem k c h; exact ⟨this.1, by omega, this.2.2⟩
      · simp at h; subst h; exact ⟨by simp, by simp; omega, by simp⟩
    · have := un_mem k c h; exact ⟨this.1, by omega, this.2.2⟩
theorem dif_mem {E F : List Edg} : ∀ k, ∀ c ∈ difL E F k, 0 ≤ c.e ∧ c.e < k ∧ c.w = (ge F c.e.toNat).w
  | 0, c, h => by simp [difL] at h
  | k + 1, c, h => by
    have h : c ∈ (if (ge F k).w = (ge E k).w then difL E F k else difL E F k ++ [⟨k, (ge F k).w⟩]) := h
    split at h
    · have := dif_mem k c h; exact ⟨this.1, by omega, this.2.2⟩
    · rcases List.mem_append.1 h with h | h
      · have := dif_mem k c h; exact ⟨this.1, by omega, this.2.2⟩
      · simp at h; subst h; exact ⟨by simp, by simp; omega, by simp⟩
theorem un_at (X E : List Edg) (L : List Chg) : ∀ k j, k ≤ X.length → j < X.length → ge (apE X (unL E L k) (unL E L k).length) j = if j < k ∧ hasK L j L.length = true then ⟨(ge X j).f, (ge X j).t, (ge E j).w⟩ else ge X j
  | 0, j, _, _ => by rw [if_neg (by omega)]; rfl
  | k + 1, j, hk, hj => by
    have ih := un_at X E L k j (by omega) hj
    have e : unL E L (k + 1) = if hasK L k L.length then unL E L k ++ [⟨k, (ge E k).w⟩] else unL E L k := rfl
    rw [e]
    cases hb : hasK L k L.length with
    | true =>
      simp only [if_true]
      rw [apE_snoc, ge_setW _ _ _ _ (by rw [apE_len]; exact hj)]
      by_cases hjk : j = k
      · subst hjk
        rw [if_pos (by simp), if_pos ⟨by omega, hb⟩, ih, if_neg (by omega)]
      · rw [if_neg (by simp; omega), ih]
        by_cases hc : j < k ∧ hasK L j L.length = true
        · rw [if_pos hc, if_pos ⟨by omega, hc.2⟩]
        · rw [if_neg hc, if_neg (fun h => hc ⟨by omega, h.2⟩)]
    | false =>
      simp only [Bool.false_eq_true, if_false]
      rw [ih]
      by_cases hc : j < k ∧ hasK L j L.length = true
      · rw [if_pos hc, if_pos ⟨by omega, hc.2⟩]
      · rw [if_neg hc, if_neg (fun h => by
          by_cases hjk : j = k
          · subst hjk; rw [hb] at h; cases h.2
          · exact hc ⟨by omega, h.2⟩)]
theorem dif_at (E F : List Edg) : ∀ k j, k ≤ E.length → j < E.length → ge (apE E (difL E F k) (difL E F k).length) j = if j < k then ⟨(ge E j).f, (ge E j).t, (ge F j).w⟩ else ge E j
  | 0, j, _, _ => by rw [if_neg (by omega)]; rfl
  | k + 1, j, hk, hj => by
    have ih := dif_at E F k j (by omega) hj
    have e : difL E F (k + 1) = if (ge F k).w = (ge E k).w then difL E F k else difL E F k ++ [⟨k, (ge F k).w⟩] := rfl
    rw [e]
    by_cases hb : (ge F k).w = (ge E k).w
    · rw [if_pos hb, ih]
      by_cases hjk : j = k
      · subst hjk
        rw [if_neg (by omega), if_pos (by omega), hb]
      · by_cases hc : j < k
        · rw [if_pos hc, if_pos (by omega)]
        · rw [if_neg hc, if_neg (by omega)]
    · rw [if_neg hb, apE_snoc, ge_setW _ _ _ _ (by rw [apE_len]; exact hj)]
      by_cases hjk : j = k
      · subst hjk
        rw [if_pos (by simp), if_pos (by omega), ih, if_neg (by omega)]
      · rw [if_neg (by simp; omega), ih]
        by_cases hc : j < k
        · rw [if_pos hc, if_pos (by omega)]
        · rw [if_neg hc, if_neg (by omega)]
/-- All that the statement asks of changes that may be. -/
theorem back {N : Int} {E : List Edg} {L : List Chg} (h : apF N E L = 0) :
    apN N E L = N ∧ (apL N E L).length = E.length ∧
    (apN N (apL N E L) (unV N E L) = N ∧ apL N (apL N E L) (unV N E L) = E ∧ apF N (apL N E L) (unV N E L) = 0) ∧
    difB N E N (apL N E L) = true ∧
    (apN N E (difV N E N (apL N E L)) = N ∧ apL N E (difV N E N (apL N E L)) = apL N E L ∧ apF N E (difV N E N (apL N E L)) = 0) ∧
    (difV N E N (apL N E L)).length ≤ (unV N E L).length := by
  obtain ⟨hr, hj⟩ := apF_zero h
  obtain ⟨a1, a2, _, _⟩ := ap_all hr hj
  have hU : unV N E L = unL E L E.length := by unfold unV; rw [if_pos h]
  have hp : ∀ i, i < L.length → 0 ≤ (gc L i).e := fun i hi => (chB_spec (hj i hi)).1
  rw [a1, a2, hU]
  have hX : rightF N (apE E L L.length) = 0 := right_ap hr _ hj
  have hlX : (apE E L L.length).length = E.length := apE_len E L _
  have hft := apE_ft E L L.length
  have hno := fun j hj hb => apE_no E L L.length j hj hp hb
  generalize apE E L L.length = X at *
  have hD : difB N E N X = true := decide_eq_true ⟨hr, hX, rfl, hlX.symm, fun j hj => by
    obtain ⟨h1, h2⟩ := hft j hj
    unfold enB
    rw [h1, h2, beq_self_eq_true, beq_self_eq_true]; rfl⟩
  have hDV : difV N E N X = difL E X E.length := by unfold difV; rw [hD]; rfl
  rw [hDV]
  obtain ⟨b1, b2, _, b4⟩ := ap_ok (E := X) (V := unL E L E.length) hX (fun c hc => by
    obtain ⟨h1, h2, h3⟩ := un_mem _ c hc
    have := right_weight hr (k := c.e.toNat) (by omega)
    rw [hlX, h3]
    exact ⟨⟨h1, h2⟩, this⟩)
  obtain ⟨c1, c2, _, c4⟩ := ap_ok (E := E) (V := difL E X E.length) hr (fun c hc => by
    obtain ⟨h1, h2, h3⟩ := dif_mem _ c hc
    have := right_weight hX (k := c.e.toNat) (by omega)
    rw [h3]
    exact ⟨⟨h1, h2⟩, this⟩)
  refine ⟨rfl, hlX, ⟨b1, ?_, b4⟩, hD, ⟨c1, ?_, c4⟩, ?_⟩
  · rw [b2]
    refine edg_ext (by rw [apE_len, hlX]) fun j hj => ?_
    rw [apE_len] at hj
    rw [un_at X E L E.length j (by omega) hj]
    rw [hlX] at hj
    obtain ⟨h1, h2⟩ := hft j hj
    cases hb : hasK L j L.length with
    | true => rw [if_pos ⟨hj, rfl⟩, h1, h2]
    | false => rw [if_neg (fun h => by cases h.2), hno j hj hb]
  · rw [c2]
    refine edg_ext (by rw [apE_len, hlX]) fun j hj => ?_
    rw [apE_len] at hj
    rw [dif_at E X E.length j (Nat.le_refl _) hj, if_pos hj]
    obtain ⟨h1, h2⟩ := hft j hj
    rw [← h1, ← h2]
  · have key : ∀ k, k ≤ E.length → (difL E X k).length ≤ (unL E L k).length := by
      intro k
      induction k with
      | zero => intro _; exact Nat.le_refl _
      | succ k ih =>
        intro hk
        have := ih (by omega)
        have e1 : difL E X (k + 1) = if (ge X k).w = (ge E k).w then difL E X k else difL E X k ++ [⟨k, (ge X k).w⟩] := rfl
        have e2 : unL E L (k + 1) = if hasK L k L.length then unL E L k ++ [⟨k, (ge E k).w⟩] else unL E L k := rfl
        rw [e1, e2]
        cases hb : hasK L k L.length with
        | true =>
          simp only [if_true]
          split
          · rw [List.length_append]; simp; omega
          · rw [List.length_append, List.length_append]; simp; omega
        | false =>
          rw [if_pos (by rw [hno k (by omega) hb])]
          simpa using this
    exact key _ (Nat.le_refl _)
end Go.Proofs.Ytpnncadglhlclaa
