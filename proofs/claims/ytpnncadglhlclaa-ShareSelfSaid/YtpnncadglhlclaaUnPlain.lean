/- Plain: unlike numbers, gathered one by one or sorted and made compact, weigh the same. -/
import Derived.Test.YtpnncadglhlclaaRefUnion
import Derived.Test.YtpnncadglhlclaaUnion
namespace Go.Proofs.Ytpnncadglhlclaa
open Go Go.RowKit
theorem insU_mem (acc : List Int) (x y : Int) : y ∈ insU acc x ↔ y ∈ acc ∨ y = x := by
  unfold insU
  split
  · rename_i h
    constructor
    · exact .inl
    · rintro (h1 | rfl)
      · exact h1
      · exact h
  · simp
theorem insU_nodup {acc : List Int} (h : acc.Nodup) (x : Int) : (insU acc x).Nodup := by
  unfold insU
  split
  · exact h
  · rename_i hx
    rw [List.nodup_append]
    refine ⟨h, by simp, ?_⟩
    intro a ha b hb
    simp at hb
    subst hb
    rintro rfl
    exact hx ha
theorem unI_spec {acc : List Int} (h : acc.Nodup) (xs : List Int) (k : Nat) (hk : k ≤ xs.length) : (unI acc xs k).Nodup ∧ ∀ y, y ∈ unI acc xs k ↔ y ∈ acc ∨ y ∈ xs.take k := by
  induction k with
  | zero => exact ⟨h, fun y => by simp [unI]⟩
  | succ k ih =>
    obtain ⟨h1, h2⟩ := ih (by omega)
    refine ⟨insU_nodup h1 _, fun y => ?_⟩
    show y ∈ insU _ _ ↔ _
    rw [insU_mem, h2, List.take_succ_eq_append_getElem (by omega), List.mem_append]
    have e : gi xs k = xs[k] := by simp [gi, show k < xs.length by omega]
    rw [e]
    simp [or_assoc]
theorem unA_spec {R : List Row} (h : ∀ k, k < R.length → (gr R k).xs.length = (gr R k).n) (i : Nat) (hi : i ≤ R.length) : (unA R i).Nodup ∧ ∀ y, y ∈ unA R i ↔ y ∈ ccK R i := by
  induction i with
  | zero => exact ⟨by simp [unA], fun y => by simp [unA, ccK]⟩
  | succ i ih =>
    obtain ⟨h1, h2⟩ := ih (by omega)
    have hl := h i (by omega)
    obtain ⟨h3, h4⟩ := unI_spec h1 (gr R i).xs (gr R i).n (by omega)
    refine ⟨h3, fun y => ?_⟩
    show y ∈ unI _ _ _ ↔ y ∈ ccK R i ++ _
    rw [h4, h2, List.mem_append, ← hl, List.take_length]
theorem compact_spec {d : Array Int} (hs : ∀ i j : Nat, i ≤ j → j < d.size → d[i]! ≤ d[j]!) : ∀ m, m ≤ d.size → (Lib.compactUpTo d m).Nodup ∧ (∀ x ∈ Lib.compactUpTo d m, ∃ j, j < m ∧ x = d[j]!) ∧ ∀ j, j < m → d[j]! ∈ Lib.compactUpTo d m := by
  intro m
  induction m with
  | zero => intro _; exact ⟨by simp [Lib.compactUpTo], fun x hx => by simp [Lib.compactUpTo] at hx, fun j hj => by omega⟩
  | succ m ih =>
    intro hm
    obtain ⟨h1, h2, h3⟩ := ih (by omega)
    rw [Lib.compactUpTo_succ]
    by_cases hk : m ≠ 0 ∧ d[m]! = d[m - 1]!
    · rw [Lib.keeps_neg (by omega) hk.2]
      simp only [Bool.false_eq_true, if_false, List.append_nil]
      refine ⟨h1, fun x hx => ?_, fun j hj => ?_⟩
      · obtain ⟨j, hj, e⟩ := h2 x hx
        exact ⟨j, by omega, e⟩
      · by_cases e : j = m
        · subst e
          rw [hk.2]
          exact h3 _ (by omega)
        · exact h3 j (by omega)
    · have hkeep : Lib.keeps d m = true := by
        by_cases h0 : m = 0
        · exact Lib.keeps_lt_one d m (by omega)
        · exact Lib.keeps_pos (fun e => hk ⟨h0, e⟩)
      rw [hkeep]
      simp only [if_true]
      refine ⟨?_, fun x hx => ?_, fun j hj => ?_⟩
      · rw [List.nodup_append]
        refine ⟨h1, by simp, fun a ha b hb => ?_⟩
        simp at hb
        subst hb
        obtain ⟨j, hj, rfl⟩ := h2 a ha
        have e1 := hs j (m - 1) (by omega) (by omega)
        have e2 := hs (m - 1) m (by omega) (by omega)
        have e3 : d[m]! ≠ d[m - 1]! := fun e => hk ⟨by omega, e⟩
        omega
      · rw [List.mem_append] at hx
        rcases hx with hx | hx
        · obtain ⟨j, hj, e⟩ := h2 x hx
          exact ⟨j, by omega, e⟩
        · simp at hx
          exact ⟨m, by omega, hx⟩
      · rw [List.mem_append]
        by_cases e : j = m
        · subst e; right; simp
        · exact .inl (h3 j (by omega))
theorem isum_perm (f : Int → Int) {l l' : List Int} (h : l.Perm l') : (l.map f).sum = (l'.map f).sum := by
  induction h with
  | nil => rfl
  | cons x _ ih => simp [ih]
  | swap x y l => simp; omega
  | trans _ _ h1 h2 => exact h1.trans h2
theorem wtK_sum (E : List Edg) (l : List Int) (k : Nat) (hk : k ≤ l.length) : wtK E l k = ((l.take k).map fun e => (ge E e.toNat).w).sum := by
  induction k with
  | zero => simp [wtK]
  | succ k ih =>
    have e : gi l k = l[k] := by simp [gi, show k < l.length by omega]
    rw [wtK_succ, ih (by omega), List.take_succ_eq_append_getElem (by omega), List.map_append, List.sum_append, e]
    simp
theorem union_perm (N : Int) (E : List Edg) {l l' : List Int} (h : l.Perm l') : unionV N E l = unionV N E l' := by
  have h1 : edgesB N E l = edgesB N E l' := by
    unfold edgesB
    have : (l.any fun e => !edgeB E.length e) = (l'.any fun e => !edgeB E.length e) := by
      rw [Bool.eq_iff_iff, List.any_eq_true, List.any_eq_true]
      constructor
      · rintro ⟨x, hx, e⟩; exact ⟨x, h.mem_iff.1 hx, e⟩
      · rintro ⟨x, hx, e⟩; exact ⟨x, h.mem_iff.2 hx, e⟩
    rw [this]
  unfold unionV
  rw [h1, wtK_sum E l _ (Nat.le_refl _), wtK_sum E l' _ (Nat.le_refl _), List.take_length, List.take_length, isum_perm _ h]
theorem srt_sorted (xs : List Int) (i j : Nat) (hij : i ≤ j) (hj : j < (srt xs).toArray.size) : (srt xs).toArray[i]! ≤ (srt xs).toArray[j]! := by
  have hj' : j < (srt xs).length := by simpa using hj
  have hp := List.pairwise_mergeSort (le := fun x y : Int => decide (x ≤ y)) (fun a b c h1 h2 => by simp at *; omega) (fun a b => by simp; omega) xs
  have e1 : (srt xs).toArray[i]! = (srt xs)[i] := by simp [show i < (srt xs).length by omega]
  have e2 : (srt xs).toArray[j]! = (srt xs)[j] := by simp [hj']
  rw [e1, e2]
  rcases Nat.lt_or_ge i j with h | h
  · have := List.pairwise_iff_getElem.1 hp i j (by show i < (srt xs).length; omega) (by show j < (srt xs).length; omega) h
    simpa [srt] using this
  · have : i = j := by omega
    subst this
    exact Int.le_refl _
/-- What the program weighs is what the answer weighs. -/
theorem union_plain (N : Int) (E : List Edg) (R : List Row) (h : ∀ k, k < R.length → (gr R k).xs.length = (gr R k).n) : unionV N E (Lib.compact (srt (ccK R R.length))) = unionV N E (unA R R.length) := by
  apply union_perm
  obtain ⟨h1, h2⟩ := unA_spec h R.length (Nat.le_refl _)
  obtain ⟨c1, c2, c3⟩ := compact_spec (srt_sorted (ccK R R.length)) (srt (ccK R R.length)).length (by simp)
  refine (List.perm_ext_iff_of_nodup (show (Lib.compact (srt (ccK R R.length))).Nodup from c1) h1).2 fun a => ?_
  rw [h2, ← (List.mergeSort_perm (ccK R R.length) (fun x y : Int => decide (x ≤ y))).mem_iff]
  show a ∈ Lib.compactUpTo _ _ ↔ a ∈ srt (ccK R R.length)
  constructor
  · intro ha
    obtain ⟨j, hj, rfl⟩ := c2 a ha
    have : (srt (ccK R R.length)).toArray[j]! = (srt (ccK R R.length))[j] := by simp [hj]
    rw [this]
    exact List.getElem_mem hj
  · intro ha
    obtain ⟨j, hj, rfl⟩ := List.mem_iff_getElem.1 ha
    have : (srt (ccK R R.length)).toArray[j]! = (srt (ccK R R.length))[j] := by simp [hj]
    rw [← this]
    exact c3 j hj
end Go.Proofs.Ytpnncadglhlclaa
