/- Plain: the stretches of two rows, gathered as one goes along, are those that are looked for place by place. -/
import Derived.Test.YtpnncadglhlclaaStretch
namespace Go.Proofs.Ytpnncadglhlclaa
open Go Go.RowKit
/-- Where the stretch that holds place i ends. -/
def ruN (q : Int → Bool) (l : List Int) (i : Nat) : Nat := i + ((l.drop i).takeWhile q).length
theorem ruN_yes {q : Int → Bool} {l : List Int} {i : Nat} (hi : i < l.length) (h : q (gi l i) = true) : ruN q l i = ruN q l (i + 1) := by
  have e : l.drop i = gi l i :: l.drop (i + 1) := by rw [List.drop_eq_getElem_cons hi]; simp [gi, hi]
  unfold ruN
  rw [e, List.takeWhile_cons, h]
  simp
  omega
theorem ruN_no {q : Int → Bool} {l : List Int} {i : Nat} (h : i < l.length → q (gi l i) = false) : ruN q l i = i := by
  unfold ruN
  by_cases hi : i < l.length
  · have e : l.drop i = gi l i :: l.drop (i + 1) := by rw [List.drop_eq_getElem_cons hi]; simp [gi, hi]
    rw [e, List.takeWhile_cons, h hi]
    simp
  · rw [List.drop_eq_nil_of_le (by omega)]; simp
theorem ruN_ge (q : Int → Bool) (l : List Int) (i : Nat) : i ≤ ruN q l i := by unfold ruN; omega
theorem ruN_le {q : Int → Bool} {l : List Int} {i : Nat} (hi : i ≤ l.length) : ruN q l i ≤ l.length := by
  have h1 := (List.takeWhile_prefix (p := q) (l := l.drop i)).length_le
  unfold ruN
  simp at h1
  omega
/-- Does a stretch begin at place k? -/
def begB (q : Int → Bool) (l : List Int) (k : Nat) : Bool := q (gi l k) && (decide (k = 0) || !q (gi l (k - 1)))
def rfK (q : Int → Bool) (l : List Int) : Nat → List (Int × Int)
  | 0 => []
  | k + 1 => if begB q l k then rfK q l k ++ [((k : Int), (ruN q l k : Int))] else rfK q l k
theorem rfK_succ (q : Int → Bool) (l : List Int) (k : Nat) : rfK q l (k + 1) = if begB q l k then rfK q l k ++ [((k : Int), (ruN q l k : Int))] else rfK q l k := rfl
theorem rfK_len (q : Int → Bool) (l : List Int) (k : Nat) : (rfK q l k).length ≤ k := by
  induction k with
  | zero => simp [rfK]
  | succ k ih =>
    rw [rfK_succ]
    split
    · rw [List.length_append]; simp; omega
    · omega
def clip (k : Nat) (p : Int × Int) : Int × Int := (p.1, min p.2 k)
theorem clip_map {k j : Nat} {o : List (Int × Int)} (h : ∀ p ∈ o, p.2 ≤ (k : Int) ∧ p.2 ≤ (j : Int)) : o.map (clip k) = o.map (clip j) := by
  apply List.map_congr_left
  intro p hp
  have := h p hp
  unfold clip
  rw [Int.min_eq_left this.1, Int.min_eq_left this.2]
theorem st_inv (q : Int → Bool) (l : List Int) (k : Nat) (hk : k ≤ l.length) : (stK q l k).2 = (rfK q l k).map (clip k) ∧
    ((((k = 0 ∨ q (gi l (k - 1)) = false) ∧ (stK q l k).1 = -1 ∧ ∀ p ∈ rfK q l k, p.2 ≤ (k : Int))) ∨
     ((k ≠ 0 ∧ q (gi l (k - 1)) = true) ∧ (stK q l k).1 ≠ -1 ∧ ∃ o i, rfK q l k = o ++ [(i, (ruN q l k : Int))] ∧ ∀ p ∈ o, p.2 ≤ (k : Int))) := by
  induction k with
  | zero => exact ⟨rfl, .inl ⟨.inl rfl, rfl, fun p hp => by simp [rfK] at hp⟩⟩
  | succ k ih =>
    obtain ⟨h1, h2⟩ := ih (by omega)
    have hlt : k < l.length := by omega
    rw [stK_succ, rfK_succ]
    cases hq : q (gi l k) with
    | true =>
      have hru := ruN_yes hlt hq
      have hge := ruN_ge q l (k + 1)
      rw [if_pos rfl]
      rcases h2 with ⟨hp, ht, hall⟩ | ⟨hp, ht, o, i, he, hall⟩
      · have hb : begB q l k = true := by
          unfold begB
          rw [hq]
          rcases hp with hp | hp
          · simp [hp]
          · simp [hp]
        rw [if_pos ht, if_pos hb, hru]
        refine ⟨?_, .inr ⟨⟨by omega, by simpa using hq⟩, by omega, rfK q l k, _, rfl, fun p hp => by have := hall p hp; omega⟩⟩
        rw [h1, List.map_append, clip_map (k := k) (j := k + 1) (fun p hp => by have := hall p hp; omega)]
        simp only [List.map_cons, List.map_nil, clip]
        rw [Int.min_eq_right (by omega)]
        push_cast
        rfl
      · have hb : begB q l k = false := by
          unfold begB
          rw [hq, hp.2]
          simp [hp.1]
        rw [if_neg ht, hb]
        simp only [Bool.false_eq_true, if_false]
        refine ⟨?_, .inr ⟨⟨by omega, by simpa using hq⟩, ht, o, i, by rw [he, hru], fun p hp => by have := hall p hp; omega⟩⟩
        rw [h1, he, List.map_append, List.map_append, List.map_cons, List.map_cons, List.map_nil]
        rw [show clip k (i, (ruN q l k : Int)) = (i, (k : Int)) by unfold clip; rw [Int.min_eq_right (by have := ruN_ge q l k; show (k : Int) ≤ (ruN q l k : Int); omega)]]
        rw [setEnd_app, clip_map (k := k) (j := k + 1) (fun p hp => by have := hall p hp; omega)]
        simp only [clip, hru]
        rw [Int.min_eq_right (by omega)]
        push_cast
        rfl
    | false =>
      have hru := ruN_no (l := l) (i := k) (fun _ => hq)
      have hb : begB q l k = false := by unfold begB; rw [hq]; rfl
      rw [hb]
      simp only [Bool.false_eq_true, if_false]
      have hall : ∀ p ∈ rfK q l k, p.2 ≤ (k : Int) := by
        rcases h2 with ⟨_, _, hall⟩ | ⟨_, _, o, i, he, hall⟩
        · exact hall
        · intro p hp
          rw [he, List.mem_append] at hp
          rcases hp with hp | hp
          · exact hall p hp
          · simp at hp
            rw [hp]
            show (ruN q l k : Int) ≤ k
            omega
      refine ⟨?_, .inl ⟨.inr (by simpa using hq), by trivial, fun p hp => by have := hall p hp; omega⟩⟩
      rw [h1]
      exact clip_map (fun p hp => by have := hall p hp; omega)
theorem rfK_le (q : Int → Bool) (l : List Int) : ∀ k, k ≤ l.length → ∀ p ∈ rfK q l k, p.2 ≤ (l.length : Int)
  | 0, _, p, hp => by simp [rfK] at hp
  | k + 1, hk, p, hp => by
    rw [rfK_succ] at hp
    split at hp
    · rw [List.mem_append] at hp
      rcases hp with hp | hp
      · exact rfK_le q l k (by omega) p hp
      · simp at hp
        rw [hp]
        have := ruN_le (q := q) (l := l) (i := k) (by omega)
        show (ruN q l k : Int) ≤ l.length
        omega
    · exact rfK_le q l k (by omega) p hp
/-- The stretches are the same. -/
theorem st_plain (q : Int → Bool) (l : List Int) : (stK q l l.length).2 = rfK q l l.length := by
  rw [(st_inv q l l.length (Nat.le_refl _)).1]
  have : ∀ p ∈ rfK q l l.length, clip l.length p = p := fun p hp => by
    have := rfK_le q l l.length (Nat.le_refl _) p hp
    unfold clip
    rw [Int.min_eq_left this]
  rw [List.map_congr_left this]; exact List.map_id' _
end Go.Proofs.Ytpnncadglhlclaa
