/- Plain: what two rows of edges share, summed over the one or over the other, is the same. -/
import Derived.Test.YtpnncadglhlclaaRef08
namespace Go.Proofs.Ytpnncadglhlclaa
open Go Go.RowKit

/-- The sum of W over the first k of l, each counted where it first stands, if q holds of it. -/
def fsK (W : Int → Int) (q : Int → Bool) (l : List Int) : Nat → Int
  | 0 => 0
  | k + 1 => fsK W q l k + (if q (gi l k) && !decide (gi l k ∈ l.take k) then W (gi l k) else 0)
/-- The sum of g below n. -/
def sumTo (g : Nat → Int) : Nat → Int
  | 0 => 0
  | n + 1 => sumTo g n + g n
theorem sumTo_congr {g h : Nat → Int} {n : Nat} (e : ∀ j, j < n → g j = h j) : sumTo g n = sumTo h n := by
  induction n with
  | zero => rfl
  | succ n ih => unfold sumTo; rw [ih fun j hj => e j (by omega), e n (by omega)]
theorem sumTo_zero {g : Nat → Int} {n : Nat} (e : ∀ j, j < n → g j = 0) : sumTo g n = 0 := by
  induction n with
  | zero => rfl
  | succ n ih => unfold sumTo; rw [ih fun j hj => e j (by omega), e n (by omega)]; rfl
theorem sumTo_one {g h : Nat → Int} {n x : Nat} {v : Int} (hx : x < n) (e : ∀ j, j ≠ x → g j = h j) (ex : g x = h x + v) : sumTo g n = sumTo h n + v := by
  induction n with
  | zero => omega
  | succ n ih =>
    unfold sumTo
    by_cases hn : x = n
    · subst hn
      rw [sumTo_congr (n := x) fun j hj => e j (by omega), ex]
      omega
    · rw [ih (by omega), e n (by omega)]
      omega
theorem take_mem_succ {l : List Int} {k : Nat} (hk : k < l.length) (x : Int) : x ∈ l.take (k + 1) ↔ x ∈ l.take k ∨ x = gi l k := by
  rw [List.take_succ_eq_append_getElem hk, List.mem_append, List.mem_singleton]
  have : gi l k = l[k] := by simp [gi, hk]
  rw [this]
theorem fsK_sum {W : Int → Int} {q : Int → Bool} {l : List Int} {m : Nat} (hl : ∀ j, j < l.length → 0 ≤ gi l j ∧ gi l j < m) : ∀ k, k ≤ l.length →
    fsK W q l k = sumTo (fun j => if (j : Int) ∈ l.take k ∧ q j = true then W j else 0) m
  | 0, _ => by
    rw [show fsK W q l 0 = 0 from rfl, sumTo_zero fun j _ => by simp]
  | k + 1, hk => by
    have ih := fsK_sum (W := W) (q := q) hl k (by omega)
    obtain ⟨h1, h2⟩ := hl k (by omega)
    rw [show fsK W q l (k + 1) = fsK W q l k + (if q (gi l k) && !decide (gi l k ∈ l.take k) then W (gi l k) else 0) from rfl, ih]
    by_cases hm : gi l k ∈ l.take k
    · rw [decide_eq_true hm]
      simp only [Bool.not_true, Bool.and_false, Bool.false_eq_true, if_false, Int.add_zero]
      refine sumTo_congr fun j _ => ?_
      have : ((j : Int) ∈ l.take (k + 1)) ↔ (j : Int) ∈ l.take k := by
        rw [take_mem_succ (by omega)]
        exact ⟨fun h => h.elim id (fun e => e ▸ hm), .inl⟩
      simp only [this]
    · rw [decide_eq_false hm]
      refine (sumTo_one (x := (gi l k).toNat) (by omega) (fun j hj => ?_) ?_).symm
      · have : ((j : Int) ∈ l.take (k + 1)) ↔ (j : Int) ∈ l.take k := by
          rw [take_mem_succ (by omega)]
          exact ⟨fun h => h.elim id (fun e => by omega), .inl⟩
        simp only [this]
      · have e : (((gi l k).toNat : Nat) : Int) = gi l k := by omega
        have h3 : gi l k ∈ l.take (k + 1) := (take_mem_succ (by omega) _).2 (.inr rfl)
        simp only [e, h3, hm, true_and, false_and, if_false, Bool.not_false, Bool.and_true]
        cases q (gi l k) <;> simp
theorem shared_same {W : Int → Int} {a b : List Int} {m : Nat} (ha : ∀ j, j < a.length → 0 ≤ gi a j ∧ gi a j < m) (hb : ∀ j, j < b.length → 0 ≤ gi b j ∧ gi b j < m) :
    fsK W (fun x => decide (x ∈ b)) a a.length = fsK W (fun x => decide (x ∈ a)) b b.length := by
  rw [fsK_sum ha _ (Nat.le_refl _), fsK_sum hb _ (Nat.le_refl _)]
  refine sumTo_congr fun j _ => ?_
  simp only [List.take_length, decide_eq_true_eq, and_comm]

def eW (E : List Edg) (e : Int) : Int := (ge E e.toNat).w
/-- What two rows of edges share. -/
def sharedV (N : Int) (E : List Edg) (a b : List Int) : Int := if edgesB N E a && edgesB N E b then IntKind.u64.wrap (fsK (eW E) (fun x => decide (x ∈ a)) b b.length) else 0

theorem edgesB_spec {N : Int} {E : List Edg} {l : List Int} (h : edgesB N E l = true) : rightF N E = 0 ∧ ∀ j, j < l.length → 0 ≤ gi l j ∧ gi l j < E.length := by
  unfold edgesB at h
  simp only [Bool.and_eq_true, decide_eq_true_eq, Bool.not_eq_true', List.any_eq_false] at h
  refine ⟨h.1, fun j hj => ?_⟩
  have := h.2 _ (gi_mem hj)
  simpa [edgeB] using this

end Go.Proofs.Ytpnncadglhlclaa
