/- Plain: what changes of weights come to, one by one. -/
import Derived.Test.YtpnncadglhlclaaWithE
namespace Go.Proofs.Ytpnncadglhlclaa
open Go Go.RowKit
/-- May a graph of m edges have this change? -/
def chB (m : Nat) (c : Chg) : Bool := decide (chF m c.e c.w = 0)
theorem chB_spec {m : Nat} {c : Chg} (h : chB m c = true) : 0 ≤ c.e ∧ c.e < m ∧ 1 ≤ c.w ∧ c.w ≤ 4294967296 := by
  have h := of_decide_eq_true h
  unfold chF at h
  split at h
  · rename_i h1
    split at h
    · rename_i h2
      have := of_decide_eq_true h1
      have := of_decide_eq_true h2
      omega
    · omega
  · omega
/-- The edges behind the first k changes. -/
def apE (E : List Edg) (L : List Chg) : Nat → List Edg
  | 0 => E
  | k + 1 => setW (apE E L k) (gc L k).e.toNat (gc L k).w
theorem apE_succ (E : List Edg) (L : List Chg) (k : Nat) : apE E L (k + 1) = setW (apE E L k) (gc L k).e.toNat (gc L k).w := rfl
theorem apE_len (E : List Edg) (L : List Chg) : ∀ k, (apE E L k).length = E.length
  | 0 => rfl
  | k + 1 => by rw [apE_succ, setW_len, apE_len E L k]
/-- The first change that may not be. -/
def bdK (m : Nat) (L : List Chg) : Nat := (L.takeWhile (chB m)).length
theorem bdK_le (m : Nat) (L : List Chg) : bdK m L ≤ L.length := (List.takeWhile_prefix _).length_le
theorem bdK_ok {m : Nat} {L : List Chg} {k : Nat} (hk : k < bdK m L) : chB m (gc L k) = true := by
  have hp := List.takeWhile_prefix (p := chB m) (l := L)
  have h1 : k < (L.takeWhile (chB m)).length := hk
  have h2 : gc L k = (L.takeWhile (chB m))[k] := by
    have := hp.getElem h1
    have h3 : k < L.length := Nat.lt_of_lt_of_le hk (bdK_le m L)
    simp [gc, h3, this]
  rw [h2]
  have := List.all_takeWhile (p := chB m) (l := L)
  exact List.all_eq_true.1 this _ (List.getElem_mem h1)
theorem bdK_at {m : Nat} : ∀ {L : List Chg} {k : Nat}, k < L.length → (∀ j, j < k → chB m (gc L j) = true) → chB m (gc L k) = false → bdK m L = k
  | c :: L, 0, _, _, h => by
    have h : chB m c = false := h
    unfold bdK
    rw [List.takeWhile_cons, h]; rfl
  | c :: L, k + 1, hk, hj, h => by
    have h0 : chB m c = true := hj 0 (by omega)
    have := bdK_at (m := m) (L := L) (k := k) (by simpa using hk) (fun j hjk => hj (j + 1) (by omega)) h
    unfold bdK at *
    rw [List.takeWhile_cons, h0]
    simpa using this
theorem bdK_all {m : Nat} : ∀ {L : List Chg}, (∀ j, j < L.length → chB m (gc L j) = true) → bdK m L = L.length
  | [], _ => rfl
  | c :: L, hj => by
    have h0 : chB m c = true := hj 0 (by simp)
    have := bdK_all (m := m) (L := L) (fun j hjk => hj (j + 1) (by simpa using hjk))
    unfold bdK at *
    rw [List.takeWhile_cons, h0]
    simpa using this
/-- A graph that may be, may be with another weight. -/
theorem right_set {N : Int} {E : List Edg} {e : Nat} {w : Int} (h : rightF N E = 0) (he : e < E.length) (hw : wtB w = true) : rightF N (setW E e w) = 0 := by
  unfold rightF at *
  rw [setW_len]
  split at h
  · omega
  · rename_i h1
    rw [if_neg h1]
    split at h
    · omega
    · rename_i h2
      rw [if_neg h2]
      split at h
      · omega
      · rename_i h3
        split at h
        · omega
        · rename_i h4
          have key : ∀ (p : Edg → Bool), (E.any p = false) → (p ⟨(ge E e).f, (ge E e).t, w⟩ = false) → (setW E e w).any p = false := by
            intro p hp hq
            rw [List.any_eq_false] at *
            intro x hx
            unfold setW at hx
            rcases List.mem_or_eq_of_mem_set hx with hx | rfl
            · exact hp x hx
            · simpa using hq
          have hmem : ge E e ∈ E := by
            have : ge E e = E[e] := by simp [ge, he]
            rw [this]; exact List.getElem_mem he
          have h3' : E.any (looseB N) = false := by simpa using h3
          have h4' : E.any heavyB = false := by simpa using h4
          have k1 := key (looseB N) h3' (by
            have := List.any_eq_false.1 h3' _ hmem
            unfold looseB at this ⊢
            simpa using this)
          have k2 := key heavyB h4' (by unfold heavyB; rw [hw]; rfl)
          rw [k1, k2]
          simp
theorem ok_wt {m : Nat} {c : Chg} (h : chB m c = true) : wtB c.w = true := by
  have := chB_spec h
  exact decide_eq_true (by omega)
theorem right_ap {N : Int} {E : List Edg} {L : List Chg} (h : rightF N E = 0) : ∀ k, (∀ j, j < k → chB E.length (gc L j) = true) → rightF N (apE E L k) = 0
  | 0, _ => h
  | k + 1, hj => by
    have hc := hj k (by omega)
    have := chB_spec hc
    exact right_set (right_ap h k fun j hjk => hj j (by omega)) (by rw [apE_len]; omega) (ok_wt hc)
/-- What changes come to: the graph, which of them is wrong, and why. -/
def apOk (N : Int) (E : List Edg) (L : List Chg) : Bool := decide (rightF N E = 0) && decide (bdK E.length L = L.length)
def apN (N : Int) (E : List Edg) (L : List Chg) : Int := if apOk N E L then N else 0
def apL (N : Int) (E : List Edg) (L : List Chg) : List Edg := if apOk N E L then apE E L L.length else []
def apI (N : Int) (E : List Edg) (L : List Chg) : Int := if rightF N E = 0 then (if bdK E.length L < L.length then (bdK E.length L : Int) else 0) else 0
def apF (N : Int) (E : List Edg) (L : List Chg) : Int := if rightF N E = 0 then (if bdK E.length L < L.length then chF E.length (gc L (bdK E.length L)).e (gc L (bdK E.length L)).w else 0) else 1
/-- A graph, a place, and why not. -/
def GiveA (w : World) (N : Int) (E : List Edg) (i f : Int) (e : Ending) (w' : World) : Prop := ∃ A c, e = .returned (.tuple #[.agg #[.int .i64 N, .slice A E.length c], .int .i64 i, .int .i64 f]) ∧ Rd w' A 3 E.length (esCells E) ∧ Grows w w'
end Go.Proofs.Ytpnncadglhlclaa
