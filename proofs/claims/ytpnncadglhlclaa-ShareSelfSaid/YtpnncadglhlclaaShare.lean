/- Contracts: the set of a row, the stretches of two. -/
import Derived.Test.YtpnncadglhlclaaShared
import Derived.Test.YtpnncadglhlclaaOwn
namespace Go.Proofs.Ytpnncadglhlclaa
open Go Go.RowKit Go.Maps

/-- How often each stands there. -/
def cntF (l : List Int) (z : Int) : Option Int := if z ∈ l then some ((l.count z : Nat) : Int) else none
theorem cntF_snoc {l : List Int} {k : Nat} (hk : k < l.length) (z : Int) : (if z = gi l k then some ((cntF (l.take k) (gi l k)).getD 0 + 1) else cntF (l.take k) z) = cntF (l.take (k + 1)) z := by
  have e : l.take (k + 1) = l.take k ++ [gi l k] := by rw [List.take_succ_eq_append_getElem hk]; simp [gi, hk]
  unfold cntF
  rw [e]
  by_cases hz : z = gi l k
  · subst hz
    have hin : gi l k ∈ l.take k ++ [gi l k] := by simp
    by_cases hm : gi l k ∈ l.take k
    · simp [hm]
    · simp [hm, List.count_eq_zero_of_not_mem hm]
  · rw [if_neg hz]
    have h1 : z ∈ l.take k ++ [gi l k] ↔ z ∈ l.take k := by simp [hz]
    have h2 : List.count z [gi l k] = 0 := List.count_eq_zero_of_not_mem (by simp [hz])
    simp only [h1, List.count_append, h2, Nat.add_zero]
theorem cntF_zero (l : List Int) (z : Int) : ((cntF l z).getD 0 == 0) = !decide (z ∈ l) := by
  unfold cntF
  by_cases h : z ∈ l
  · have : 0 < l.count z := List.count_pos_iff.2 h
    rw [if_pos h, decide_eq_true h]
    simp
    omega
  · rw [if_neg h, decide_eq_false h]; rfl
theorem cntF_le (l : List Int) (z : Int) : 0 ≤ (cntF l z).getD 0 ∧ (cntF l z).getD 0 ≤ l.length := by
  unfold cntF
  have := List.count_le_length (l := l) (a := z)
  by_cases h : z ∈ l
  · rw [if_pos h]; simp; exact this
  · rw [if_neg h]; simp

def SetPost (w : World) (n : Nat) (l : List Int) (e : Ending) (w' : World) : Prop := ∃ b s, e = .returned (.map (some b)) ∧ w.heap.size ≤ b ∧ MapII w' b n s (cntF l) ∧ Grows w w'

set_option maxHeartbeats 1000000 in
theorem shSet (A : Option Addr) (n c : Nat) (l : List Int) (w : World) (h : Rd w A 1 n (l.map (.int .i64))) (hn : n ≤ 1000000) (hw : ∀ j, j < n → I64 (gi l j)) :
    Calls Try.prog 92 #[.slice A n c] w (SetPost w n l) := by
  have HL := hide (show l.length = n by simpa using h.len)
  have HR := hide h
  have HI := hide hw
  clear h hw
  have hmm := @run_makeMap Try.prog
  go_enter Try.func92, Try.ntmps92
  go_wp2
  have HM := hide (MapII.made w)
  have HG := hide ((Grows.refl w).new (.map #[] 0)).later
  go_loopw [9] (fun i wr => ∃ k : Nat, k ≤ n ∧ i = .int .i64 (k : Int) ∧ (∃ y : Later w, wr = y.now) ∧ ∃ s, MapII wr w.heap.size k s (cntF (l.take k))) (fun i _ => n - (intOf i).toNat)
  case atStart => exact ⟨0, by omega, by go_num, HG.out, 0, by rw [show cntF (l.take 0) = fun _ => none from rfl]; exact HM.out⟩
  case round =>
    obtain ⟨q, hq, rfl, ⟨y, rfl⟩, s, hmap⟩ := hrel
    by_cases hend : n ≤ q
    · have HF : Hid (MapII y.now w.heap.size n s (cntF l)) := by
        have hq' : q = n := by omega
        have e : l.take n = l := by rw [← HL.out]; exact List.take_length
        rw [hq', e] at hmap
        exact hmap
      clear hmap HM HG
      go_wp2
      go_ret
      exact ⟨_, s, rfl, Nat.le_refl _, HF.out, (by repeat (first | exact Grows.refl _ | refine Grows.now ?_ _ | refine Grows.new ?_ _ | refine Grows.drewN ?_ _ | refine Grows.drew ?_ | assumption | (refine Grows.set ?_ (by first | omega | (simp; done) | (simp; omega)) _)))⟩
    · obtain ⟨bb, off, rfl, hc⟩ := HR.out.ints (by omega)
      have hc1 := hc q (by omega)
      have hwq := HI.out q (by omega)
      have HH := hide hmap
      have hcl := cntF_le (l.take q) (gi l q)
      have hlen : (l.take q).length ≤ q := List.length_take_le _ _
      obtain ⟨hc0, hc2⟩ := hcl
      have hw2 : I64 ((cntF (l.take q) (gi l q)).getD 0 + 1) := ⟨by omega, by omega⟩
      have hlt : (cntF (l.take q) (gi l q)).getD 0 ≤ 1000000 := by omega
      have HQ := hide (cntF_snoc (l := l) (k := q) (by have := HL.out; omega))
      clear hc hmap hc2 hlen
      go_wp2_with (first
        | (at_lookup; refine wp_mapGet rfl _ _ rfl w.heap.size q s _ rfl HH.out _ rfl hwq ?_)
        | (at_mapUpdate; refine wp_mapPut rfl _ _ _ rfl w.heap.size q s _ rfl HH.out (by unfold maxLen; omega) _ _ rfl rfl hwq hw2 ?_; intro w1 hmap1 hg1))
      have hG1 := (y.grows.row (by omega) hg1).later
      obtain ⟨y1, rfl⟩ := hG1
      go_roundw
      case measure => simp [intOf]; omega
      case rel => exact ⟨q + 1, by omega, by go_num, ⟨_, rfl⟩, _, by rw [← funext HQ.out]; exact hmap1⟩

end Go.Proofs.Ytpnncadglhlclaa
