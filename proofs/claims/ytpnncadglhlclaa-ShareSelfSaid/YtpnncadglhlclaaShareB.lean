/- Contracts: which rows may be gone through; the example of the chapter on shares. -/
import Derived.Test.YtpnncadglhlclaaRowsB
import Derived.Test.YtpnncadglhlclaaLightB
import Derived.Test.YtpnncadglhlclaaStretch
namespace Go.Proofs.Ytpnncadglhlclaa
open Go Go.RowKit Go.Maps
def lightR (n : Nat) (R : List Row) : Bool := decide (n ≤ 60 ∧ R.length ≤ 12 ∧ ∀ k, k < R.length → (gr R k).n ≤ 60)
set_option maxHeartbeats 1000000 in
theorem lLight26 (B : Option Addr) (n d : Nat) (B' : Option Addr) (n' d' : Nat) (R : List Row) (w : World) (hr : Rd w B' 1 n' (R.map rowVal)) :
    Calls Try.prog 50 #[.slice B n d, .slice B' n' d'] w fun e w' => e = .returned (.bool (lightR n R)) ∧ w = w' := by
  have HL := hide (show R.length = n' by simpa using hr.len)
  have HR := hide hr
  clear hr
  by_cases h1 : (60 : Int) < n
  · have HW : Hid (lightR n R = false) := decide_eq_false (by omega)
    go_enter Try.func50, Try.ntmps50
    go_wp2
    go_ret
    exact ⟨ret_bool HW.out.symm, rfl⟩
  by_cases h2 : (12 : Int) < n'
  · have HW : Hid (lightR n R = false) := decide_eq_false (by have := HL.out; omega)
    go_enter Try.func50, Try.ntmps50
    go_wp2
    go_ret
    exact ⟨ret_bool HW.out.symm, rfl⟩
  have hA : n ≤ 60 ∧ n' ≤ 12 := by omega
  obtain ⟨h3, h4⟩ := hA
  go_enter Try.func50, Try.ntmps50
  go_wp2
  go_loop [5] (fun i => ∃ k : Nat, k ≤ n' ∧ i = .int .i64 (k : Int) ∧ ∀ j, j < k → (gr R j).n ≤ 60) (fun i => n' - (intOf i).toNat)
  case atStart => exact ⟨0, by omega, by go_num, fun j h => by omega⟩
  case round =>
    obtain ⟨k, hk, rfl, hall⟩ := hrel
    have HA := hide hall
    clear hall
    by_cases hend : n' ≤ k
    · have HW : Hid (lightR n R = true) := decide_eq_true ⟨h3, by have := HL.out; omega, fun j hj => HA.out j (by have := HL.out; omega)⟩
      go_wp2
      go_ret
      exact ⟨ret_bool HW.out.symm, rfl⟩
    · obtain ⟨b, off, rfl, hc⟩ := HR.out.rows (by omega)
      have hc1 := hc k (by omega)
      clear hc
      by_cases h5 : (gr R k).n ≤ 60
      · go_wp2
        go_round
        case measure => simp [intOf]; omega
        case rel =>
          refine ⟨k + 1, by omega, by go_num, fun j hj => ?_⟩
          by_cases e : j = k
          · rw [e]; exact h5
          · exact HA.out j (by omega)
      · have HW : Hid (lightR n R = false) := decide_eq_false (fun h => h5 (h.2.2 k (by have := HL.out; omega)))
        go_wp2
        go_ret
        exact ⟨ret_bool HW.out.symm, rfl⟩

set_option maxRecDepth 20000 in
set_option maxHeartbeats 1000000 in
theorem alive26 (w : World) : Calls Try.prog 51 #[] w fun e w' => e = .returned (.bool true) ∧ Grows w w' := by
  have R1 : Rd ((w.alloc (.cells #[.int .i64 0, .int .i64 1, .int .i64 2] 3)).alloc (.cells #[.int .i64 1, .int .i64 2, .int .i64 5] 3)) (some ⟨w.heap.size, 0, none⟩) 1 3 (([0, 1, 2] : List Int).map (.int .i64)) :=
    (Rd.made [.int .i64 0, .int .i64 1, .int .i64 2] rfl).new _
  have R2 : Rd ((w.alloc (.cells #[.int .i64 0, .int .i64 1, .int .i64 2] 3)).alloc (.cells #[.int .i64 1, .int .i64 2, .int .i64 5] 3)) (some ⟨w.heap.size + 1, 0, none⟩) 1 3 (([1, 2, 5] : List Int).map (.int .i64)) := by
    have h := Rd.made (w := w.alloc (.cells #[.int .i64 0, .int .i64 1, .int .i64 2] 3)) (t := 3) (size := 1) (n := 3) [.int .i64 1, .int .i64 2, .int .i64 5] rfl
    rw [show (w.alloc (.cells #[.int .i64 0, .int .i64 1, .int .i64 2] 3)).heap.size = w.heap.size + 1 by simp] at h
    exact h
  have HC := hide (shStretches _ 3 3 [0, 1, 2] _ 3 3 [1, 2, 5] _ R1 (by omega) (by intro j hj; match j, hj with | 0, _ => exact ⟨by decide, by decide⟩ | 1, _ => exact ⟨by decide, by decide⟩ | 2, _ => exact ⟨by decide, by decide⟩)
      R2 (by omega) (by intro j hj; match j, hj with | 0, _ => exact ⟨by decide, by decide⟩ | 1, _ => exact ⟨by decide, by decide⟩ | 2, _ => exact ⟨by decide, by decide⟩))
  clear R1 R2
  have HS := hide (show ∀ o l : List Int, o = [1, 2, 5] → l = [0, 1, 2] → (stK (fun z => decide (z ∈ o)) l l.length).2 = [(1, 3)] from by rintro _ _ rfl rfl; decide +kernel)
  have heq : ∀ W : World, (Op.equalIn 10000 83 (.agg #[.int .i64 1, .int .i64 3]) (.agg #[.int .i64 1, .int .i64 3])).run Try.prog W = .ok true W := fun W => by kernel_rfl
  go_enter Try.func51, Try.ntmps51
  go_wp2_with fail
  refine HC.out.mono ?_
  rintro e w1 ⟨B, A, c, rfl, hB, hown, hg⟩
  rw [HS.out [1, 2, 5] [0, 1, 2] rfl rfl] at hown ⊢
  obtain ⟨x, rfl⟩ := hg.later
  obtain ⟨g, cur, rfl, hgB, _⟩ := hown.at_ (by simp)
  have hc0 : x.now.cell? ⟨g, 0, none⟩ = some (.int .i64 1) := hown.cell rfl rfl
  have hc1 : x.now.cell? ⟨g, 1, none⟩ = some (.int .i64 3) := hown.cell rfl rfl
  clear hown hg
  go_wp2
  all_goals go_ret
  all_goals exact ⟨rfl, (by repeat (first | exact Grows.refl _ | refine Grows.now ?_ _ | refine Grows.new ?_ _ | refine Grows.drewN ?_ _ | refine Grows.drew ?_ | assumption | (refine Grows.set ?_ (by first | omega | (simp; done) | (simp; omega)) _)))⟩

end Go.Proofs.Ytpnncadglhlclaa
