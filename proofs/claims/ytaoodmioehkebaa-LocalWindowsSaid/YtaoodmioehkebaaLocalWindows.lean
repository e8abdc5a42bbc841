/- The law LocalWindows: its walk. -/
import Derived.Test.YtaoodmioehkebaaWin3
namespace Go.Proofs.Ytaoodmioehkebaa
open Go Go.RowKit
set_option maxHeartbeats 1000000 in
theorem alive27 (w : World) : Calls Try.prog 16 #[] w fun e w' => e = .returned (.bool true) ∧ Grows w w' := by
  have HV : Hid (winV 1 4 [0, 2, 4, 6] 1 1 2 = .tuple #[.int .i64 0, .int .i64 2, .bool true]) := by
    show winV ((1 : Nat) : Int) 4 [0, 2, 4, 6] 1 1 2 = .tuple #[.int .i64 ((0 : Nat) : Int), .int .i64 ((2 : Nat) : Int), .bool true]
    exact winV_ok (by decide +kernel) (by decide +kernel) (by decide +kernel)
  go_enter Try.func16, Try.ntmps16
  go_wp2_with (first | (go_at_call 17; refine ((show Calls _ _ _ _ fun e w' => e = .returned (.tuple #[.int .i64 0, .int .i64 2, .bool true]) ∧ Grows _ w' from by rw [← HV.out]; exact localWindow _ 4 _ [0, 2, 4, 6] 1 1 1 2 _ (Rd.made [.int .u64 0, .int .u64 2, .int .u64 4, .int .u64 6] rfl) (by omega) ⟨by omega, by omega⟩)).mono ?_; rintro e w' ⟨rfl, hg⟩; (first | obtain ⟨x, rfl⟩ := Grows.later2 hg | obtain ⟨x, rfl⟩ := Grows.later hg); clear hg))
  go_ret
  exact ⟨rfl, (by repeat (first | exact Grows.refl _ | refine Grows.now ?_ _ | refine Grows.new ?_ _ | refine Grows.drewN ?_ _ | refine Grows.drew ?_ | assumption | (refine Grows.set ?_ (by first | omega | (simp; done) | (simp; omega)) _)))⟩

set_option maxHeartbeats 1000000 in
theorem localWindows (A : Option Addr) (n c : Nat) (xs : List Int) (at_ a b base : Int) (w : World) (h : Rd w A 1 n (xs.map (.int .u64))) (ha : U64 a) (hb : U64 b) (hbase : U64 base) :
    Calls Try.prog 4 #[.slice A n c, .int .i64 at_, .agg #[.int .u64 a, .int .u64 b], .int .u64 base] w fun e w' => e = .returned (.bool true) ∧ Grows w w' := by
  have HR := hide h
  have HA := hide ha
  have HB := hide hb
  have HE := hide hbase
  clear h ha hb hbase
  by_cases hn : (n : Int) ≤ 100
  · have hd : (winI at_ n xs a b base == winI at_ n xs a b base) = true := by simp
    go_enter Try.func4, Try.ntmps4
    go_wp2_with (first | (go_at_call 17; refine ((show Calls _ _ _ _ fun e w' => e = .returned (.tuple #[.int .i64 (winI at_ n xs a b base), .int .i64 (winJ at_ n xs a b base), .bool (wgB at_ n xs a b)]) ∧ Grows _ w' from localWindow _ _ _ xs _ _ _ _ _ (HR.out.grows (by repeat (first | exact Grows.refl _ | refine Grows.now ?_ _ | refine Grows.new ?_ _ | refine Grows.drewN ?_ _ | refine Grows.drew ?_ | assumption | (refine Grows.set ?_ (by first | omega | (simp; done) | (simp; omega)) _)))) (by omega) HE.out)).mono ?_; rintro e w' ⟨rfl, hg⟩; (first | obtain ⟨x, rfl⟩ := Grows.later2 hg | obtain ⟨x, rfl⟩ := Grows.later hg); clear hg) | (go_at_call 18; refine ((show Calls _ _ _ _ fun e w' => e = .returned (.tuple #[.int .i64 (winI at_ n xs a b base), .int .i64 (winJ at_ n xs a b base), .bool (wgB at_ n xs a b)]) ∧ Grows _ w' from rWindow _ _ _ xs _ _ _ _ _ (HR.out.grows (by repeat (first | exact Grows.refl _ | refine Grows.now ?_ _ | refine Grows.new ?_ _ | refine Grows.drewN ?_ _ | refine Grows.drew ?_ | assumption | (refine Grows.set ?_ (by first | omega | (simp; done) | (simp; omega)) _)))) (by omega) HA.out HB.out HE.out)).mono ?_; rintro e w' ⟨rfl, hg⟩; (first | obtain ⟨x, rfl⟩ := Grows.later2 hg | obtain ⟨x, rfl⟩ := Grows.later hg); clear hg) | (go_at_call 16; refine (alive27 _).mono ?_; rintro e w' ⟨rfl, hg⟩; (first | obtain ⟨x, rfl⟩ := Grows.later2 hg | obtain ⟨x, rfl⟩ := Grows.later hg); clear hg))
    go_ret
    exact ⟨rfl, (by repeat (first | exact Grows.refl _ | refine Grows.now ?_ _ | refine Grows.new ?_ _ | refine Grows.drewN ?_ _ | refine Grows.drew ?_ | assumption | (refine Grows.set ?_ (by first | omega | (simp; done) | (simp; omega)) _)))⟩
  · skip
    go_enter Try.func4, Try.ntmps4
    go_wp2_with (first | (go_at_call 16; refine (alive27 _).mono ?_; rintro e w' ⟨rfl, hg⟩; (first | obtain ⟨x, rfl⟩ := Grows.later2 hg | obtain ⟨x, rfl⟩ := Grows.later hg); clear hg))
    go_ret
    exact ⟨rfl, (by repeat (first | exact Grows.refl _ | refine Grows.now ?_ _ | refine Grows.new ?_ _ | refine Grows.drewN ?_ _ | refine Grows.drew ?_ | assumption | (refine Grows.set ?_ (by first | omega | (simp; done) | (simp; omega)) _)))⟩

theorem localWindowsL (A : Option Addr) (n c : Nat) (xs : List Int) (at_ a b base : Int) (w : World) (h : Rd w A 1 n (xs.map (.int .u64))) (_ : ∀ z ∈ xs, (Lit.int .u64 z).wf = true) (_ : -9223372036854775808 ≤ at_ ∧ at_ < 9223372036854775808) (ha : U64 a) (hb : U64 b) (hbase : U64 base) :
    Calls Try.prog 4 #[.slice A n c, .int .i64 at_, .agg #[.int .u64 a, .int .u64 b], .int .u64 base] w fun e w' => e = .returned (.bool true) ∧ Grows w w' :=
  localWindows A n c xs at_ a b base w h ha hb hbase

end Go.Proofs.Ytaoodmioehkebaa
