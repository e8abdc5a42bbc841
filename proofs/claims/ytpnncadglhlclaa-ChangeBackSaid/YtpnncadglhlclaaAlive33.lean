/- Contract: the example of the chapter on changes. -/
import Derived.Test.YtpnncadglhlclaaChApply
namespace Go.Proofs.Ytpnncadglhlclaa
open Go Go.RowKit
theorem alive33v : apF 2 [⟨0, 1, 3⟩] [⟨0, 7⟩] = 0 ∧ apL 2 [⟨0, 1, 3⟩] [⟨0, 7⟩] = [⟨0, 1, 7⟩] := by
  constructor <;> decide +kernel
set_option maxRecDepth 20000 in
set_option maxHeartbeats 4000000 in
theorem alive33 (w : World) : Calls Try.prog 60 #[] w fun e w' => e = .returned (.bool true) ∧ Grows w w' := by
  have R1 : Rd ((w.alloc (.cells #[.int .i64 0, .int .i64 1, .int .u64 3] 49)).alloc (.cells #[.int .i64 0, .int .u64 7] 149)) (some ⟨w.heap.size, 0, none⟩) 3 1 (esCells [⟨0, 1, 3⟩]) :=
    (Rd.made (n := 1) (size := 3) [.int .i64 0, .int .i64 1, .int .u64 3] rfl).new _
  have R2 : Rd ((w.alloc (.cells #[.int .i64 0, .int .i64 1, .int .u64 3] 49)).alloc (.cells #[.int .i64 0, .int .u64 7] 149)) (some ⟨w.heap.size + 1, 0, none⟩) 2 1 (csCells [⟨0, 7⟩]) := by
    have h := Rd.made (w := w.alloc (.cells #[.int .i64 0, .int .i64 1, .int .u64 3] 49)) (t := 149) (n := 1) (size := 2) [.int .i64 0, .int .u64 7] rfl
    rw [show (w.alloc (.cells #[.int .i64 0, .int .i64 1, .int .u64 3] 49)).heap.size = w.heap.size + 1 by simp] at h
    exact h
  have C := chApply 2 _ 1 1 [⟨0, 1, 3⟩] _ 1 1 [⟨0, 7⟩] _ R1 (by omega) R2 (by omega)
  rw [alive33v.1, alive33v.2] at C
  have HC := hide C
  clear C R1 R2
  generalize apN 2 [⟨0, 1, 3⟩] [⟨0, 7⟩] = N4 at *
  generalize apI 2 [⟨0, 1, 3⟩] [⟨0, 7⟩] = i4 at *
  go_enter Try.func60, Try.ntmps60
  go_wp2_with fail
  refine HC.out.mono ?_
  rintro e w1 ⟨A, c, rfl, hr, hg⟩
  obtain ⟨x, rfl⟩ := hg.later
  obtain ⟨b, off, rfl, hc⟩ := hr.edgesH (by simp)
  obtain ⟨_, _, c3⟩ := hc 0 (by simp)
  have c3 : Holds x.now ⟨b, off + 2, none⟩ (.int .u64 7) := by
    have := c3
    simp only [Nat.zero_mul, Nat.add_zero] at this
    exact this
  have HR := hide hr
  clear hr hc hg
  go_wp2
  all_goals go_ret
  all_goals exact ⟨rfl, (by repeat (first | exact Grows.refl _ | refine Grows.now ?_ _ | refine Grows.new ?_ _ | refine Grows.drewN ?_ _ | refine Grows.drew ?_ | assumption | (refine Grows.set ?_ (by first | omega | (simp; done) | (simp; omega)) _)))⟩
end Go.Proofs.Ytpnncadglhlclaa
