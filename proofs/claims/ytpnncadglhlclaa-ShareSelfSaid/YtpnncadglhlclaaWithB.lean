/- Contracts: how much a row shares with others. -/
import Derived.Test.YtpnncadglhlclaaRowsB
import Derived.Test.YtpnncadglhlclaaShared
namespace Go.Proofs.Ytpnncadglhlclaa
open Go Go.RowKit Go.Maps
/-- The most that a row shares with the first k others. -/
def withK (N : Int) (E : List Edg) (l : List Int) (R : List Row) : Nat → Int
  | 0 => 0
  | k + 1 => max (withK N E l R k) (sharedV N E l (gr R k).xs)
theorem withK_succ (N : Int) (E : List Edg) (l : List Int) (R : List Row) (k : Nat) : withK N E l R (k + 1) = max (withK N E l R k) (sharedV N E l (gr R k).xs) := rfl
theorem sharedV_u64 (N : Int) (E : List Edg) (a b : List Int) : U64 (sharedV N E a b) := by
  unfold sharedV
  split
  · unfold U64; rw [IntKind.wrap_u64]; omega
  · unfold U64; omega
theorem withK_u64 (N : Int) (E : List Edg) (l : List Int) (R : List Row) (k : Nat) : U64 (withK N E l R k) := by
  induction k with
  | zero => unfold withK U64; omega
  | succ k ih =>
    rw [withK_succ]
    have := sharedV_u64 N E l (gr R k).xs
    unfold U64 at *
    omega

set_option maxRecDepth 20000 in
set_option maxHeartbeats 2000000 in
theorem shWith (N : Int) (A : Option Addr) (m c : Nat) (E : List Edg) (B : Option Addr) (n d : Nat) (a : List Int) (B' : Option Addr) (n' d' : Nat) (R : List Row) (w : World) (h : Rd w A 3 m (esCells E)) (hm : m ≤ 1000000)
    (ha : Rd w B 1 n (a.map (.int .i64))) (hn : n ≤ 1000000) (hr : Rd w B' 1 n' (R.map rowVal)) (hn' : n' ≤ 1000000) (hR : rowsOk w R) (hs : ∀ k, k < n' → (gr R k).n ≤ 1000000) :
    Calls Try.prog 59 #[.agg #[.int .i64 N, .slice A m c], .slice B n d, .slice B' n' d'] w fun e w' => e = .returned (.int .u64 (withK N E a R n')) ∧ Grows w w' := by
  have HL := hide (show R.length = n' by simpa using hr.len)
  have HR := hide h
  have HA := hide ha
  have HM := hide (hr.new (.cells #[.int .i64 N, .slice A m c] 24))
  have HO := hide hR
  have HS := hide hs
  clear h ha hr hR hs
  go_enter Try.func59, Try.ntmps59
  go_wp2
  go_loopw [11, 6] (fun i u wr => ∃ k : Nat, k ≤ n' ∧ i = .int .i64 (k : Int) ∧ u = .int .u64 (withK N E a R k) ∧ ∃ y : Later (w.alloc (.cells #[.int .i64 N, .slice A m c] 24)), wr = y.now) (fun i _ _ => n' - (intOf i).toNat)
  case atStart => exact ⟨0, by omega, by go_num, rfl, ⟨_, Grows.refl _⟩, rfl⟩
  case round =>
    obtain ⟨k, hk, rfl, rfl, ⟨y, rfl⟩⟩ := hrel
    by_cases hend : n' ≤ k
    · have HE : Hid (withK N E a R k = withK N E a R n') := by rw [show k = n' by omega]; rfl
      go_wp2
      go_ret
      exact ⟨ret_int HE.out, (by repeat (first | exact Grows.refl _ | refine Grows.now ?_ _ | refine Grows.new ?_ _ | refine Grows.drewN ?_ _ | refine Grows.drew ?_ | assumption | (refine Grows.set ?_ (by first | omega | (simp; done) | (simp; omega)) _)))⟩
    · obtain ⟨b, off, rfl, hc⟩ := HM.out.rows (by omega)
      have hc1 := hc k (by omega)
      have HN := hide (withK_succ N E a R k)
      clear hc
      go_wp2_with (first | (go_at_call 99; refine (pShared N A m c E B n d a (gr R k).A (gr R k).n (gr R k).c (gr R k).xs _ (HR.out.grows (by repeat (first | exact Grows.refl _ | refine Grows.now ?_ _ | refine Grows.new ?_ _ | refine Grows.drewN ?_ _ | refine Grows.drew ?_ | assumption | (refine Grows.set ?_ (by first | omega | (simp; done) | (simp; omega)) _)))) hm (HA.out.grows (by repeat (first | exact Grows.refl _ | refine Grows.now ?_ _ | refine Grows.new ?_ _ | refine Grows.drewN ?_ _ | refine Grows.drew ?_ | assumption | (refine Grows.set ?_ (by first | omega | (simp; done) | (simp; omega)) _)))) hn ((HO.out k (by have := HL.out; omega)).1.grows (by repeat (first | exact Grows.refl _ | refine Grows.now ?_ _ | refine Grows.new ?_ _ | refine Grows.drewN ?_ _ | refine Grows.drew ?_ | assumption | (refine Grows.set ?_ (by first | omega | (simp; done) | (simp; omega)) _)))) (HS.out k (by omega))).mono ?_; rintro e w' ⟨rfl, hg⟩; (first | obtain ⟨x, rfl⟩ := Grows.later2 hg | obtain ⟨x, rfl⟩ := Grows.later hg); clear hg))
      go_roundw
      case measure => simp [intOf]; omega
      case rel => exact ⟨k + 1, by omega, by go_num, congrArg (Value.int .u64) (by rw [HN.out]; split <;> omega), _, rfl⟩

end Go.Proofs.Ytpnncadglhlclaa
