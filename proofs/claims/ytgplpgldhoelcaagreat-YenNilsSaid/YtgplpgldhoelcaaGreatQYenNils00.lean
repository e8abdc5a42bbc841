/- The law YenNils: for every input it returns true, and each argument reads as before. No condition. -/
import Derived.Orders
import Derived.Still
import Derived.Below
import Derived.Calls
import Derived.WalkKit
import Derived.WalkSpells
import Derived.WalkLawsBesides
import Derived.BigQuiet
import Derived.Deep.RegionWith
import Derived.RangeFuncRecord
import Derived.Test.YtgplpgldhoelcaaGreatRows
import Derived.Laws.OwnMore
import Derived.ProofKit
import Derived.OpenShut
import Derived.ShutString
import Derived.ChangeOld
import Derived.Lib.SmallJoins
import Derived.Deep.Slices
import Derived.Maps.Own
import Derived.Maps.OwnOps
import Derived.Maps.OwnSet
import Derived.Maps.Views
import Derived.OwnWalk
import Derived.Lib.AppendZeros
import Derived.Deep.OwnRows
import Derived.StillTail
import Derived.Shelf.Bits.Mul64
import Derived.Ground.Names2Prog
import Derived.Shelf.Slices.Clone
import Derived.Ground.SlgnProg
import Derived.Shelf.SlicesE.Clone
import Derived.Test.YtgplpgldhoelcaaGreatProg
import Derived.Deep.DeepCutAuto
import Derived.RangeFuncSeq
import Derived.RangeFuncLeaves
import Derived.RangeFuncCalls
import Derived.WalkMore
import Derived.Maps.AppendAt
import Derived.Lib.SliceRun
import Derived.OrdersIn
import Derived.TacticsIn
import Derived.RangeFuncNested
import Derived.RangeFuncBound
import Derived.Shelf.Abstract
import Derived.Shelf.RegionOpen
import Derived.OwnWalkIn
import Derived.TacticsInMore
import Derived.LoopNIn
import Derived.LoopIn
import Derived.Laws.CopyOwn
import Derived.Deep.RegionLaw
import Derived.Deep.Strs
import Derived.ScopeJumps
import Derived.Shelf.Slices.CompactI
import Derived.Laws.IdiomCopy
import Derived.Shelf.Spec.SlicesInsertGrow
import Derived.Test.YtgplpgldhoelcaaGreatQYenWays00
import Derived.Test.YtgplpgldhoelcaaGreatQYenWays01
import Derived.Test.YtgplpgldhoelcaaGreatQYenWays02
import Derived.Test.YtgplpgldhoelcaaGreatQYenWays03
import Derived.Test.YtgplpgldhoelcaaGreatQYenWays04
import Derived.Test.YtgplpgldhoelcaaGreatQYenWays05
import Derived.Test.YtgplpgldhoelcaaGreatQYenWays06
import Derived.Test.YtgplpgldhoelcaaGreatQYenWays07
import Derived.Test.YtgplpgldhoelcaaGreatQYenWays08
import Derived.Test.YtgplpgldhoelcaaGreatQYenWays09
import Derived.Test.YtgplpgldhoelcaaGreatQYenWays10
import Derived.Test.YtgplpgldhoelcaaGreatQYenWays11
import Derived.Test.YtgplpgldhoelcaaGreatQYenWays12
import Derived.Test.YtgplpgldhoelcaaGreatQYenWays13
import Derived.Test.YtgplpgldhoelcaaGreatQYenWays14
import Derived.Test.YtgplpgldhoelcaaGreatQYenWays15
import Derived.Test.YtgplpgldhoelcaaGreatQYenWays16
import Derived.Test.YtgplpgldhoelcaaGreatQYenWays17
import Derived.Test.YtgplpgldhoelcaaGreatQYenWays18
import Derived.Test.YtgplpgldhoelcaaGreatQYenWays19
import Derived.Test.YtgplpgldhoelcaaGreatQYenWays20
import Derived.Test.YtgplpgldhoelcaaGreatQYenWays21
import Derived.Test.YtgplpgldhoelcaaGreatQYenWays22
import Derived.Test.YtgplpgldhoelcaaGreatQYenWays23
import Derived.Test.YtgplpgldhoelcaaGreatQYenWays24
namespace Go.Proofs.YtgplpgldhoelcaaGreat
open Go Go.RowKit
attribute [local go_sem] Oper.semAt_some
theorem yeNextNil (w : World) : Calls Tryz.prog 29 #[.pointer none] w fun e w' => e = .returned (.tuple #[.agg #[.slice none 0 0, .int .u64 0], .bool false]) ∧ Grows w w' := by
  go_enter Tryz.func29, Tryz.ntmps29
  go_wp2_with fail
  exact bodyPost_ret (v := .tuple #[.agg #[.slice none 0 0, .int .u64 0], .bool false]) (by simp (maxDischargeDepth := 6) [results, Tryz.results29, go_sem]) rfl ⟨rfl, GG⟩
theorem yeToldNil (w : World) : Calls Tryz.prog 30 #[.pointer none] w fun e w' => e = .returned (.int .i64 0) ∧ Grows w w' := by
  go_enter Tryz.func30, Tryz.ntmps30
  go_wp2_with fail
  go_ret
  exact ⟨rfl, GG⟩
theorem yeWaitsNil (w : World) : Calls Tryz.prog 31 #[.pointer none] w fun e w' => e = .returned (.slice none 0 0) ∧ Grows w w' := by
  go_enter Tryz.func31, Tryz.ntmps31
  go_wp2_with fail
  go_ret
  exact ⟨rfl, GG⟩
end Go.Proofs.YtgplpgldhoelcaaGreat

namespace Go.Proofs.YtgplpgldhoelcaaGreat
open Go Go.RowKit
attribute [local go_sem] Oper.semAt_some
set_option maxRecDepth 20000 in
set_option maxHeartbeats 4000000 in
theorem yenNilsW (k : Int) (w : World) (_ : I64 k) : Calls Tryz.prog 7 #[.int .i64 k] w fun e w' => e = .returned (.bool true) ∧ Grows w w' := by
  have C1 := hide (fun (W : World) => yeNextNil W)
  have C2 := hide (fun (W : World) => show Calls Tryz.prog 19 #[.agg #[.int .i64 1, .slice none 0 0], .int .i64 0, .int .i64 0, .int .i64 0] W fun e w' => e = .returned (.tuple #[.slice none 0 0, .int .i64 1]) ∧ Grows W w' from
    yeWaysK 1 none 0 0 [] 0 0 0 W ⟨rfl, fun h => absurd h (by omega)⟩ (by omega) (by decide +kernel) (by omega) (by omega) (.inl (by omega)))
  have C3 := hide (fun (W : World) => yeToldNil W)
  have C4 := hide (fun (W : World) => yeWaitsNil W)
  have C5 := hide (fun (W : World) => alive31 W)
  go_enter Tryz.func7, Tryz.ntmps7
  go_wp2_with (first | (go_at_call 29; refine (C1.out _).mono ?_; rintro e w' ⟨rfl, hg⟩; (first | obtain ⟨x, rfl⟩ := Grows.later2 hg | obtain ⟨x, rfl⟩ := Grows.later hg); clear hg) | (go_at_call 19; refine (C2.out _).mono ?_; rintro e w' ⟨rfl, hg⟩; (first | obtain ⟨x, rfl⟩ := Grows.later2 hg | obtain ⟨x, rfl⟩ := Grows.later hg); clear hg) | (go_at_call 30; refine (C3.out _).mono ?_; rintro e w' ⟨rfl, hg⟩; (first | obtain ⟨x, rfl⟩ := Grows.later2 hg | obtain ⟨x, rfl⟩ := Grows.later hg); clear hg) | (go_at_call 31; refine (C4.out _).mono ?_; rintro e w' ⟨rfl, hg⟩; (first | obtain ⟨x, rfl⟩ := Grows.later2 hg | obtain ⟨x, rfl⟩ := Grows.later hg); clear hg) | (go_at_call 18; refine (C5.out _).mono ?_; rintro e w' ⟨rfl, hg⟩; (first | obtain ⟨x, rfl⟩ := Grows.later2 hg | obtain ⟨x, rfl⟩ := Grows.later hg); clear hg))
  go_ret
  exact ⟨rfl, GG⟩
end Go.Proofs.YtgplpgldhoelcaaGreat

namespace Go.Proofs.YtgplpgldhoelcaaGreat.lawYenNils
open Go Go.ChangeShapes Go.WideShapes Go.ChangeAt Go.RowKit Go.Proofs.YtgplpgldhoelcaaGreat

theorem own : ownKnob Tryz.prog.godebug = none := by kernel_rfl
theorem laidOut : laidOutB Tryz.prog = true := by kernel_rfl

set_option maxRecDepth 100000 in
theorem lifted (os : Os) (started : os.Started) (H : Type) (enc : TypeId × Value → H) :
    ReturnsInHanded {} Tryz.checked os 7 .any (Rows.yenNilsSpec.pre6 enc Tryz.prog Tryz.f7 Rows.yenNilsRow.domain false) (Rows.yenNilsSpec.post enc Tryz.prog Tryz.f7 false true false false) := by
  refine returnsInHanded_of_change (C := Tryz.checked) own started (by kernel_rfl) Tryz.func7
    (ChangeSpec.witness6 (enc := enc) (C := Tryz.checked) false ⟨#[], #[.int .i64 0], []⟩ 8 (by kernel_rfl) (by kernel_rfl) (by kernel_rfl) (by kernel_rfl)) ?_
  intro W base args ds gs before hval0 hW hcnd _
  have hval : ∀ (j : Nat) t v, Tryz.f7.params[j]? = some t → args[j]? = some v → Value.okWide Tryz.prog W .any base t v := hval0
  have hW' := hW
  obtain ⟨p, q, hA0, hV, rfl, hfz, hnd⟩ := hW
  have hA : DataW.TrodAll enc Tryz.prog W 0 (fun _ => true) true Tryz.f7.params.toList args.toList ds p := hA0
  rw [Tryz.params7] at hA hval
  obtain ⟨v0, vs0, d0, ds0, p0, q0, hargs, rfl, rfl, h0, r0⟩ := trodAll_cons hA
  obtain ⟨rfl, rfl, rfl⟩ := trodAll_nil r0
  obtain rfl : args = #[v0] := by cases args; simp_all
  obtain ⟨rfl, rfl⟩ := trodVars_none hV
  have k0 := h0
  have lt0 : ∀ x ∈ p0, x.block < W.heap.size := by obtain ⟨m, hm⟩ := k0; exact DataW.trod_lt m _ _ _ hm
  obtain ⟨a0, rfl, w0⟩ := open_i64 Tryz.underlying3 (hval 0 3 v0 rfl rfl) h0
  clear hA0 hval0
  refine (yenNilsW a0 W w0).mono fun e W' ⟨he, bel⟩ => ?_
  subst he
  exact ⟨_, rfl, _, _, _, [], _, [], hW', trodAll_mk1 (shut_bool Tryz.underlying4 _), (trodAll_cons_mk (Below.trod laidOut (by kernel_rfl) (of_decide_eq_true (by kernel_rfl)) k0 bel lt0) trodAll_mk0), rfl, Below.frame bel _, fun h => by cases h⟩

theorem over : Rows.yenNilsRow.holds Tryz.pinned (OpenSpec.ofChange Rows.yenNilsSpec) :=
  OpenClaim.holds_of_wide 7 Tryz.f7 rfl rfl rfl rfl rfl rfl rfl ⟨rfl, rfl, rfl, rfl, rfl⟩ rfl rfl rfl rfl rfl (by kernel_rfl) Tryz.func7 (by kernel_rfl)
    (of_decide_eq_true (by kernel_rfl)) (by unfold Func.isWrapper; first | (rw [if_pos (by decide +kernel)]; kernel_rfl) | (rw [if_neg (by decide +kernel)]; exact ⟨rfl, rfl⟩))
    (fun os started H enc _ => lifted os started H enc)

end Go.Proofs.YtgplpgldhoelcaaGreat.lawYenNils
namespace Go.Proofs.YtgplpgldhoelcaaGreat
theorem yenNils_proved : Rows.YenNilsSaid := lawYenNils.over
#print axioms yenNils_proved
end Go.Proofs.YtgplpgldhoelcaaGreat

