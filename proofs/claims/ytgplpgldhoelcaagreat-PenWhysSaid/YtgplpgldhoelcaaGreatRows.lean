/-
  No cell of these rows narrows 'for every input' (looked for: loops, veiled, ifaces, maps, wideKeys, modest, calm, conditions, laid).
  DERIVED. THE GIVEN ROWS OF THIS SEAT. 8 by the template 'for every input the law returns true; each argument reads behind the call as it read before'; 0 by the template 'total and deterministic' (their statements: YtgplpgldhoelcaaGreatTotals.lean).
  GIVEN WITH THE SEED: the statements are not yours to turn. If you find one false, say at which input.
  Laid BY PROGRAM, IN A SANDBOX (cutbox-rows.mjs): the forced cells as the released guide's own fill.sh prints them over the translation c8107435618be8dc… (all of the seat's roots in one cut). By AI agents, Wed Nov 11 2026. No macro, syntax, notation, axiom, sorry.
-/
import Derived.Test.YtgplpgldhoelcaaGreatChecked
import GoSem.Claim
import GoSem.ClaimJoined
import GoSem.ClaimMapViews
import Derived.JoinedTies
import Derived.KernelRfl
namespace Go.Proofs.YtgplpgldhoelcaaGreat
/- THE CELL 'sum', in the pinned program and in every row, IS THE sha256 OF THE DUMP (.gsa) THAT YtgplpgldhoelcaaGreatProg.lean LOADS. Nothing in Lean hashes anything: it is a label: what it is worth is what the hold of that sum in a sandbox is worth. -/
noncomputable def Tryz.pinned : Pinned := { name := "ytgplpgldhoelcaagreat", sum := "c8107435618be8dc75b9da1b6ac3bcb5c7516028be72ea9e44bf1bc2de8959c9", checked := Tryz.checked }
namespace Rows
def none {H : Type} : Left H := { results := [], args := [] }

/-- 'highroadlaw39.StateActs': WHATEVER THE INPUT: true; the input reads as it did. -/
def stateActsSpec : ChangeSpec := { name := "stateActs", fn := fun _ => fun
  | [d1, d2] => { results := [.lit (.bool true)], args := [d1, d2] }
  | _ => none }
def stateActsRow : OpenClaim := { program := "ytgplpgldhoelcaagreat", sum := "c8107435618be8dc75b9da1b6ac3bcb5c7516028be72ea9e44bf1bc2de8959c9", func := "highroad/highroadlaw39.StateActs", spec := "stateActs", unfollowed := true, recurses := true, plainKeys := false, apart := false }
def StateActsSaid : Prop := stateActsRow.holds Tryz.pinned (OpenSpec.ofChange stateActsSpec)

/-- ITS FALSE NEIGHBOUR: 'it returns false'. Refute it at one input. -/
def stateActsWrong : ChangeSpec := { name := "stateActs", fn := fun _ => fun
  | [d1, d2] => { results := [.lit (.bool false)], args := [d1, d2] }
  | _ => none }
def StateActsWrongFalsely : Prop := stateActsRow.holds Tryz.pinned (OpenSpec.ofChange stateActsWrong)

/-- 'highroadlaw31.YenWays': WHATEVER THE INPUT: true; the input reads as it did. -/
def yenWaysSpec : ChangeSpec := { name := "yenWays", fn := fun _ => fun
  | [d1, d2, d3, d4] => { results := [.lit (.bool true)], args := [d1, d2, d3, d4] }
  | _ => none }
def yenWaysRow : OpenClaim := { program := "ytgplpgldhoelcaagreat", sum := "c8107435618be8dc75b9da1b6ac3bcb5c7516028be72ea9e44bf1bc2de8959c9", func := "highroad/highroadlaw31.YenWays", spec := "yenWays", inPlace := ["slices.overlaps[highroad/api.Route]"], unfollowed := true, recurses := true, plainKeys := false, apart := false }
def YenWaysSaid : Prop := yenWaysRow.holds Tryz.pinned (OpenSpec.ofChange yenWaysSpec)

/-- ITS FALSE NEIGHBOUR: 'it returns false'. Refute it at one input. -/
def yenWaysWrong : ChangeSpec := { name := "yenWays", fn := fun _ => fun
  | [d1, d2, d3, d4] => { results := [.lit (.bool false)], args := [d1, d2, d3, d4] }
  | _ => none }
def YenWaysWrongFalsely : Prop := yenWaysRow.holds Tryz.pinned (OpenSpec.ofChange yenWaysWrong)

/-- 'highroadlaw31.YenFirst': WHATEVER THE INPUT: true; the input reads as it did. -/
def yenFirstSpec : ChangeSpec := { name := "yenFirst", fn := fun _ => fun
  | [d1, d2, d3, d4, d5] => { results := [.lit (.bool true)], args := [d1, d2, d3, d4, d5] }
  | _ => none }
def yenFirstRow : OpenClaim := { program := "ytgplpgldhoelcaagreat", sum := "c8107435618be8dc75b9da1b6ac3bcb5c7516028be72ea9e44bf1bc2de8959c9", func := "highroad/highroadlaw31.YenFirst", spec := "yenFirst", inPlace := ["slices.overlaps[highroad/api.Route]"], unfollowed := true, recurses := true, plainKeys := false, apart := false }
def YenFirstSaid : Prop := yenFirstRow.holds Tryz.pinned (OpenSpec.ofChange yenFirstSpec)

/-- ITS FALSE NEIGHBOUR: 'it returns false'. Refute it at one input. -/
def yenFirstWrong : ChangeSpec := { name := "yenFirst", fn := fun _ => fun
  | [d1, d2, d3, d4, d5] => { results := [.lit (.bool false)], args := [d1, d2, d3, d4, d5] }
  | _ => none }
def YenFirstWrongFalsely : Prop := yenFirstRow.holds Tryz.pinned (OpenSpec.ofChange yenFirstWrong)

/-- 'highroadlaw31.YenSteps': WHATEVER THE INPUT: true; the input reads as it did. -/
def yenStepsSpec : ChangeSpec := { name := "yenSteps", fn := fun _ => fun
  | [d1, d2, d3, d4] => { results := [.lit (.bool true)], args := [d1, d2, d3, d4] }
  | _ => none }
def yenStepsRow : OpenClaim := { program := "ytgplpgldhoelcaagreat", sum := "c8107435618be8dc75b9da1b6ac3bcb5c7516028be72ea9e44bf1bc2de8959c9", func := "highroad/highroadlaw31.YenSteps", spec := "yenSteps", inPlace := ["slices.overlaps[highroad/api.Route]"], unfollowed := true, recurses := true, plainKeys := false, apart := false }
def YenStepsSaid : Prop := yenStepsRow.holds Tryz.pinned (OpenSpec.ofChange yenStepsSpec)

/-- ITS FALSE NEIGHBOUR: 'it returns false'. Refute it at one input. -/
def yenStepsWrong : ChangeSpec := { name := "yenSteps", fn := fun _ => fun
  | [d1, d2, d3, d4] => { results := [.lit (.bool false)], args := [d1, d2, d3, d4] }
  | _ => none }
def YenStepsWrongFalsely : Prop := yenStepsRow.holds Tryz.pinned (OpenSpec.ofChange yenStepsWrong)

/-- 'highroadlaw31.YenNils': WHATEVER THE INPUT: true; the input reads as it did. -/
def yenNilsSpec : ChangeSpec := { name := "yenNils", fn := fun _ => fun
  | [d] => { results := [.lit (.bool true)], args := [d] }
  | _ => none }
def yenNilsRow : OpenClaim := { program := "ytgplpgldhoelcaagreat", sum := "c8107435618be8dc75b9da1b6ac3bcb5c7516028be72ea9e44bf1bc2de8959c9", func := "highroad/highroadlaw31.YenNils", spec := "yenNils", inPlace := ["slices.overlaps[highroad/api.Route]"], unfollowed := true, recurses := true, plainKeys := false, apart := false }
def YenNilsSaid : Prop := yenNilsRow.holds Tryz.pinned (OpenSpec.ofChange yenNilsSpec)

/-- ITS FALSE NEIGHBOUR: 'it returns false'. Refute it at one input. -/
def yenNilsWrong : ChangeSpec := { name := "yenNils", fn := fun _ => fun
  | [d] => { results := [.lit (.bool false)], args := [d] }
  | _ => none }
def YenNilsWrongFalsely : Prop := yenNilsRow.holds Tryz.pinned (OpenSpec.ofChange yenNilsWrong)

/-- 'highroadlaw32.PenWays': WHATEVER THE INPUT: true; the input reads as it did. -/
def penWaysSpec : ChangeSpec := { name := "penWays", fn := fun _ => fun
  | [d1, d2, d3, d4] => { results := [.lit (.bool true)], args := [d1, d2, d3, d4] }
  | _ => none }
def penWaysRow : OpenClaim := { program := "ytgplpgldhoelcaagreat", sum := "c8107435618be8dc75b9da1b6ac3bcb5c7516028be72ea9e44bf1bc2de8959c9", func := "highroad/highroadlaw32.PenWays", spec := "penWays", inPlace := ["math/bits.Add64"], unfollowed := true, recurses := true, named := ["math/bits.divideError", "math/bits.overflowError"], plainKeys := false, apart := false }
def PenWaysSaid : Prop := penWaysRow.holds Tryz.pinned (OpenSpec.ofChange penWaysSpec)

/-- ITS FALSE NEIGHBOUR: 'it returns false'. Refute it at one input. -/
def penWaysWrong : ChangeSpec := { name := "penWays", fn := fun _ => fun
  | [d1, d2, d3, d4] => { results := [.lit (.bool false)], args := [d1, d2, d3, d4] }
  | _ => none }
def PenWaysWrongFalsely : Prop := penWaysRow.holds Tryz.pinned (OpenSpec.ofChange penWaysWrong)

/-- 'highroadlaw32.PenWhys': WHATEVER THE INPUT: true; the input reads as it did. -/
def penWhysSpec : ChangeSpec := { name := "penWhys", fn := fun _ => fun
  | [d1, d2, d3, d4, d5, d6] => { results := [.lit (.bool true)], args := [d1, d2, d3, d4, d5, d6] }
  | _ => none }
def penWhysRow : OpenClaim := { program := "ytgplpgldhoelcaagreat", sum := "c8107435618be8dc75b9da1b6ac3bcb5c7516028be72ea9e44bf1bc2de8959c9", func := "highroad/highroadlaw32.PenWhys", spec := "penWhys", inPlace := ["math/bits.Add64"], unfollowed := true, recurses := true, named := ["math/bits.divideError", "math/bits.overflowError"], plainKeys := false, apart := false }
def PenWhysSaid : Prop := penWhysRow.holds Tryz.pinned (OpenSpec.ofChange penWhysSpec)

/-- ITS FALSE NEIGHBOUR: 'it returns false'. Refute it at one input. -/
def penWhysWrong : ChangeSpec := { name := "penWhys", fn := fun _ => fun
  | [d1, d2, d3, d4, d5, d6] => { results := [.lit (.bool false)], args := [d1, d2, d3, d4, d5, d6] }
  | _ => none }
def PenWhysWrongFalsely : Prop := penWhysRow.holds Tryz.pinned (OpenSpec.ofChange penWhysWrong)

/-- 'highroadlaw32.PenGood': WHATEVER THE INPUT: true; the input reads as it did. -/
def penGoodSpec : ChangeSpec := { name := "penGood", fn := fun _ => fun
  | [d1, d2, d3, d4] => { results := [.lit (.bool true)], args := [d1, d2, d3, d4] }
  | _ => none }
def penGoodRow : OpenClaim := { program := "ytgplpgldhoelcaagreat", sum := "c8107435618be8dc75b9da1b6ac3bcb5c7516028be72ea9e44bf1bc2de8959c9", func := "highroad/highroadlaw32.PenGood", spec := "penGood", inPlace := ["math/bits.Add64"], unfollowed := true, recurses := true, named := ["math/bits.divideError", "math/bits.overflowError"], plainKeys := false, apart := false }
def PenGoodSaid : Prop := penGoodRow.holds Tryz.pinned (OpenSpec.ofChange penGoodSpec)

/-- ITS FALSE NEIGHBOUR: 'it returns false'. Refute it at one input. -/
def penGoodWrong : ChangeSpec := { name := "penGood", fn := fun _ => fun
  | [d1, d2, d3, d4] => { results := [.lit (.bool false)], args := [d1, d2, d3, d4] }
  | _ => none }
def PenGoodWrongFalsely : Prop := penGoodRow.holds Tryz.pinned (OpenSpec.ofChange penGoodWrong)

/- THE SECOND FORM. 'bulk': how many values and letters a reading holds, each counted each time it is reached (what is shared counts as often as it is met; a slice's spare places count too). A statement '..UptoSaid' is the law's where the arguments, and the package variables that the reading takes, are together of bulk at most 1048576: NARROWER than '..Said'. Prove '..Said' where nothing that the law and all that it calls make is longer than what came in: it says more and counts as full. Else prove '..UptoSaid'. A law counts once. -/
mutual
def uptoBulk {H : Type} : DataW H → Nat
  | .lit (.string bytes) => bytes.length + 1
  | .lit _ => 1
  | .nil => 1
  | .ptr d => uptoBulk d + 1
  | .slice elems spare => uptoBulkAll elems + uptoBulkAll spare + 1
  | .agg parts => uptoBulkAll parts + 1
  | .iface _ d => uptoBulk d + 1
  | .map entries => uptoBulkEntries entries + 1
  | .held _ => 1
def uptoBulkAll {H : Type} : List (DataW H) → Nat
  | [] => 0
  | d :: r => uptoBulk d + uptoBulkAll r
def uptoBulkEntries {H : Type} : List (Lit × DataW H) → Nat
  | [] => 0
  | x :: r => uptoBulkEntry x + uptoBulkEntries r
def uptoBulkEntry {H : Type} : Lit × DataW H → Nat
  | (.string bytes, d) => bytes.length + uptoBulk d + 1
  | (_, d) => uptoBulk d + 1
 end
def uptoSmall : (H : Type) → List (DataW H) → Bool := fun _ ds => decide (uptoBulkAll ds ≤ 1048576)
def OpenSpec.upto (s : _root_.Go.ChangeSpec) : _root_.Go.OpenSpec := { _root_.Go.OpenSpec.ofChange s with cond := some uptoSmall }

/-- 'highroadlaw39.StateActs', WHERE WHAT IT READS IS OF BULK AT MOST 1048576: true; the input reads as it did. -/
def stateActsUptoRow : OpenClaim := { program := "ytgplpgldhoelcaagreat", sum := "c8107435618be8dc75b9da1b6ac3bcb5c7516028be72ea9e44bf1bc2de8959c9", func := "highroad/highroadlaw39.StateActs", spec := "stateActs", unfollowed := true, recurses := true, plainKeys := false, apart := false, narrowed := true }
def StateActsUptoSaid : Prop := stateActsUptoRow.holds Tryz.pinned (OpenSpec.upto stateActsSpec)

/-- 'highroadlaw31.YenWays', WHERE WHAT IT READS IS OF BULK AT MOST 1048576: true; the input reads as it did. -/
def yenWaysUptoRow : OpenClaim := { program := "ytgplpgldhoelcaagreat", sum := "c8107435618be8dc75b9da1b6ac3bcb5c7516028be72ea9e44bf1bc2de8959c9", func := "highroad/highroadlaw31.YenWays", spec := "yenWays", inPlace := ["slices.overlaps[highroad/api.Route]"], unfollowed := true, recurses := true, plainKeys := false, apart := false, narrowed := true }
def YenWaysUptoSaid : Prop := yenWaysUptoRow.holds Tryz.pinned (OpenSpec.upto yenWaysSpec)

/-- 'highroadlaw31.YenFirst', WHERE WHAT IT READS IS OF BULK AT MOST 1048576: true; the input reads as it did. -/
def yenFirstUptoRow : OpenClaim := { program := "ytgplpgldhoelcaagreat", sum := "c8107435618be8dc75b9da1b6ac3bcb5c7516028be72ea9e44bf1bc2de8959c9", func := "highroad/highroadlaw31.YenFirst", spec := "yenFirst", inPlace := ["slices.overlaps[highroad/api.Route]"], unfollowed := true, recurses := true, plainKeys := false, apart := false, narrowed := true }
def YenFirstUptoSaid : Prop := yenFirstUptoRow.holds Tryz.pinned (OpenSpec.upto yenFirstSpec)

/-- 'highroadlaw31.YenSteps', WHERE WHAT IT READS IS OF BULK AT MOST 1048576: true; the input reads as it did. -/
def yenStepsUptoRow : OpenClaim := { program := "ytgplpgldhoelcaagreat", sum := "c8107435618be8dc75b9da1b6ac3bcb5c7516028be72ea9e44bf1bc2de8959c9", func := "highroad/highroadlaw31.YenSteps", spec := "yenSteps", inPlace := ["slices.overlaps[highroad/api.Route]"], unfollowed := true, recurses := true, plainKeys := false, apart := false, narrowed := true }
def YenStepsUptoSaid : Prop := yenStepsUptoRow.holds Tryz.pinned (OpenSpec.upto yenStepsSpec)

/-- 'highroadlaw31.YenNils', WHERE WHAT IT READS IS OF BULK AT MOST 1048576: true; the input reads as it did. -/
def yenNilsUptoRow : OpenClaim := { program := "ytgplpgldhoelcaagreat", sum := "c8107435618be8dc75b9da1b6ac3bcb5c7516028be72ea9e44bf1bc2de8959c9", func := "highroad/highroadlaw31.YenNils", spec := "yenNils", inPlace := ["slices.overlaps[highroad/api.Route]"], unfollowed := true, recurses := true, plainKeys := false, apart := false, narrowed := true }
def YenNilsUptoSaid : Prop := yenNilsUptoRow.holds Tryz.pinned (OpenSpec.upto yenNilsSpec)

/-- 'highroadlaw32.PenWays', WHERE WHAT IT READS IS OF BULK AT MOST 1048576: true; the input reads as it did. -/
def penWaysUptoRow : OpenClaim := { program := "ytgplpgldhoelcaagreat", sum := "c8107435618be8dc75b9da1b6ac3bcb5c7516028be72ea9e44bf1bc2de8959c9", func := "highroad/highroadlaw32.PenWays", spec := "penWays", inPlace := ["math/bits.Add64"], unfollowed := true, recurses := true, named := ["math/bits.divideError", "math/bits.overflowError"], plainKeys := false, apart := false, narrowed := true }
def PenWaysUptoSaid : Prop := penWaysUptoRow.holds Tryz.pinned (OpenSpec.upto penWaysSpec)

/-- 'highroadlaw32.PenWhys', WHERE WHAT IT READS IS OF BULK AT MOST 1048576: true; the input reads as it did. -/
def penWhysUptoRow : OpenClaim := { program := "ytgplpgldhoelcaagreat", sum := "c8107435618be8dc75b9da1b6ac3bcb5c7516028be72ea9e44bf1bc2de8959c9", func := "highroad/highroadlaw32.PenWhys", spec := "penWhys", inPlace := ["math/bits.Add64"], unfollowed := true, recurses := true, named := ["math/bits.divideError", "math/bits.overflowError"], plainKeys := false, apart := false, narrowed := true }
def PenWhysUptoSaid : Prop := penWhysUptoRow.holds Tryz.pinned (OpenSpec.upto penWhysSpec)

/-- 'highroadlaw32.PenGood', WHERE WHAT IT READS IS OF BULK AT MOST 1048576: true; the input reads as it did. -/
def penGoodUptoRow : OpenClaim := { program := "ytgplpgldhoelcaagreat", sum := "c8107435618be8dc75b9da1b6ac3bcb5c7516028be72ea9e44bf1bc2de8959c9", func := "highroad/highroadlaw32.PenGood", spec := "penGood", inPlace := ["math/bits.Add64"], unfollowed := true, recurses := true, named := ["math/bits.divideError", "math/bits.overflowError"], plainKeys := false, apart := false, narrowed := true }
def PenGoodUptoSaid : Prop := penGoodUptoRow.holds Tryz.pinned (OpenSpec.upto penGoodSpec)

end Rows
end Go.Proofs.YtgplpgldhoelcaaGreat
