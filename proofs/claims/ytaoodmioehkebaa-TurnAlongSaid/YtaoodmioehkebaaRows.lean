/-
  No cell of these rows narrows 'for every input' (looked for: loops, veiled, ifaces, maps, wideKeys, modest, calm, conditions, laid).
  DERIVED. THE GIVEN ROWS OF THIS SEAT. 9 by the template 'for every input the law returns true; each argument reads behind the call as it read before'; 0 by the template 'total and deterministic' (their statements: YtaoodmioehkebaaTotals.lean).
  GIVEN WITH THE SEED: the statements are not yours to turn. If you find one false, say at which input.
  Laid BY PROGRAM, IN A SANDBOX (cutbox-rows.mjs): the forced cells as the released guide's own fill.sh prints them over the translation ad3577ddd668c298… (all of the seat's roots in one cut). By AI agents, Wed Nov 11 2026. No macro, syntax, notation, axiom, sorry.
-/
import Derived.Test.YtaoodmioehkebaaChecked
import GoSem.Claim
import GoSem.ClaimJoined
import GoSem.ClaimMapViews
import Derived.JoinedTies
import Derived.KernelRfl
namespace Go.Proofs.Ytaoodmioehkebaa
/- THE CELL 'sum', in the pinned program and in every row, IS THE sha256 OF THE DUMP (.gsa) THAT YtaoodmioehkebaaProg.lean LOADS. Nothing in Lean hashes anything: it is a label: what it is worth is what the hold of that sum in a sandbox is worth. -/
noncomputable def Try.pinned : Pinned := { name := "ytaoodmioehkebaa", sum := "ad3577ddd668c29893dba62b3a1b4cc665082665a4c6ca2cdf2184d8af165fc1", checked := Try.checked }
namespace Rows
def none {H : Type} : Left H := { results := [], args := [] }

/-- 'highroadlaw10.TurnTells': WHATEVER THE INPUT: true; the input reads as it did. -/
def turnTellsSpec : ChangeSpec := { name := "turnTells", fn := fun _ => fun
  | [d1, d2, d3, d4] => { results := [.lit (.bool true)], args := [d1, d2, d3, d4] }
  | _ => none }
def turnTellsRow : OpenClaim := { program := "ytaoodmioehkebaa", sum := "ad3577ddd668c29893dba62b3a1b4cc665082665a4c6ca2cdf2184d8af165fc1", func := "highroad/highroadlaw10.TurnTells", spec := "turnTells", unfollowed := true, recurses := true, apart := false }
def TurnTellsSaid : Prop := turnTellsRow.holds Try.pinned (OpenSpec.ofChange turnTellsSpec)

/-- ITS FALSE NEIGHBOUR: 'it returns false'. Refute it at one input. -/
def turnTellsWrong : ChangeSpec := { name := "turnTells", fn := fun _ => fun
  | [d1, d2, d3, d4] => { results := [.lit (.bool false)], args := [d1, d2, d3, d4] }
  | _ => none }
def TurnTellsWrongFalsely : Prop := turnTellsRow.holds Try.pinned (OpenSpec.ofChange turnTellsWrong)

/-- 'highroadlaw27.LocalWindows': WHATEVER THE INPUT: true; the input reads as it did. -/
def localWindowsSpec : ChangeSpec := { name := "localWindows", fn := fun _ => fun
  | [d1, d2, d3, d4] => { results := [.lit (.bool true)], args := [d1, d2, d3, d4] }
  | _ => none }
def localWindowsRow : OpenClaim := { program := "ytaoodmioehkebaa", sum := "ad3577ddd668c29893dba62b3a1b4cc665082665a4c6ca2cdf2184d8af165fc1", func := "highroad/highroadlaw27.LocalWindows", spec := "localWindows", unfollowed := true, recurses := true, apart := false }
def LocalWindowsSaid : Prop := localWindowsRow.holds Try.pinned (OpenSpec.ofChange localWindowsSpec)

/-- ITS FALSE NEIGHBOUR: 'it returns false'. Refute it at one input. -/
def localWindowsWrong : ChangeSpec := { name := "localWindows", fn := fun _ => fun
  | [d1, d2, d3, d4] => { results := [.lit (.bool false)], args := [d1, d2, d3, d4] }
  | _ => none }
def LocalWindowsWrongFalsely : Prop := localWindowsRow.holds Try.pinned (OpenSpec.ofChange localWindowsWrong)

/-- 'highroadlaw09.PlaceApart': WHATEVER THE INPUT: true; the input reads as it did. -/
def placeApartSpec : ChangeSpec := { name := "placeApart", fn := fun _ => fun
  | [d1, d2, d3] => { results := [.lit (.bool true)], args := [d1, d2, d3] }
  | _ => none }
def placeApartRow : OpenClaim := { program := "ytaoodmioehkebaa", sum := "ad3577ddd668c29893dba62b3a1b4cc665082665a4c6ca2cdf2184d8af165fc1", func := "highroad/highroadlaw09.PlaceApart", spec := "placeApart", inPlace := ["math.sqrt"], unfollowed := true, recurses := true, apart := false }
def PlaceApartSaid : Prop := placeApartRow.holds Try.pinned (OpenSpec.ofChange placeApartSpec)

/-- ITS FALSE NEIGHBOUR: 'it returns false'. Refute it at one input. -/
def placeApartWrong : ChangeSpec := { name := "placeApart", fn := fun _ => fun
  | [d1, d2, d3] => { results := [.lit (.bool false)], args := [d1, d2, d3] }
  | _ => none }
def PlaceApartWrongFalsely : Prop := placeApartRow.holds Try.pinned (OpenSpec.ofChange placeApartWrong)

/-- 'highroadlaw09.PlaceRound': WHATEVER THE INPUT: true; the input reads as it did. -/
def placeRoundSpec : ChangeSpec := { name := "placeRound", fn := fun _ => fun
  | [d1, d2, d3, d4] => { results := [.lit (.bool true)], args := [d1, d2, d3, d4] }
  | _ => none }
def placeRoundRow : OpenClaim := { program := "ytaoodmioehkebaa", sum := "ad3577ddd668c29893dba62b3a1b4cc665082665a4c6ca2cdf2184d8af165fc1", func := "highroad/highroadlaw09.PlaceRound", spec := "placeRound", inPlace := ["math.sqrt"], unfollowed := true, recurses := true, apart := false }
def PlaceRoundSaid : Prop := placeRoundRow.holds Try.pinned (OpenSpec.ofChange placeRoundSpec)

/-- ITS FALSE NEIGHBOUR: 'it returns false'. Refute it at one input. -/
def placeRoundWrong : ChangeSpec := { name := "placeRound", fn := fun _ => fun
  | [d1, d2, d3, d4] => { results := [.lit (.bool false)], args := [d1, d2, d3, d4] }
  | _ => none }
def PlaceRoundWrongFalsely : Prop := placeRoundRow.holds Try.pinned (OpenSpec.ofChange placeRoundWrong)

/-- 'highroadlaw10.TurnBack': WHATEVER THE INPUT: true; the input reads as it did. -/
def turnBackSpec : ChangeSpec := { name := "turnBack", fn := fun _ => fun
  | [d1, d2, d3, d4] => { results := [.lit (.bool true)], args := [d1, d2, d3, d4] }
  | _ => none }
def turnBackRow : OpenClaim := { program := "ytaoodmioehkebaa", sum := "ad3577ddd668c29893dba62b3a1b4cc665082665a4c6ca2cdf2184d8af165fc1", func := "highroad/highroadlaw10.TurnBack", spec := "turnBack", inPlace := ["math.archTrunc", "math.Float64bits", "math.Float64frombits"], unfollowed := true, recurses := true, apart := false }
def TurnBackSaid : Prop := turnBackRow.holds Try.pinned (OpenSpec.ofChange turnBackSpec)

/-- ITS FALSE NEIGHBOUR: 'it returns false'. Refute it at one input. -/
def turnBackWrong : ChangeSpec := { name := "turnBack", fn := fun _ => fun
  | [d1, d2, d3, d4] => { results := [.lit (.bool false)], args := [d1, d2, d3, d4] }
  | _ => none }
def TurnBackWrongFalsely : Prop := turnBackRow.holds Try.pinned (OpenSpec.ofChange turnBackWrong)

/-- 'highroadlaw26.ShareBounds': WHATEVER THE INPUT: true; the input reads as it did. -/
def shareBoundsSpec : ChangeSpec := { name := "shareBounds", fn := fun _ => fun
  | [d1, d2, d3, d4, d5] => { results := [.lit (.bool true)], args := [d1, d2, d3, d4, d5] }
  | _ => none }
def shareBoundsRow : OpenClaim := { program := "ytaoodmioehkebaa", sum := "ad3577ddd668c29893dba62b3a1b4cc665082665a4c6ca2cdf2184d8af165fc1", func := "highroad/highroadlaw26.ShareBounds", spec := "shareBounds", unfollowed := true, recurses := true, apart := false }
def ShareBoundsSaid : Prop := shareBoundsRow.holds Try.pinned (OpenSpec.ofChange shareBoundsSpec)

/-- ITS FALSE NEIGHBOUR: 'it returns false'. Refute it at one input. -/
def shareBoundsWrong : ChangeSpec := { name := "shareBounds", fn := fun _ => fun
  | [d1, d2, d3, d4, d5] => { results := [.lit (.bool false)], args := [d1, d2, d3, d4, d5] }
  | _ => none }
def ShareBoundsWrongFalsely : Prop := shareBoundsRow.holds Try.pinned (OpenSpec.ofChange shareBoundsWrong)

/-- 'highroadlaw09.PlaceNumbers': WHATEVER THE INPUT: true; the input reads as it did. -/
def placeNumbersSpec : ChangeSpec := { name := "placeNumbers", fn := fun _ => fun
  | [d1, d2, d3] => { results := [.lit (.bool true)], args := [d1, d2, d3] }
  | _ => none }
def placeNumbersRow : OpenClaim := { program := "ytaoodmioehkebaa", sum := "ad3577ddd668c29893dba62b3a1b4cc665082665a4c6ca2cdf2184d8af165fc1", func := "highroad/highroadlaw09.PlaceNumbers", spec := "placeNumbers", inPlace := ["math.sqrt", "math.archTrunc", "math.Float64bits", "math.Float64frombits"], unfollowed := true, recurses := true, apart := false }
def PlaceNumbersSaid : Prop := placeNumbersRow.holds Try.pinned (OpenSpec.ofChange placeNumbersSpec)

/-- ITS FALSE NEIGHBOUR: 'it returns false'. Refute it at one input. -/
def placeNumbersWrong : ChangeSpec := { name := "placeNumbers", fn := fun _ => fun
  | [d1, d2, d3] => { results := [.lit (.bool false)], args := [d1, d2, d3] }
  | _ => none }
def PlaceNumbersWrongFalsely : Prop := placeNumbersRow.holds Try.pinned (OpenSpec.ofChange placeNumbersWrong)

/-- 'highroadlaw10.TurnAlong': WHATEVER THE INPUT: true; the input reads as it did. -/
def turnAlongSpec : ChangeSpec := { name := "turnAlong", fn := fun _ => fun
  | [d1, d2, d3, d4, d5] => { results := [.lit (.bool true)], args := [d1, d2, d3, d4, d5] }
  | _ => none }
def turnAlongRow : OpenClaim := { program := "ytaoodmioehkebaa", sum := "ad3577ddd668c29893dba62b3a1b4cc665082665a4c6ca2cdf2184d8af165fc1", func := "highroad/highroadlaw10.TurnAlong", spec := "turnAlong", inPlace := ["math.archTrunc", "math.Float64bits", "math.Float64frombits"], unfollowed := true, recurses := true, apart := false }
def TurnAlongSaid : Prop := turnAlongRow.holds Try.pinned (OpenSpec.ofChange turnAlongSpec)

/-- ITS FALSE NEIGHBOUR: 'it returns false'. Refute it at one input. -/
def turnAlongWrong : ChangeSpec := { name := "turnAlong", fn := fun _ => fun
  | [d1, d2, d3, d4, d5] => { results := [.lit (.bool false)], args := [d1, d2, d3, d4, d5] }
  | _ => none }
def TurnAlongWrongFalsely : Prop := turnAlongRow.holds Try.pinned (OpenSpec.ofChange turnAlongWrong)

/-- 'highroadlaw09.PlaceBounds': WHATEVER THE INPUT: true; the input reads as it did. -/
def placeBoundsSpec : ChangeSpec := { name := "placeBounds", fn := fun _ => fun
  | [d1, d2, d3] => { results := [.lit (.bool true)], args := [d1, d2, d3] }
  | _ => none }
def placeBoundsRow : OpenClaim := { program := "ytaoodmioehkebaa", sum := "ad3577ddd668c29893dba62b3a1b4cc665082665a4c6ca2cdf2184d8af165fc1", func := "highroad/highroadlaw09.PlaceBounds", spec := "placeBounds", inPlace := ["math.sqrt"], unfollowed := true, recurses := true, apart := false }
def PlaceBoundsSaid : Prop := placeBoundsRow.holds Try.pinned (OpenSpec.ofChange placeBoundsSpec)

/-- ITS FALSE NEIGHBOUR: 'it returns false'. Refute it at one input. -/
def placeBoundsWrong : ChangeSpec := { name := "placeBounds", fn := fun _ => fun
  | [d1, d2, d3] => { results := [.lit (.bool false)], args := [d1, d2, d3] }
  | _ => none }
def PlaceBoundsWrongFalsely : Prop := placeBoundsRow.holds Try.pinned (OpenSpec.ofChange placeBoundsWrong)

/- THE SECOND FORM. 'bulk': how many values and letters a reading holds, each counted each time it is reached (what is shared counts as often as it is met; a slice's spare places count too). A statement '..UptoSaid' is the law's where the arguments, and the package variables that the reading takes, are together of bulk at most 1048576: NARROWER than '..Said'. Prove '..Said' where nothing that the law and all that it calls make is longer than what came in: it says more and counts as full. Else prove '..UptoSaid'. A law counts once. -/
mutual
def uptoBulk {H : Type} : DataW H → Nat
  | .lit (.string bytes) => bytes.length + 1
  | .lit _ => 1
  | .nil => 1
  | .ptr d => uptoBulk d + 1
  | .slice elems spare => uptoBulkAll elems + uptoBulkAll spare + 1
  | .agg parts => uptoBulkAll parts + 1
  | .iface _ d => uptoBulk d + 1
  | .map entries => uptoBulkEntries entries + 1
  | .held _ => 1
def uptoBulkAll {H : Type} : List (DataW H) → Nat
  | [] => 0
  | d :: r => uptoBulk d + uptoBulkAll r
def uptoBulkEntries {H : Type} : List (Lit × DataW H) → Nat
  | [] => 0
  | x :: r => uptoBulkEntry x + uptoBulkEntries r
def uptoBulkEntry {H : Type} : Lit × DataW H → Nat
  | (.string bytes, d) => bytes.length + uptoBulk d + 1
  | (_, d) => uptoBulk d + 1
 end
def uptoSmall : (H : Type) → List (DataW H) → Bool := fun _ ds => decide (uptoBulkAll ds ≤ 1048576)
def OpenSpec.upto (s : _root_.Go.ChangeSpec) : _root_.Go.OpenSpec := { _root_.Go.OpenSpec.ofChange s with cond := some uptoSmall }

/-- 'highroadlaw10.TurnTells', WHERE WHAT IT READS IS OF BULK AT MOST 1048576: true; the input reads as it did. -/
def turnTellsUptoRow : OpenClaim := { program := "ytaoodmioehkebaa", sum := "ad3577ddd668c29893dba62b3a1b4cc665082665a4c6ca2cdf2184d8af165fc1", func := "highroad/highroadlaw10.TurnTells", spec := "turnTells", unfollowed := true, recurses := true, apart := false, narrowed := true }
def TurnTellsUptoSaid : Prop := turnTellsUptoRow.holds Try.pinned (OpenSpec.upto turnTellsSpec)

/-- 'highroadlaw27.LocalWindows', WHERE WHAT IT READS IS OF BULK AT MOST 1048576: true; the input reads as it did. -/
def localWindowsUptoRow : OpenClaim := { program := "ytaoodmioehkebaa", sum := "ad3577ddd668c29893dba62b3a1b4cc665082665a4c6ca2cdf2184d8af165fc1", func := "highroad/highroadlaw27.LocalWindows", spec := "localWindows", unfollowed := true, recurses := true, apart := false, narrowed := true }
def LocalWindowsUptoSaid : Prop := localWindowsUptoRow.holds Try.pinned (OpenSpec.upto localWindowsSpec)

/-- 'highroadlaw09.PlaceApart', WHERE WHAT IT READS IS OF BULK AT MOST 1048576: true; the input reads as it did. -/
def placeApartUptoRow : OpenClaim := { program := "ytaoodmioehkebaa", sum := "ad3577ddd668c29893dba62b3a1b4cc665082665a4c6ca2cdf2184d8af165fc1", func := "highroad/highroadlaw09.PlaceApart", spec := "placeApart", inPlace := ["math.sqrt"], unfollowed := true, recurses := true, apart := false, narrowed := true }
def PlaceApartUptoSaid : Prop := placeApartUptoRow.holds Try.pinned (OpenSpec.upto placeApartSpec)

/-- 'highroadlaw09.PlaceRound', WHERE WHAT IT READS IS OF BULK AT MOST 1048576: true; the input reads as it did. -/
def placeRoundUptoRow : OpenClaim := { program := "ytaoodmioehkebaa", sum := "ad3577ddd668c29893dba62b3a1b4cc665082665a4c6ca2cdf2184d8af165fc1", func := "highroad/highroadlaw09.PlaceRound", spec := "placeRound", inPlace := ["math.sqrt"], unfollowed := true, recurses := true, apart := false, narrowed := true }
def PlaceRoundUptoSaid : Prop := placeRoundUptoRow.holds Try.pinned (OpenSpec.upto placeRoundSpec)

/-- 'highroadlaw10.TurnBack', WHERE WHAT IT READS IS OF BULK AT MOST 1048576: true; the input reads as it did. -/
def turnBackUptoRow : OpenClaim := { program := "ytaoodmioehkebaa", sum := "ad3577ddd668c29893dba62b3a1b4cc665082665a4c6ca2cdf2184d8af165fc1", func := "highroad/highroadlaw10.TurnBack", spec := "turnBack", inPlace := ["math.archTrunc", "math.Float64bits", "math.Float64frombits"], unfollowed := true, recurses := true, apart := false, narrowed := true }
def TurnBackUptoSaid : Prop := turnBackUptoRow.holds Try.pinned (OpenSpec.upto turnBackSpec)

/-- 'highroadlaw26.ShareBounds', WHERE WHAT IT READS IS OF BULK AT MOST 1048576: true; the input reads as it did. -/
def shareBoundsUptoRow : OpenClaim := { program := "ytaoodmioehkebaa", sum := "ad3577ddd668c29893dba62b3a1b4cc665082665a4c6ca2cdf2184d8af165fc1", func := "highroad/highroadlaw26.ShareBounds", spec := "shareBounds", unfollowed := true, recurses := true, apart := false, narrowed := true }
def ShareBoundsUptoSaid : Prop := shareBoundsUptoRow.holds Try.pinned (OpenSpec.upto shareBoundsSpec)

/-- 'highroadlaw09.PlaceNumbers', WHERE WHAT IT READS IS OF BULK AT MOST 1048576: true; the input reads as it did. -/
def placeNumbersUptoRow : OpenClaim := { program := "ytaoodmioehkebaa", sum := "ad3577ddd668c29893dba62b3a1b4cc665082665a4c6ca2cdf2184d8af165fc1", func := "highroad/highroadlaw09.PlaceNumbers", spec := "placeNumbers", inPlace := ["math.sqrt", "math.archTrunc", "math.Float64bits", "math.Float64frombits"], unfollowed := true, recurses := true, apart := false, narrowed := true }
def PlaceNumbersUptoSaid : Prop := placeNumbersUptoRow.holds Try.pinned (OpenSpec.upto placeNumbersSpec)

/-- 'highroadlaw10.TurnAlong', WHERE WHAT IT READS IS OF BULK AT MOST 1048576: true; the input reads as it did. -/
def turnAlongUptoRow : OpenClaim := { program := "ytaoodmioehkebaa", sum := "ad3577ddd668c29893dba62b3a1b4cc665082665a4c6ca2cdf2184d8af165fc1", func := "highroad/highroadlaw10.TurnAlong", spec := "turnAlong", inPlace := ["math.archTrunc", "math.Float64bits", "math.Float64frombits"], unfollowed := true, recurses := true, apart := false, narrowed := true }
def TurnAlongUptoSaid : Prop := turnAlongUptoRow.holds Try.pinned (OpenSpec.upto turnAlongSpec)

/-- 'highroadlaw09.PlaceBounds', WHERE WHAT IT READS IS OF BULK AT MOST 1048576: true; the input reads as it did. -/
def placeBoundsUptoRow : OpenClaim := { program := "ytaoodmioehkebaa", sum := "ad3577ddd668c29893dba62b3a1b4cc665082665a4c6ca2cdf2184d8af165fc1", func := "highroad/highroadlaw09.PlaceBounds", spec := "placeBounds", inPlace := ["math.sqrt"], unfollowed := true, recurses := true, apart := false, narrowed := true }
def PlaceBoundsUptoSaid : Prop := placeBoundsUptoRow.holds Try.pinned (OpenSpec.upto placeBoundsSpec)

end Rows
end Go.Proofs.Ytaoodmioehkebaa
