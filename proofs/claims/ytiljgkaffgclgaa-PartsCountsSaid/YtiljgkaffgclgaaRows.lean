/-
  No cell of these rows narrows 'for every input' (looked for: loops, veiled, ifaces, maps, wideKeys, modest, calm, conditions, laid).
  DERIVED. THE GIVEN ROWS OF THIS SEAT. 10 by the template 'for every input the law returns true; each argument reads behind the call as it read before'; 0 by the template 'total and deterministic' (their statements: YtiljgkaffgclgaaTotals.lean).
  GIVEN WITH THE SEED: the statements are not yours to turn. If you find one false, say at which input.
  Laid BY PROGRAM, IN A SANDBOX (cutbox-rows.mjs): the forced cells as the released guide's own fill.sh prints them over the translation 0034c6bc8089532e… (all of the seat's roots in one cut). By AI agents, Wed Nov 11 2026. No macro, syntax, notation, axiom, sorry.
-/
import Derived.Test.YtiljgkaffgclgaaChecked
import GoSem.Claim
import GoSem.ClaimJoined
import GoSem.ClaimMapViews
import Derived.JoinedTies
import Derived.KernelRfl
namespace Go.Proofs.Ytiljgkaffgclgaa
/- THE CELL 'sum', in the pinned program and in every row, IS THE sha256 OF THE DUMP (.gsa) THAT YtiljgkaffgclgaaProg.lean LOADS. Nothing in Lean hashes anything: it is a label: what it is worth is what the hold of that sum in a sandbox is worth. -/
noncomputable def Try.pinned : Pinned := { name := "ytiljgkaffgclgaa", sum := "0034c6bc8089532e84aba1beacbda746c5b78299a4de3be20c64d148684a567b", checked := Try.checked }
namespace Rows
def none {H : Type} : Left H := { results := [], args := [] }

/-- 'highroadlaw46.MarksBounds': WHATEVER THE INPUT: true; the input reads as it did. -/
def marksBoundsSpec : ChangeSpec := { name := "marksBounds", fn := fun _ => fun
  | [d1, d2, d3, d4] => { results := [.lit (.bool true)], args := [d1, d2, d3, d4] }
  | _ => none }
def marksBoundsRow : OpenClaim := { program := "ytiljgkaffgclgaa", sum := "0034c6bc8089532e84aba1beacbda746c5b78299a4de3be20c64d148684a567b", func := "highroad/highroadlaw46.MarksBounds", spec := "marksBounds", unfollowed := true, recurses := true, apart := false }
def MarksBoundsSaid : Prop := marksBoundsRow.holds Try.pinned (OpenSpec.ofChange marksBoundsSpec)

/-- ITS FALSE NEIGHBOUR: 'it returns false'. Refute it at one input. -/
def marksBoundsWrong : ChangeSpec := { name := "marksBounds", fn := fun _ => fun
  | [d1, d2, d3, d4] => { results := [.lit (.bool false)], args := [d1, d2, d3, d4] }
  | _ => none }
def MarksBoundsWrongFalsely : Prop := marksBoundsRow.holds Try.pinned (OpenSpec.ofChange marksBoundsWrong)

/-- 'highroadlaw46.MarksSound': WHATEVER THE INPUT: true; the input reads as it did. -/
def marksSoundSpec : ChangeSpec := { name := "marksSound", fn := fun _ => fun
  | [d1, d2, d3, d4] => { results := [.lit (.bool true)], args := [d1, d2, d3, d4] }
  | _ => none }
def marksSoundRow : OpenClaim := { program := "ytiljgkaffgclgaa", sum := "0034c6bc8089532e84aba1beacbda746c5b78299a4de3be20c64d148684a567b", func := "highroad/highroadlaw46.MarksSound", spec := "marksSound", unfollowed := true, recurses := true, apart := false }
def MarksSoundSaid : Prop := marksSoundRow.holds Try.pinned (OpenSpec.ofChange marksSoundSpec)

/-- ITS FALSE NEIGHBOUR: 'it returns false'. Refute it at one input. -/
def marksSoundWrong : ChangeSpec := { name := "marksSound", fn := fun _ => fun
  | [d1, d2, d3, d4] => { results := [.lit (.bool false)], args := [d1, d2, d3, d4] }
  | _ => none }
def MarksSoundWrongFalsely : Prop := marksSoundRow.holds Try.pinned (OpenSpec.ofChange marksSoundWrong)

/-- 'highroadlaw27.LocalLess': WHATEVER THE INPUT: true; the input reads as it did. -/
def localLessSpec : ChangeSpec := { name := "localLess", fn := fun _ => fun
  | [d1, d2, d3, d4, d5, d6] => { results := [.lit (.bool true)], args := [d1, d2, d3, d4, d5, d6] }
  | _ => none }
def localLessRow : OpenClaim := { program := "ytiljgkaffgclgaa", sum := "0034c6bc8089532e84aba1beacbda746c5b78299a4de3be20c64d148684a567b", func := "highroad/highroadlaw27.LocalLess", spec := "localLess", unfollowed := true, recurses := true, apart := false }
def LocalLessSaid : Prop := localLessRow.holds Try.pinned (OpenSpec.ofChange localLessSpec)

/-- ITS FALSE NEIGHBOUR: 'it returns false'. Refute it at one input. -/
def localLessWrong : ChangeSpec := { name := "localLess", fn := fun _ => fun
  | [d1, d2, d3, d4, d5, d6] => { results := [.lit (.bool false)], args := [d1, d2, d3, d4, d5, d6] }
  | _ => none }
def LocalLessWrongFalsely : Prop := localLessRow.holds Try.pinned (OpenSpec.ofChange localLessWrong)

/-- 'highroadlaw17.PartsReach': WHATEVER THE INPUT: true; the input reads as it did. -/
def partsReachSpec : ChangeSpec := { name := "partsReach", fn := fun _ => fun
  | [d1, d2] => { results := [.lit (.bool true)], args := [d1, d2] }
  | _ => none }
def partsReachRow : OpenClaim := { program := "ytiljgkaffgclgaa", sum := "0034c6bc8089532e84aba1beacbda746c5b78299a4de3be20c64d148684a567b", func := "highroad/highroadlaw17.PartsReach", spec := "partsReach", unfollowed := true, recurses := true, apart := false }
def PartsReachSaid : Prop := partsReachRow.holds Try.pinned (OpenSpec.ofChange partsReachSpec)

/-- ITS FALSE NEIGHBOUR: 'it returns false'. Refute it at one input. -/
def partsReachWrong : ChangeSpec := { name := "partsReach", fn := fun _ => fun
  | [d1, d2] => { results := [.lit (.bool false)], args := [d1, d2] }
  | _ => none }
def PartsReachWrongFalsely : Prop := partsReachRow.holds Try.pinned (OpenSpec.ofChange partsReachWrong)

/-- 'highroadlaw48.BridgeFarther': WHATEVER THE INPUT: true; the input reads as it did. -/
def bridgeFartherSpec : ChangeSpec := { name := "bridgeFarther", fn := fun _ => fun
  | [d1, d2, d3, d4] => { results := [.lit (.bool true)], args := [d1, d2, d3, d4] }
  | _ => none }
def bridgeFartherRow : OpenClaim := { program := "ytiljgkaffgclgaa", sum := "0034c6bc8089532e84aba1beacbda746c5b78299a4de3be20c64d148684a567b", func := "highroad/highroadlaw48.BridgeFarther", spec := "bridgeFarther", unfollowed := true, recurses := true, apart := false }
def BridgeFartherSaid : Prop := bridgeFartherRow.holds Try.pinned (OpenSpec.ofChange bridgeFartherSpec)

/-- ITS FALSE NEIGHBOUR: 'it returns false'. Refute it at one input. -/
def bridgeFartherWrong : ChangeSpec := { name := "bridgeFarther", fn := fun _ => fun
  | [d1, d2, d3, d4] => { results := [.lit (.bool false)], args := [d1, d2, d3, d4] }
  | _ => none }
def BridgeFartherWrongFalsely : Prop := bridgeFartherRow.holds Try.pinned (OpenSpec.ofChange bridgeFartherWrong)

/-- 'highroadlaw45.AstarSound': WHATEVER THE INPUT: true; the input reads as it did. -/
def astarSoundSpec : ChangeSpec := { name := "astarSound", fn := fun _ => fun
  | [d1, d2, d3] => { results := [.lit (.bool true)], args := [d1, d2, d3] }
  | _ => none }
def astarSoundRow : OpenClaim := { program := "ytiljgkaffgclgaa", sum := "0034c6bc8089532e84aba1beacbda746c5b78299a4de3be20c64d148684a567b", func := "highroad/highroadlaw45.AstarSound", spec := "astarSound", inPlace := ["math.sqrt"], unfollowed := true, recurses := true, apart := false }
def AstarSoundSaid : Prop := astarSoundRow.holds Try.pinned (OpenSpec.ofChange astarSoundSpec)

/-- ITS FALSE NEIGHBOUR: 'it returns false'. Refute it at one input. -/
def astarSoundWrong : ChangeSpec := { name := "astarSound", fn := fun _ => fun
  | [d1, d2, d3] => { results := [.lit (.bool false)], args := [d1, d2, d3] }
  | _ => none }
def AstarSoundWrongFalsely : Prop := astarSoundRow.holds Try.pinned (OpenSpec.ofChange astarSoundWrong)

/-- 'highroadlaw45.AstarBounds': WHATEVER THE INPUT: true; the input reads as it did. -/
def astarBoundsSpec : ChangeSpec := { name := "astarBounds", fn := fun _ => fun
  | [d1, d2, d3, d4] => { results := [.lit (.bool true)], args := [d1, d2, d3, d4] }
  | _ => none }
def astarBoundsRow : OpenClaim := { program := "ytiljgkaffgclgaa", sum := "0034c6bc8089532e84aba1beacbda746c5b78299a4de3be20c64d148684a567b", func := "highroad/highroadlaw45.AstarBounds", spec := "astarBounds", inPlace := ["math.sqrt"], unfollowed := true, recurses := true, apart := false }
def AstarBoundsSaid : Prop := astarBoundsRow.holds Try.pinned (OpenSpec.ofChange astarBoundsSpec)

/-- ITS FALSE NEIGHBOUR: 'it returns false'. Refute it at one input. -/
def astarBoundsWrong : ChangeSpec := { name := "astarBounds", fn := fun _ => fun
  | [d1, d2, d3, d4] => { results := [.lit (.bool false)], args := [d1, d2, d3, d4] }
  | _ => none }
def AstarBoundsWrongFalsely : Prop := astarBoundsRow.holds Try.pinned (OpenSpec.ofChange astarBoundsWrong)

/-- 'highroadlaw46.MarksChosen': WHATEVER THE INPUT: true; the input reads as it did. -/
def marksChosenSpec : ChangeSpec := { name := "marksChosen", fn := fun _ => fun
  | [d1, d2, d3, d4] => { results := [.lit (.bool true)], args := [d1, d2, d3, d4] }
  | _ => none }
def marksChosenRow : OpenClaim := { program := "ytiljgkaffgclgaa", sum := "0034c6bc8089532e84aba1beacbda746c5b78299a4de3be20c64d148684a567b", func := "highroad/highroadlaw46.MarksChosen", spec := "marksChosen", unfollowed := true, recurses := true, apart := false }
def MarksChosenSaid : Prop := marksChosenRow.holds Try.pinned (OpenSpec.ofChange marksChosenSpec)

/-- ITS FALSE NEIGHBOUR: 'it returns false'. Refute it at one input. -/
def marksChosenWrong : ChangeSpec := { name := "marksChosen", fn := fun _ => fun
  | [d1, d2, d3, d4] => { results := [.lit (.bool false)], args := [d1, d2, d3, d4] }
  | _ => none }
def MarksChosenWrongFalsely : Prop := marksChosenRow.holds Try.pinned (OpenSpec.ofChange marksChosenWrong)

/-- 'highroadlaw17.PartsCounts': WHATEVER THE INPUT: true; the input reads as it did. -/
def partsCountsSpec : ChangeSpec := { name := "partsCounts", fn := fun _ => fun
  | [d] => { results := [.lit (.bool true)], args := [d] }
  | _ => none }
def partsCountsRow : OpenClaim := { program := "ytiljgkaffgclgaa", sum := "0034c6bc8089532e84aba1beacbda746c5b78299a4de3be20c64d148684a567b", func := "highroad/highroadlaw17.PartsCounts", spec := "partsCounts", unfollowed := true, recurses := true, apart := false }
def PartsCountsSaid : Prop := partsCountsRow.holds Try.pinned (OpenSpec.ofChange partsCountsSpec)

/-- ITS FALSE NEIGHBOUR: 'it returns false'. Refute it at one input. -/
def partsCountsWrong : ChangeSpec := { name := "partsCounts", fn := fun _ => fun
  | [d] => { results := [.lit (.bool false)], args := [d] }
  | _ => none }
def PartsCountsWrongFalsely : Prop := partsCountsRow.holds Try.pinned (OpenSpec.ofChange partsCountsWrong)

/-- 'highroadlaw17.PartsWays': WHATEVER THE INPUT: true; the input reads as it did. -/
def partsWaysSpec : ChangeSpec := { name := "partsWays", fn := fun _ => fun
  | [d] => { results := [.lit (.bool true)], args := [d] }
  | _ => none }
def partsWaysRow : OpenClaim := { program := "ytiljgkaffgclgaa", sum := "0034c6bc8089532e84aba1beacbda746c5b78299a4de3be20c64d148684a567b", func := "highroad/highroadlaw17.PartsWays", spec := "partsWays", unfollowed := true, recurses := true, apart := false }
def PartsWaysSaid : Prop := partsWaysRow.holds Try.pinned (OpenSpec.ofChange partsWaysSpec)

/-- ITS FALSE NEIGHBOUR: 'it returns false'. Refute it at one input. -/
def partsWaysWrong : ChangeSpec := { name := "partsWays", fn := fun _ => fun
  | [d] => { results := [.lit (.bool false)], args := [d] }
  | _ => none }
def PartsWaysWrongFalsely : Prop := partsWaysRow.holds Try.pinned (OpenSpec.ofChange partsWaysWrong)

/- THE SECOND FORM. 'bulk': how many values and letters a reading holds, each counted each time it is reached (what is shared counts as often as it is met; a slice's spare places count too). A statement '..UptoSaid' is the law's where the arguments, and the package variables that the reading takes, are together of bulk at most 1048576: NARROWER than '..Said'. Prove '..Said' where nothing that the law and all that it calls make is longer than what came in: it says more and counts as full. Else prove '..UptoSaid'. A law counts once. -/
mutual
def uptoBulk {H : Type} : DataW H → Nat
  | .lit (.string bytes) => bytes.length + 1
  | .lit _ => 1
  | .nil => 1
  | .ptr d => uptoBulk d + 1
  | .slice elems spare => uptoBulkAll elems + uptoBulkAll spare + 1
  | .agg parts => uptoBulkAll parts + 1
  | .iface _ d => uptoBulk d + 1
  | .map entries => uptoBulkEntries entries + 1
  | .held _ => 1
def uptoBulkAll {H : Type} : List (DataW H) → Nat
  | [] => 0
  | d :: r => uptoBulk d + uptoBulkAll r
def uptoBulkEntries {H : Type} : List (Lit × DataW H) → Nat
  | [] => 0
  | x :: r => uptoBulkEntry x + uptoBulkEntries r
def uptoBulkEntry {H : Type} : Lit × DataW H → Nat
  | (.string bytes, d) => bytes.length + uptoBulk d + 1
  | (_, d) => uptoBulk d + 1
 end
def uptoSmall : (H : Type) → List (DataW H) → Bool := fun _ ds => decide (uptoBulkAll ds ≤ 1048576)
def OpenSpec.upto (s : _root_.Go.ChangeSpec) : _root_.Go.OpenSpec := { _root_.Go.OpenSpec.ofChange s with cond := some uptoSmall }

/-- 'highroadlaw46.MarksBounds', WHERE WHAT IT READS IS OF BULK AT MOST 1048576: true; the input reads as it did. -/
def marksBoundsUptoRow : OpenClaim := { program := "ytiljgkaffgclgaa", sum := "0034c6bc8089532e84aba1beacbda746c5b78299a4de3be20c64d148684a567b", func := "highroad/highroadlaw46.MarksBounds", spec := "marksBounds", unfollowed := true, recurses := true, apart := false, narrowed := true }
def MarksBoundsUptoSaid : Prop := marksBoundsUptoRow.holds Try.pinned (OpenSpec.upto marksBoundsSpec)

/-- 'highroadlaw46.MarksSound', WHERE WHAT IT READS IS OF BULK AT MOST 1048576: true; the input reads as it did. -/
def marksSoundUptoRow : OpenClaim := { program := "ytiljgkaffgclgaa", sum := "0034c6bc8089532e84aba1beacbda746c5b78299a4de3be20c64d148684a567b", func := "highroad/highroadlaw46.MarksSound", spec := "marksSound", unfollowed := true, recurses := true, apart := false, narrowed := true }
def MarksSoundUptoSaid : Prop := marksSoundUptoRow.holds Try.pinned (OpenSpec.upto marksSoundSpec)

/-- 'highroadlaw27.LocalLess', WHERE WHAT IT READS IS OF BULK AT MOST 1048576: true; the input reads as it did. -/
def localLessUptoRow : OpenClaim := { program := "ytiljgkaffgclgaa", sum := "0034c6bc8089532e84aba1beacbda746c5b78299a4de3be20c64d148684a567b", func := "highroad/highroadlaw27.LocalLess", spec := "localLess", unfollowed := true, recurses := true, apart := false, narrowed := true }
def LocalLessUptoSaid : Prop := localLessUptoRow.holds Try.pinned (OpenSpec.upto localLessSpec)

/-- 'highroadlaw17.PartsReach', WHERE WHAT IT READS IS OF BULK AT MOST 1048576: true; the input reads as it did. -/
def partsReachUptoRow : OpenClaim := { program := "ytiljgkaffgclgaa", sum := "0034c6bc8089532e84aba1beacbda746c5b78299a4de3be20c64d148684a567b", func := "highroad/highroadlaw17.PartsReach", spec := "partsReach", unfollowed := true, recurses := true, apart := false, narrowed := true }
def PartsReachUptoSaid : Prop := partsReachUptoRow.holds Try.pinned (OpenSpec.upto partsReachSpec)

/-- 'highroadlaw48.BridgeFarther', WHERE WHAT IT READS IS OF BULK AT MOST 1048576: true; the input reads as it did. -/
def bridgeFartherUptoRow : OpenClaim := { program := "ytiljgkaffgclgaa", sum := "0034c6bc8089532e84aba1beacbda746c5b78299a4de3be20c64d148684a567b", func := "highroad/highroadlaw48.BridgeFarther", spec := "bridgeFarther", unfollowed := true, recurses := true, apart := false, narrowed := true }
def BridgeFartherUptoSaid : Prop := bridgeFartherUptoRow.holds Try.pinned (OpenSpec.upto bridgeFartherSpec)

/-- 'highroadlaw45.AstarSound', WHERE WHAT IT READS IS OF BULK AT MOST 1048576: true; the input reads as it did. -/
def astarSoundUptoRow : OpenClaim := { program := "ytiljgkaffgclgaa", sum := "0034c6bc8089532e84aba1beacbda746c5b78299a4de3be20c64d148684a567b", func := "highroad/highroadlaw45.AstarSound", spec := "astarSound", inPlace := ["math.sqrt"], unfollowed := true, recurses := true, apart := false, narrowed := true }
def AstarSoundUptoSaid : Prop := astarSoundUptoRow.holds Try.pinned (OpenSpec.upto astarSoundSpec)

/-- 'highroadlaw45.AstarBounds', WHERE WHAT IT READS IS OF BULK AT MOST 1048576: true; the input reads as it did. -/
def astarBoundsUptoRow : OpenClaim := { program := "ytiljgkaffgclgaa", sum := "0034c6bc8089532e84aba1beacbda746c5b78299a4de3be20c64d148684a567b", func := "highroad/highroadlaw45.AstarBounds", spec := "astarBounds", inPlace := ["math.sqrt"], unfollowed := true, recurses := true, apart := false, narrowed := true }
def AstarBoundsUptoSaid : Prop := astarBoundsUptoRow.holds Try.pinned (OpenSpec.upto astarBoundsSpec)

/-- 'highroadlaw46.MarksChosen', WHERE WHAT IT READS IS OF BULK AT MOST 1048576: true; the input reads as it did. -/
def marksChosenUptoRow : OpenClaim := { program := "ytiljgkaffgclgaa", sum := "0034c6bc8089532e84aba1beacbda746c5b78299a4de3be20c64d148684a567b", func := "highroad/highroadlaw46.MarksChosen", spec := "marksChosen", unfollowed := true, recurses := true, apart := false, narrowed := true }
def MarksChosenUptoSaid : Prop := marksChosenUptoRow.holds Try.pinned (OpenSpec.upto marksChosenSpec)

/-- 'highroadlaw17.PartsCounts', WHERE WHAT IT READS IS OF BULK AT MOST 1048576: true; the input reads as it did. -/
def partsCountsUptoRow : OpenClaim := { program := "ytiljgkaffgclgaa", sum := "0034c6bc8089532e84aba1beacbda746c5b78299a4de3be20c64d148684a567b", func := "highroad/highroadlaw17.PartsCounts", spec := "partsCounts", unfollowed := true, recurses := true, apart := false, narrowed := true }
def PartsCountsUptoSaid : Prop := partsCountsUptoRow.holds Try.pinned (OpenSpec.upto partsCountsSpec)

/-- 'highroadlaw17.PartsWays', WHERE WHAT IT READS IS OF BULK AT MOST 1048576: true; the input reads as it did. -/
def partsWaysUptoRow : OpenClaim := { program := "ytiljgkaffgclgaa", sum := "0034c6bc8089532e84aba1beacbda746c5b78299a4de3be20c64d148684a567b", func := "highroad/highroadlaw17.PartsWays", spec := "partsWays", unfollowed := true, recurses := true, apart := false, narrowed := true }
def PartsWaysUptoSaid : Prop := partsWaysUptoRow.holds Try.pinned (OpenSpec.upto partsWaysSpec)

end Rows
end Go.Proofs.Ytiljgkaffgclgaa
