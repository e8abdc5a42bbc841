/-
  No cell of these rows narrows 'for every input' (looked for: loops, veiled, ifaces, maps, wideKeys, modest, calm, conditions, laid).
  DERIVED. THE GIVEN ROWS OF THIS SEAT. 10 by the template 'for every input the law returns true; each argument reads behind the call as it read before'; 0 by the template 'total and deterministic' (their statements: YthjcbboignmknaaTotals.lean).
  GIVEN WITH THE SEED: the statements are not yours to turn. If you find one false, say at which input.
  Laid BY PROGRAM, IN A SANDBOX (cutbox-rows.mjs): the forced cells as the released guide's own fill.sh prints them over the translation 1b258f68bf06b99a… (all of the seat's roots in one cut). By AI agents, Wed Nov 11 2026. No macro, syntax, notation, axiom, sorry.
-/
import Derived.Test.YthjcbboignmknaaChecked
import GoSem.Claim
import GoSem.ClaimJoined
import GoSem.ClaimMapViews
import Derived.JoinedTies
import Derived.KernelRfl
namespace Go.Proofs.Ythjcbboignmknaa
/- THE CELL 'sum', in the pinned program and in every row, IS THE sha256 OF THE DUMP (.gsa) THAT YthjcbboignmknaaProg.lean LOADS. Nothing in Lean hashes anything: it is a label: what it is worth is what the hold of that sum in a sandbox is worth. -/
noncomputable def Try.pinned : Pinned := { name := "ythjcbboignmknaa", sum := "1b258f68bf06b99ac9d4254395b249734d6ee029fb311a2641ea3717f6a7bc9c", checked := Try.checked }
namespace Rows
def none {H : Type} : Left H := { results := [], args := [] }

/-- 'highroadlaw17.PartsReach': WHATEVER THE INPUT: true; the input reads as it did. -/
def partsReachSpec : ChangeSpec := { name := "partsReach", fn := fun _ => fun
  | [d1, d2] => { results := [.lit (.bool true)], args := [d1, d2] }
  | _ => none }
def partsReachRow : OpenClaim := { program := "ythjcbboignmknaa", sum := "1b258f68bf06b99ac9d4254395b249734d6ee029fb311a2641ea3717f6a7bc9c", func := "highroad/highroadlaw17.PartsReach", spec := "partsReach", unfollowed := true, recurses := true, apart := false }
def PartsReachSaid : Prop := partsReachRow.holds Try.pinned (OpenSpec.ofChange partsReachSpec)

/-- ITS FALSE NEIGHBOUR: 'it returns false'. Refute it at one input. -/
def partsReachWrong : ChangeSpec := { name := "partsReach", fn := fun _ => fun
  | [d1, d2] => { results := [.lit (.bool false)], args := [d1, d2] }
  | _ => none }
def PartsReachWrongFalsely : Prop := partsReachRow.holds Try.pinned (OpenSpec.ofChange partsReachWrong)

/-- 'highroadlaw17.PartsCounts': WHATEVER THE INPUT: true; the input reads as it did. -/
def partsCountsSpec : ChangeSpec := { name := "partsCounts", fn := fun _ => fun
  | [d] => { results := [.lit (.bool true)], args := [d] }
  | _ => none }
def partsCountsRow : OpenClaim := { program := "ythjcbboignmknaa", sum := "1b258f68bf06b99ac9d4254395b249734d6ee029fb311a2641ea3717f6a7bc9c", func := "highroad/highroadlaw17.PartsCounts", spec := "partsCounts", unfollowed := true, recurses := true, apart := false }
def PartsCountsSaid : Prop := partsCountsRow.holds Try.pinned (OpenSpec.ofChange partsCountsSpec)

/-- ITS FALSE NEIGHBOUR: 'it returns false'. Refute it at one input. -/
def partsCountsWrong : ChangeSpec := { name := "partsCounts", fn := fun _ => fun
  | [d] => { results := [.lit (.bool false)], args := [d] }
  | _ => none }
def PartsCountsWrongFalsely : Prop := partsCountsRow.holds Try.pinned (OpenSpec.ofChange partsCountsWrong)

/-- 'highroadlaw15.CanonAll': WHATEVER THE INPUT: true; the input reads as it did. -/
def canonAllSpec : ChangeSpec := { name := "canonAll", fn := fun _ => fun
  | [d1, d2, d3] => { results := [.lit (.bool true)], args := [d1, d2, d3] }
  | _ => none }
def canonAllRow : OpenClaim := { program := "ythjcbboignmknaa", sum := "1b258f68bf06b99ac9d4254395b249734d6ee029fb311a2641ea3717f6a7bc9c", func := "highroad/highroadlaw15.CanonAll", spec := "canonAll", unfollowed := true, recurses := true, apart := false }
def CanonAllSaid : Prop := canonAllRow.holds Try.pinned (OpenSpec.ofChange canonAllSpec)

/-- ITS FALSE NEIGHBOUR: 'it returns false'. Refute it at one input. -/
def canonAllWrong : ChangeSpec := { name := "canonAll", fn := fun _ => fun
  | [d1, d2, d3] => { results := [.lit (.bool false)], args := [d1, d2, d3] }
  | _ => none }
def CanonAllWrongFalsely : Prop := canonAllRow.holds Try.pinned (OpenSpec.ofChange canonAllWrong)

/-- 'highroadlaw15.CanonRests': WHATEVER THE INPUT: true; the input reads as it did. -/
def canonRestsSpec : ChangeSpec := { name := "canonRests", fn := fun _ => fun
  | [d1, d2, d3, d4] => { results := [.lit (.bool true)], args := [d1, d2, d3, d4] }
  | _ => none }
def canonRestsRow : OpenClaim := { program := "ythjcbboignmknaa", sum := "1b258f68bf06b99ac9d4254395b249734d6ee029fb311a2641ea3717f6a7bc9c", func := "highroad/highroadlaw15.CanonRests", spec := "canonRests", unfollowed := true, recurses := true, apart := false }
def CanonRestsSaid : Prop := canonRestsRow.holds Try.pinned (OpenSpec.ofChange canonRestsSpec)

/-- ITS FALSE NEIGHBOUR: 'it returns false'. Refute it at one input. -/
def canonRestsWrong : ChangeSpec := { name := "canonRests", fn := fun _ => fun
  | [d1, d2, d3, d4] => { results := [.lit (.bool false)], args := [d1, d2, d3, d4] }
  | _ => none }
def CanonRestsWrongFalsely : Prop := canonRestsRow.holds Try.pinned (OpenSpec.ofChange canonRestsWrong)

/-- 'highroadlaw47.FlowAssigns': WHATEVER THE INPUT: true; the input reads as it did. -/
def flowAssignsSpec : ChangeSpec := { name := "flowAssigns", fn := fun _ => fun
  | [d1, d2, d3] => { results := [.lit (.bool true)], args := [d1, d2, d3] }
  | _ => none }
def flowAssignsRow : OpenClaim := { program := "ythjcbboignmknaa", sum := "1b258f68bf06b99ac9d4254395b249734d6ee029fb311a2641ea3717f6a7bc9c", func := "highroad/highroadlaw47.FlowAssigns", spec := "flowAssigns", unfollowed := true, recurses := true, apart := false }
def FlowAssignsSaid : Prop := flowAssignsRow.holds Try.pinned (OpenSpec.ofChange flowAssignsSpec)

/-- ITS FALSE NEIGHBOUR: 'it returns false'. Refute it at one input. -/
def flowAssignsWrong : ChangeSpec := { name := "flowAssigns", fn := fun _ => fun
  | [d1, d2, d3] => { results := [.lit (.bool false)], args := [d1, d2, d3] }
  | _ => none }
def FlowAssignsWrongFalsely : Prop := flowAssignsRow.holds Try.pinned (OpenSpec.ofChange flowAssignsWrong)

/-- 'highroadlaw47.FlowBalance': WHATEVER THE INPUT: true; the input reads as it did. -/
def flowBalanceSpec : ChangeSpec := { name := "flowBalance", fn := fun _ => fun
  | [d1, d2] => { results := [.lit (.bool true)], args := [d1, d2] }
  | _ => none }
def flowBalanceRow : OpenClaim := { program := "ythjcbboignmknaa", sum := "1b258f68bf06b99ac9d4254395b249734d6ee029fb311a2641ea3717f6a7bc9c", func := "highroad/highroadlaw47.FlowBalance", spec := "flowBalance", unfollowed := true, recurses := true, apart := false }
def FlowBalanceSaid : Prop := flowBalanceRow.holds Try.pinned (OpenSpec.ofChange flowBalanceSpec)

/-- ITS FALSE NEIGHBOUR: 'it returns false'. Refute it at one input. -/
def flowBalanceWrong : ChangeSpec := { name := "flowBalance", fn := fun _ => fun
  | [d1, d2] => { results := [.lit (.bool false)], args := [d1, d2] }
  | _ => none }
def FlowBalanceWrongFalsely : Prop := flowBalanceRow.holds Try.pinned (OpenSpec.ofChange flowBalanceWrong)

/-- 'highroadlaw47.FlowCosts': WHATEVER THE INPUT: true; the input reads as it did. -/
def flowCostsSpec : ChangeSpec := { name := "flowCosts", fn := fun _ => fun
  | [d1, d2] => { results := [.lit (.bool true)], args := [d1, d2] }
  | _ => none }
def flowCostsRow : OpenClaim := { program := "ythjcbboignmknaa", sum := "1b258f68bf06b99ac9d4254395b249734d6ee029fb311a2641ea3717f6a7bc9c", func := "highroad/highroadlaw47.FlowCosts", spec := "flowCosts", inPlace := ["math/bits.Add64"], unfollowed := true, recurses := true, apart := false }
def FlowCostsSaid : Prop := flowCostsRow.holds Try.pinned (OpenSpec.ofChange flowCostsSpec)

/-- ITS FALSE NEIGHBOUR: 'it returns false'. Refute it at one input. -/
def flowCostsWrong : ChangeSpec := { name := "flowCosts", fn := fun _ => fun
  | [d1, d2] => { results := [.lit (.bool false)], args := [d1, d2] }
  | _ => none }
def FlowCostsWrongFalsely : Prop := flowCostsRow.holds Try.pinned (OpenSpec.ofChange flowCostsWrong)

/-- 'highroadlaw46.MarksBounds': WHATEVER THE INPUT: true; the input reads as it did. -/
def marksBoundsSpec : ChangeSpec := { name := "marksBounds", fn := fun _ => fun
  | [d1, d2, d3, d4] => { results := [.lit (.bool true)], args := [d1, d2, d3, d4] }
  | _ => none }
def marksBoundsRow : OpenClaim := { program := "ythjcbboignmknaa", sum := "1b258f68bf06b99ac9d4254395b249734d6ee029fb311a2641ea3717f6a7bc9c", func := "highroad/highroadlaw46.MarksBounds", spec := "marksBounds", unfollowed := true, recurses := true, apart := false }
def MarksBoundsSaid : Prop := marksBoundsRow.holds Try.pinned (OpenSpec.ofChange marksBoundsSpec)

/-- ITS FALSE NEIGHBOUR: 'it returns false'. Refute it at one input. -/
def marksBoundsWrong : ChangeSpec := { name := "marksBounds", fn := fun _ => fun
  | [d1, d2, d3, d4] => { results := [.lit (.bool false)], args := [d1, d2, d3, d4] }
  | _ => none }
def MarksBoundsWrongFalsely : Prop := marksBoundsRow.holds Try.pinned (OpenSpec.ofChange marksBoundsWrong)

/-- 'highroadlaw46.MarksSound': WHATEVER THE INPUT: true; the input reads as it did. -/
def marksSoundSpec : ChangeSpec := { name := "marksSound", fn := fun _ => fun
  | [d1, d2, d3, d4] => { results := [.lit (.bool true)], args := [d1, d2, d3, d4] }
  | _ => none }
def marksSoundRow : OpenClaim := { program := "ythjcbboignmknaa", sum := "1b258f68bf06b99ac9d4254395b249734d6ee029fb311a2641ea3717f6a7bc9c", func := "highroad/highroadlaw46.MarksSound", spec := "marksSound", unfollowed := true, recurses := true, apart := false }
def MarksSoundSaid : Prop := marksSoundRow.holds Try.pinned (OpenSpec.ofChange marksSoundSpec)

/-- ITS FALSE NEIGHBOUR: 'it returns false'. Refute it at one input. -/
def marksSoundWrong : ChangeSpec := { name := "marksSound", fn := fun _ => fun
  | [d1, d2, d3, d4] => { results := [.lit (.bool false)], args := [d1, d2, d3, d4] }
  | _ => none }
def MarksSoundWrongFalsely : Prop := marksSoundRow.holds Try.pinned (OpenSpec.ofChange marksSoundWrong)

/-- 'highroadlaw48.BridgeCuts': WHATEVER THE INPUT: true; the input reads as it did. -/
def bridgeCutsSpec : ChangeSpec := { name := "bridgeCuts", fn := fun _ => fun
  | [d1, d2, d3] => { results := [.lit (.bool true)], args := [d1, d2, d3] }
  | _ => none }
def bridgeCutsRow : OpenClaim := { program := "ythjcbboignmknaa", sum := "1b258f68bf06b99ac9d4254395b249734d6ee029fb311a2641ea3717f6a7bc9c", func := "highroad/highroadlaw48.BridgeCuts", spec := "bridgeCuts", unfollowed := true, recurses := true, apart := false }
def BridgeCutsSaid : Prop := bridgeCutsRow.holds Try.pinned (OpenSpec.ofChange bridgeCutsSpec)

/-- ITS FALSE NEIGHBOUR: 'it returns false'. Refute it at one input. -/
def bridgeCutsWrong : ChangeSpec := { name := "bridgeCuts", fn := fun _ => fun
  | [d1, d2, d3] => { results := [.lit (.bool false)], args := [d1, d2, d3] }
  | _ => none }
def BridgeCutsWrongFalsely : Prop := bridgeCutsRow.holds Try.pinned (OpenSpec.ofChange bridgeCutsWrong)

/- THE SECOND FORM. 'bulk': how many values and letters a reading holds, each counted each time it is reached (what is shared counts as often as it is met; a slice's spare places count too). A statement '..UptoSaid' is the law's where the arguments, and the package variables that the reading takes, are together of bulk at most 1048576: NARROWER than '..Said'. Prove '..Said' where nothing that the law and all that it calls make is longer than what came in: it says more and counts as full. Else prove '..UptoSaid'. A law counts once. -/
mutual
def uptoBulk {H : Type} : DataW H → Nat
  | .lit (.string bytes) => bytes.length + 1
  | .lit _ => 1
  | .nil => 1
  | .ptr d => uptoBulk d + 1
  | .slice elems spare => uptoBulkAll elems + uptoBulkAll spare + 1
  | .agg parts => uptoBulkAll parts + 1
  | .iface _ d => uptoBulk d + 1
  | .map entries => uptoBulkEntries entries + 1
  | .held _ => 1
def uptoBulkAll {H : Type} : List (DataW H) → Nat
  | [] => 0
  | d :: r => uptoBulk d + uptoBulkAll r
def uptoBulkEntries {H : Type} : List (Lit × DataW H) → Nat
  | [] => 0
  | x :: r => uptoBulkEntry x + uptoBulkEntries r
def uptoBulkEntry {H : Type} : Lit × DataW H → Nat
  | (.string bytes, d) => bytes.length + uptoBulk d + 1
  | (_, d) => uptoBulk d + 1
 end
def uptoSmall : (H : Type) → List (DataW H) → Bool := fun _ ds => decide (uptoBulkAll ds ≤ 1048576)
def OpenSpec.upto (s : _root_.Go.ChangeSpec) : _root_.Go.OpenSpec := { _root_.Go.OpenSpec.ofChange s with cond := some uptoSmall }

/-- 'highroadlaw17.PartsReach', WHERE WHAT IT READS IS OF BULK AT MOST 1048576: true; the input reads as it did. -/
def partsReachUptoRow : OpenClaim := { program := "ythjcbboignmknaa", sum := "1b258f68bf06b99ac9d4254395b249734d6ee029fb311a2641ea3717f6a7bc9c", func := "highroad/highroadlaw17.PartsReach", spec := "partsReach", unfollowed := true, recurses := true, apart := false, narrowed := true }
def PartsReachUptoSaid : Prop := partsReachUptoRow.holds Try.pinned (OpenSpec.upto partsReachSpec)

/-- 'highroadlaw17.PartsCounts', WHERE WHAT IT READS IS OF BULK AT MOST 1048576: true; the input reads as it did. -/
def partsCountsUptoRow : OpenClaim := { program := "ythjcbboignmknaa", sum := "1b258f68bf06b99ac9d4254395b249734d6ee029fb311a2641ea3717f6a7bc9c", func := "highroad/highroadlaw17.PartsCounts", spec := "partsCounts", unfollowed := true, recurses := true, apart := false, narrowed := true }
def PartsCountsUptoSaid : Prop := partsCountsUptoRow.holds Try.pinned (OpenSpec.upto partsCountsSpec)

/-- 'highroadlaw15.CanonAll', WHERE WHAT IT READS IS OF BULK AT MOST 1048576: true; the input reads as it did. -/
def canonAllUptoRow : OpenClaim := { program := "ythjcbboignmknaa", sum := "1b258f68bf06b99ac9d4254395b249734d6ee029fb311a2641ea3717f6a7bc9c", func := "highroad/highroadlaw15.CanonAll", spec := "canonAll", unfollowed := true, recurses := true, apart := false, narrowed := true }
def CanonAllUptoSaid : Prop := canonAllUptoRow.holds Try.pinned (OpenSpec.upto canonAllSpec)

/-- 'highroadlaw15.CanonRests', WHERE WHAT IT READS IS OF BULK AT MOST 1048576: true; the input reads as it did. -/
def canonRestsUptoRow : OpenClaim := { program := "ythjcbboignmknaa", sum := "1b258f68bf06b99ac9d4254395b249734d6ee029fb311a2641ea3717f6a7bc9c", func := "highroad/highroadlaw15.CanonRests", spec := "canonRests", unfollowed := true, recurses := true, apart := false, narrowed := true }
def CanonRestsUptoSaid : Prop := canonRestsUptoRow.holds Try.pinned (OpenSpec.upto canonRestsSpec)

/-- 'highroadlaw47.FlowAssigns', WHERE WHAT IT READS IS OF BULK AT MOST 1048576: true; the input reads as it did. -/
def flowAssignsUptoRow : OpenClaim := { program := "ythjcbboignmknaa", sum := "1b258f68bf06b99ac9d4254395b249734d6ee029fb311a2641ea3717f6a7bc9c", func := "highroad/highroadlaw47.FlowAssigns", spec := "flowAssigns", unfollowed := true, recurses := true, apart := false, narrowed := true }
def FlowAssignsUptoSaid : Prop := flowAssignsUptoRow.holds Try.pinned (OpenSpec.upto flowAssignsSpec)

/-- 'highroadlaw47.FlowBalance', WHERE WHAT IT READS IS OF BULK AT MOST 1048576: true; the input reads as it did. -/
def flowBalanceUptoRow : OpenClaim := { program := "ythjcbboignmknaa", sum := "1b258f68bf06b99ac9d4254395b249734d6ee029fb311a2641ea3717f6a7bc9c", func := "highroad/highroadlaw47.FlowBalance", spec := "flowBalance", unfollowed := true, recurses := true, apart := false, narrowed := true }
def FlowBalanceUptoSaid : Prop := flowBalanceUptoRow.holds Try.pinned (OpenSpec.upto flowBalanceSpec)

/-- 'highroadlaw47.FlowCosts', WHERE WHAT IT READS IS OF BULK AT MOST 1048576: true; the input reads as it did. -/
def flowCostsUptoRow : OpenClaim := { program := "ythjcbboignmknaa", sum := "1b258f68bf06b99ac9d4254395b249734d6ee029fb311a2641ea3717f6a7bc9c", func := "highroad/highroadlaw47.FlowCosts", spec := "flowCosts", inPlace := ["math/bits.Add64"], unfollowed := true, recurses := true, apart := false, narrowed := true }
def FlowCostsUptoSaid : Prop := flowCostsUptoRow.holds Try.pinned (OpenSpec.upto flowCostsSpec)

/-- 'highroadlaw46.MarksBounds', WHERE WHAT IT READS IS OF BULK AT MOST 1048576: true; the input reads as it did. -/
def marksBoundsUptoRow : OpenClaim := { program := "ythjcbboignmknaa", sum := "1b258f68bf06b99ac9d4254395b249734d6ee029fb311a2641ea3717f6a7bc9c", func := "highroad/highroadlaw46.MarksBounds", spec := "marksBounds", unfollowed := true, recurses := true, apart := false, narrowed := true }
def MarksBoundsUptoSaid : Prop := marksBoundsUptoRow.holds Try.pinned (OpenSpec.upto marksBoundsSpec)

/-- 'highroadlaw46.MarksSound', WHERE WHAT IT READS IS OF BULK AT MOST 1048576: true; the input reads as it did. -/
def marksSoundUptoRow : OpenClaim := { program := "ythjcbboignmknaa", sum := "1b258f68bf06b99ac9d4254395b249734d6ee029fb311a2641ea3717f6a7bc9c", func := "highroad/highroadlaw46.MarksSound", spec := "marksSound", unfollowed := true, recurses := true, apart := false, narrowed := true }
def MarksSoundUptoSaid : Prop := marksSoundUptoRow.holds Try.pinned (OpenSpec.upto marksSoundSpec)

/-- 'highroadlaw48.BridgeCuts', WHERE WHAT IT READS IS OF BULK AT MOST 1048576: true; the input reads as it did. -/
def bridgeCutsUptoRow : OpenClaim := { program := "ythjcbboignmknaa", sum := "1b258f68bf06b99ac9d4254395b249734d6ee029fb311a2641ea3717f6a7bc9c", func := "highroad/highroadlaw48.BridgeCuts", spec := "bridgeCuts", unfollowed := true, recurses := true, apart := false, narrowed := true }
def BridgeCutsUptoSaid : Prop := bridgeCutsUptoRow.holds Try.pinned (OpenSpec.upto bridgeCutsSpec)

end Rows
end Go.Proofs.Ythjcbboignmknaa
