/-
  No cell of these rows narrows 'for every input' (looked for: loops, veiled, ifaces, maps, wideKeys, modest, calm, conditions, laid).
  DERIVED. THE GIVEN ROWS OF THIS SEAT. 4 by the template 'for every input the law returns true; each argument reads behind the call as it read before'; 0 by the template 'total and deterministic' (their statements: YtomednfddpggaaaTotals.lean).
  GIVEN WITH THE SEED: the statements are not yours to turn. If you find one false, say at which input.
  Laid BY PROGRAM, IN A SANDBOX (cutbox-rows.mjs): the forced cells as the released guide's own fill.sh prints them over the translation 0e679271de5b221f… (all of the seat's roots in one cut). By AI agents, Wed Nov 11 2026. No macro, syntax, notation, axiom, sorry.
-/
import Derived.Test.YtomednfddpggaaaChecked
import GoSem.Claim
import GoSem.ClaimJoined
import GoSem.ClaimMapViews
import Derived.JoinedTies
import Derived.KernelRfl
namespace Go.Proofs.Ytomednfddpggaaa
/- THE CELL 'sum', in the pinned program and in every row, IS THE sha256 OF THE DUMP (.gsa) THAT YtomednfddpggaaaProg.lean LOADS. Nothing in Lean hashes anything: it is a label: what it is worth is what the hold of that sum in a sandbox is worth. -/
noncomputable def Try.pinned : Pinned := { name := "ytomednfddpggaaa", sum := "0e679271de5b221fe6909e3b7b5cbfc71602e1379b4dffca3e9e4bcddead0ea4", checked := Try.checked }
namespace Rows
def none {H : Type} : Left H := { results := [], args := [] }

/-- 'highroadlaw48.BridgeCuts': WHATEVER THE INPUT: true; the input reads as it did. -/
def bridgeCutsSpec : ChangeSpec := { name := "bridgeCuts", fn := fun _ => fun
  | [d1, d2, d3] => { results := [.lit (.bool true)], args := [d1, d2, d3] }
  | _ => none }
def bridgeCutsRow : OpenClaim := { program := "ytomednfddpggaaa", sum := "0e679271de5b221fe6909e3b7b5cbfc71602e1379b4dffca3e9e4bcddead0ea4", func := "highroad/highroadlaw48.BridgeCuts", spec := "bridgeCuts", unfollowed := true, recurses := true, plainKeys := false, apart := false }
def BridgeCutsSaid : Prop := bridgeCutsRow.holds Try.pinned (OpenSpec.ofChange bridgeCutsSpec)

/-- ITS FALSE NEIGHBOUR: 'it returns false'. Refute it at one input. -/
def bridgeCutsWrong : ChangeSpec := { name := "bridgeCuts", fn := fun _ => fun
  | [d1, d2, d3] => { results := [.lit (.bool false)], args := [d1, d2, d3] }
  | _ => none }
def BridgeCutsWrongFalsely : Prop := bridgeCutsRow.holds Try.pinned (OpenSpec.ofChange bridgeCutsWrong)

/-- 'highroadlaw16.DagWays': WHATEVER THE INPUT: true; the input reads as it did. -/
def dagWaysSpec : ChangeSpec := { name := "dagWays", fn := fun _ => fun
  | [d1, d2, d3] => { results := [.lit (.bool true)], args := [d1, d2, d3] }
  | _ => none }
def dagWaysRow : OpenClaim := { program := "ytomednfddpggaaa", sum := "0e679271de5b221fe6909e3b7b5cbfc71602e1379b4dffca3e9e4bcddead0ea4", func := "highroad/highroadlaw16.DagWays", spec := "dagWays", unfollowed := true, recurses := true, plainKeys := false, apart := false }
def DagWaysSaid : Prop := dagWaysRow.holds Try.pinned (OpenSpec.ofChange dagWaysSpec)

/-- ITS FALSE NEIGHBOUR: 'it returns false'. Refute it at one input. -/
def dagWaysWrong : ChangeSpec := { name := "dagWays", fn := fun _ => fun
  | [d1, d2, d3] => { results := [.lit (.bool false)], args := [d1, d2, d3] }
  | _ => none }
def DagWaysWrongFalsely : Prop := dagWaysRow.holds Try.pinned (OpenSpec.ofChange dagWaysWrong)

/-- 'highroadlaw38.StatSums': WHATEVER THE INPUT: true; the input reads as it did. -/
def statSumsSpec : ChangeSpec := { name := "statSums", fn := fun _ => fun
  | [d] => { results := [.lit (.bool true)], args := [d] }
  | _ => none }
def statSumsRow : OpenClaim := { program := "ytomednfddpggaaa", sum := "0e679271de5b221fe6909e3b7b5cbfc71602e1379b4dffca3e9e4bcddead0ea4", func := "highroad/highroadlaw38.StatSums", spec := "statSums", unfollowed := true, recurses := true, plainKeys := false, apart := false }
def StatSumsSaid : Prop := statSumsRow.holds Try.pinned (OpenSpec.ofChange statSumsSpec)

/-- ITS FALSE NEIGHBOUR: 'it returns false'. Refute it at one input. -/
def statSumsWrong : ChangeSpec := { name := "statSums", fn := fun _ => fun
  | [d] => { results := [.lit (.bool false)], args := [d] }
  | _ => none }
def StatSumsWrongFalsely : Prop := statSumsRow.holds Try.pinned (OpenSpec.ofChange statSumsWrong)

/-- 'highroadlaw48.BridgeFarther': WHATEVER THE INPUT: true; the input reads as it did. -/
def bridgeFartherSpec : ChangeSpec := { name := "bridgeFarther", fn := fun _ => fun
  | [d1, d2, d3, d4] => { results := [.lit (.bool true)], args := [d1, d2, d3, d4] }
  | _ => none }
def bridgeFartherRow : OpenClaim := { program := "ytomednfddpggaaa", sum := "0e679271de5b221fe6909e3b7b5cbfc71602e1379b4dffca3e9e4bcddead0ea4", func := "highroad/highroadlaw48.BridgeFarther", spec := "bridgeFarther", unfollowed := true, recurses := true, plainKeys := false, apart := false }
def BridgeFartherSaid : Prop := bridgeFartherRow.holds Try.pinned (OpenSpec.ofChange bridgeFartherSpec)

/-- ITS FALSE NEIGHBOUR: 'it returns false'. Refute it at one input. -/
def bridgeFartherWrong : ChangeSpec := { name := "bridgeFarther", fn := fun _ => fun
  | [d1, d2, d3, d4] => { results := [.lit (.bool false)], args := [d1, d2, d3, d4] }
  | _ => none }
def BridgeFartherWrongFalsely : Prop := bridgeFartherRow.holds Try.pinned (OpenSpec.ofChange bridgeFartherWrong)

/- THE SECOND FORM. 'bulk': how many values and letters a reading holds, each counted each time it is reached (what is shared counts as often as it is met; a slice's spare places count too). A statement '..UptoSaid' is the law's where the arguments, and the package variables that the reading takes, are together of bulk at most 1048576: NARROWER than '..Said'. Prove '..Said' where nothing that the law and all that it calls make is longer than what came in: it says more and counts as full. Else prove '..UptoSaid'. A law counts once. -/
mutual
def uptoBulk {H : Type} : DataW H → Nat
  | .lit (.string bytes) => bytes.length + 1
  | .lit _ => 1
  | .nil => 1
  | .ptr d => uptoBulk d + 1
  | .slice elems spare => uptoBulkAll elems + uptoBulkAll spare + 1
  | .agg parts => uptoBulkAll parts + 1
  | .iface _ d => uptoBulk d + 1
  | .map entries => uptoBulkEntries entries + 1
  | .held _ => 1
def uptoBulkAll {H : Type} : List (DataW H) → Nat
  | [] => 0
  | d :: r => uptoBulk d + uptoBulkAll r
def uptoBulkEntries {H : Type} : List (Lit × DataW H) → Nat
  | [] => 0
  | x :: r => uptoBulkEntry x + uptoBulkEntries r
def uptoBulkEntry {H : Type} : Lit × DataW H → Nat
  | (.string bytes, d) => bytes.length + uptoBulk d + 1
  | (_, d) => uptoBulk d + 1
 end
def uptoSmall : (H : Type) → List (DataW H) → Bool := fun _ ds => decide (uptoBulkAll ds ≤ 1048576)
def OpenSpec.upto (s : _root_.Go.ChangeSpec) : _root_.Go.OpenSpec := { _root_.Go.OpenSpec.ofChange s with cond := some uptoSmall }

/-- 'highroadlaw48.BridgeCuts', WHERE WHAT IT READS IS OF BULK AT MOST 1048576: true; the input reads as it did. -/
def bridgeCutsUptoRow : OpenClaim := { program := "ytomednfddpggaaa", sum := "0e679271de5b221fe6909e3b7b5cbfc71602e1379b4dffca3e9e4bcddead0ea4", func := "highroad/highroadlaw48.BridgeCuts", spec := "bridgeCuts", unfollowed := true, recurses := true, plainKeys := false, apart := false, narrowed := true }
def BridgeCutsUptoSaid : Prop := bridgeCutsUptoRow.holds Try.pinned (OpenSpec.upto bridgeCutsSpec)

/-- 'highroadlaw16.DagWays', WHERE WHAT IT READS IS OF BULK AT MOST 1048576: true; the input reads as it did. -/
def dagWaysUptoRow : OpenClaim := { program := "ytomednfddpggaaa", sum := "0e679271de5b221fe6909e3b7b5cbfc71602e1379b4dffca3e9e4bcddead0ea4", func := "highroad/highroadlaw16.DagWays", spec := "dagWays", unfollowed := true, recurses := true, plainKeys := false, apart := false, narrowed := true }
def DagWaysUptoSaid : Prop := dagWaysUptoRow.holds Try.pinned (OpenSpec.upto dagWaysSpec)

/-- 'highroadlaw38.StatSums', WHERE WHAT IT READS IS OF BULK AT MOST 1048576: true; the input reads as it did. -/
def statSumsUptoRow : OpenClaim := { program := "ytomednfddpggaaa", sum := "0e679271de5b221fe6909e3b7b5cbfc71602e1379b4dffca3e9e4bcddead0ea4", func := "highroad/highroadlaw38.StatSums", spec := "statSums", unfollowed := true, recurses := true, plainKeys := false, apart := false, narrowed := true }
def StatSumsUptoSaid : Prop := statSumsUptoRow.holds Try.pinned (OpenSpec.upto statSumsSpec)

/-- 'highroadlaw48.BridgeFarther', WHERE WHAT IT READS IS OF BULK AT MOST 1048576: true; the input reads as it did. -/
def bridgeFartherUptoRow : OpenClaim := { program := "ytomednfddpggaaa", sum := "0e679271de5b221fe6909e3b7b5cbfc71602e1379b4dffca3e9e4bcddead0ea4", func := "highroad/highroadlaw48.BridgeFarther", spec := "bridgeFarther", unfollowed := true, recurses := true, plainKeys := false, apart := false, narrowed := true }
def BridgeFartherUptoSaid : Prop := bridgeFartherUptoRow.holds Try.pinned (OpenSpec.upto bridgeFartherSpec)

end Rows
end Go.Proofs.Ytomednfddpggaaa
