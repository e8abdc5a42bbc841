/-
  No cell of these rows narrows 'for every input' (looked for: loops, veiled, ifaces, maps, wideKeys, modest, calm, conditions, laid).
  DERIVED. THE GIVEN ROWS OF THIS SEAT. 3 by the template 'for every input the law returns true; each argument reads behind the call as it read before'; 0 by the template 'total and deterministic' (their statements: YtgplpgldhoelcaaTotals.lean).
  GIVEN WITH THE SEED: the statements are not yours to turn. If you find one false, say at which input.
  Laid BY PROGRAM, IN A SANDBOX (cutbox-rows.mjs): the forced cells as the released guide's own fill.sh prints them over the translation bfb5bdcb2f9e4923… (all of the seat's roots in one cut). By AI agents, Wed Nov 11 2026. No macro, syntax, notation, axiom, sorry.
-/
import Derived.Test.YtgplpgldhoelcaaChecked
import GoSem.Claim
import GoSem.ClaimJoined
import GoSem.ClaimMapViews
import Derived.JoinedTies
import Derived.KernelRfl
namespace Go.Proofs.Ytgplpgldhoelcaa
/- THE CELL 'sum', in the pinned program and in every row, IS THE sha256 OF THE DUMP (.gsa) THAT YtgplpgldhoelcaaProg.lean LOADS. Nothing in Lean hashes anything: it is a label: what it is worth is what the hold of that sum in a sandbox is worth. -/
noncomputable def Try.pinned : Pinned := { name := "ytgplpgldhoelcaa", sum := "bfb5bdcb2f9e4923e0107f9504ba12640bdd292d5f88298f25e21ac764b73b1c", checked := Try.checked }
namespace Rows
def none {H : Type} : Left H := { results := [], args := [] }

/-- 'highroadlaw20.ContractMore': WHATEVER THE INPUT: true; the input reads as it did. -/
def contractMoreSpec : ChangeSpec := { name := "contractMore", fn := fun _ => fun
  | [d1, d2, d3, d4] => { results := [.lit (.bool true)], args := [d1, d2, d3, d4] }
  | _ => none }
def contractMoreRow : OpenClaim := { program := "ytgplpgldhoelcaa", sum := "bfb5bdcb2f9e4923e0107f9504ba12640bdd292d5f88298f25e21ac764b73b1c", func := "highroad/highroadlaw20.ContractMore", spec := "contractMore", unfollowed := true, recurses := true, plainKeys := false, apart := false }
def ContractMoreSaid : Prop := contractMoreRow.holds Try.pinned (OpenSpec.ofChange contractMoreSpec)

/-- ITS FALSE NEIGHBOUR: 'it returns false'. Refute it at one input. -/
def contractMoreWrong : ChangeSpec := { name := "contractMore", fn := fun _ => fun
  | [d1, d2, d3, d4] => { results := [.lit (.bool false)], args := [d1, d2, d3, d4] }
  | _ => none }
def ContractMoreWrongFalsely : Prop := contractMoreRow.holds Try.pinned (OpenSpec.ofChange contractMoreWrong)

/-- 'highroadlaw33.ChangeAgain': WHATEVER THE INPUT: true; the input reads as it did. -/
def changeAgainSpec : ChangeSpec := { name := "changeAgain", fn := fun _ => fun
  | [d1, d2, d3, d4, d5] => { results := [.lit (.bool true)], args := [d1, d2, d3, d4, d5] }
  | _ => none }
def changeAgainRow : OpenClaim := { program := "ytgplpgldhoelcaa", sum := "bfb5bdcb2f9e4923e0107f9504ba12640bdd292d5f88298f25e21ac764b73b1c", func := "highroad/highroadlaw33.ChangeAgain", spec := "changeAgain", unfollowed := true, recurses := true, plainKeys := false, apart := false }
def ChangeAgainSaid : Prop := changeAgainRow.holds Try.pinned (OpenSpec.ofChange changeAgainSpec)

/-- ITS FALSE NEIGHBOUR: 'it returns false'. Refute it at one input. -/
def changeAgainWrong : ChangeSpec := { name := "changeAgain", fn := fun _ => fun
  | [d1, d2, d3, d4, d5] => { results := [.lit (.bool false)], args := [d1, d2, d3, d4, d5] }
  | _ => none }
def ChangeAgainWrongFalsely : Prop := changeAgainRow.holds Try.pinned (OpenSpec.ofChange changeAgainWrong)

/-- 'highroadlaw16.DagWays': WHATEVER THE INPUT: true; the input reads as it did. -/
def dagWaysSpec : ChangeSpec := { name := "dagWays", fn := fun _ => fun
  | [d1, d2, d3] => { results := [.lit (.bool true)], args := [d1, d2, d3] }
  | _ => none }
def dagWaysRow : OpenClaim := { program := "ytgplpgldhoelcaa", sum := "bfb5bdcb2f9e4923e0107f9504ba12640bdd292d5f88298f25e21ac764b73b1c", func := "highroad/highroadlaw16.DagWays", spec := "dagWays", unfollowed := true, recurses := true, plainKeys := false, apart := false }
def DagWaysSaid : Prop := dagWaysRow.holds Try.pinned (OpenSpec.ofChange dagWaysSpec)

/-- ITS FALSE NEIGHBOUR: 'it returns false'. Refute it at one input. -/
def dagWaysWrong : ChangeSpec := { name := "dagWays", fn := fun _ => fun
  | [d1, d2, d3] => { results := [.lit (.bool false)], args := [d1, d2, d3] }
  | _ => none }
def DagWaysWrongFalsely : Prop := dagWaysRow.holds Try.pinned (OpenSpec.ofChange dagWaysWrong)

/- THE SECOND FORM. 'bulk': how many values and letters a reading holds, each counted each time it is reached (what is shared counts as often as it is met; a slice's spare places count too). A statement '..UptoSaid' is the law's where the arguments, and the package variables that the reading takes, are together of bulk at most 1048576: NARROWER than '..Said'. Prove '..Said' where nothing that the law and all that it calls make is longer than what came in: it says more and counts as full. Else prove '..UptoSaid'. A law counts once. -/
mutual
def uptoBulk {H : Type} : DataW H → Nat
  | .lit (.string bytes) => bytes.length + 1
  | .lit _ => 1
  | .nil => 1
  | .ptr d => uptoBulk d + 1
  | .slice elems spare => uptoBulkAll elems + uptoBulkAll spare + 1
  | .agg parts => uptoBulkAll parts + 1
  | .iface _ d => uptoBulk d + 1
  | .map entries => uptoBulkEntries entries + 1
  | .held _ => 1
def uptoBulkAll {H : Type} : List (DataW H) → Nat
  | [] => 0
  | d :: r => uptoBulk d + uptoBulkAll r
def uptoBulkEntries {H : Type} : List (Lit × DataW H) → Nat
  | [] => 0
  | x :: r => uptoBulkEntry x + uptoBulkEntries r
def uptoBulkEntry {H : Type} : Lit × DataW H → Nat
  | (.string bytes, d) => bytes.length + uptoBulk d + 1
  | (_, d) => uptoBulk d + 1
 end
def uptoSmall : (H : Type) → List (DataW H) → Bool := fun _ ds => decide (uptoBulkAll ds ≤ 1048576)
def OpenSpec.upto (s : _root_.Go.ChangeSpec) : _root_.Go.OpenSpec := { _root_.Go.OpenSpec.ofChange s with cond := some uptoSmall }

/-- 'highroadlaw20.ContractMore', WHERE WHAT IT READS IS OF BULK AT MOST 1048576: true; the input reads as it did. -/
def contractMoreUptoRow : OpenClaim := { program := "ytgplpgldhoelcaa", sum := "bfb5bdcb2f9e4923e0107f9504ba12640bdd292d5f88298f25e21ac764b73b1c", func := "highroad/highroadlaw20.ContractMore", spec := "contractMore", unfollowed := true, recurses := true, plainKeys := false, apart := false, narrowed := true }
def ContractMoreUptoSaid : Prop := contractMoreUptoRow.holds Try.pinned (OpenSpec.upto contractMoreSpec)

/-- 'highroadlaw33.ChangeAgain', WHERE WHAT IT READS IS OF BULK AT MOST 1048576: true; the input reads as it did. -/
def changeAgainUptoRow : OpenClaim := { program := "ytgplpgldhoelcaa", sum := "bfb5bdcb2f9e4923e0107f9504ba12640bdd292d5f88298f25e21ac764b73b1c", func := "highroad/highroadlaw33.ChangeAgain", spec := "changeAgain", unfollowed := true, recurses := true, plainKeys := false, apart := false, narrowed := true }
def ChangeAgainUptoSaid : Prop := changeAgainUptoRow.holds Try.pinned (OpenSpec.upto changeAgainSpec)

/-- 'highroadlaw16.DagWays', WHERE WHAT IT READS IS OF BULK AT MOST 1048576: true; the input reads as it did. -/
def dagWaysUptoRow : OpenClaim := { program := "ytgplpgldhoelcaa", sum := "bfb5bdcb2f9e4923e0107f9504ba12640bdd292d5f88298f25e21ac764b73b1c", func := "highroad/highroadlaw16.DagWays", spec := "dagWays", unfollowed := true, recurses := true, plainKeys := false, apart := false, narrowed := true }
def DagWaysUptoSaid : Prop := dagWaysUptoRow.holds Try.pinned (OpenSpec.upto dagWaysSpec)

end Rows
end Go.Proofs.Ytgplpgldhoelcaa
