/-
  No cell of these rows narrows 'for every input' (looked for: loops, veiled, ifaces, maps, wideKeys, modest, calm, conditions, laid).
  DERIVED. THE GIVEN ROWS OF THIS SEAT. 3 by the template 'for every input the law returns true; each argument reads behind the call as it read before'; 0 by the template 'total and deterministic' (their statements: YtomednfddpggaaaGreatTotals.lean).
  GIVEN WITH THE SEED: the statements are not yours to turn. If you find one false, say at which input.
  Laid BY PROGRAM, IN A SANDBOX (cutbox-rows.mjs): the forced cells as the released guide's own fill.sh prints them over the translation 2c8e6837c11a5523… (all of the seat's roots in one cut). By AI agents, Wed Nov 11 2026. No macro, syntax, notation, axiom, sorry.
-/
import Derived.Test.YtomednfddpggaaaGreatChecked
import GoSem.Claim
import GoSem.ClaimJoined
import GoSem.ClaimMapViews
import Derived.JoinedTies
import Derived.KernelRfl
namespace Go.Proofs.YtomednfddpggaaaGreat
/- THE CELL 'sum', in the pinned program and in every row, IS THE sha256 OF THE DUMP (.gsa) THAT YtomednfddpggaaaGreatProg.lean LOADS. Nothing in Lean hashes anything: it is a label: what it is worth is what the hold of that sum in a sandbox is worth. -/
noncomputable def Tryz.pinned : Pinned := { name := "ytomednfddpggaaagreat", sum := "2c8e6837c11a552358cc394bb47303f22f783c644f15a438b31f06b183b26b76", checked := Tryz.checked }
namespace Rows
def none {H : Type} : Left H := { results := [], args := [] }

/-- 'highroadlaw16.DagLooks': WHATEVER THE INPUT: true; the input reads as it did. -/
def dagLooksSpec : ChangeSpec := { name := "dagLooks", fn := fun _ => fun
  | [d1, d2, d3, d4] => { results := [.lit (.bool true)], args := [d1, d2, d3, d4] }
  | _ => none }
def dagLooksRow : OpenClaim := { program := "ytomednfddpggaaagreat", sum := "2c8e6837c11a552358cc394bb47303f22f783c644f15a438b31f06b183b26b76", func := "highroad/highroadlaw16.DagLooks", spec := "dagLooks", unfollowed := true, recurses := true, plainKeys := false, apart := false }
def DagLooksSaid : Prop := dagLooksRow.holds Tryz.pinned (OpenSpec.ofChange dagLooksSpec)

/-- ITS FALSE NEIGHBOUR: 'it returns false'. Refute it at one input. -/
def dagLooksWrong : ChangeSpec := { name := "dagLooks", fn := fun _ => fun
  | [d1, d2, d3, d4] => { results := [.lit (.bool false)], args := [d1, d2, d3, d4] }
  | _ => none }
def DagLooksWrongFalsely : Prop := dagLooksRow.holds Tryz.pinned (OpenSpec.ofChange dagLooksWrong)

/-- 'highroadlaw38.StatFar': WHATEVER THE INPUT: true; the input reads as it did. -/
def statFarSpec : ChangeSpec := { name := "statFar", fn := fun _ => fun
  | [d] => { results := [.lit (.bool true)], args := [d] }
  | _ => none }
def statFarRow : OpenClaim := { program := "ytomednfddpggaaagreat", sum := "2c8e6837c11a552358cc394bb47303f22f783c644f15a438b31f06b183b26b76", func := "highroad/highroadlaw38.StatFar", spec := "statFar", unfollowed := true, recurses := true, plainKeys := false, apart := false }
def StatFarSaid : Prop := statFarRow.holds Tryz.pinned (OpenSpec.ofChange statFarSpec)

/-- ITS FALSE NEIGHBOUR: 'it returns false'. Refute it at one input. -/
def statFarWrong : ChangeSpec := { name := "statFar", fn := fun _ => fun
  | [d] => { results := [.lit (.bool false)], args := [d] }
  | _ => none }
def StatFarWrongFalsely : Prop := statFarRow.holds Tryz.pinned (OpenSpec.ofChange statFarWrong)

/-- 'highroadlaw48.BridgeRows': WHATEVER THE INPUT: true; the input reads as it did. -/
def bridgeRowsSpec : ChangeSpec := { name := "bridgeRows", fn := fun _ => fun
  | [d1, d2, d3] => { results := [.lit (.bool true)], args := [d1, d2, d3] }
  | _ => none }
def bridgeRowsRow : OpenClaim := { program := "ytomednfddpggaaagreat", sum := "2c8e6837c11a552358cc394bb47303f22f783c644f15a438b31f06b183b26b76", func := "highroad/highroadlaw48.BridgeRows", spec := "bridgeRows", unfollowed := true, recurses := true, plainKeys := false, apart := false }
def BridgeRowsSaid : Prop := bridgeRowsRow.holds Tryz.pinned (OpenSpec.ofChange bridgeRowsSpec)

/-- ITS FALSE NEIGHBOUR: 'it returns false'. Refute it at one input. -/
def bridgeRowsWrong : ChangeSpec := { name := "bridgeRows", fn := fun _ => fun
  | [d1, d2, d3] => { results := [.lit (.bool false)], args := [d1, d2, d3] }
  | _ => none }
def BridgeRowsWrongFalsely : Prop := bridgeRowsRow.holds Tryz.pinned (OpenSpec.ofChange bridgeRowsWrong)

/- THE SECOND FORM. 'bulk': how many values and letters a reading holds, each counted each time it is reached (what is shared counts as often as it is met; a slice's spare places count too). A statement '..UptoSaid' is the law's where the arguments, and the package variables that the reading takes, are together of bulk at most 1048576: NARROWER than '..Said'. Prove '..Said' where nothing that the law and all that it calls make is longer than what came in: it says more and counts as full. Else prove '..UptoSaid'. A law counts once. -/
mutual
def uptoBulk {H : Type} : DataW H → Nat
  | .lit (.string bytes) => bytes.length + 1
  | .lit _ => 1
  | .nil => 1
  | .ptr d => uptoBulk d + 1
  | .slice elems spare => uptoBulkAll elems + uptoBulkAll spare + 1
  | .agg parts => uptoBulkAll parts + 1
  | .iface _ d => uptoBulk d + 1
  | .map entries => uptoBulkEntries entries + 1
  | .held _ => 1
def uptoBulkAll {H : Type} : List (DataW H) → Nat
  | [] => 0
  | d :: r => uptoBulk d + uptoBulkAll r
def uptoBulkEntries {H : Type} : List (Lit × DataW H) → Nat
  | [] => 0
  | x :: r => uptoBulkEntry x + uptoBulkEntries r
def uptoBulkEntry {H : Type} : Lit × DataW H → Nat
  | (.string bytes, d) => bytes.length + uptoBulk d + 1
  | (_, d) => uptoBulk d + 1
 end
def uptoSmall : (H : Type) → List (DataW H) → Bool := fun _ ds => decide (uptoBulkAll ds ≤ 1048576)
def OpenSpec.upto (s : _root_.Go.ChangeSpec) : _root_.Go.OpenSpec := { _root_.Go.OpenSpec.ofChange s with cond := some uptoSmall }

/-- 'highroadlaw16.DagLooks', WHERE WHAT IT READS IS OF BULK AT MOST 1048576: true; the input reads as it did. -/
def dagLooksUptoRow : OpenClaim := { program := "ytomednfddpggaaagreat", sum := "2c8e6837c11a552358cc394bb47303f22f783c644f15a438b31f06b183b26b76", func := "highroad/highroadlaw16.DagLooks", spec := "dagLooks", unfollowed := true, recurses := true, plainKeys := false, apart := false, narrowed := true }
def DagLooksUptoSaid : Prop := dagLooksUptoRow.holds Tryz.pinned (OpenSpec.upto dagLooksSpec)

/-- 'highroadlaw38.StatFar', WHERE WHAT IT READS IS OF BULK AT MOST 1048576: true; the input reads as it did. -/
def statFarUptoRow : OpenClaim := { program := "ytomednfddpggaaagreat", sum := "2c8e6837c11a552358cc394bb47303f22f783c644f15a438b31f06b183b26b76", func := "highroad/highroadlaw38.StatFar", spec := "statFar", unfollowed := true, recurses := true, plainKeys := false, apart := false, narrowed := true }
def StatFarUptoSaid : Prop := statFarUptoRow.holds Tryz.pinned (OpenSpec.upto statFarSpec)

/-- 'highroadlaw48.BridgeRows', WHERE WHAT IT READS IS OF BULK AT MOST 1048576: true; the input reads as it did. -/
def bridgeRowsUptoRow : OpenClaim := { program := "ytomednfddpggaaagreat", sum := "2c8e6837c11a552358cc394bb47303f22f783c644f15a438b31f06b183b26b76", func := "highroad/highroadlaw48.BridgeRows", spec := "bridgeRows", unfollowed := true, recurses := true, plainKeys := false, apart := false, narrowed := true }
def BridgeRowsUptoSaid : Prop := bridgeRowsUptoRow.holds Tryz.pinned (OpenSpec.upto bridgeRowsSpec)

end Rows
end Go.Proofs.YtomednfddpggaaaGreat
