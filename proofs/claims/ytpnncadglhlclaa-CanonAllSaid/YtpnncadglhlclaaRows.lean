/-
  No cell of these rows narrows 'for every input' (looked for: loops, veiled, ifaces, maps, wideKeys, modest, calm, conditions, laid).
  DERIVED. THE GIVEN ROWS OF THIS SEAT. 12 by the template 'for every input the law returns true; each argument reads behind the call as it read before'; 0 by the template 'total and deterministic' (their statements: YtpnncadglhlclaaTotals.lean).
  GIVEN WITH THE SEED: the statements are not yours to turn. If you find one false, say at which input.
  Laid BY PROGRAM, IN A SANDBOX (cutbox-rows.mjs): the forced cells as the released guide's own fill.sh prints them over the translation 2ff2b987e0d6a523… (all of the seat's roots in one cut). By AI agents, Wed Nov 11 2026. No macro, syntax, notation, axiom, sorry.
-/
import Derived.Test.YtpnncadglhlclaaChecked
import GoSem.Claim
import GoSem.ClaimJoined
import GoSem.ClaimMapViews
import Derived.JoinedTies
import Derived.KernelRfl
namespace Go.Proofs.Ytpnncadglhlclaa
/- THE CELL 'sum', in the pinned program and in every row, IS THE sha256 OF THE DUMP (.gsa) THAT YtpnncadglhlclaaProg.lean LOADS. Nothing in Lean hashes anything: it is a label: what it is worth is what the hold of that sum in a sandbox is worth. -/
noncomputable def Try.pinned : Pinned := { name := "ytpnncadglhlclaa", sum := "2ff2b987e0d6a523c5824bbd2532a10a8e2543c7ff328e8cd2ead7485e336e80", checked := Try.checked }
namespace Rows
def none {H : Type} : Left H := { results := [], args := [] }

/-- 'highroadlaw17.PartsReach': WHATEVER THE INPUT: true; the input reads as it did. -/
def partsReachSpec : ChangeSpec := { name := "partsReach", fn := fun _ => fun
  | [d1, d2] => { results := [.lit (.bool true)], args := [d1, d2] }
  | _ => none }
def partsReachRow : OpenClaim := { program := "ytpnncadglhlclaa", sum := "2ff2b987e0d6a523c5824bbd2532a10a8e2543c7ff328e8cd2ead7485e336e80", func := "highroad/highroadlaw17.PartsReach", spec := "partsReach", unfollowed := true, recurses := true, apart := false }
def PartsReachSaid : Prop := partsReachRow.holds Try.pinned (OpenSpec.ofChange partsReachSpec)

/-- ITS FALSE NEIGHBOUR: 'it returns false'. Refute it at one input. -/
def partsReachWrong : ChangeSpec := { name := "partsReach", fn := fun _ => fun
  | [d1, d2] => { results := [.lit (.bool false)], args := [d1, d2] }
  | _ => none }
def PartsReachWrongFalsely : Prop := partsReachRow.holds Try.pinned (OpenSpec.ofChange partsReachWrong)

/-- 'highroadlaw17.PartsCounts': WHATEVER THE INPUT: true; the input reads as it did. -/
def partsCountsSpec : ChangeSpec := { name := "partsCounts", fn := fun _ => fun
  | [d] => { results := [.lit (.bool true)], args := [d] }
  | _ => none }
def partsCountsRow : OpenClaim := { program := "ytpnncadglhlclaa", sum := "2ff2b987e0d6a523c5824bbd2532a10a8e2543c7ff328e8cd2ead7485e336e80", func := "highroad/highroadlaw17.PartsCounts", spec := "partsCounts", unfollowed := true, recurses := true, apart := false }
def PartsCountsSaid : Prop := partsCountsRow.holds Try.pinned (OpenSpec.ofChange partsCountsSpec)

/-- ITS FALSE NEIGHBOUR: 'it returns false'. Refute it at one input. -/
def partsCountsWrong : ChangeSpec := { name := "partsCounts", fn := fun _ => fun
  | [d] => { results := [.lit (.bool false)], args := [d] }
  | _ => none }
def PartsCountsWrongFalsely : Prop := partsCountsRow.holds Try.pinned (OpenSpec.ofChange partsCountsWrong)

/-- 'highroadlaw14.DijkEdges': WHATEVER THE INPUT: true; the input reads as it did. -/
def dijkEdgesSpec : ChangeSpec := { name := "dijkEdges", fn := fun _ => fun
  | [d1, d2, d3, d4] => { results := [.lit (.bool true)], args := [d1, d2, d3, d4] }
  | _ => none }
def dijkEdgesRow : OpenClaim := { program := "ytpnncadglhlclaa", sum := "2ff2b987e0d6a523c5824bbd2532a10a8e2543c7ff328e8cd2ead7485e336e80", func := "highroad/highroadlaw14.DijkEdges", spec := "dijkEdges", unfollowed := true, recurses := true, apart := false }
def DijkEdgesSaid : Prop := dijkEdgesRow.holds Try.pinned (OpenSpec.ofChange dijkEdgesSpec)

/-- ITS FALSE NEIGHBOUR: 'it returns false'. Refute it at one input. -/
def dijkEdgesWrong : ChangeSpec := { name := "dijkEdges", fn := fun _ => fun
  | [d1, d2, d3, d4] => { results := [.lit (.bool false)], args := [d1, d2, d3, d4] }
  | _ => none }
def DijkEdgesWrongFalsely : Prop := dijkEdgesRow.holds Try.pinned (OpenSpec.ofChange dijkEdgesWrong)

/-- 'highroadlaw14.DijkOrder': WHATEVER THE INPUT: true; the input reads as it did. -/
def dijkOrderSpec : ChangeSpec := { name := "dijkOrder", fn := fun _ => fun
  | [d1, d2, d3] => { results := [.lit (.bool true)], args := [d1, d2, d3] }
  | _ => none }
def dijkOrderRow : OpenClaim := { program := "ytpnncadglhlclaa", sum := "2ff2b987e0d6a523c5824bbd2532a10a8e2543c7ff328e8cd2ead7485e336e80", func := "highroad/highroadlaw14.DijkOrder", spec := "dijkOrder", unfollowed := true, recurses := true, apart := false }
def DijkOrderSaid : Prop := dijkOrderRow.holds Try.pinned (OpenSpec.ofChange dijkOrderSpec)

/-- ITS FALSE NEIGHBOUR: 'it returns false'. Refute it at one input. -/
def dijkOrderWrong : ChangeSpec := { name := "dijkOrder", fn := fun _ => fun
  | [d1, d2, d3] => { results := [.lit (.bool false)], args := [d1, d2, d3] }
  | _ => none }
def DijkOrderWrongFalsely : Prop := dijkOrderRow.holds Try.pinned (OpenSpec.ofChange dijkOrderWrong)

/-- 'highroadlaw14.DijkAll': WHATEVER THE INPUT: true; the input reads as it did. -/
def dijkAllSpec : ChangeSpec := { name := "dijkAll", fn := fun _ => fun
  | [d1, d2, d3, d4] => { results := [.lit (.bool true)], args := [d1, d2, d3, d4] }
  | _ => none }
def dijkAllRow : OpenClaim := { program := "ytpnncadglhlclaa", sum := "2ff2b987e0d6a523c5824bbd2532a10a8e2543c7ff328e8cd2ead7485e336e80", func := "highroad/highroadlaw14.DijkAll", spec := "dijkAll", unfollowed := true, recurses := true, apart := false }
def DijkAllSaid : Prop := dijkAllRow.holds Try.pinned (OpenSpec.ofChange dijkAllSpec)

/-- ITS FALSE NEIGHBOUR: 'it returns false'. Refute it at one input. -/
def dijkAllWrong : ChangeSpec := { name := "dijkAll", fn := fun _ => fun
  | [d1, d2, d3, d4] => { results := [.lit (.bool false)], args := [d1, d2, d3, d4] }
  | _ => none }
def DijkAllWrongFalsely : Prop := dijkAllRow.holds Try.pinned (OpenSpec.ofChange dijkAllWrong)

/-- 'highroadlaw15.CanonPaths': WHATEVER THE INPUT: true; the input reads as it did. -/
def canonPathsSpec : ChangeSpec := { name := "canonPaths", fn := fun _ => fun
  | [d1, d2, d3, d4] => { results := [.lit (.bool true)], args := [d1, d2, d3, d4] }
  | _ => none }
def canonPathsRow : OpenClaim := { program := "ytpnncadglhlclaa", sum := "2ff2b987e0d6a523c5824bbd2532a10a8e2543c7ff328e8cd2ead7485e336e80", func := "highroad/highroadlaw15.CanonPaths", spec := "canonPaths", unfollowed := true, recurses := true, apart := false }
def CanonPathsSaid : Prop := canonPathsRow.holds Try.pinned (OpenSpec.ofChange canonPathsSpec)

/-- ITS FALSE NEIGHBOUR: 'it returns false'. Refute it at one input. -/
def canonPathsWrong : ChangeSpec := { name := "canonPaths", fn := fun _ => fun
  | [d1, d2, d3, d4] => { results := [.lit (.bool false)], args := [d1, d2, d3, d4] }
  | _ => none }
def CanonPathsWrongFalsely : Prop := canonPathsRow.holds Try.pinned (OpenSpec.ofChange canonPathsWrong)

/-- 'highroadlaw15.CanonAll': WHATEVER THE INPUT: true; the input reads as it did. -/
def canonAllSpec : ChangeSpec := { name := "canonAll", fn := fun _ => fun
  | [d1, d2, d3] => { results := [.lit (.bool true)], args := [d1, d2, d3] }
  | _ => none }
def canonAllRow : OpenClaim := { program := "ytpnncadglhlclaa", sum := "2ff2b987e0d6a523c5824bbd2532a10a8e2543c7ff328e8cd2ead7485e336e80", func := "highroad/highroadlaw15.CanonAll", spec := "canonAll", unfollowed := true, recurses := true, apart := false }
def CanonAllSaid : Prop := canonAllRow.holds Try.pinned (OpenSpec.ofChange canonAllSpec)

/-- ITS FALSE NEIGHBOUR: 'it returns false'. Refute it at one input. -/
def canonAllWrong : ChangeSpec := { name := "canonAll", fn := fun _ => fun
  | [d1, d2, d3] => { results := [.lit (.bool false)], args := [d1, d2, d3] }
  | _ => none }
def CanonAllWrongFalsely : Prop := canonAllRow.holds Try.pinned (OpenSpec.ofChange canonAllWrong)

/-- 'highroadlaw15.CanonRests': WHATEVER THE INPUT: true; the input reads as it did. -/
def canonRestsSpec : ChangeSpec := { name := "canonRests", fn := fun _ => fun
  | [d1, d2, d3, d4] => { results := [.lit (.bool true)], args := [d1, d2, d3, d4] }
  | _ => none }
def canonRestsRow : OpenClaim := { program := "ytpnncadglhlclaa", sum := "2ff2b987e0d6a523c5824bbd2532a10a8e2543c7ff328e8cd2ead7485e336e80", func := "highroad/highroadlaw15.CanonRests", spec := "canonRests", unfollowed := true, recurses := true, apart := false }
def CanonRestsSaid : Prop := canonRestsRow.holds Try.pinned (OpenSpec.ofChange canonRestsSpec)

/-- ITS FALSE NEIGHBOUR: 'it returns false'. Refute it at one input. -/
def canonRestsWrong : ChangeSpec := { name := "canonRests", fn := fun _ => fun
  | [d1, d2, d3, d4] => { results := [.lit (.bool false)], args := [d1, d2, d3, d4] }
  | _ => none }
def CanonRestsWrongFalsely : Prop := canonRestsRow.holds Try.pinned (OpenSpec.ofChange canonRestsWrong)

/-- 'highroadlaw26.SharePlaces': WHATEVER THE INPUT: true; the input reads as it did. -/
def sharePlacesSpec : ChangeSpec := { name := "sharePlaces", fn := fun _ => fun
  | [d1, d2, d3] => { results := [.lit (.bool true)], args := [d1, d2, d3] }
  | _ => none }
def sharePlacesRow : OpenClaim := { program := "ytpnncadglhlclaa", sum := "2ff2b987e0d6a523c5824bbd2532a10a8e2543c7ff328e8cd2ead7485e336e80", func := "highroad/highroadlaw26.SharePlaces", spec := "sharePlaces", unfollowed := true, recurses := true, apart := false }
def SharePlacesSaid : Prop := sharePlacesRow.holds Try.pinned (OpenSpec.ofChange sharePlacesSpec)

/-- ITS FALSE NEIGHBOUR: 'it returns false'. Refute it at one input. -/
def sharePlacesWrong : ChangeSpec := { name := "sharePlaces", fn := fun _ => fun
  | [d1, d2, d3] => { results := [.lit (.bool false)], args := [d1, d2, d3] }
  | _ => none }
def SharePlacesWrongFalsely : Prop := sharePlacesRow.holds Try.pinned (OpenSpec.ofChange sharePlacesWrong)

/-- 'highroadlaw26.ShareSelf': WHATEVER THE INPUT: true; the input reads as it did. -/
def shareSelfSpec : ChangeSpec := { name := "shareSelf", fn := fun _ => fun
  | [d1, d2, d3, d4] => { results := [.lit (.bool true)], args := [d1, d2, d3, d4] }
  | _ => none }
def shareSelfRow : OpenClaim := { program := "ytpnncadglhlclaa", sum := "2ff2b987e0d6a523c5824bbd2532a10a8e2543c7ff328e8cd2ead7485e336e80", func := "highroad/highroadlaw26.ShareSelf", spec := "shareSelf", unfollowed := true, recurses := true, apart := false }
def ShareSelfSaid : Prop := shareSelfRow.holds Try.pinned (OpenSpec.ofChange shareSelfSpec)

/-- ITS FALSE NEIGHBOUR: 'it returns false'. Refute it at one input. -/
def shareSelfWrong : ChangeSpec := { name := "shareSelf", fn := fun _ => fun
  | [d1, d2, d3, d4] => { results := [.lit (.bool false)], args := [d1, d2, d3, d4] }
  | _ => none }
def ShareSelfWrongFalsely : Prop := shareSelfRow.holds Try.pinned (OpenSpec.ofChange shareSelfWrong)

/-- 'highroadlaw33.ChangeApplies': WHATEVER THE INPUT: true; the input reads as it did. -/
def changeAppliesSpec : ChangeSpec := { name := "changeApplies", fn := fun _ => fun
  | [d1, d2, d3] => { results := [.lit (.bool true)], args := [d1, d2, d3] }
  | _ => none }
def changeAppliesRow : OpenClaim := { program := "ytpnncadglhlclaa", sum := "2ff2b987e0d6a523c5824bbd2532a10a8e2543c7ff328e8cd2ead7485e336e80", func := "highroad/highroadlaw33.ChangeApplies", spec := "changeApplies", unfollowed := true, recurses := true, apart := false }
def ChangeAppliesSaid : Prop := changeAppliesRow.holds Try.pinned (OpenSpec.ofChange changeAppliesSpec)

/-- ITS FALSE NEIGHBOUR: 'it returns false'. Refute it at one input. -/
def changeAppliesWrong : ChangeSpec := { name := "changeApplies", fn := fun _ => fun
  | [d1, d2, d3] => { results := [.lit (.bool false)], args := [d1, d2, d3] }
  | _ => none }
def ChangeAppliesWrongFalsely : Prop := changeAppliesRow.holds Try.pinned (OpenSpec.ofChange changeAppliesWrong)

/-- 'highroadlaw33.ChangeBack': WHATEVER THE INPUT: true; the input reads as it did. -/
def changeBackSpec : ChangeSpec := { name := "changeBack", fn := fun _ => fun
  | [d1, d2] => { results := [.lit (.bool true)], args := [d1, d2] }
  | _ => none }
def changeBackRow : OpenClaim := { program := "ytpnncadglhlclaa", sum := "2ff2b987e0d6a523c5824bbd2532a10a8e2543c7ff328e8cd2ead7485e336e80", func := "highroad/highroadlaw33.ChangeBack", spec := "changeBack", unfollowed := true, recurses := true, apart := false }
def ChangeBackSaid : Prop := changeBackRow.holds Try.pinned (OpenSpec.ofChange changeBackSpec)

/-- ITS FALSE NEIGHBOUR: 'it returns false'. Refute it at one input. -/
def changeBackWrong : ChangeSpec := { name := "changeBack", fn := fun _ => fun
  | [d1, d2] => { results := [.lit (.bool false)], args := [d1, d2] }
  | _ => none }
def ChangeBackWrongFalsely : Prop := changeBackRow.holds Try.pinned (OpenSpec.ofChange changeBackWrong)

/- THE SECOND FORM. 'bulk': how many values and letters a reading holds, each counted each time it is reached (what is shared counts as often as it is met; a slice's spare places count too). A statement '..UptoSaid' is the law's where the arguments, and the package variables that the reading takes, are together of bulk at most 1048576: NARROWER than '..Said'. Prove '..Said' where nothing that the law and all that it calls make is longer than what came in: it says more and counts as full. Else prove '..UptoSaid'. A law counts once. -/
mutual
def uptoBulk {H : Type} : DataW H → Nat
  | .lit (.string bytes) => bytes.length + 1
  | .lit _ => 1
  | .nil => 1
  | .ptr d => uptoBulk d + 1
  | .slice elems spare => uptoBulkAll elems + uptoBulkAll spare + 1
  | .agg parts => uptoBulkAll parts + 1
  | .iface _ d => uptoBulk d + 1
  | .map entries => uptoBulkEntries entries + 1
  | .held _ => 1
def uptoBulkAll {H : Type} : List (DataW H) → Nat
  | [] => 0
  | d :: r => uptoBulk d + uptoBulkAll r
def uptoBulkEntries {H : Type} : List (Lit × DataW H) → Nat
  | [] => 0
  | x :: r => uptoBulkEntry x + uptoBulkEntries r
def uptoBulkEntry {H : Type} : Lit × DataW H → Nat
  | (.string bytes, d) => bytes.length + uptoBulk d + 1
  | (_, d) => uptoBulk d + 1
 end
def uptoSmall : (H : Type) → List (DataW H) → Bool := fun _ ds => decide (uptoBulkAll ds ≤ 1048576)
def OpenSpec.upto (s : _root_.Go.ChangeSpec) : _root_.Go.OpenSpec := { _root_.Go.OpenSpec.ofChange s with cond := some uptoSmall }

/-- 'highroadlaw17.PartsReach', WHERE WHAT IT READS IS OF BULK AT MOST 1048576: true; the input reads as it did. -/
def partsReachUptoRow : OpenClaim := { program := "ytpnncadglhlclaa", sum := "2ff2b987e0d6a523c5824bbd2532a10a8e2543c7ff328e8cd2ead7485e336e80", func := "highroad/highroadlaw17.PartsReach", spec := "partsReach", unfollowed := true, recurses := true, apart := false, narrowed := true }
def PartsReachUptoSaid : Prop := partsReachUptoRow.holds Try.pinned (OpenSpec.upto partsReachSpec)

/-- 'highroadlaw17.PartsCounts', WHERE WHAT IT READS IS OF BULK AT MOST 1048576: true; the input reads as it did. -/
def partsCountsUptoRow : OpenClaim := { program := "ytpnncadglhlclaa", sum := "2ff2b987e0d6a523c5824bbd2532a10a8e2543c7ff328e8cd2ead7485e336e80", func := "highroad/highroadlaw17.PartsCounts", spec := "partsCounts", unfollowed := true, recurses := true, apart := false, narrowed := true }
def PartsCountsUptoSaid : Prop := partsCountsUptoRow.holds Try.pinned (OpenSpec.upto partsCountsSpec)

/-- 'highroadlaw14.DijkEdges', WHERE WHAT IT READS IS OF BULK AT MOST 1048576: true; the input reads as it did. -/
def dijkEdgesUptoRow : OpenClaim := { program := "ytpnncadglhlclaa", sum := "2ff2b987e0d6a523c5824bbd2532a10a8e2543c7ff328e8cd2ead7485e336e80", func := "highroad/highroadlaw14.DijkEdges", spec := "dijkEdges", unfollowed := true, recurses := true, apart := false, narrowed := true }
def DijkEdgesUptoSaid : Prop := dijkEdgesUptoRow.holds Try.pinned (OpenSpec.upto dijkEdgesSpec)

/-- 'highroadlaw14.DijkOrder', WHERE WHAT IT READS IS OF BULK AT MOST 1048576: true; the input reads as it did. -/
def dijkOrderUptoRow : OpenClaim := { program := "ytpnncadglhlclaa", sum := "2ff2b987e0d6a523c5824bbd2532a10a8e2543c7ff328e8cd2ead7485e336e80", func := "highroad/highroadlaw14.DijkOrder", spec := "dijkOrder", unfollowed := true, recurses := true, apart := false, narrowed := true }
def DijkOrderUptoSaid : Prop := dijkOrderUptoRow.holds Try.pinned (OpenSpec.upto dijkOrderSpec)

/-- 'highroadlaw14.DijkAll', WHERE WHAT IT READS IS OF BULK AT MOST 1048576: true; the input reads as it did. -/
def dijkAllUptoRow : OpenClaim := { program := "ytpnncadglhlclaa", sum := "2ff2b987e0d6a523c5824bbd2532a10a8e2543c7ff328e8cd2ead7485e336e80", func := "highroad/highroadlaw14.DijkAll", spec := "dijkAll", unfollowed := true, recurses := true, apart := false, narrowed := true }
def DijkAllUptoSaid : Prop := dijkAllUptoRow.holds Try.pinned (OpenSpec.upto dijkAllSpec)

/-- 'highroadlaw15.CanonPaths', WHERE WHAT IT READS IS OF BULK AT MOST 1048576: true; the input reads as it did. -/
def canonPathsUptoRow : OpenClaim := { program := "ytpnncadglhlclaa", sum := "2ff2b987e0d6a523c5824bbd2532a10a8e2543c7ff328e8cd2ead7485e336e80", func := "highroad/highroadlaw15.CanonPaths", spec := "canonPaths", unfollowed := true, recurses := true, apart := false, narrowed := true }
def CanonPathsUptoSaid : Prop := canonPathsUptoRow.holds Try.pinned (OpenSpec.upto canonPathsSpec)

/-- 'highroadlaw15.CanonAll', WHERE WHAT IT READS IS OF BULK AT MOST 1048576: true; the input reads as it did. -/
def canonAllUptoRow : OpenClaim := { program := "ytpnncadglhlclaa", sum := "2ff2b987e0d6a523c5824bbd2532a10a8e2543c7ff328e8cd2ead7485e336e80", func := "highroad/highroadlaw15.CanonAll", spec := "canonAll", unfollowed := true, recurses := true, apart := false, narrowed := true }
def CanonAllUptoSaid : Prop := canonAllUptoRow.holds Try.pinned (OpenSpec.upto canonAllSpec)

/-- 'highroadlaw15.CanonRests', WHERE WHAT IT READS IS OF BULK AT MOST 1048576: true; the input reads as it did. -/
def canonRestsUptoRow : OpenClaim := { program := "ytpnncadglhlclaa", sum := "2ff2b987e0d6a523c5824bbd2532a10a8e2543c7ff328e8cd2ead7485e336e80", func := "highroad/highroadlaw15.CanonRests", spec := "canonRests", unfollowed := true, recurses := true, apart := false, narrowed := true }
def CanonRestsUptoSaid : Prop := canonRestsUptoRow.holds Try.pinned (OpenSpec.upto canonRestsSpec)

/-- 'highroadlaw26.SharePlaces', WHERE WHAT IT READS IS OF BULK AT MOST 1048576: true; the input reads as it did. -/
def sharePlacesUptoRow : OpenClaim := { program := "ytpnncadglhlclaa", sum := "2ff2b987e0d6a523c5824bbd2532a10a8e2543c7ff328e8cd2ead7485e336e80", func := "highroad/highroadlaw26.SharePlaces", spec := "sharePlaces", unfollowed := true, recurses := true, apart := false, narrowed := true }
def SharePlacesUptoSaid : Prop := sharePlacesUptoRow.holds Try.pinned (OpenSpec.upto sharePlacesSpec)

/-- 'highroadlaw26.ShareSelf', WHERE WHAT IT READS IS OF BULK AT MOST 1048576: true; the input reads as it did. -/
def shareSelfUptoRow : OpenClaim := { program := "ytpnncadglhlclaa", sum := "2ff2b987e0d6a523c5824bbd2532a10a8e2543c7ff328e8cd2ead7485e336e80", func := "highroad/highroadlaw26.ShareSelf", spec := "shareSelf", unfollowed := true, recurses := true, apart := false, narrowed := true }
def ShareSelfUptoSaid : Prop := shareSelfUptoRow.holds Try.pinned (OpenSpec.upto shareSelfSpec)

/-- 'highroadlaw33.ChangeApplies', WHERE WHAT IT READS IS OF BULK AT MOST 1048576: true; the input reads as it did. -/
def changeAppliesUptoRow : OpenClaim := { program := "ytpnncadglhlclaa", sum := "2ff2b987e0d6a523c5824bbd2532a10a8e2543c7ff328e8cd2ead7485e336e80", func := "highroad/highroadlaw33.ChangeApplies", spec := "changeApplies", unfollowed := true, recurses := true, apart := false, narrowed := true }
def ChangeAppliesUptoSaid : Prop := changeAppliesUptoRow.holds Try.pinned (OpenSpec.upto changeAppliesSpec)

/-- 'highroadlaw33.ChangeBack', WHERE WHAT IT READS IS OF BULK AT MOST 1048576: true; the input reads as it did. -/
def changeBackUptoRow : OpenClaim := { program := "ytpnncadglhlclaa", sum := "2ff2b987e0d6a523c5824bbd2532a10a8e2543c7ff328e8cd2ead7485e336e80", func := "highroad/highroadlaw33.ChangeBack", spec := "changeBack", unfollowed := true, recurses := true, apart := false, narrowed := true }
def ChangeBackUptoSaid : Prop := changeBackUptoRow.holds Try.pinned (OpenSpec.upto changeBackSpec)

end Rows
end Go.Proofs.Ytpnncadglhlclaa
