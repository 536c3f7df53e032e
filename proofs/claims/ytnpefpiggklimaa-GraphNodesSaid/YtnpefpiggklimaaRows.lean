/-
  No cell of these rows narrows 'for every input' (looked for: loops, veiled, ifaces, maps, wideKeys, modest, calm, conditions, laid).
  DERIVED. THE GIVEN ROWS OF THIS SEAT. 5 by the template 'for every input the law returns true; each argument reads behind the call as it read before'; 0 by the template 'total and deterministic' (their statements: YtnpefpiggklimaaTotals.lean).
  GIVEN WITH THE SEED: the statements are not yours to turn. If you find one false, say at which input.
  Laid BY PROGRAM, IN A SANDBOX (cutbox-rows.mjs): the forced cells as the released guide's own fill.sh prints them over the translation 223a3d16f97145ba… (all of the seat's roots in one cut). By AI agents, Wed Nov 11 2026. No macro, syntax, notation, axiom, sorry.
-/
import Derived.Test.YtnpefpiggklimaaChecked
import GoSem.Claim
import GoSem.ClaimJoined
import GoSem.ClaimMapViews
import Derived.JoinedTies
import Derived.KernelRfl
namespace Go.Proofs.Ytnpefpiggklimaa
/- THE CELL 'sum', in the pinned program and in every row, IS THE sha256 OF THE DUMP (.gsa) THAT YtnpefpiggklimaaProg.lean LOADS. Nothing in Lean hashes anything: it is a label: what it is worth is what the hold of that sum in a sandbox is worth. -/
noncomputable def Try.pinned : Pinned := { name := "ytnpefpiggklimaa", sum := "223a3d16f97145badfa82f2db6f97c17e7905493365499e764eb22b4f811d4e1", checked := Try.checked }
namespace Rows
def none {H : Type} : Left H := { results := [], args := [] }

/-- 'besomlaw31.GraphAsks': WHATEVER THE INPUT: true; the input reads as it did. -/
def graphAsksSpec : ChangeSpec := { name := "graphAsks", fn := fun _ => fun
  | [d] => { results := [.lit (.bool true)], args := [d] }
  | _ => none }
def graphAsksRow : OpenClaim := { program := "ytnpefpiggklimaa", sum := "223a3d16f97145badfa82f2db6f97c17e7905493365499e764eb22b4f811d4e1", func := "besom/besomlaw31.GraphAsks", spec := "graphAsks", unfollowed := true, recurses := true, apart := false }
def GraphAsksSaid : Prop := graphAsksRow.holds Try.pinned (OpenSpec.ofChange graphAsksSpec)

/-- ITS FALSE NEIGHBOUR: 'it returns false'. Refute it at one input. -/
def graphAsksWrong : ChangeSpec := { name := "graphAsks", fn := fun _ => fun
  | [d] => { results := [.lit (.bool false)], args := [d] }
  | _ => none }
def GraphAsksWrongFalsely : Prop := graphAsksRow.holds Try.pinned (OpenSpec.ofChange graphAsksWrong)

/-- 'besomlaw31.GraphNodes': WHATEVER THE INPUT: true; the input reads as it did. -/
def graphNodesSpec : ChangeSpec := { name := "graphNodes", fn := fun _ => fun
  | [d1, d2] => { results := [.lit (.bool true)], args := [d1, d2] }
  | _ => none }
def graphNodesRow : OpenClaim := { program := "ytnpefpiggklimaa", sum := "223a3d16f97145badfa82f2db6f97c17e7905493365499e764eb22b4f811d4e1", func := "besom/besomlaw31.GraphNodes", spec := "graphNodes", unfollowed := true, recurses := true, apart := false }
def GraphNodesSaid : Prop := graphNodesRow.holds Try.pinned (OpenSpec.ofChange graphNodesSpec)

/-- ITS FALSE NEIGHBOUR: 'it returns false'. Refute it at one input. -/
def graphNodesWrong : ChangeSpec := { name := "graphNodes", fn := fun _ => fun
  | [d1, d2] => { results := [.lit (.bool false)], args := [d1, d2] }
  | _ => none }
def GraphNodesWrongFalsely : Prop := graphNodesRow.holds Try.pinned (OpenSpec.ofChange graphNodesWrong)

/-- 'besomlaw31.GraphHeld': WHATEVER THE INPUT: true; the input reads as it did. -/
def graphHeldSpec : ChangeSpec := { name := "graphHeld", fn := fun _ => fun
  | [d1, d2] => { results := [.lit (.bool true)], args := [d1, d2] }
  | _ => none }
def graphHeldRow : OpenClaim := { program := "ytnpefpiggklimaa", sum := "223a3d16f97145badfa82f2db6f97c17e7905493365499e764eb22b4f811d4e1", func := "besom/besomlaw31.GraphHeld", spec := "graphHeld", unfollowed := true, recurses := true, apart := false }
def GraphHeldSaid : Prop := graphHeldRow.holds Try.pinned (OpenSpec.ofChange graphHeldSpec)

/-- ITS FALSE NEIGHBOUR: 'it returns false'. Refute it at one input. -/
def graphHeldWrong : ChangeSpec := { name := "graphHeld", fn := fun _ => fun
  | [d1, d2] => { results := [.lit (.bool false)], args := [d1, d2] }
  | _ => none }
def GraphHeldWrongFalsely : Prop := graphHeldRow.holds Try.pinned (OpenSpec.ofChange graphHeldWrong)

/-- 'besomlaw31.GraphWay': WHATEVER THE INPUT: true; the input reads as it did. -/
def graphWaySpec : ChangeSpec := { name := "graphWay", fn := fun _ => fun
  | [d1, d2] => { results := [.lit (.bool true)], args := [d1, d2] }
  | _ => none }
def graphWayRow : OpenClaim := { program := "ytnpefpiggklimaa", sum := "223a3d16f97145badfa82f2db6f97c17e7905493365499e764eb22b4f811d4e1", func := "besom/besomlaw31.GraphWay", spec := "graphWay", unfollowed := true, recurses := true, apart := false }
def GraphWaySaid : Prop := graphWayRow.holds Try.pinned (OpenSpec.ofChange graphWaySpec)

/-- ITS FALSE NEIGHBOUR: 'it returns false'. Refute it at one input. -/
def graphWayWrong : ChangeSpec := { name := "graphWay", fn := fun _ => fun
  | [d1, d2] => { results := [.lit (.bool false)], args := [d1, d2] }
  | _ => none }
def GraphWayWrongFalsely : Prop := graphWayRow.holds Try.pinned (OpenSpec.ofChange graphWayWrong)

/-- 'besomlaw31.GraphParts': WHATEVER THE INPUT: true; the input reads as it did. -/
def graphPartsSpec : ChangeSpec := { name := "graphParts", fn := fun _ => fun
  | [d] => { results := [.lit (.bool true)], args := [d] }
  | _ => none }
def graphPartsRow : OpenClaim := { program := "ytnpefpiggklimaa", sum := "223a3d16f97145badfa82f2db6f97c17e7905493365499e764eb22b4f811d4e1", func := "besom/besomlaw31.GraphParts", spec := "graphParts", unfollowed := true, recurses := true, apart := false }
def GraphPartsSaid : Prop := graphPartsRow.holds Try.pinned (OpenSpec.ofChange graphPartsSpec)

/-- ITS FALSE NEIGHBOUR: 'it returns false'. Refute it at one input. -/
def graphPartsWrong : ChangeSpec := { name := "graphParts", fn := fun _ => fun
  | [d] => { results := [.lit (.bool false)], args := [d] }
  | _ => none }
def GraphPartsWrongFalsely : Prop := graphPartsRow.holds Try.pinned (OpenSpec.ofChange graphPartsWrong)

/- THE SECOND FORM. 'bulk': how many values and letters a reading holds, each counted each time it is reached (what is shared counts as often as it is met; a slice's spare places count too). A statement '..UptoSaid' is the law's where the arguments, and the package variables that the reading takes, are together of bulk at most 1048576: NARROWER than '..Said'. Prove '..Said' where nothing that the law and all that it calls make is longer than what came in: it says more and counts as full. Else prove '..UptoSaid'. A law counts once. -/
mutual
def uptoBulk {H : Type} : DataW H → Nat
  | .lit (.string bytes) => bytes.length + 1
  | .lit _ => 1
  | .nil => 1
  | .ptr d => uptoBulk d + 1
  | .slice elems spare => uptoBulkAll elems + uptoBulkAll spare + 1
  | .agg parts => uptoBulkAll parts + 1
  | .iface _ d => uptoBulk d + 1
  | .map entries => uptoBulkEntries entries + 1
  | .held _ => 1
def uptoBulkAll {H : Type} : List (DataW H) → Nat
  | [] => 0
  | d :: r => uptoBulk d + uptoBulkAll r
def uptoBulkEntries {H : Type} : List (Lit × DataW H) → Nat
  | [] => 0
  | x :: r => uptoBulkEntry x + uptoBulkEntries r
def uptoBulkEntry {H : Type} : Lit × DataW H → Nat
  | (.string bytes, d) => bytes.length + uptoBulk d + 1
  | (_, d) => uptoBulk d + 1
 end
def uptoSmall : (H : Type) → List (DataW H) → Bool := fun _ ds => decide (uptoBulkAll ds ≤ 1048576)
def OpenSpec.upto (s : _root_.Go.ChangeSpec) : _root_.Go.OpenSpec := { _root_.Go.OpenSpec.ofChange s with cond := some uptoSmall }

/-- 'besomlaw31.GraphAsks', WHERE WHAT IT READS IS OF BULK AT MOST 1048576: true; the input reads as it did. -/
def graphAsksUptoRow : OpenClaim := { program := "ytnpefpiggklimaa", sum := "223a3d16f97145badfa82f2db6f97c17e7905493365499e764eb22b4f811d4e1", func := "besom/besomlaw31.GraphAsks", spec := "graphAsks", unfollowed := true, recurses := true, apart := false, narrowed := true }
def GraphAsksUptoSaid : Prop := graphAsksUptoRow.holds Try.pinned (OpenSpec.upto graphAsksSpec)

/-- 'besomlaw31.GraphNodes', WHERE WHAT IT READS IS OF BULK AT MOST 1048576: true; the input reads as it did. -/
def graphNodesUptoRow : OpenClaim := { program := "ytnpefpiggklimaa", sum := "223a3d16f97145badfa82f2db6f97c17e7905493365499e764eb22b4f811d4e1", func := "besom/besomlaw31.GraphNodes", spec := "graphNodes", unfollowed := true, recurses := true, apart := false, narrowed := true }
def GraphNodesUptoSaid : Prop := graphNodesUptoRow.holds Try.pinned (OpenSpec.upto graphNodesSpec)

/-- 'besomlaw31.GraphHeld', WHERE WHAT IT READS IS OF BULK AT MOST 1048576: true; the input reads as it did. -/
def graphHeldUptoRow : OpenClaim := { program := "ytnpefpiggklimaa", sum := "223a3d16f97145badfa82f2db6f97c17e7905493365499e764eb22b4f811d4e1", func := "besom/besomlaw31.GraphHeld", spec := "graphHeld", unfollowed := true, recurses := true, apart := false, narrowed := true }
def GraphHeldUptoSaid : Prop := graphHeldUptoRow.holds Try.pinned (OpenSpec.upto graphHeldSpec)

/-- 'besomlaw31.GraphWay', WHERE WHAT IT READS IS OF BULK AT MOST 1048576: true; the input reads as it did. -/
def graphWayUptoRow : OpenClaim := { program := "ytnpefpiggklimaa", sum := "223a3d16f97145badfa82f2db6f97c17e7905493365499e764eb22b4f811d4e1", func := "besom/besomlaw31.GraphWay", spec := "graphWay", unfollowed := true, recurses := true, apart := false, narrowed := true }
def GraphWayUptoSaid : Prop := graphWayUptoRow.holds Try.pinned (OpenSpec.upto graphWaySpec)

/-- 'besomlaw31.GraphParts', WHERE WHAT IT READS IS OF BULK AT MOST 1048576: true; the input reads as it did. -/
def graphPartsUptoRow : OpenClaim := { program := "ytnpefpiggklimaa", sum := "223a3d16f97145badfa82f2db6f97c17e7905493365499e764eb22b4f811d4e1", func := "besom/besomlaw31.GraphParts", spec := "graphParts", unfollowed := true, recurses := true, apart := false, narrowed := true }
def GraphPartsUptoSaid : Prop := graphPartsUptoRow.holds Try.pinned (OpenSpec.upto graphPartsSpec)

end Rows
end Go.Proofs.Ytnpefpiggklimaa
