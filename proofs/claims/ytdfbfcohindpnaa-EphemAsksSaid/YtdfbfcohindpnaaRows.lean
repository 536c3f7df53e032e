/-
  No cell of these rows narrows 'for every input' (looked for: loops, veiled, ifaces, maps, wideKeys, modest, calm, conditions, laid).
  DERIVED. THE GIVEN ROWS OF THIS SEAT. 7 by the template 'for every input the law returns true; each argument reads behind the call as it read before'; 0 by the template 'total and deterministic' (their statements: YtdfbfcohindpnaaTotals.lean).
  GIVEN WITH THE SEED: the statements are not yours to turn. If you find one false, say at which input.
  Laid BY PROGRAM, IN A SANDBOX (cutbox-rows.mjs): the forced cells as the released guide's own fill.sh prints them over the translation e15c7a1e458a671b… (all of the seat's roots in one cut). By AI agents, Wed Nov 11 2026. No macro, syntax, notation, axiom, sorry.
-/
import Derived.Test.YtdfbfcohindpnaaChecked
import GoSem.Claim
import GoSem.ClaimJoined
import GoSem.ClaimMapViews
import Derived.JoinedTies
import Derived.KernelRfl
namespace Go.Proofs.Ytdfbfcohindpnaa
/- THE CELL 'sum', in the pinned program and in every row, IS THE sha256 OF THE DUMP (.gsa) THAT YtdfbfcohindpnaaProg.lean LOADS. Nothing in Lean hashes anything: it is a label: what it is worth is what the hold of that sum in a sandbox is worth. -/
noncomputable def Try.pinned : Pinned := { name := "ytdfbfcohindpnaa", sum := "e15c7a1e458a671b1cbe4a386f25d8ddfab432a16def58ae2a71ff13cc424366", checked := Try.checked }
namespace Rows
def none {H : Type} : Left H := { results := [], args := [] }

/-- 'besomlaw10.EphemPuts': WHATEVER THE INPUT: true; the input reads as it did. -/
def ephemPutsSpec : ChangeSpec := { name := "ephemPuts", fn := fun _ => fun
  | [d1, d2, d3, d4] => { results := [.lit (.bool true)], args := [d1, d2, d3, d4] }
  | _ => none }
def ephemPutsRow : OpenClaim := { program := "ytdfbfcohindpnaa", sum := "e15c7a1e458a671b1cbe4a386f25d8ddfab432a16def58ae2a71ff13cc424366", func := "besom/besomlaw10.EphemPuts", spec := "ephemPuts", unfollowed := true, recurses := true, apart := false }
def EphemPutsSaid : Prop := ephemPutsRow.holds Try.pinned (OpenSpec.ofChange ephemPutsSpec)

/-- ITS FALSE NEIGHBOUR: 'it returns false'. Refute it at one input. -/
def ephemPutsWrong : ChangeSpec := { name := "ephemPuts", fn := fun _ => fun
  | [d1, d2, d3, d4] => { results := [.lit (.bool false)], args := [d1, d2, d3, d4] }
  | _ => none }
def EphemPutsWrongFalsely : Prop := ephemPutsRow.holds Try.pinned (OpenSpec.ofChange ephemPutsWrong)

/-- 'besomlaw10.EphemAsks': WHATEVER THE INPUT: true; the input reads as it did. -/
def ephemAsksSpec : ChangeSpec := { name := "ephemAsks", fn := fun _ => fun
  | [d1, d2, d3] => { results := [.lit (.bool true)], args := [d1, d2, d3] }
  | _ => none }
def ephemAsksRow : OpenClaim := { program := "ytdfbfcohindpnaa", sum := "e15c7a1e458a671b1cbe4a386f25d8ddfab432a16def58ae2a71ff13cc424366", func := "besom/besomlaw10.EphemAsks", spec := "ephemAsks", unfollowed := true, recurses := true, apart := false }
def EphemAsksSaid : Prop := ephemAsksRow.holds Try.pinned (OpenSpec.ofChange ephemAsksSpec)

/-- ITS FALSE NEIGHBOUR: 'it returns false'. Refute it at one input. -/
def ephemAsksWrong : ChangeSpec := { name := "ephemAsks", fn := fun _ => fun
  | [d1, d2, d3] => { results := [.lit (.bool false)], args := [d1, d2, d3] }
  | _ => none }
def EphemAsksWrongFalsely : Prop := ephemAsksRow.holds Try.pinned (OpenSpec.ofChange ephemAsksWrong)

/-- 'besomlaw10.EphemMap': WHATEVER THE INPUT: true; the input reads as it did. -/
def ephemMapSpec : ChangeSpec := { name := "ephemMap", fn := fun _ => fun
  | [d1, d2] => { results := [.lit (.bool true)], args := [d1, d2] }
  | _ => none }
def ephemMapRow : OpenClaim := { program := "ytdfbfcohindpnaa", sum := "e15c7a1e458a671b1cbe4a386f25d8ddfab432a16def58ae2a71ff13cc424366", func := "besom/besomlaw10.EphemMap", spec := "ephemMap", unfollowed := true, recurses := true, apart := false }
def EphemMapSaid : Prop := ephemMapRow.holds Try.pinned (OpenSpec.ofChange ephemMapSpec)

/-- ITS FALSE NEIGHBOUR: 'it returns false'. Refute it at one input. -/
def ephemMapWrong : ChangeSpec := { name := "ephemMap", fn := fun _ => fun
  | [d1, d2] => { results := [.lit (.bool false)], args := [d1, d2] }
  | _ => none }
def EphemMapWrongFalsely : Prop := ephemMapRow.holds Try.pinned (OpenSpec.ofChange ephemMapWrong)

/-- 'besomlaw10.EphemFull': WHATEVER THE INPUT: true; the input reads as it did. -/
def ephemFullSpec : ChangeSpec := { name := "ephemFull", fn := fun _ => fun
  | [d1, d2] => { results := [.lit (.bool true)], args := [d1, d2] }
  | _ => none }
def ephemFullRow : OpenClaim := { program := "ytdfbfcohindpnaa", sum := "e15c7a1e458a671b1cbe4a386f25d8ddfab432a16def58ae2a71ff13cc424366", func := "besom/besomlaw10.EphemFull", spec := "ephemFull", unfollowed := true, recurses := true, apart := false }
def EphemFullSaid : Prop := ephemFullRow.holds Try.pinned (OpenSpec.ofChange ephemFullSpec)

/-- ITS FALSE NEIGHBOUR: 'it returns false'. Refute it at one input. -/
def ephemFullWrong : ChangeSpec := { name := "ephemFull", fn := fun _ => fun
  | [d1, d2] => { results := [.lit (.bool false)], args := [d1, d2] }
  | _ => none }
def EphemFullWrongFalsely : Prop := ephemFullRow.holds Try.pinned (OpenSpec.ofChange ephemFullWrong)

/-- 'besomlaw10.EphemAll': WHATEVER THE INPUT: true; the input reads as it did. -/
def ephemAllSpec : ChangeSpec := { name := "ephemAll", fn := fun _ => fun
  | [d1, d2] => { results := [.lit (.bool true)], args := [d1, d2] }
  | _ => none }
def ephemAllRow : OpenClaim := { program := "ytdfbfcohindpnaa", sum := "e15c7a1e458a671b1cbe4a386f25d8ddfab432a16def58ae2a71ff13cc424366", func := "besom/besomlaw10.EphemAll", spec := "ephemAll", unfollowed := true, recurses := true, apart := false }
def EphemAllSaid : Prop := ephemAllRow.holds Try.pinned (OpenSpec.ofChange ephemAllSpec)

/-- ITS FALSE NEIGHBOUR: 'it returns false'. Refute it at one input. -/
def ephemAllWrong : ChangeSpec := { name := "ephemAll", fn := fun _ => fun
  | [d1, d2] => { results := [.lit (.bool false)], args := [d1, d2] }
  | _ => none }
def EphemAllWrongFalsely : Prop := ephemAllRow.holds Try.pinned (OpenSpec.ofChange ephemAllWrong)

/-- 'besomlaw10.EphemOwn': WHATEVER THE INPUT: true; the input reads as it did. -/
def ephemOwnSpec : ChangeSpec := { name := "ephemOwn", fn := fun _ => fun
  | [d1, d2] => { results := [.lit (.bool true)], args := [d1, d2] }
  | _ => none }
def ephemOwnRow : OpenClaim := { program := "ytdfbfcohindpnaa", sum := "e15c7a1e458a671b1cbe4a386f25d8ddfab432a16def58ae2a71ff13cc424366", func := "besom/besomlaw10.EphemOwn", spec := "ephemOwn", unfollowed := true, recurses := true, apart := false }
def EphemOwnSaid : Prop := ephemOwnRow.holds Try.pinned (OpenSpec.ofChange ephemOwnSpec)

/-- ITS FALSE NEIGHBOUR: 'it returns false'. Refute it at one input. -/
def ephemOwnWrong : ChangeSpec := { name := "ephemOwn", fn := fun _ => fun
  | [d1, d2] => { results := [.lit (.bool false)], args := [d1, d2] }
  | _ => none }
def EphemOwnWrongFalsely : Prop := ephemOwnRow.holds Try.pinned (OpenSpec.ofChange ephemOwnWrong)

/-- 'besomlaw10.EphemBack': WHATEVER THE INPUT: true; the input reads as it did. -/
def ephemBackSpec : ChangeSpec := { name := "ephemBack", fn := fun _ => fun
  | [d1, d2, d3, d4] => { results := [.lit (.bool true)], args := [d1, d2, d3, d4] }
  | _ => none }
def ephemBackRow : OpenClaim := { program := "ytdfbfcohindpnaa", sum := "e15c7a1e458a671b1cbe4a386f25d8ddfab432a16def58ae2a71ff13cc424366", func := "besom/besomlaw10.EphemBack", spec := "ephemBack", unfollowed := true, recurses := true, apart := false }
def EphemBackSaid : Prop := ephemBackRow.holds Try.pinned (OpenSpec.ofChange ephemBackSpec)

/-- ITS FALSE NEIGHBOUR: 'it returns false'. Refute it at one input. -/
def ephemBackWrong : ChangeSpec := { name := "ephemBack", fn := fun _ => fun
  | [d1, d2, d3, d4] => { results := [.lit (.bool false)], args := [d1, d2, d3, d4] }
  | _ => none }
def EphemBackWrongFalsely : Prop := ephemBackRow.holds Try.pinned (OpenSpec.ofChange ephemBackWrong)

/- THE SECOND FORM. 'bulk': how many values and letters a reading holds, each counted each time it is reached (what is shared counts as often as it is met; a slice's spare places count too). A statement '..UptoSaid' is the law's where the arguments, and the package variables that the reading takes, are together of bulk at most 1048576: NARROWER than '..Said'. Prove '..Said' where nothing that the law and all that it calls make is longer than what came in: it says more and counts as full. Else prove '..UptoSaid'. A law counts once. -/
mutual
def uptoBulk {H : Type} : DataW H → Nat
  | .lit (.string bytes) => bytes.length + 1
  | .lit _ => 1
  | .nil => 1
  | .ptr d => uptoBulk d + 1
  | .slice elems spare => uptoBulkAll elems + uptoBulkAll spare + 1
  | .agg parts => uptoBulkAll parts + 1
  | .iface _ d => uptoBulk d + 1
  | .map entries => uptoBulkEntries entries + 1
  | .held _ => 1
def uptoBulkAll {H : Type} : List (DataW H) → Nat
  | [] => 0
  | d :: r => uptoBulk d + uptoBulkAll r
def uptoBulkEntries {H : Type} : List (Lit × DataW H) → Nat
  | [] => 0
  | x :: r => uptoBulkEntry x + uptoBulkEntries r
def uptoBulkEntry {H : Type} : Lit × DataW H → Nat
  | (.string bytes, d) => bytes.length + uptoBulk d + 1
  | (_, d) => uptoBulk d + 1
 end
def uptoSmall : (H : Type) → List (DataW H) → Bool := fun _ ds => decide (uptoBulkAll ds ≤ 1048576)
def OpenSpec.upto (s : _root_.Go.ChangeSpec) : _root_.Go.OpenSpec := { _root_.Go.OpenSpec.ofChange s with cond := some uptoSmall }

/-- 'besomlaw10.EphemPuts', WHERE WHAT IT READS IS OF BULK AT MOST 1048576: true; the input reads as it did. -/
def ephemPutsUptoRow : OpenClaim := { program := "ytdfbfcohindpnaa", sum := "e15c7a1e458a671b1cbe4a386f25d8ddfab432a16def58ae2a71ff13cc424366", func := "besom/besomlaw10.EphemPuts", spec := "ephemPuts", unfollowed := true, recurses := true, apart := false, narrowed := true }
def EphemPutsUptoSaid : Prop := ephemPutsUptoRow.holds Try.pinned (OpenSpec.upto ephemPutsSpec)

/-- 'besomlaw10.EphemAsks', WHERE WHAT IT READS IS OF BULK AT MOST 1048576: true; the input reads as it did. -/
def ephemAsksUptoRow : OpenClaim := { program := "ytdfbfcohindpnaa", sum := "e15c7a1e458a671b1cbe4a386f25d8ddfab432a16def58ae2a71ff13cc424366", func := "besom/besomlaw10.EphemAsks", spec := "ephemAsks", unfollowed := true, recurses := true, apart := false, narrowed := true }
def EphemAsksUptoSaid : Prop := ephemAsksUptoRow.holds Try.pinned (OpenSpec.upto ephemAsksSpec)

/-- 'besomlaw10.EphemMap', WHERE WHAT IT READS IS OF BULK AT MOST 1048576: true; the input reads as it did. -/
def ephemMapUptoRow : OpenClaim := { program := "ytdfbfcohindpnaa", sum := "e15c7a1e458a671b1cbe4a386f25d8ddfab432a16def58ae2a71ff13cc424366", func := "besom/besomlaw10.EphemMap", spec := "ephemMap", unfollowed := true, recurses := true, apart := false, narrowed := true }
def EphemMapUptoSaid : Prop := ephemMapUptoRow.holds Try.pinned (OpenSpec.upto ephemMapSpec)

/-- 'besomlaw10.EphemFull', WHERE WHAT IT READS IS OF BULK AT MOST 1048576: true; the input reads as it did. -/
def ephemFullUptoRow : OpenClaim := { program := "ytdfbfcohindpnaa", sum := "e15c7a1e458a671b1cbe4a386f25d8ddfab432a16def58ae2a71ff13cc424366", func := "besom/besomlaw10.EphemFull", spec := "ephemFull", unfollowed := true, recurses := true, apart := false, narrowed := true }
def EphemFullUptoSaid : Prop := ephemFullUptoRow.holds Try.pinned (OpenSpec.upto ephemFullSpec)

/-- 'besomlaw10.EphemAll', WHERE WHAT IT READS IS OF BULK AT MOST 1048576: true; the input reads as it did. -/
def ephemAllUptoRow : OpenClaim := { program := "ytdfbfcohindpnaa", sum := "e15c7a1e458a671b1cbe4a386f25d8ddfab432a16def58ae2a71ff13cc424366", func := "besom/besomlaw10.EphemAll", spec := "ephemAll", unfollowed := true, recurses := true, apart := false, narrowed := true }
def EphemAllUptoSaid : Prop := ephemAllUptoRow.holds Try.pinned (OpenSpec.upto ephemAllSpec)

/-- 'besomlaw10.EphemOwn', WHERE WHAT IT READS IS OF BULK AT MOST 1048576: true; the input reads as it did. -/
def ephemOwnUptoRow : OpenClaim := { program := "ytdfbfcohindpnaa", sum := "e15c7a1e458a671b1cbe4a386f25d8ddfab432a16def58ae2a71ff13cc424366", func := "besom/besomlaw10.EphemOwn", spec := "ephemOwn", unfollowed := true, recurses := true, apart := false, narrowed := true }
def EphemOwnUptoSaid : Prop := ephemOwnUptoRow.holds Try.pinned (OpenSpec.upto ephemOwnSpec)

/-- 'besomlaw10.EphemBack', WHERE WHAT IT READS IS OF BULK AT MOST 1048576: true; the input reads as it did. -/
def ephemBackUptoRow : OpenClaim := { program := "ytdfbfcohindpnaa", sum := "e15c7a1e458a671b1cbe4a386f25d8ddfab432a16def58ae2a71ff13cc424366", func := "besom/besomlaw10.EphemBack", spec := "ephemBack", unfollowed := true, recurses := true, apart := false, narrowed := true }
def EphemBackUptoSaid : Prop := ephemBackUptoRow.holds Try.pinned (OpenSpec.upto ephemBackSpec)

end Rows
end Go.Proofs.Ytdfbfcohindpnaa
