/-
  NARROWER THAN 'FOR EVERY INPUT', by the rows' own cells (each row's printed sentence says how): ModelTells: laid · ModelAlike: laid · ModelKept: laid · ModelNone: laid · ModelClosed: laid · ModelLeast: laid · ModelTable: laid.
  DERIVED. THE GIVEN ROWS OF THIS SEAT. 7 by the template 'for every input the law returns true; each argument reads behind the call as it read before'; 0 by the template 'total and deterministic' (their statements: YtkimcedmfnoeoaaGreatDoorTotals.lean).
  GIVEN WITH THE SEED: the statements are not yours to turn. If you find one false, say at which input.
  Laid BY PROGRAM, IN A SANDBOX (cutbox-rows.mjs): the forced cells as the released guide's own fill.sh prints them over the translation 88c77c26b3a32003… (all of the seat's roots in one cut). By AI agents, Wed Nov 11 2026. No macro, syntax, notation, axiom, sorry.
-/
import Derived.Test.YtkimcedmfnoeoaaGreatDoorChecked
import GoSem.Claim
import GoSem.ClaimJoined
import GoSem.ClaimMapViews
import Derived.JoinedTies
import Derived.KernelRfl
namespace Go.Proofs.YtkimcedmfnoeoaaGreatDoor
/- THE CELL 'sum', in the pinned program and in every row, IS THE sha256 OF THE DUMP (.gsa) THAT YtkimcedmfnoeoaaGreatDoorProg.lean LOADS. Nothing in Lean hashes anything: it is a label: what it is worth is what the hold of that sum in a sandbox is worth. -/
noncomputable def Tryz.pinned : Pinned := { name := "ytkimcedmfnoeoaagreatdoor", sum := "88c77c26b3a32003c135ce8be961192e819abd566718f241ce0f821cce0001f5", checked := Tryz.checked }
namespace Rows
def none {H : Type} : Left H := { results := [], args := [] }

/- WHAT THE LISTED PACKAGE-LEVEL VARIABLES READ AS WHEN THE CALL BEGINS. Each datum BY PROGRAM (the guide's laid-datum.mjs) off the statement by which the dump's own 'gosem.cut.vars' lays the variable. In a bare row this is a premise. The card (YtkimcedmfnoeoaaGreatDoorCards.lean) ties it to the program's text. -/
def laid_math_bits_deBruijn64tab {H : Type} : DataW H := .agg [.lit (.int .u8 0), .lit (.int .u8 1), .lit (.int .u8 56), .lit (.int .u8 2), .lit (.int .u8 57), .lit (.int .u8 49), .lit (.int .u8 28), .lit (.int .u8 3), .lit (.int .u8 61), .lit (.int .u8 58), .lit (.int .u8 42), .lit (.int .u8 50), .lit (.int .u8 38), .lit (.int .u8 29), .lit (.int .u8 17), .lit (.int .u8 4), .lit (.int .u8 62), .lit (.int .u8 47), .lit (.int .u8 59), .lit (.int .u8 36), .lit (.int .u8 45), .lit (.int .u8 43), .lit (.int .u8 51), .lit (.int .u8 22), .lit (.int .u8 53), .lit (.int .u8 39), .lit (.int .u8 33), .lit (.int .u8 30), .lit (.int .u8 24), .lit (.int .u8 18), .lit (.int .u8 12), .lit (.int .u8 5), .lit (.int .u8 63), .lit (.int .u8 55), .lit (.int .u8 48), .lit (.int .u8 27), .lit (.int .u8 60), .lit (.int .u8 41), .lit (.int .u8 37), .lit (.int .u8 16), .lit (.int .u8 46), .lit (.int .u8 35), .lit (.int .u8 44), .lit (.int .u8 21), .lit (.int .u8 52), .lit (.int .u8 32), .lit (.int .u8 23), .lit (.int .u8 11), .lit (.int .u8 54), .lit (.int .u8 26), .lit (.int .u8 40), .lit (.int .u8 15), .lit (.int .u8 34), .lit (.int .u8 20), .lit (.int .u8 31), .lit (.int .u8 10), .lit (.int .u8 25), .lit (.int .u8 14), .lit (.int .u8 19), .lit (.int .u8 9), .lit (.int .u8 13), .lit (.int .u8 8), .lit (.int .u8 7), .lit (.int .u8 6)]

/-- 'besomlaw11.ModelTells': WHATEVER THE INPUT: true; the input reads as it did. -/
def modelTellsSpec : ChangeSpec := { name := "modelTells", fn := fun _ => fun
  | [d1, d2, d3, d4] => { results := [.lit (.bool true)], args := [d1, d2, d3, d4] }
  | _ => none }
def modelTellsRow : OpenClaim := { program := "ytkimcedmfnoeoaagreatdoor", sum := "88c77c26b3a32003c135ce8be961192e819abd566718f241ce0f821cce0001f5", func := "besom/besomlaw11.ModelTells", spec := "modelTells", inPlace := ["slices.overlaps[besom/api.Span]"], unfollowed := true, recurses := true, named := ["math/bits.deBruijn64tab"], apart := false, laid := [("math/bits.deBruijn64tab", laid_math_bits_deBruijn64tab)] }
def ModelTellsSaid : Prop := modelTellsRow.holds Tryz.pinned (OpenSpec.ofChange modelTellsSpec)

/-- ITS FALSE NEIGHBOUR: 'it returns false'. Refute it at one input. -/
def modelTellsWrong : ChangeSpec := { name := "modelTells", fn := fun _ => fun
  | [d1, d2, d3, d4] => { results := [.lit (.bool false)], args := [d1, d2, d3, d4] }
  | _ => none }
def ModelTellsWrongFalsely : Prop := modelTellsRow.holds Tryz.pinned (OpenSpec.ofChange modelTellsWrong)

/-- 'besomlaw11.ModelAlike': WHATEVER THE INPUT: true; the input reads as it did. -/
def modelAlikeSpec : ChangeSpec := { name := "modelAlike", fn := fun _ => fun
  | [d1, d2] => { results := [.lit (.bool true)], args := [d1, d2] }
  | _ => none }
def modelAlikeRow : OpenClaim := { program := "ytkimcedmfnoeoaagreatdoor", sum := "88c77c26b3a32003c135ce8be961192e819abd566718f241ce0f821cce0001f5", func := "besom/besomlaw11.ModelAlike", spec := "modelAlike", inPlace := ["slices.overlaps[besom/api.Span]"], unfollowed := true, recurses := true, named := ["math/bits.deBruijn64tab"], apart := false, laid := [("math/bits.deBruijn64tab", laid_math_bits_deBruijn64tab)] }
def ModelAlikeSaid : Prop := modelAlikeRow.holds Tryz.pinned (OpenSpec.ofChange modelAlikeSpec)

/-- ITS FALSE NEIGHBOUR: 'it returns false'. Refute it at one input. -/
def modelAlikeWrong : ChangeSpec := { name := "modelAlike", fn := fun _ => fun
  | [d1, d2] => { results := [.lit (.bool false)], args := [d1, d2] }
  | _ => none }
def ModelAlikeWrongFalsely : Prop := modelAlikeRow.holds Tryz.pinned (OpenSpec.ofChange modelAlikeWrong)

/-- 'besomlaw11.ModelKept': WHATEVER THE INPUT: true; the input reads as it did. -/
def modelKeptSpec : ChangeSpec := { name := "modelKept", fn := fun _ => fun
  | [d1, d2, d3, d4] => { results := [.lit (.bool true)], args := [d1, d2, d3, d4] }
  | _ => none }
def modelKeptRow : OpenClaim := { program := "ytkimcedmfnoeoaagreatdoor", sum := "88c77c26b3a32003c135ce8be961192e819abd566718f241ce0f821cce0001f5", func := "besom/besomlaw11.ModelKept", spec := "modelKept", inPlace := ["slices.overlaps[besom/api.Span]"], unfollowed := true, recurses := true, named := ["math/bits.deBruijn64tab"], apart := false, laid := [("math/bits.deBruijn64tab", laid_math_bits_deBruijn64tab)] }
def ModelKeptSaid : Prop := modelKeptRow.holds Tryz.pinned (OpenSpec.ofChange modelKeptSpec)

/-- ITS FALSE NEIGHBOUR: 'it returns false'. Refute it at one input. -/
def modelKeptWrong : ChangeSpec := { name := "modelKept", fn := fun _ => fun
  | [d1, d2, d3, d4] => { results := [.lit (.bool false)], args := [d1, d2, d3, d4] }
  | _ => none }
def ModelKeptWrongFalsely : Prop := modelKeptRow.holds Tryz.pinned (OpenSpec.ofChange modelKeptWrong)

/-- 'besomlaw11.ModelNone': WHATEVER THE INPUT: true; the input reads as it did. -/
def modelNoneSpec : ChangeSpec := { name := "modelNone", fn := fun _ => fun
  | [d1, d2, d3] => { results := [.lit (.bool true)], args := [d1, d2, d3] }
  | _ => none }
def modelNoneRow : OpenClaim := { program := "ytkimcedmfnoeoaagreatdoor", sum := "88c77c26b3a32003c135ce8be961192e819abd566718f241ce0f821cce0001f5", func := "besom/besomlaw11.ModelNone", spec := "modelNone", inPlace := ["slices.overlaps[besom/api.Span]"], unfollowed := true, recurses := true, named := ["math/bits.deBruijn64tab"], apart := false, laid := [("math/bits.deBruijn64tab", laid_math_bits_deBruijn64tab)] }
def ModelNoneSaid : Prop := modelNoneRow.holds Tryz.pinned (OpenSpec.ofChange modelNoneSpec)

/-- ITS FALSE NEIGHBOUR: 'it returns false'. Refute it at one input. -/
def modelNoneWrong : ChangeSpec := { name := "modelNone", fn := fun _ => fun
  | [d1, d2, d3] => { results := [.lit (.bool false)], args := [d1, d2, d3] }
  | _ => none }
def ModelNoneWrongFalsely : Prop := modelNoneRow.holds Tryz.pinned (OpenSpec.ofChange modelNoneWrong)

/-- 'besomlaw11.ModelClosed': WHATEVER THE INPUT: true; the input reads as it did. -/
def modelClosedSpec : ChangeSpec := { name := "modelClosed", fn := fun _ => fun
  | [d1, d2, d3] => { results := [.lit (.bool true)], args := [d1, d2, d3] }
  | _ => none }
def modelClosedRow : OpenClaim := { program := "ytkimcedmfnoeoaagreatdoor", sum := "88c77c26b3a32003c135ce8be961192e819abd566718f241ce0f821cce0001f5", func := "besom/besomlaw11.ModelClosed", spec := "modelClosed", inPlace := ["slices.overlaps[besom/api.Span]"], unfollowed := true, recurses := true, named := ["math/bits.deBruijn64tab"], apart := false, laid := [("math/bits.deBruijn64tab", laid_math_bits_deBruijn64tab)] }
def ModelClosedSaid : Prop := modelClosedRow.holds Tryz.pinned (OpenSpec.ofChange modelClosedSpec)

/-- ITS FALSE NEIGHBOUR: 'it returns false'. Refute it at one input. -/
def modelClosedWrong : ChangeSpec := { name := "modelClosed", fn := fun _ => fun
  | [d1, d2, d3] => { results := [.lit (.bool false)], args := [d1, d2, d3] }
  | _ => none }
def ModelClosedWrongFalsely : Prop := modelClosedRow.holds Tryz.pinned (OpenSpec.ofChange modelClosedWrong)

/-- 'besomlaw11.ModelLeast': WHATEVER THE INPUT: true; the input reads as it did. -/
def modelLeastSpec : ChangeSpec := { name := "modelLeast", fn := fun _ => fun
  | [d1, d2, d3, d4, d5] => { results := [.lit (.bool true)], args := [d1, d2, d3, d4, d5] }
  | _ => none }
def modelLeastRow : OpenClaim := { program := "ytkimcedmfnoeoaagreatdoor", sum := "88c77c26b3a32003c135ce8be961192e819abd566718f241ce0f821cce0001f5", func := "besom/besomlaw11.ModelLeast", spec := "modelLeast", inPlace := ["slices.overlaps[besom/api.Span]"], unfollowed := true, recurses := true, named := ["math/bits.deBruijn64tab"], apart := false, laid := [("math/bits.deBruijn64tab", laid_math_bits_deBruijn64tab)] }
def ModelLeastSaid : Prop := modelLeastRow.holds Tryz.pinned (OpenSpec.ofChange modelLeastSpec)

/-- ITS FALSE NEIGHBOUR: 'it returns false'. Refute it at one input. -/
def modelLeastWrong : ChangeSpec := { name := "modelLeast", fn := fun _ => fun
  | [d1, d2, d3, d4, d5] => { results := [.lit (.bool false)], args := [d1, d2, d3, d4, d5] }
  | _ => none }
def ModelLeastWrongFalsely : Prop := modelLeastRow.holds Tryz.pinned (OpenSpec.ofChange modelLeastWrong)

/-- 'besomlaw11.ModelTable': WHATEVER THE INPUT: true; the input reads as it did. -/
def modelTableSpec : ChangeSpec := { name := "modelTable", fn := fun _ => fun
  | [d1, d2, d3, d4, d5] => { results := [.lit (.bool true)], args := [d1, d2, d3, d4, d5] }
  | _ => none }
def modelTableRow : OpenClaim := { program := "ytkimcedmfnoeoaagreatdoor", sum := "88c77c26b3a32003c135ce8be961192e819abd566718f241ce0f821cce0001f5", func := "besom/besomlaw11.ModelTable", spec := "modelTable", inPlace := ["slices.overlaps[besom/api.Span]"], unfollowed := true, recurses := true, named := ["math/bits.deBruijn64tab"], apart := false, laid := [("math/bits.deBruijn64tab", laid_math_bits_deBruijn64tab)] }
def ModelTableSaid : Prop := modelTableRow.holds Tryz.pinned (OpenSpec.ofChange modelTableSpec)

/-- ITS FALSE NEIGHBOUR: 'it returns false'. Refute it at one input. -/
def modelTableWrong : ChangeSpec := { name := "modelTable", fn := fun _ => fun
  | [d1, d2, d3, d4, d5] => { results := [.lit (.bool false)], args := [d1, d2, d3, d4, d5] }
  | _ => none }
def ModelTableWrongFalsely : Prop := modelTableRow.holds Tryz.pinned (OpenSpec.ofChange modelTableWrong)

/- THE SECOND FORM. 'bulk': how many values and letters a reading holds, each counted each time it is reached (what is shared counts as often as it is met; a slice's spare places count too). A statement '..UptoSaid' is the law's where the arguments, and the package variables that the reading takes, are together of bulk at most 1048576: NARROWER than '..Said'. Prove '..Said' where nothing that the law and all that it calls make is longer than what came in: it says more and counts as full. Else prove '..UptoSaid'. A law counts once. -/
mutual
def uptoBulk {H : Type} : DataW H → Nat
  | .lit (.string bytes) => bytes.length + 1
  | .lit _ => 1
  | .nil => 1
  | .ptr d => uptoBulk d + 1
  | .slice elems spare => uptoBulkAll elems + uptoBulkAll spare + 1
  | .agg parts => uptoBulkAll parts + 1
  | .iface _ d => uptoBulk d + 1
  | .map entries => uptoBulkEntries entries + 1
  | .held _ => 1
def uptoBulkAll {H : Type} : List (DataW H) → Nat
  | [] => 0
  | d :: r => uptoBulk d + uptoBulkAll r
def uptoBulkEntries {H : Type} : List (Lit × DataW H) → Nat
  | [] => 0
  | x :: r => uptoBulkEntry x + uptoBulkEntries r
def uptoBulkEntry {H : Type} : Lit × DataW H → Nat
  | (.string bytes, d) => bytes.length + uptoBulk d + 1
  | (_, d) => uptoBulk d + 1
 end
def uptoSmall : (H : Type) → List (DataW H) → Bool := fun _ ds => decide (uptoBulkAll ds ≤ 1048576)
def OpenSpec.upto (s : _root_.Go.ChangeSpec) : _root_.Go.OpenSpec := { _root_.Go.OpenSpec.ofChange s with cond := some uptoSmall }

/-- 'besomlaw11.ModelTells', WHERE WHAT IT READS IS OF BULK AT MOST 1048576: true; the input reads as it did. -/
def modelTellsUptoRow : OpenClaim := { program := "ytkimcedmfnoeoaagreatdoor", sum := "88c77c26b3a32003c135ce8be961192e819abd566718f241ce0f821cce0001f5", func := "besom/besomlaw11.ModelTells", spec := "modelTells", inPlace := ["slices.overlaps[besom/api.Span]"], unfollowed := true, recurses := true, named := ["math/bits.deBruijn64tab"], apart := false, laid := [("math/bits.deBruijn64tab", laid_math_bits_deBruijn64tab)], narrowed := true }
def ModelTellsUptoSaid : Prop := modelTellsUptoRow.holds Tryz.pinned (OpenSpec.upto modelTellsSpec)

/-- 'besomlaw11.ModelAlike', WHERE WHAT IT READS IS OF BULK AT MOST 1048576: true; the input reads as it did. -/
def modelAlikeUptoRow : OpenClaim := { program := "ytkimcedmfnoeoaagreatdoor", sum := "88c77c26b3a32003c135ce8be961192e819abd566718f241ce0f821cce0001f5", func := "besom/besomlaw11.ModelAlike", spec := "modelAlike", inPlace := ["slices.overlaps[besom/api.Span]"], unfollowed := true, recurses := true, named := ["math/bits.deBruijn64tab"], apart := false, laid := [("math/bits.deBruijn64tab", laid_math_bits_deBruijn64tab)], narrowed := true }
def ModelAlikeUptoSaid : Prop := modelAlikeUptoRow.holds Tryz.pinned (OpenSpec.upto modelAlikeSpec)

/-- 'besomlaw11.ModelKept', WHERE WHAT IT READS IS OF BULK AT MOST 1048576: true; the input reads as it did. -/
def modelKeptUptoRow : OpenClaim := { program := "ytkimcedmfnoeoaagreatdoor", sum := "88c77c26b3a32003c135ce8be961192e819abd566718f241ce0f821cce0001f5", func := "besom/besomlaw11.ModelKept", spec := "modelKept", inPlace := ["slices.overlaps[besom/api.Span]"], unfollowed := true, recurses := true, named := ["math/bits.deBruijn64tab"], apart := false, laid := [("math/bits.deBruijn64tab", laid_math_bits_deBruijn64tab)], narrowed := true }
def ModelKeptUptoSaid : Prop := modelKeptUptoRow.holds Tryz.pinned (OpenSpec.upto modelKeptSpec)

/-- 'besomlaw11.ModelNone', WHERE WHAT IT READS IS OF BULK AT MOST 1048576: true; the input reads as it did. -/
def modelNoneUptoRow : OpenClaim := { program := "ytkimcedmfnoeoaagreatdoor", sum := "88c77c26b3a32003c135ce8be961192e819abd566718f241ce0f821cce0001f5", func := "besom/besomlaw11.ModelNone", spec := "modelNone", inPlace := ["slices.overlaps[besom/api.Span]"], unfollowed := true, recurses := true, named := ["math/bits.deBruijn64tab"], apart := false, laid := [("math/bits.deBruijn64tab", laid_math_bits_deBruijn64tab)], narrowed := true }
def ModelNoneUptoSaid : Prop := modelNoneUptoRow.holds Tryz.pinned (OpenSpec.upto modelNoneSpec)

/-- 'besomlaw11.ModelClosed', WHERE WHAT IT READS IS OF BULK AT MOST 1048576: true; the input reads as it did. -/
def modelClosedUptoRow : OpenClaim := { program := "ytkimcedmfnoeoaagreatdoor", sum := "88c77c26b3a32003c135ce8be961192e819abd566718f241ce0f821cce0001f5", func := "besom/besomlaw11.ModelClosed", spec := "modelClosed", inPlace := ["slices.overlaps[besom/api.Span]"], unfollowed := true, recurses := true, named := ["math/bits.deBruijn64tab"], apart := false, laid := [("math/bits.deBruijn64tab", laid_math_bits_deBruijn64tab)], narrowed := true }
def ModelClosedUptoSaid : Prop := modelClosedUptoRow.holds Tryz.pinned (OpenSpec.upto modelClosedSpec)

/-- 'besomlaw11.ModelLeast', WHERE WHAT IT READS IS OF BULK AT MOST 1048576: true; the input reads as it did. -/
def modelLeastUptoRow : OpenClaim := { program := "ytkimcedmfnoeoaagreatdoor", sum := "88c77c26b3a32003c135ce8be961192e819abd566718f241ce0f821cce0001f5", func := "besom/besomlaw11.ModelLeast", spec := "modelLeast", inPlace := ["slices.overlaps[besom/api.Span]"], unfollowed := true, recurses := true, named := ["math/bits.deBruijn64tab"], apart := false, laid := [("math/bits.deBruijn64tab", laid_math_bits_deBruijn64tab)], narrowed := true }
def ModelLeastUptoSaid : Prop := modelLeastUptoRow.holds Tryz.pinned (OpenSpec.upto modelLeastSpec)

/-- 'besomlaw11.ModelTable', WHERE WHAT IT READS IS OF BULK AT MOST 1048576: true; the input reads as it did. -/
def modelTableUptoRow : OpenClaim := { program := "ytkimcedmfnoeoaagreatdoor", sum := "88c77c26b3a32003c135ce8be961192e819abd566718f241ce0f821cce0001f5", func := "besom/besomlaw11.ModelTable", spec := "modelTable", inPlace := ["slices.overlaps[besom/api.Span]"], unfollowed := true, recurses := true, named := ["math/bits.deBruijn64tab"], apart := false, laid := [("math/bits.deBruijn64tab", laid_math_bits_deBruijn64tab)], narrowed := true }
def ModelTableUptoSaid : Prop := modelTableUptoRow.holds Tryz.pinned (OpenSpec.upto modelTableSpec)

end Rows
end Go.Proofs.YtkimcedmfnoeoaaGreatDoor
