/-
  DERIVED. GIVEN WITH THE SEED: THE CARDS: each row of YtkimcedmfnoeoaaGreatDoorRows.lean that lists a variable, with what it lists TIED to the program's text (the seventh form; the later family's looks); each row that meets fmt, with fmt's text TOLD by the authors' own Lean function (tested against real Go, not proved from fmt's source: count such statements apart). THE CARD IS WHAT COUNTS. Prove the row's statement (the work); the ties are given (YtkimcedmfnoeoaaGreatDoorTie.lean); close each card by the builder's one call (the guide's Derived/Test/ToyasCard.lean, 'card_holds'). Laid BY PROGRAM, IN A SANDBOX (cutbox-door.mjs). By AI agents, Wed Nov 11 2026. No macro, syntax, notation, axiom, sorry.
-/
import Derived.Test.YtkimcedmfnoeoaaGreatDoorRows
import GoSem.ClaimSeven
namespace Go.Proofs.YtkimcedmfnoeoaaGreatDoor
namespace Rows

/-- THE TIED CARD OF 'besomlaw11.ModelTells'. -/
def modelTellsCard : Claim7 := { stood := { row := modelTellsRow, standIns := [], harness := (true, "fd0f39e7ae74d056c51dea0cbc501169c7a17859856ccc0c7b5d06080ae94cba"), looks := false }, kinds := [], alts := [], laidByText := true, laidKinds := [.data], laidTests := true, laidLooks := .later }
def ModelTellsCardSaid : Prop := Claim7.holds Tryz.pinned (.plain (OpenSpec.ofChange modelTellsSpec)) modelTellsCard

/-- THE TIED CARD OF 'besomlaw11.ModelAlike'. -/
def modelAlikeCard : Claim7 := { stood := { row := modelAlikeRow, standIns := [], harness := (true, "fd0f39e7ae74d056c51dea0cbc501169c7a17859856ccc0c7b5d06080ae94cba"), looks := false }, kinds := [], alts := [], laidByText := true, laidKinds := [.data], laidTests := true, laidLooks := .later }
def ModelAlikeCardSaid : Prop := Claim7.holds Tryz.pinned (.plain (OpenSpec.ofChange modelAlikeSpec)) modelAlikeCard

/-- THE TIED CARD OF 'besomlaw11.ModelKept'. -/
def modelKeptCard : Claim7 := { stood := { row := modelKeptRow, standIns := [], harness := (true, "fd0f39e7ae74d056c51dea0cbc501169c7a17859856ccc0c7b5d06080ae94cba"), looks := false }, kinds := [], alts := [], laidByText := true, laidKinds := [.data], laidTests := true, laidLooks := .later }
def ModelKeptCardSaid : Prop := Claim7.holds Tryz.pinned (.plain (OpenSpec.ofChange modelKeptSpec)) modelKeptCard

/-- THE TIED CARD OF 'besomlaw11.ModelNone'. -/
def modelNoneCard : Claim7 := { stood := { row := modelNoneRow, standIns := [], harness := (true, "fd0f39e7ae74d056c51dea0cbc501169c7a17859856ccc0c7b5d06080ae94cba"), looks := false }, kinds := [], alts := [], laidByText := true, laidKinds := [.data], laidTests := true, laidLooks := .later }
def ModelNoneCardSaid : Prop := Claim7.holds Tryz.pinned (.plain (OpenSpec.ofChange modelNoneSpec)) modelNoneCard

/-- THE TIED CARD OF 'besomlaw11.ModelClosed'. -/
def modelClosedCard : Claim7 := { stood := { row := modelClosedRow, standIns := [], harness := (true, "fd0f39e7ae74d056c51dea0cbc501169c7a17859856ccc0c7b5d06080ae94cba"), looks := false }, kinds := [], alts := [], laidByText := true, laidKinds := [.data], laidTests := true, laidLooks := .later }
def ModelClosedCardSaid : Prop := Claim7.holds Tryz.pinned (.plain (OpenSpec.ofChange modelClosedSpec)) modelClosedCard

/-- THE TIED CARD OF 'besomlaw11.ModelLeast'. -/
def modelLeastCard : Claim7 := { stood := { row := modelLeastRow, standIns := [], harness := (true, "fd0f39e7ae74d056c51dea0cbc501169c7a17859856ccc0c7b5d06080ae94cba"), looks := false }, kinds := [], alts := [], laidByText := true, laidKinds := [.data], laidTests := true, laidLooks := .later }
def ModelLeastCardSaid : Prop := Claim7.holds Tryz.pinned (.plain (OpenSpec.ofChange modelLeastSpec)) modelLeastCard

/-- THE TIED CARD OF 'besomlaw11.ModelTable'. -/
def modelTableCard : Claim7 := { stood := { row := modelTableRow, standIns := [], harness := (true, "fd0f39e7ae74d056c51dea0cbc501169c7a17859856ccc0c7b5d06080ae94cba"), looks := false }, kinds := [], alts := [], laidByText := true, laidKinds := [.data], laidTests := true, laidLooks := .later }
def ModelTableCardSaid : Prop := Claim7.holds Tryz.pinned (.plain (OpenSpec.ofChange modelTableSpec)) modelTableCard

/-- THE SECOND FORM's CARD OF 'besomlaw11.ModelTells'. -/
def modelTellsUptoCard : Claim7 := { stood := { row := modelTellsUptoRow, standIns := [], harness := (true, "fd0f39e7ae74d056c51dea0cbc501169c7a17859856ccc0c7b5d06080ae94cba"), looks := false }, kinds := [], alts := [], laidByText := true, laidKinds := [.data], laidTests := true, laidLooks := .later }
def ModelTellsUptoCardSaid : Prop := Claim7.holds Tryz.pinned (.plain (OpenSpec.upto modelTellsSpec)) modelTellsUptoCard

/-- THE SECOND FORM's CARD OF 'besomlaw11.ModelAlike'. -/
def modelAlikeUptoCard : Claim7 := { stood := { row := modelAlikeUptoRow, standIns := [], harness := (true, "fd0f39e7ae74d056c51dea0cbc501169c7a17859856ccc0c7b5d06080ae94cba"), looks := false }, kinds := [], alts := [], laidByText := true, laidKinds := [.data], laidTests := true, laidLooks := .later }
def ModelAlikeUptoCardSaid : Prop := Claim7.holds Tryz.pinned (.plain (OpenSpec.upto modelAlikeSpec)) modelAlikeUptoCard

/-- THE SECOND FORM's CARD OF 'besomlaw11.ModelKept'. -/
def modelKeptUptoCard : Claim7 := { stood := { row := modelKeptUptoRow, standIns := [], harness := (true, "fd0f39e7ae74d056c51dea0cbc501169c7a17859856ccc0c7b5d06080ae94cba"), looks := false }, kinds := [], alts := [], laidByText := true, laidKinds := [.data], laidTests := true, laidLooks := .later }
def ModelKeptUptoCardSaid : Prop := Claim7.holds Tryz.pinned (.plain (OpenSpec.upto modelKeptSpec)) modelKeptUptoCard

/-- THE SECOND FORM's CARD OF 'besomlaw11.ModelNone'. -/
def modelNoneUptoCard : Claim7 := { stood := { row := modelNoneUptoRow, standIns := [], harness := (true, "fd0f39e7ae74d056c51dea0cbc501169c7a17859856ccc0c7b5d06080ae94cba"), looks := false }, kinds := [], alts := [], laidByText := true, laidKinds := [.data], laidTests := true, laidLooks := .later }
def ModelNoneUptoCardSaid : Prop := Claim7.holds Tryz.pinned (.plain (OpenSpec.upto modelNoneSpec)) modelNoneUptoCard

/-- THE SECOND FORM's CARD OF 'besomlaw11.ModelClosed'. -/
def modelClosedUptoCard : Claim7 := { stood := { row := modelClosedUptoRow, standIns := [], harness := (true, "fd0f39e7ae74d056c51dea0cbc501169c7a17859856ccc0c7b5d06080ae94cba"), looks := false }, kinds := [], alts := [], laidByText := true, laidKinds := [.data], laidTests := true, laidLooks := .later }
def ModelClosedUptoCardSaid : Prop := Claim7.holds Tryz.pinned (.plain (OpenSpec.upto modelClosedSpec)) modelClosedUptoCard

/-- THE SECOND FORM's CARD OF 'besomlaw11.ModelLeast'. -/
def modelLeastUptoCard : Claim7 := { stood := { row := modelLeastUptoRow, standIns := [], harness := (true, "fd0f39e7ae74d056c51dea0cbc501169c7a17859856ccc0c7b5d06080ae94cba"), looks := false }, kinds := [], alts := [], laidByText := true, laidKinds := [.data], laidTests := true, laidLooks := .later }
def ModelLeastUptoCardSaid : Prop := Claim7.holds Tryz.pinned (.plain (OpenSpec.upto modelLeastSpec)) modelLeastUptoCard

/-- THE SECOND FORM's CARD OF 'besomlaw11.ModelTable'. -/
def modelTableUptoCard : Claim7 := { stood := { row := modelTableUptoRow, standIns := [], harness := (true, "fd0f39e7ae74d056c51dea0cbc501169c7a17859856ccc0c7b5d06080ae94cba"), looks := false }, kinds := [], alts := [], laidByText := true, laidKinds := [.data], laidTests := true, laidLooks := .later }
def ModelTableUptoCardSaid : Prop := Claim7.holds Tryz.pinned (.plain (OpenSpec.upto modelTableSpec)) modelTableUptoCard
end Rows
end Go.Proofs.YtkimcedmfnoeoaaGreatDoor
