/-
  DERIVED. GIVEN WITH THE SEED: THE CARDS: each row of YtfhbhfogcgfeeaaGreatDoorRows.lean that lists a variable, with what it lists TIED to the program's text (the seventh form; the later family's looks); each row that meets fmt, with fmt's text TOLD by the authors' own Lean function (tested against real Go, not proved from fmt's source: count such statements apart). THE CARD IS WHAT COUNTS. Prove the row's statement (the work); the ties are given (YtfhbhfogcgfeeaaGreatDoorTie.lean); close each card by the builder's one call (the guide's Derived/Test/ToyasCard.lean, 'card_holds'). Laid BY PROGRAM, IN A SANDBOX (cutbox-door.mjs). By AI agents, Wed Nov 11 2026. No macro, syntax, notation, axiom, sorry.
-/
import Derived.Test.YtfhbhfogcgfeeaaGreatDoorRows
import GoSem.ClaimSeven
namespace Go.Proofs.YtfhbhfogcgfeeaaGreatDoor
namespace Rows

/-- THE TIED CARD OF 'besomlaw27.MicroSteps'. -/
def microStepsCard : Claim7 := { stood := { row := microStepsRow, standIns := [], harness := (true, "fc1c64e03e07af0466f840ffa61ceb5997e75c671db2c5a0169fa13828c2f0fa"), looks := false }, kinds := [], alts := [], laidByText := true, laidKinds := [.data], laidTests := true, laidLooks := .later }
def MicroStepsCardSaid : Prop := Claim7.holds Tryz.pinned (.plain (OpenSpec.ofChange microStepsSpec)) microStepsCard

/-- THE TIED CARD OF 'besomlaw27.MicroRuns'. -/
def microRunsCard : Claim7 := { stood := { row := microRunsRow, standIns := [], harness := (true, "fc1c64e03e07af0466f840ffa61ceb5997e75c671db2c5a0169fa13828c2f0fa"), looks := false }, kinds := [], alts := [], laidByText := true, laidKinds := [.data], laidTests := true, laidLooks := .later }
def MicroRunsCardSaid : Prop := Claim7.holds Tryz.pinned (.plain (OpenSpec.ofChange microRunsSpec)) microRunsCard

/-- THE TIED CARD OF 'besomlaw27.MicroOnce'. -/
def microOnceCard : Claim7 := { stood := { row := microOnceRow, standIns := [], harness := (true, "fc1c64e03e07af0466f840ffa61ceb5997e75c671db2c5a0169fa13828c2f0fa"), looks := false }, kinds := [], alts := [], laidByText := true, laidKinds := [.data], laidTests := true, laidLooks := .later }
def MicroOnceCardSaid : Prop := Claim7.holds Tryz.pinned (.plain (OpenSpec.ofChange microOnceSpec)) microOnceCard

/-- THE TIED CARD OF 'besomlaw27.MicroTouches'. -/
def microTouchesCard : Claim7 := { stood := { row := microTouchesRow, standIns := [], harness := (true, "fc1c64e03e07af0466f840ffa61ceb5997e75c671db2c5a0169fa13828c2f0fa"), looks := false }, kinds := [], alts := [], laidByText := true, laidKinds := [.data], laidTests := true, laidLooks := .later }
def MicroTouchesCardSaid : Prop := Claim7.holds Tryz.pinned (.plain (OpenSpec.ofChange microTouchesSpec)) microTouchesCard

/-- THE TIED CARD OF 'besomlaw27.MicroOwn'. -/
def microOwnCard : Claim7 := { stood := { row := microOwnRow, standIns := [], harness := (true, "fc1c64e03e07af0466f840ffa61ceb5997e75c671db2c5a0169fa13828c2f0fa"), looks := false }, kinds := [], alts := [], laidByText := true, laidKinds := [.data], laidTests := true, laidLooks := .later }
def MicroOwnCardSaid : Prop := Claim7.holds Tryz.pinned (.plain (OpenSpec.ofChange microOwnSpec)) microOwnCard

/-- THE TIED CARD OF 'besomlaw27.MicroClosure'. -/
def microClosureCard : Claim7 := { stood := { row := microClosureRow, standIns := [], harness := (true, "fc1c64e03e07af0466f840ffa61ceb5997e75c671db2c5a0169fa13828c2f0fa"), looks := false }, kinds := [], alts := [], laidByText := true, laidKinds := [.data], laidTests := true, laidLooks := .later }
def MicroClosureCardSaid : Prop := Claim7.holds Tryz.pinned (.plain (OpenSpec.ofChange microClosureSpec)) microClosureCard

/-- THE SECOND FORM's CARD OF 'besomlaw27.MicroSteps'. -/
def microStepsUptoCard : Claim7 := { stood := { row := microStepsUptoRow, standIns := [], harness := (true, "fc1c64e03e07af0466f840ffa61ceb5997e75c671db2c5a0169fa13828c2f0fa"), looks := false }, kinds := [], alts := [], laidByText := true, laidKinds := [.data], laidTests := true, laidLooks := .later }
def MicroStepsUptoCardSaid : Prop := Claim7.holds Tryz.pinned (.plain (OpenSpec.upto microStepsSpec)) microStepsUptoCard

/-- THE SECOND FORM's CARD OF 'besomlaw27.MicroRuns'. -/
def microRunsUptoCard : Claim7 := { stood := { row := microRunsUptoRow, standIns := [], harness := (true, "fc1c64e03e07af0466f840ffa61ceb5997e75c671db2c5a0169fa13828c2f0fa"), looks := false }, kinds := [], alts := [], laidByText := true, laidKinds := [.data], laidTests := true, laidLooks := .later }
def MicroRunsUptoCardSaid : Prop := Claim7.holds Tryz.pinned (.plain (OpenSpec.upto microRunsSpec)) microRunsUptoCard

/-- THE SECOND FORM's CARD OF 'besomlaw27.MicroOnce'. -/
def microOnceUptoCard : Claim7 := { stood := { row := microOnceUptoRow, standIns := [], harness := (true, "fc1c64e03e07af0466f840ffa61ceb5997e75c671db2c5a0169fa13828c2f0fa"), looks := false }, kinds := [], alts := [], laidByText := true, laidKinds := [.data], laidTests := true, laidLooks := .later }
def MicroOnceUptoCardSaid : Prop := Claim7.holds Tryz.pinned (.plain (OpenSpec.upto microOnceSpec)) microOnceUptoCard

/-- THE SECOND FORM's CARD OF 'besomlaw27.MicroTouches'. -/
def microTouchesUptoCard : Claim7 := { stood := { row := microTouchesUptoRow, standIns := [], harness := (true, "fc1c64e03e07af0466f840ffa61ceb5997e75c671db2c5a0169fa13828c2f0fa"), looks := false }, kinds := [], alts := [], laidByText := true, laidKinds := [.data], laidTests := true, laidLooks := .later }
def MicroTouchesUptoCardSaid : Prop := Claim7.holds Tryz.pinned (.plain (OpenSpec.upto microTouchesSpec)) microTouchesUptoCard

/-- THE SECOND FORM's CARD OF 'besomlaw27.MicroOwn'. -/
def microOwnUptoCard : Claim7 := { stood := { row := microOwnUptoRow, standIns := [], harness := (true, "fc1c64e03e07af0466f840ffa61ceb5997e75c671db2c5a0169fa13828c2f0fa"), looks := false }, kinds := [], alts := [], laidByText := true, laidKinds := [.data], laidTests := true, laidLooks := .later }
def MicroOwnUptoCardSaid : Prop := Claim7.holds Tryz.pinned (.plain (OpenSpec.upto microOwnSpec)) microOwnUptoCard

/-- THE SECOND FORM's CARD OF 'besomlaw27.MicroClosure'. -/
def microClosureUptoCard : Claim7 := { stood := { row := microClosureUptoRow, standIns := [], harness := (true, "fc1c64e03e07af0466f840ffa61ceb5997e75c671db2c5a0169fa13828c2f0fa"), looks := false }, kinds := [], alts := [], laidByText := true, laidKinds := [.data], laidTests := true, laidLooks := .later }
def MicroClosureUptoCardSaid : Prop := Claim7.holds Tryz.pinned (.plain (OpenSpec.upto microClosureSpec)) microClosureUptoCard
end Rows
end Go.Proofs.YtfhbhfogcgfeeaaGreatDoor
