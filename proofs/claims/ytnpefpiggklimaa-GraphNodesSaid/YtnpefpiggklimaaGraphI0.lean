/- Part of the proof: contracts of functions of the given program on an abstract machine. -/
import Derived.Test.YtnpefpiggklimaaGraphA
import Derived.Test.YtnpefpiggklimaaAmDraw
set_option linter.unusedVariables false
set_option linter.unusedSimpArgs false
set_option maxRecDepth 1000000
namespace Go.AM.G
open Go Go.AM
theorem Xfr0 : ToldFr X0 := fun f t h => by cases h
theorem Xfr : ToldFr X := by
  intro f t h call hc a m v m' id blk hd e
  unfold X at h
  split at h
  · cases h
    dsimp only at e ⊢
    cases a with
    | nil => cases e; exact ⟨hd, rfl⟩
    | cons x y => cases e
  · cases h
def isT : Option (V × Mem) → Bool
  | some (.bool true, _) => true
  | _ => false
set_option maxHeartbeats 0 in
theorem lives_run : isT (callN (fun f => tab.lookup f) X0 60 n_law31_lives [] []) = true := by kernel_rfl
end Go.AM.G
