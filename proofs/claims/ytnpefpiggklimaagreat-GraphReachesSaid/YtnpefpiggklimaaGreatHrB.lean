/- GraphReaches, of what is read. -/
import Derived.Test.YtnpefpiggklimaaGreatHbF
import Derived.Test.YtnpefpiggklimaaGreatHrA
set_option linter.unusedVariables false
set_option linter.unusedSimpArgs false
set_option maxRecDepth 100000
namespace Go.Proofs.YtnpefpiggklimaaGreat.HbF
open Go Go.AM Go.AM.G Go.RowKit
theorem graphReaches_law {m : Mem} {u v : V} {H : HeapA} {l : List Nat} (h : HpIn m u H) (hr : NuIn m v l) (hl : l.length ≤ 17592186044416) : C S n_law31_GraphReaches [u, v] m (fun r _ => r = .bool true) := by
  obtain ⟨aw, uw, sv, va, vm, rfl, h⟩ := h
  exact GraphReaches_spec h hr hl
end Go.Proofs.YtnpefpiggklimaaGreat.HbF
