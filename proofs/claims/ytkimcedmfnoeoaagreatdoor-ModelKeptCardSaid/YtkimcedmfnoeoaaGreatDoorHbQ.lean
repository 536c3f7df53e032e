/- ModelClosed, of what is read. -/
import Derived.Test.YtkimcedmfnoeoaaGreatDoorHbJ
import Derived.Test.YtkimcedmfnoeoaaGreatDoorHbJ
import Derived.Test.YtkimcedmfnoeoaaGreatDoorHkC
set_option linter.unusedVariables false
set_option linter.unusedSimpArgs false
set_option maxRecDepth 100000
namespace Go.Proofs.YtkimcedmfnoeoaaGreatDoor.HbF
open Go Go.AM Go.AM.G Go.RowKit
theorem eph_used {l : List E.Slot} (h : ∀ s, s ∈ l → slotOk s) (hv : E.validB l = true) {x : E.Slot} (hx : x ∈ l) (h1 : x.st = 1) : ∃ i, i < (ephK l).length ∧ x.key = (nx (ephK l) i : Nat) ∧ x.val = (nx (ephW l) i : Nat) := by
  have hu : x ∈ E.srtL (E.used l) := (E.srtL_perm (d := E.used l)).mem_iff.2 (by unfold E.used; exact List.mem_filter.2 ⟨hx, by simp [h1]⟩)
  obtain ⟨i, hi, e⟩ := List.getElem_of_mem hu
  have e1 : (E.allL l).1 = (E.srtL (E.used l)).map (·.key) := by unfold E.allL; rw [if_pos hv]
  have e2 : (E.allL l).2.1 = (E.srtL (E.used l)).map (·.val) := by unfold E.allL; rw [if_pos hv]
  have k1 := (h x hx).2.1.1
  have k2 := (h x hx).2.2.1
  refine ⟨i, by unfold ephK; rw [e1]; simpa using hi, ?_, ?_⟩
  · unfold ephK nx
    rw [e1, List.map_map, List.getD_eq_getElem?_getD, List.getElem?_map, List.getElem?_eq_getElem hi, e]
    show x.key = ((x.key.toNat : Nat) : Int)
    omega
  · unfold ephW nx
    rw [e2, List.map_map, List.getD_eq_getElem?_getD, List.getElem?_map, List.getElem?_eq_getElem hi, e]
    show x.val = ((x.val.toNat : Nat) : Int)
    omega
theorem modelClosed_law {m : Mem} {u v t : V} {H : HeapA} {l : List Nat} {s : List E.Slot} (h : HpIn m u H) (hr : NuIn m v l) (hl : l.length ≤ 17592186043904) (ht : Sl m t 3 (E.encs s)) (hs : s.length < 5864062014806 ∧ ∀ x ∈ s, slotOk x) : C S n_law11_ModelClosed [u, v, .agg [t]] m (fun r _ => r = .bool true) := by
  obtain ⟨aw, uw, sv, va, vm, rfl, h⟩ := h
  obtain ⟨h1, h2, h3⟩ := eph_all ht hs.1 hs.2
  exact ModelClosed_spec h hr (by omega) ht hs.1 h1 h2 h3 fun hv x hx e => eph_used hs.2 hv hx e
end Go.Proofs.YtkimcedmfnoeoaaGreatDoor.HbF
