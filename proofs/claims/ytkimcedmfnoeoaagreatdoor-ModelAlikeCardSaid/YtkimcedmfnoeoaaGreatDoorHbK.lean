/- What the laid table gives; the heap in which the witness starts. -/
import Derived.Test.YtkimcedmfnoeoaaGreatDoorHbF
import Derived.LaidMore
import Derived.Stop.Joined
set_option linter.unusedVariables false
set_option linter.unusedSimpArgs false
set_option maxRecDepth 100000
namespace Go.Proofs.YtkimcedmfnoeoaaGreatDoor.HbF
open Go Go.AM Go.AM.G Go.RowKit
abbrev laidB : List (String × DataW Unit) := [("math/bits.deBruijn64tab", Rows.laid_math_bits_deBruijn64tab)]
theorem gTab : Tryz.prog.globalNamed "math/bits.deBruijn64tab" = some 0 := by kernel_rfl
theorem tTab : (Tryz.prog.globals[0]?).map (·.type) = some 263 := by kernel_rfl
theorem door_met (os : Os) (args : Array Value) : laidMetH Tryz.prog laidB ((World.doorLaid Tryz.prog 14 os).forCall (fun _ _ => 0) ⟨#[], args, []⟩).memory :=
  laidMetH_of_parts3 (fuel := 8) (laidMet_of_run' 8 (by kernel_rfl) (by kernel_rfl)) (by kernel_rfl) (by kernel_rfl)
theorem tab_data {H : Type} : (Rows.laid_math_bits_deBruijn64tab : DataW H) = .agg (Lib.deBruijn64tab.map fun n : Nat => .lit (.int .u8 (n : Int))) := rfl
theorem lay_of {W : World} (h : laidMetH Tryz.prog laidB W) : Lay (fun _ => none) [] W := by
  rw [MakeChecks.laidMetH_plain _ _ _ (by kernel_rfl)] at h
  obtain ⟨ps, ⟨g0, t0, cs0, f0, p0, q0, hg0, ht0, hv0, hd0, _, _⟩, _, _⟩ := h
  obtain rfl := Option.some.inj (gTab.symm.trans hg0)
  obtain rfl := Option.some.inj (tTab.symm.trans ht0)
  have c5 : Tryz.prog.cellsOf 5 = 1 := by kernel_rfl
  obtain ⟨xs, m1, rfl, hx1, hlen, hn3, hel⟩ := DataW.trod_array Tryz.underlying263 hd0
  simp only [Prod.mk.injEq] at hx1
  have hx1 := hx1.1
  rw [tab_data] at hx1
  simp only [DataW.agg.injEq] at hx1
  have hcell : ∀ j, j < 64 → cs0[j]? = some (.int .u8 (Lib.deBruijn64tab.getD j 0)) := by
    intro j hj
    have hl : Lib.deBruijn64tab.length = 64 := rfl
    have h1 : (Lib.deBruijn64tab.map fun n : Nat => (DataW.lit (.int .u8 (n : Int)) : DataW Unit))[j]? = some (.lit (.int .u8 ((Lib.deBruijn64tab.getD j 0 : Nat) : Int))) := by
      rw [List.getElem?_map, List.getElem?_eq_getElem (by omega), List.getD_eq_getElem?_getD, List.getElem?_eq_getElem (by omega)]
      rfl
    rw [hx1, List.getElem?_map, Option.map_eq_some_iff] at h1
    obtain ⟨x, hx, e⟩ := h1
    have h2 := hel j hj
    rw [hx, c5, Nat.mul_one] at h2
    obtain ⟨k, e1, e2, _⟩ := DataW.trod_int Tryz.underlying5 h2
    rw [e2] at e
    simp at e
    subst e
    have h3 : (cs0.toList.drop j)[0]? = some (.int .u8 ((Lib.deBruijn64tab.getD j 0 : Nat) : Int)) := by
      have : ((cs0.toList.drop j).take 1)[0]? = some (.int .u8 ((Lib.deBruijn64tab.getD j 0 : Nat) : Int)) := by rw [e1]; rfl
      rwa [List.getElem?_take, if_pos (by omega)] at this
    rw [List.getElem?_drop, Nat.add_zero, Array.getElem?_toList] at h3
    exact h3
  intro _
  have h0 : ∃ c e fr, W.heap[0]? = some (.cells c e fr) ∧ ∀ j, j < 64 → c[j]? = some (.int .u8 (Lib.deBruijn64tab.getD j 0)) := by
    simp only [World.var?, gTab, Option.bind_some] at hv0
    split at hv0
    · rename_i c e fr hh
      cases hv0
      exact ⟨_, _, _, hh, hcell⟩
    · cases hv0
  obtain ⟨c, e, fr, h1, h2⟩ := h0
  exact ⟨(Array.getElem?_eq_some_iff.1 h1).1, ⟨c, e, fr, h1, h2⟩, by rintro (⟨b, els, p, hb, _⟩ | ⟨b, es, p, hb, _⟩) <;> simp at hb⟩
end Go.Proofs.YtkimcedmfnoeoaaGreatDoor.HbF
