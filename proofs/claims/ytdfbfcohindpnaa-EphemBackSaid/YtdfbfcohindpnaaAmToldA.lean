/- Told functions: a closed one, at whatever memory. -/
import Derived.Test.YtdfbfcohindpnaaAmDraw3
set_option linter.unusedVariables false
set_option linter.unusedSimpArgs false
namespace Go.AM
open Go
theorem closed_ok {P : Program} {f : FuncId} {m1 : Mem} (h : CallOk P f [] [] (.bool true) m1) (m : Mem) : CallOk P f [] m (.bool true) m := by
  obtain ⟨he, h⟩ := h
  refine ⟨he, fun φ w cargs hst hr => ?_⟩
  simp only [Rs] at hr
  subst hr
  have h0 : St (fun _ => none) [] w := ⟨fun _ _ => rfl, fun b own els hb => by simp at hb, fun b els b' own' els' p p' hb => by simp at hb⟩
  refine (h _ w [] h0 (by simp [Rs])).mono ?_
  rintro e w' ⟨φ', cv, rfl, hs, hv⟩
  simp only [R] at hv
  subst hv
  have hfr : ∀ B, B < w.heap.size → w'.heap[B]? = w.heap[B]? := fun B hB => (hs.frame B hB (by rintro ⟨b, els, p, hb, _⟩; simp at hb)).1
  refine ⟨φ, _, rfl, ⟨Ext.refl _, ⟨hst.fresh, fun b own els hb => ?_, hst.excl⟩, Nat.le_refl _, hs.size, hs.os, hs.tape, hs.output, fun B hB hO => ⟨hfr B hB, hO⟩, fun _ _ _ h => h⟩, by simp only [R]⟩
  obtain ⟨p, hp, hr⟩ := hst.blk b own els hb
  exact ⟨p, hp, hr.world (Ext.refl _) (hfr _ hr.lt)⟩
end Go.AM
