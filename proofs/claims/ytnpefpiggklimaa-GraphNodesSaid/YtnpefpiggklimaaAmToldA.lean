/- Told functions: a closed one, at whatever memory. -/
import Derived.Test.YtnpefpiggklimaaAmDraw
set_option linter.unusedVariables false
set_option linter.unusedSimpArgs false
namespace Go.AM
open Go
theorem closed_ok' {P : Program} {f : FuncId} {args : List V} {v : V} {m1 : Mem} (h : CallOk P f args [] v m1) (ha : ∀ φ cargs, Rs φ args cargs → Rs (fun _ => none) args cargs) (hv : ∀ φ φ' cv, R φ v cv → R φ' v cv) (m : Mem) : CallOk P f args m v m := by
  obtain ⟨he, h⟩ := h
  refine ⟨he, fun φ w cargs hst hr => ?_⟩
  have h0 : St (fun _ => none) [] w := ⟨fun _ _ => rfl, fun b own els hb => by simp at hb, fun b els b' own' els' p p' hb => by simp at hb⟩
  refine (h _ w cargs h0 (ha _ _ hr)).mono ?_
  rintro e w' ⟨φ', cv, rfl, hs, hc⟩
  have hfr : ∀ B, B < w.heap.size → w'.heap[B]? = w.heap[B]? := fun B hB => (hs.frame B hB (by rintro ⟨b, els, p, hb, _⟩; simp at hb)).1
  refine ⟨φ, _, rfl, ⟨Ext.refl _, ⟨hst.fresh, fun b own els hb => ?_, hst.excl⟩, Nat.le_refl _, hs.size, hs.os, hs.tape, hs.output, fun B hB hO => ⟨hfr B hB, hO⟩, fun _ _ _ h => h⟩, hv _ _ _ hc⟩
  obtain ⟨p, hp, hr⟩ := hst.blk b own els hb
  exact ⟨p, hp, hr.world (Ext.refl _) (hfr _ hr.lt)⟩
theorem closed_ok {P : Program} {f : FuncId} {m1 : Mem} (h : CallOk P f [] [] (.bool true) m1) (m : Mem) : CallOk P f [] m (.bool true) m := closed_ok' h (fun _ _ h => h) (fun _ _ _ h => by simp only [R] at h ⊢; exact h) m
end Go.AM
