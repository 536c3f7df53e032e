/- Part of the proof: contracts of functions of the given program on an abstract machine. -/
import Derived.Test.YtnpefpiggklimaaGraphCode
import Derived.WalkKit
set_option linter.unusedVariables false
set_option linter.unusedSimpArgs false
set_option maxRecDepth 100000
set_option maxHeartbeats 0
namespace Go.AM.G
open Go Go.AM
theorem ok_gosem_cut_init : (Go.Proofs.Try.prog.funcs[2]?).bind (compFunc Go.Proofs.Try.prog) = some gosem_cut_init := by kernel_rfl
theorem ok_law31_GraphAsks : (Go.Proofs.Try.prog.funcs[3]?).bind (compFunc Go.Proofs.Try.prog) = some law31_GraphAsks := by kernel_rfl
theorem ok_law31_GraphNodes : (Go.Proofs.Try.prog.funcs[4]?).bind (compFunc Go.Proofs.Try.prog) = some law31_GraphNodes := by kernel_rfl
theorem ok_law31_GraphHeld : (Go.Proofs.Try.prog.funcs[5]?).bind (compFunc Go.Proofs.Try.prog) = some law31_GraphHeld := by kernel_rfl
theorem ok_law31_GraphWay : (Go.Proofs.Try.prog.funcs[6]?).bind (compFunc Go.Proofs.Try.prog) = some law31_GraphWay := by kernel_rfl
theorem ok_law31_GraphParts : (Go.Proofs.Try.prog.funcs[7]?).bind (compFunc Go.Proofs.Try.prog) = some law31_GraphParts := by kernel_rfl
theorem ok_law31_lives : (Go.Proofs.Try.prog.funcs[8]?).bind (compFunc Go.Proofs.Try.prog) = some law31_lives := by kernel_rfl
theorem ok_ref31_Copy : (Go.Proofs.Try.prog.funcs[9]?).bind (compFunc Go.Proofs.Try.prog) = some ref31_Copy := by kernel_rfl
theorem ok_graph_Reached : (Go.Proofs.Try.prog.funcs[10]?).bind (compFunc Go.Proofs.Try.prog) = some graph_Reached := by kernel_rfl
theorem ok_ref31_Reached : (Go.Proofs.Try.prog.funcs[11]?).bind (compFunc Go.Proofs.Try.prog) = some ref31_Reached := by kernel_rfl
theorem ok_graph_Parts : (Go.Proofs.Try.prog.funcs[12]?).bind (compFunc Go.Proofs.Try.prog) = some graph_Parts := by kernel_rfl
theorem ok_ref31_Parts : (Go.Proofs.Try.prog.funcs[13]?).bind (compFunc Go.Proofs.Try.prog) = some ref31_Parts := by kernel_rfl
theorem ok_graph_Holders : (Go.Proofs.Try.prog.funcs[14]?).bind (compFunc Go.Proofs.Try.prog) = some graph_Holders := by kernel_rfl
theorem ok_ref31_Holders : (Go.Proofs.Try.prog.funcs[15]?).bind (compFunc Go.Proofs.Try.prog) = some ref31_Holders := by kernel_rfl
theorem ok_ref31_SamePlaces : (Go.Proofs.Try.prog.funcs[16]?).bind (compFunc Go.Proofs.Try.prog) = some ref31_SamePlaces := by kernel_rfl
theorem ok_graph_Check : (Go.Proofs.Try.prog.funcs[17]?).bind (compFunc Go.Proofs.Try.prog) = some graph_Check := by kernel_rfl
theorem ok_ref31_Check : (Go.Proofs.Try.prog.funcs[18]?).bind (compFunc Go.Proofs.Try.prog) = some ref31_Check := by kernel_rfl
theorem ok_ref31_Same : (Go.Proofs.Try.prog.funcs[19]?).bind (compFunc Go.Proofs.Try.prog) = some ref31_Same := by kernel_rfl
theorem ok_graph_Retained : (Go.Proofs.Try.prog.funcs[20]?).bind (compFunc Go.Proofs.Try.prog) = some graph_Retained := by kernel_rfl
theorem ok_ref31_Retained : (Go.Proofs.Try.prog.funcs[21]?).bind (compFunc Go.Proofs.Try.prog) = some ref31_Retained := by kernel_rfl
theorem ok_graph_Way : (Go.Proofs.Try.prog.funcs[22]?).bind (compFunc Go.Proofs.Try.prog) = some graph_Way := by kernel_rfl
theorem ok_ref31_Way : (Go.Proofs.Try.prog.funcs[23]?).bind (compFunc Go.Proofs.Try.prog) = some ref31_Way := by kernel_rfl
theorem ok_graph_Without : (Go.Proofs.Try.prog.funcs[24]?).bind (compFunc Go.Proofs.Try.prog) = some graph_Without := by kernel_rfl
theorem ok_ref31_Without : (Go.Proofs.Try.prog.funcs[25]?).bind (compFunc Go.Proofs.Try.prog) = some ref31_Without := by kernel_rfl
theorem ok_law31_sumOf : (Go.Proofs.Try.prog.funcs[26]?).bind (compFunc Go.Proofs.Try.prog) = some law31_sumOf := by kernel_rfl
theorem ok_law31_hasPlace : (Go.Proofs.Try.prog.funcs[27]?).bind (compFunc Go.Proofs.Try.prog) = some law31_hasPlace := by kernel_rfl
theorem ok_graph_reached : (Go.Proofs.Try.prog.funcs[28]?).bind (compFunc Go.Proofs.Try.prog) = some graph_reached := by kernel_rfl
theorem ok_graph_net_walk : (Go.Proofs.Try.prog.funcs[29]?).bind (compFunc Go.Proofs.Try.prog) = some graph_net_walk := by kernel_rfl
theorem ok_ref31_from : (Go.Proofs.Try.prog.funcs[30]?).bind (compFunc Go.Proofs.Try.prog) = some ref31_from := by kernel_rfl
theorem ok_graph_tarjan_visit : (Go.Proofs.Try.prog.funcs[31]?).bind (compFunc Go.Proofs.Try.prog) = some graph_tarjan_visit := by kernel_rfl
theorem ok_ref31_has : (Go.Proofs.Try.prog.funcs[32]?).bind (compFunc Go.Proofs.Try.prog) = some ref31_has := by kernel_rfl
theorem ok_graph_net_holders : (Go.Proofs.Try.prog.funcs[33]?).bind (compFunc Go.Proofs.Try.prog) = some graph_net_holders := by kernel_rfl
theorem ok_ref31_held : (Go.Proofs.Try.prog.funcs[34]?).bind (compFunc Go.Proofs.Try.prog) = some ref31_held := by kernel_rfl
theorem ok_graph_rises : (Go.Proofs.Try.prog.funcs[35]?).bind (compFunc Go.Proofs.Try.prog) = some graph_rises := by kernel_rfl
theorem ok_ref31_places : (Go.Proofs.Try.prog.funcs[36]?).bind (compFunc Go.Proofs.Try.prog) = some ref31_places := by kernel_rfl
theorem ok_graph_there : (Go.Proofs.Try.prog.funcs[37]?).bind (compFunc Go.Proofs.Try.prog) = some graph_there := by kernel_rfl
theorem ok_slices_ContainsFunc_int : (Go.Proofs.Try.prog.funcs[38]?).bind (compFunc Go.Proofs.Try.prog) = some slices_ContainsFunc_int := by kernel_rfl
theorem ok_graph_Way_1 : (Go.Proofs.Try.prog.funcs[39]?).bind (compFunc Go.Proofs.Try.prog) = some graph_Way_1 := by kernel_rfl
theorem ok_slices_IndexFunc_int : (Go.Proofs.Try.prog.funcs[40]?).bind (compFunc Go.Proofs.Try.prog) = some slices_IndexFunc_int := by kernel_rfl
theorem ok_graph_Way_2 : (Go.Proofs.Try.prog.funcs[41]?).bind (compFunc Go.Proofs.Try.prog) = some graph_Way_2 := by kernel_rfl
theorem ok_graph_Way_3 : (Go.Proofs.Try.prog.funcs[42]?).bind (compFunc Go.Proofs.Try.prog) = some graph_Way_3 := by kernel_rfl
theorem ok_ref31_far : (Go.Proofs.Try.prog.funcs[43]?).bind (compFunc Go.Proofs.Try.prog) = some ref31_far := by kernel_rfl
theorem ok_ref31_put : (Go.Proofs.Try.prog.funcs[44]?).bind (compFunc Go.Proofs.Try.prog) = some ref31_put := by kernel_rfl
theorem ok_graph_Without_1 : (Go.Proofs.Try.prog.funcs[45]?).bind (compFunc Go.Proofs.Try.prog) = some graph_Without_1 := by kernel_rfl
theorem ok_ref31_without : (Go.Proofs.Try.prog.funcs[46]?).bind (compFunc Go.Proofs.Try.prog) = some ref31_without := by kernel_rfl
theorem ok_slices_Repeat_int : (Go.Proofs.Try.prog.funcs[47]?).bind (compFunc Go.Proofs.Try.prog) = some slices_Repeat_int := by kernel_rfl
theorem ok_graph_net_walk_1 : (Go.Proofs.Try.prog.funcs[48]?).bind (compFunc Go.Proofs.Try.prog) = some graph_net_walk_1 := by kernel_rfl
theorem ok_graph_tarjan_enter : (Go.Proofs.Try.prog.funcs[49]?).bind (compFunc Go.Proofs.Try.prog) = some graph_tarjan_enter := by kernel_rfl
theorem ok_graph_tarjan_leave : (Go.Proofs.Try.prog.funcs[50]?).bind (compFunc Go.Proofs.Try.prog) = some graph_tarjan_leave := by kernel_rfl
theorem ok_graph_net_order : (Go.Proofs.Try.prog.funcs[51]?).bind (compFunc Go.Proofs.Try.prog) = some graph_net_order := by kernel_rfl
theorem ok_graph_net_holders_1 : (Go.Proofs.Try.prog.funcs[52]?).bind (compFunc Go.Proofs.Try.prog) = some graph_net_holders_1 := by kernel_rfl
theorem ok_math_bits_Mul : (Go.Proofs.Try.prog.funcs[53]?).bind (compFunc Go.Proofs.Try.prog) = some math_bits_Mul := by kernel_rfl
theorem ok_slices_Index_int : (Go.Proofs.Try.prog.funcs[54]?).bind (compFunc Go.Proofs.Try.prog) = some slices_Index_int := by kernel_rfl
theorem ok_slices_Min_int : (Go.Proofs.Try.prog.funcs[55]?).bind (compFunc Go.Proofs.Try.prog) = some slices_Min_int := by kernel_rfl
theorem ok_slices_Reverse_int : (Go.Proofs.Try.prog.funcs[56]?).bind (compFunc Go.Proofs.Try.prog) = some slices_Reverse_int := by kernel_rfl
theorem ok_math_bits_Mul32 : (Go.Proofs.Try.prog.funcs[57]?).bind (compFunc Go.Proofs.Try.prog) = some math_bits_Mul32 := by kernel_rfl
theorem ok_math_bits_Mul64 : (Go.Proofs.Try.prog.funcs[58]?).bind (compFunc Go.Proofs.Try.prog) = some math_bits_Mul64 := by kernel_rfl
theorem of_all {P : Program} {tab : List (Nat × AFunc)} (h : ∀ p ∈ tab, (P.funcs[p.1]?).bind (compFunc P) = some p.2) : TableOk P (fun f => tab.lookup f) := by
  intro f fn hf
  have hm : (f, fn) ∈ tab := by
    clear h
    induction tab with
    | nil => simp at hf
    | cons p tab ih =>
      simp only [List.lookup] at hf
      split at hf
      · rename_i e
        simp only [Option.some.injEq] at hf
        subst hf
        have := beq_iff_eq.1 e
        subst this
        simp
      · simp [ih hf]
  have := h _ hm
  simp only [Option.bind_eq_some_iff] at this
  obtain ⟨g, h1, h2⟩ := this
  exact ⟨g, h1, h2⟩
theorem tableOk : TableOk Go.Proofs.Try.prog (fun f => tab.lookup f) := by
  refine of_all ?_
  unfold tab
  refine List.forall_mem_cons.2 ⟨ok_gosem_cut_init, List.forall_mem_cons.2 ⟨ok_law31_GraphAsks, List.forall_mem_cons.2 ⟨ok_law31_GraphNodes, List.forall_mem_cons.2 ⟨ok_law31_GraphHeld, List.forall_mem_cons.2 ⟨ok_law31_GraphWay, List.forall_mem_cons.2 ⟨ok_law31_GraphParts, List.forall_mem_cons.2 ⟨ok_law31_lives, List.forall_mem_cons.2 ⟨ok_ref31_Copy, List.forall_mem_cons.2 ⟨ok_graph_Reached, List.forall_mem_cons.2 ⟨ok_ref31_Reached, List.forall_mem_cons.2 ⟨ok_graph_Parts, List.forall_mem_cons.2 ⟨ok_ref31_Parts, List.forall_mem_cons.2 ⟨ok_graph_Holders, List.forall_mem_cons.2 ⟨ok_ref31_Holders, List.forall_mem_cons.2 ⟨ok_ref31_SamePlaces, List.forall_mem_cons.2 ⟨ok_graph_Check, List.forall_mem_cons.2 ⟨ok_ref31_Check, List.forall_mem_cons.2 ⟨ok_ref31_Same, List.forall_mem_cons.2 ⟨ok_graph_Retained, List.forall_mem_cons.2 ⟨ok_ref31_Retained, List.forall_mem_cons.2 ⟨ok_graph_Way, List.forall_mem_cons.2 ⟨ok_ref31_Way, List.forall_mem_cons.2 ⟨ok_graph_Without, List.forall_mem_cons.2 ⟨ok_ref31_Without, List.forall_mem_cons.2 ⟨ok_law31_sumOf, List.forall_mem_cons.2 ⟨ok_law31_hasPlace, List.forall_mem_cons.2 ⟨ok_graph_reached, List.forall_mem_cons.2 ⟨ok_graph_net_walk, List.forall_mem_cons.2 ⟨ok_ref31_from, List.forall_mem_cons.2 ⟨ok_graph_tarjan_visit, List.forall_mem_cons.2 ⟨ok_ref31_has, List.forall_mem_cons.2 ⟨ok_graph_net_holders, List.forall_mem_cons.2 ⟨ok_ref31_held, List.forall_mem_cons.2 ⟨ok_graph_rises, List.forall_mem_cons.2 ⟨ok_ref31_places, List.forall_mem_cons.2 ⟨ok_graph_there, List.forall_mem_cons.2 ⟨ok_slices_ContainsFunc_int, List.forall_mem_cons.2 ⟨ok_graph_Way_1, List.forall_mem_cons.2 ⟨ok_slices_IndexFunc_int, List.forall_mem_cons.2 ⟨ok_graph_Way_2, List.forall_mem_cons.2 ⟨ok_graph_Way_3, List.forall_mem_cons.2 ⟨ok_ref31_far, List.forall_mem_cons.2 ⟨ok_ref31_put, List.forall_mem_cons.2 ⟨ok_graph_Without_1, List.forall_mem_cons.2 ⟨ok_ref31_without, List.forall_mem_cons.2 ⟨ok_slices_Repeat_int, List.forall_mem_cons.2 ⟨ok_graph_net_walk_1, List.forall_mem_cons.2 ⟨ok_graph_tarjan_enter, List.forall_mem_cons.2 ⟨ok_graph_tarjan_leave, List.forall_mem_cons.2 ⟨ok_graph_net_order, List.forall_mem_cons.2 ⟨ok_graph_net_holders_1, List.forall_mem_cons.2 ⟨ok_math_bits_Mul, List.forall_mem_cons.2 ⟨ok_slices_Index_int, List.forall_mem_cons.2 ⟨ok_slices_Min_int, List.forall_mem_cons.2 ⟨ok_slices_Reverse_int, List.forall_mem_cons.2 ⟨ok_math_bits_Mul32, List.forall_mem_cons.2 ⟨ok_math_bits_Mul64, fun _ h => nomatch h⟩⟩⟩⟩⟩⟩⟩⟩⟩⟩⟩⟩⟩⟩⟩⟩⟩⟩⟩⟩⟩⟩⟩⟩⟩⟩⟩⟩⟩⟩⟩⟩⟩⟩⟩⟩⟩⟩⟩⟩⟩⟩⟩⟩⟩⟩⟩⟩⟩⟩⟩⟩⟩⟩⟩⟩⟩
end Go.AM.G
