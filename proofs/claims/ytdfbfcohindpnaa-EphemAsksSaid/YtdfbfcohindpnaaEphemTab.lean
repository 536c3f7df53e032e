/- Part of the proof: contracts of functions of the given program on an abstract machine. -/
import Derived.Test.YtdfbfcohindpnaaEphemCode
import Derived.WalkKit
set_option linter.unusedVariables false
set_option linter.unusedSimpArgs false
set_option maxRecDepth 100000
set_option maxHeartbeats 0
namespace Go.AM.G
open Go Go.AM
theorem ok_gosem_cut_init : (Go.Proofs.Try.prog.funcs[2]?).bind (compFunc Go.Proofs.Try.prog) = some gosem_cut_init := by kernel_rfl
theorem ok_law10_EphemPuts : (Go.Proofs.Try.prog.funcs[3]?).bind (compFunc Go.Proofs.Try.prog) = some law10_EphemPuts := by kernel_rfl
theorem ok_law10_EphemAsks : (Go.Proofs.Try.prog.funcs[4]?).bind (compFunc Go.Proofs.Try.prog) = some law10_EphemAsks := by kernel_rfl
theorem ok_law10_EphemMap : (Go.Proofs.Try.prog.funcs[5]?).bind (compFunc Go.Proofs.Try.prog) = some law10_EphemMap := by kernel_rfl
theorem ok_law10_EphemFull : (Go.Proofs.Try.prog.funcs[6]?).bind (compFunc Go.Proofs.Try.prog) = some law10_EphemFull := by kernel_rfl
theorem ok_law10_EphemAll : (Go.Proofs.Try.prog.funcs[7]?).bind (compFunc Go.Proofs.Try.prog) = some law10_EphemAll := by kernel_rfl
theorem ok_law10_EphemOwn : (Go.Proofs.Try.prog.funcs[8]?).bind (compFunc Go.Proofs.Try.prog) = some law10_EphemOwn := by kernel_rfl
theorem ok_law10_EphemBack : (Go.Proofs.Try.prog.funcs[9]?).bind (compFunc Go.Proofs.Try.prog) = some law10_EphemBack := by kernel_rfl
theorem ok_ref10_Copy : (Go.Proofs.Try.prog.funcs[10]?).bind (compFunc Go.Proofs.Try.prog) = some ref10_Copy := by kernel_rfl
theorem ok_ephem_Put : (Go.Proofs.Try.prog.funcs[11]?).bind (compFunc Go.Proofs.Try.prog) = some ephem_Put := by kernel_rfl
theorem ok_ref10_Put : (Go.Proofs.Try.prog.funcs[12]?).bind (compFunc Go.Proofs.Try.prog) = some ref10_Put := by kernel_rfl
theorem ok_ephem_Del : (Go.Proofs.Try.prog.funcs[13]?).bind (compFunc Go.Proofs.Try.prog) = some ephem_Del := by kernel_rfl
theorem ok_ref10_Del : (Go.Proofs.Try.prog.funcs[14]?).bind (compFunc Go.Proofs.Try.prog) = some ref10_Del := by kernel_rfl
theorem ok_law10_lives : (Go.Proofs.Try.prog.funcs[15]?).bind (compFunc Go.Proofs.Try.prog) = some law10_lives := by kernel_rfl
theorem ok_ref10_Same : (Go.Proofs.Try.prog.funcs[16]?).bind (compFunc Go.Proofs.Try.prog) = some ref10_Same := by kernel_rfl
theorem ok_ephem_Get : (Go.Proofs.Try.prog.funcs[17]?).bind (compFunc Go.Proofs.Try.prog) = some ephem_Get := by kernel_rfl
theorem ok_ref10_Get : (Go.Proofs.Try.prog.funcs[18]?).bind (compFunc Go.Proofs.Try.prog) = some ref10_Get := by kernel_rfl
theorem ok_ephem_All : (Go.Proofs.Try.prog.funcs[19]?).bind (compFunc Go.Proofs.Try.prog) = some ephem_All := by kernel_rfl
theorem ok_ref10_All : (Go.Proofs.Try.prog.funcs[20]?).bind (compFunc Go.Proofs.Try.prog) = some ref10_All := by kernel_rfl
theorem ok_ephem_Home : (Go.Proofs.Try.prog.funcs[21]?).bind (compFunc Go.Proofs.Try.prog) = some ephem_Home := by kernel_rfl
theorem ok_ref10_Home : (Go.Proofs.Try.prog.funcs[22]?).bind (compFunc Go.Proofs.Try.prog) = some ref10_Home := by kernel_rfl
theorem ok_ref09_Same : (Go.Proofs.Try.prog.funcs[23]?).bind (compFunc Go.Proofs.Try.prog) = some ref09_Same := by kernel_rfl
theorem ok_ephem_Check : (Go.Proofs.Try.prog.funcs[24]?).bind (compFunc Go.Proofs.Try.prog) = some ephem_Check := by kernel_rfl
theorem ok_ref10_Check : (Go.Proofs.Try.prog.funcs[25]?).bind (compFunc Go.Proofs.Try.prog) = some ref10_Check := by kernel_rfl
theorem ok_ephem_Own : (Go.Proofs.Try.prog.funcs[26]?).bind (compFunc Go.Proofs.Try.prog) = some ephem_Own := by kernel_rfl
theorem ok_ephem_table_find : (Go.Proofs.Try.prog.funcs[27]?).bind (compFunc Go.Proofs.Try.prog) = some ephem_table_find := by kernel_rfl
theorem ok_ephem_table_many : (Go.Proofs.Try.prog.funcs[28]?).bind (compFunc Go.Proofs.Try.prog) = some ephem_table_many := by kernel_rfl
theorem ok_ephem_table_anew : (Go.Proofs.Try.prog.funcs[29]?).bind (compFunc Go.Proofs.Try.prog) = some ephem_table_anew := by kernel_rfl
theorem ok_ephem_table_lay : (Go.Proofs.Try.prog.funcs[30]?).bind (compFunc Go.Proofs.Try.prog) = some ephem_table_lay := by kernel_rfl
theorem ok_ref10_find : (Go.Proofs.Try.prog.funcs[31]?).bind (compFunc Go.Proofs.Try.prog) = some ref10_find := by kernel_rfl
theorem ok_ref10_lay : (Go.Proofs.Try.prog.funcs[32]?).bind (compFunc Go.Proofs.Try.prog) = some ref10_lay := by kernel_rfl
theorem ok_ref10_many : (Go.Proofs.Try.prog.funcs[33]?).bind (compFunc Go.Proofs.Try.prog) = some ref10_many := by kernel_rfl
theorem ok_slices_DeleteFunc_EphSlot : (Go.Proofs.Try.prog.funcs[34]?).bind (compFunc Go.Proofs.Try.prog) = some slices_DeleteFunc_EphSlot := by kernel_rfl
theorem ok_slices_Clone_EphSlot : (Go.Proofs.Try.prog.funcs[35]?).bind (compFunc Go.Proofs.Try.prog) = some slices_Clone_EphSlot := by kernel_rfl
theorem ok_ephem_All_1 : (Go.Proofs.Try.prog.funcs[36]?).bind (compFunc Go.Proofs.Try.prog) = some ephem_All_1 := by kernel_rfl
theorem ok_slices_SortFunc_EphSlot : (Go.Proofs.Try.prog.funcs[37]?).bind (compFunc Go.Proofs.Try.prog) = some slices_SortFunc_EphSlot := by kernel_rfl
theorem ok_ephem_All_2 : (Go.Proofs.Try.prog.funcs[38]?).bind (compFunc Go.Proofs.Try.prog) = some ephem_All_2 := by kernel_rfl
theorem ok_cmp_Compare_uint64 : (Go.Proofs.Try.prog.funcs[39]?).bind (compFunc Go.Proofs.Try.prog) = some cmp_Compare_uint64 := by kernel_rfl
theorem ok_ephem_sized : (Go.Proofs.Try.prog.funcs[40]?).bind (compFunc Go.Proofs.Try.prog) = some ephem_sized := by kernel_rfl
theorem ok_ephem_home : (Go.Proofs.Try.prog.funcs[41]?).bind (compFunc Go.Proofs.Try.prog) = some ephem_home := by kernel_rfl
theorem ok_slices_IndexFunc_EphSlot : (Go.Proofs.Try.prog.funcs[42]?).bind (compFunc Go.Proofs.Try.prog) = some slices_IndexFunc_EphSlot := by kernel_rfl
theorem ok_slices_pdqsortCmpFunc_EphSlot : (Go.Proofs.Try.prog.funcs[43]?).bind (compFunc Go.Proofs.Try.prog) = some slices_pdqsortCmpFunc_EphSlot := by kernel_rfl
theorem ok_math_bits_Len : (Go.Proofs.Try.prog.funcs[44]?).bind (compFunc Go.Proofs.Try.prog) = some math_bits_Len := by kernel_rfl
theorem ok_cmp_isNaN_uint64 : (Go.Proofs.Try.prog.funcs[45]?).bind (compFunc Go.Proofs.Try.prog) = some cmp_isNaN_uint64 := by kernel_rfl
theorem ok_slices_insertionSortCmpFunc_EphSlot : (Go.Proofs.Try.prog.funcs[46]?).bind (compFunc Go.Proofs.Try.prog) = some slices_insertionSortCmpFunc_EphSlot := by kernel_rfl
theorem ok_slices_heapSortCmpFunc_EphSlot : (Go.Proofs.Try.prog.funcs[47]?).bind (compFunc Go.Proofs.Try.prog) = some slices_heapSortCmpFunc_EphSlot := by kernel_rfl
theorem ok_slices_breakPatternsCmpFunc_EphSlot : (Go.Proofs.Try.prog.funcs[48]?).bind (compFunc Go.Proofs.Try.prog) = some slices_breakPatternsCmpFunc_EphSlot := by kernel_rfl
theorem ok_slices_choosePivotCmpFunc_EphSlot : (Go.Proofs.Try.prog.funcs[49]?).bind (compFunc Go.Proofs.Try.prog) = some slices_choosePivotCmpFunc_EphSlot := by kernel_rfl
theorem ok_slices_reverseRangeCmpFunc_EphSlot : (Go.Proofs.Try.prog.funcs[50]?).bind (compFunc Go.Proofs.Try.prog) = some slices_reverseRangeCmpFunc_EphSlot := by kernel_rfl
theorem ok_slices_partialInsertionSortCmpFunc_EphSlot : (Go.Proofs.Try.prog.funcs[51]?).bind (compFunc Go.Proofs.Try.prog) = some slices_partialInsertionSortCmpFunc_EphSlot := by kernel_rfl
theorem ok_slices_partitionEqualCmpFunc_EphSlot : (Go.Proofs.Try.prog.funcs[52]?).bind (compFunc Go.Proofs.Try.prog) = some slices_partitionEqualCmpFunc_EphSlot := by kernel_rfl
theorem ok_slices_partitionCmpFunc_EphSlot : (Go.Proofs.Try.prog.funcs[53]?).bind (compFunc Go.Proofs.Try.prog) = some slices_partitionCmpFunc_EphSlot := by kernel_rfl
theorem ok_slices_siftDownCmpFunc_EphSlot : (Go.Proofs.Try.prog.funcs[56]?).bind (compFunc Go.Proofs.Try.prog) = some slices_siftDownCmpFunc_EphSlot := by kernel_rfl
theorem ok_slices_nextPowerOfTwo : (Go.Proofs.Try.prog.funcs[57]?).bind (compFunc Go.Proofs.Try.prog) = some slices_nextPowerOfTwo := by kernel_rfl
theorem ok_slices_xorshift_Next : (Go.Proofs.Try.prog.funcs[58]?).bind (compFunc Go.Proofs.Try.prog) = some slices_xorshift_Next := by kernel_rfl
theorem ok_slices_medianAdjacentCmpFunc_EphSlot : (Go.Proofs.Try.prog.funcs[59]?).bind (compFunc Go.Proofs.Try.prog) = some slices_medianAdjacentCmpFunc_EphSlot := by kernel_rfl
theorem ok_slices_medianCmpFunc_EphSlot : (Go.Proofs.Try.prog.funcs[60]?).bind (compFunc Go.Proofs.Try.prog) = some slices_medianCmpFunc_EphSlot := by kernel_rfl
theorem ok_slices_order2CmpFunc_EphSlot : (Go.Proofs.Try.prog.funcs[61]?).bind (compFunc Go.Proofs.Try.prog) = some slices_order2CmpFunc_EphSlot := by kernel_rfl
theorem of_all {P : Program} {tab : List (Nat × AFunc)} (h : ∀ p ∈ tab, (P.funcs[p.1]?).bind (compFunc P) = some p.2) : TableOk P (fun f => tab.lookup f) := by
  intro f fn hf
  have hm : (f, fn) ∈ tab := by
    clear h
    induction tab with
    | nil => simp at hf
    | cons p tab ih =>
      simp only [List.lookup] at hf
      split at hf
      · rename_i e
        simp only [Option.some.injEq] at hf
        subst hf
        have := beq_iff_eq.1 e
        subst this
        simp
      · simp [ih hf]
  have := h _ hm
  simp only [Option.bind_eq_some_iff] at this
  obtain ⟨g, h1, h2⟩ := this
  exact ⟨g, h1, h2⟩
theorem tableOk : TableOk Go.Proofs.Try.prog (fun f => tab.lookup f) := by
  refine of_all ?_
  unfold tab
  refine List.forall_mem_cons.2 ⟨ok_gosem_cut_init, List.forall_mem_cons.2 ⟨ok_law10_EphemPuts, List.forall_mem_cons.2 ⟨ok_law10_EphemAsks, List.forall_mem_cons.2 ⟨ok_law10_EphemMap, List.forall_mem_cons.2 ⟨ok_law10_EphemFull, List.forall_mem_cons.2 ⟨ok_law10_EphemAll, List.forall_mem_cons.2 ⟨ok_law10_EphemOwn, List.forall_mem_cons.2 ⟨ok_law10_EphemBack, List.forall_mem_cons.2 ⟨ok_ref10_Copy, List.forall_mem_cons.2 ⟨ok_ephem_Put, List.forall_mem_cons.2 ⟨ok_ref10_Put, List.forall_mem_cons.2 ⟨ok_ephem_Del, List.forall_mem_cons.2 ⟨ok_ref10_Del, List.forall_mem_cons.2 ⟨ok_law10_lives, List.forall_mem_cons.2 ⟨ok_ref10_Same, List.forall_mem_cons.2 ⟨ok_ephem_Get, List.forall_mem_cons.2 ⟨ok_ref10_Get, List.forall_mem_cons.2 ⟨ok_ephem_All, List.forall_mem_cons.2 ⟨ok_ref10_All, List.forall_mem_cons.2 ⟨ok_ephem_Home, List.forall_mem_cons.2 ⟨ok_ref10_Home, List.forall_mem_cons.2 ⟨ok_ref09_Same, List.forall_mem_cons.2 ⟨ok_ephem_Check, List.forall_mem_cons.2 ⟨ok_ref10_Check, List.forall_mem_cons.2 ⟨ok_ephem_Own, List.forall_mem_cons.2 ⟨ok_ephem_table_find, List.forall_mem_cons.2 ⟨ok_ephem_table_many, List.forall_mem_cons.2 ⟨ok_ephem_table_anew, List.forall_mem_cons.2 ⟨ok_ephem_table_lay, List.forall_mem_cons.2 ⟨ok_ref10_find, List.forall_mem_cons.2 ⟨ok_ref10_lay, List.forall_mem_cons.2 ⟨ok_ref10_many, List.forall_mem_cons.2 ⟨ok_slices_DeleteFunc_EphSlot, List.forall_mem_cons.2 ⟨ok_slices_Clone_EphSlot, List.forall_mem_cons.2 ⟨ok_ephem_All_1, List.forall_mem_cons.2 ⟨ok_slices_SortFunc_EphSlot, List.forall_mem_cons.2 ⟨ok_ephem_All_2, List.forall_mem_cons.2 ⟨ok_cmp_Compare_uint64, List.forall_mem_cons.2 ⟨ok_ephem_sized, List.forall_mem_cons.2 ⟨ok_ephem_home, List.forall_mem_cons.2 ⟨ok_slices_IndexFunc_EphSlot, List.forall_mem_cons.2 ⟨ok_slices_pdqsortCmpFunc_EphSlot, List.forall_mem_cons.2 ⟨ok_math_bits_Len, List.forall_mem_cons.2 ⟨ok_cmp_isNaN_uint64, List.forall_mem_cons.2 ⟨ok_slices_insertionSortCmpFunc_EphSlot, List.forall_mem_cons.2 ⟨ok_slices_heapSortCmpFunc_EphSlot, List.forall_mem_cons.2 ⟨ok_slices_breakPatternsCmpFunc_EphSlot, List.forall_mem_cons.2 ⟨ok_slices_choosePivotCmpFunc_EphSlot, List.forall_mem_cons.2 ⟨ok_slices_reverseRangeCmpFunc_EphSlot, List.forall_mem_cons.2 ⟨ok_slices_partialInsertionSortCmpFunc_EphSlot, List.forall_mem_cons.2 ⟨ok_slices_partitionEqualCmpFunc_EphSlot, List.forall_mem_cons.2 ⟨ok_slices_partitionCmpFunc_EphSlot, List.forall_mem_cons.2 ⟨ok_slices_siftDownCmpFunc_EphSlot, List.forall_mem_cons.2 ⟨ok_slices_nextPowerOfTwo, List.forall_mem_cons.2 ⟨ok_slices_xorshift_Next, List.forall_mem_cons.2 ⟨ok_slices_medianAdjacentCmpFunc_EphSlot, List.forall_mem_cons.2 ⟨ok_slices_medianCmpFunc_EphSlot, List.forall_mem_cons.2 ⟨ok_slices_order2CmpFunc_EphSlot, fun _ h => nomatch h⟩⟩⟩⟩⟩⟩⟩⟩⟩⟩⟩⟩⟩⟩⟩⟩⟩⟩⟩⟩⟩⟩⟩⟩⟩⟩⟩⟩⟩⟩⟩⟩⟩⟩⟩⟩⟩⟩⟩⟩⟩⟩⟩⟩⟩⟩⟩⟩⟩⟩⟩⟩⟩⟩⟩⟩⟩⟩
end Go.AM.G
