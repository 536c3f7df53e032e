/- Part of the proof: contracts of functions of the given program on an abstract machine. -/
import Derived.Test.YtkimcedmfnoeoaaGreatDoorHpCode
import Derived.WalkKit
set_option linter.unusedVariables false
set_option linter.unusedSimpArgs false
set_option maxRecDepth 100000
set_option maxHeartbeats 0
namespace Go.AM.G
open Go Go.AM
theorem ok_gosem_cut_init : (Go.Proofs.Tryz.prog.funcs[2]?).bind (compFunc Go.Proofs.Tryz.prog) = some gosem_cut_init := by kernel_rfl
theorem ok_law11_ModelTells : (Go.Proofs.Tryz.prog.funcs[3]?).bind (compFunc Go.Proofs.Tryz.prog) = some law11_ModelTells := by kernel_rfl
theorem ok_law11_ModelAlike : (Go.Proofs.Tryz.prog.funcs[4]?).bind (compFunc Go.Proofs.Tryz.prog) = some law11_ModelAlike := by kernel_rfl
theorem ok_law11_ModelKept : (Go.Proofs.Tryz.prog.funcs[5]?).bind (compFunc Go.Proofs.Tryz.prog) = some law11_ModelKept := by kernel_rfl
theorem ok_law11_ModelNone : (Go.Proofs.Tryz.prog.funcs[6]?).bind (compFunc Go.Proofs.Tryz.prog) = some law11_ModelNone := by kernel_rfl
theorem ok_law11_ModelClosed : (Go.Proofs.Tryz.prog.funcs[7]?).bind (compFunc Go.Proofs.Tryz.prog) = some law11_ModelClosed := by kernel_rfl
theorem ok_law11_ModelLeast : (Go.Proofs.Tryz.prog.funcs[8]?).bind (compFunc Go.Proofs.Tryz.prog) = some law11_ModelLeast := by kernel_rfl
theorem ok_law11_ModelTable : (Go.Proofs.Tryz.prog.funcs[9]?).bind (compFunc Go.Proofs.Tryz.prog) = some law11_ModelTable := by kernel_rfl
theorem ok_model_Reach : (Go.Proofs.Tryz.prog.funcs[10]?).bind (compFunc Go.Proofs.Tryz.prog) = some model_Reach := by kernel_rfl
theorem ok_ref11_Reach : (Go.Proofs.Tryz.prog.funcs[11]?).bind (compFunc Go.Proofs.Tryz.prog) = some ref11_Reach := by kernel_rfl
theorem ok_model_Fate : (Go.Proofs.Tryz.prog.funcs[12]?).bind (compFunc Go.Proofs.Tryz.prog) = some model_Fate := by kernel_rfl
theorem ok_ref11_Fate : (Go.Proofs.Tryz.prog.funcs[13]?).bind (compFunc Go.Proofs.Tryz.prog) = some ref11_Fate := by kernel_rfl
theorem ok_law11_lives : (Go.Proofs.Tryz.prog.funcs[14]?).bind (compFunc Go.Proofs.Tryz.prog) = some law11_lives := by kernel_rfl
theorem ok_ref09_Same : (Go.Proofs.Tryz.prog.funcs[15]?).bind (compFunc Go.Proofs.Tryz.prog) = some ref09_Same := by kernel_rfl
theorem ok_ref11_Alike : (Go.Proofs.Tryz.prog.funcs[16]?).bind (compFunc Go.Proofs.Tryz.prog) = some ref11_Alike := by kernel_rfl
theorem ok_model_Alike : (Go.Proofs.Tryz.prog.funcs[17]?).bind (compFunc Go.Proofs.Tryz.prog) = some model_Alike := by kernel_rfl
theorem ok_ref11_Has : (Go.Proofs.Tryz.prog.funcs[18]?).bind (compFunc Go.Proofs.Tryz.prog) = some ref11_Has := by kernel_rfl
theorem ok_heap_At : (Go.Proofs.Tryz.prog.funcs[19]?).bind (compFunc Go.Proofs.Tryz.prog) = some heap_At := by kernel_rfl
theorem ok_heap_Load : (Go.Proofs.Tryz.prog.funcs[20]?).bind (compFunc Go.Proofs.Tryz.prog) = some heap_Load := by kernel_rfl
theorem ok_ephem_Put : (Go.Proofs.Tryz.prog.funcs[22]?).bind (compFunc Go.Proofs.Tryz.prog) = some ephem_Put := by kernel_rfl
theorem ok_ephem_Get : (Go.Proofs.Tryz.prog.funcs[23]?).bind (compFunc Go.Proofs.Tryz.prog) = some ephem_Get := by kernel_rfl
theorem ok_model_open : (Go.Proofs.Tryz.prog.funcs[24]?).bind (compFunc Go.Proofs.Tryz.prog) = some model_open := by kernel_rfl
theorem ok_model_graph_dead : (Go.Proofs.Tryz.prog.funcs[25]?).bind (compFunc Go.Proofs.Tryz.prog) = some model_graph_dead := by kernel_rfl
theorem ok_model_graph_reach : (Go.Proofs.Tryz.prog.funcs[26]?).bind (compFunc Go.Proofs.Tryz.prog) = some model_graph_reach := by kernel_rfl
theorem ok_ref07_Objects : (Go.Proofs.Tryz.prog.funcs[27]?).bind (compFunc Go.Proofs.Tryz.prog) = some ref07_Objects := by kernel_rfl
theorem ok_ref10_Check : (Go.Proofs.Tryz.prog.funcs[28]?).bind (compFunc Go.Proofs.Tryz.prog) = some ref10_Check := by kernel_rfl
theorem ok_ref11_put : (Go.Proofs.Tryz.prog.funcs[29]?).bind (compFunc Go.Proofs.Tryz.prog) = some ref11_put := by kernel_rfl
theorem ok_ref11_wider : (Go.Proofs.Tryz.prog.funcs[30]?).bind (compFunc Go.Proofs.Tryz.prog) = some ref11_wider := by kernel_rfl
theorem ok_special_Check : (Go.Proofs.Tryz.prog.funcs[31]?).bind (compFunc Go.Proofs.Tryz.prog) = some special_Check := by kernel_rfl
theorem ok_slices_ContainsFunc_Special : (Go.Proofs.Tryz.prog.funcs[32]?).bind (compFunc Go.Proofs.Tryz.prog) = some slices_ContainsFunc_Special := by kernel_rfl
theorem ok_model_Fate_1 : (Go.Proofs.Tryz.prog.funcs[33]?).bind (compFunc Go.Proofs.Tryz.prog) = some model_Fate_1 := by kernel_rfl
theorem ok_model_graph_sound : (Go.Proofs.Tryz.prog.funcs[34]?).bind (compFunc Go.Proofs.Tryz.prog) = some model_graph_sound := by kernel_rfl
theorem ok_model_some : (Go.Proofs.Tryz.prog.funcs[35]?).bind (compFunc Go.Proofs.Tryz.prog) = some model_some := by kernel_rfl
theorem ok_slices_Clone_uint64 : (Go.Proofs.Tryz.prog.funcs[36]?).bind (compFunc Go.Proofs.Tryz.prog) = some slices_Clone_uint64 := by kernel_rfl
theorem ok_ref08_Check : (Go.Proofs.Tryz.prog.funcs[37]?).bind (compFunc Go.Proofs.Tryz.prog) = some ref08_Check := by kernel_rfl
theorem ok_heap_Make : (Go.Proofs.Tryz.prog.funcs[38]?).bind (compFunc Go.Proofs.Tryz.prog) = some heap_Make := by kernel_rfl
theorem ok_heap_New : (Go.Proofs.Tryz.prog.funcs[39]?).bind (compFunc Go.Proofs.Tryz.prog) = some heap_New := by kernel_rfl
theorem ok_heap_Store : (Go.Proofs.Tryz.prog.funcs[40]?).bind (compFunc Go.Proofs.Tryz.prog) = some heap_Store := by kernel_rfl
theorem ok_ref08_Same : (Go.Proofs.Tryz.prog.funcs[41]?).bind (compFunc Go.Proofs.Tryz.prog) = some ref08_Same := by kernel_rfl
theorem ok_slices_Equal_uint64 : (Go.Proofs.Tryz.prog.funcs[42]?).bind (compFunc Go.Proofs.Tryz.prog) = some slices_Equal_uint64 := by kernel_rfl
theorem ok_slices_Equal_Special : (Go.Proofs.Tryz.prog.funcs[43]?).bind (compFunc Go.Proofs.Tryz.prog) = some slices_Equal_Special := by kernel_rfl
theorem ok_heap_open : (Go.Proofs.Tryz.prog.funcs[44]?).bind (compFunc Go.Proofs.Tryz.prog) = some heap_open := by kernel_rfl
theorem ok_heap_store_lead : (Go.Proofs.Tryz.prog.funcs[45]?).bind (compFunc Go.Proofs.Tryz.prog) = some heap_store_lead := by kernel_rfl
theorem ok_heap_store_field : (Go.Proofs.Tryz.prog.funcs[46]?).bind (compFunc Go.Proofs.Tryz.prog) = some heap_store_field := by kernel_rfl
theorem ok_heap_store_currents : (Go.Proofs.Tryz.prog.funcs[47]?).bind (compFunc Go.Proofs.Tryz.prog) = some heap_store_currents := by kernel_rfl
theorem ok_ephem_Check : (Go.Proofs.Tryz.prog.funcs[48]?).bind (compFunc Go.Proofs.Tryz.prog) = some ephem_Check := by kernel_rfl
theorem ok_ephem_Own : (Go.Proofs.Tryz.prog.funcs[49]?).bind (compFunc Go.Proofs.Tryz.prog) = some ephem_Own := by kernel_rfl
theorem ok_ephem_table_find : (Go.Proofs.Tryz.prog.funcs[50]?).bind (compFunc Go.Proofs.Tryz.prog) = some ephem_table_find := by kernel_rfl
theorem ok_ephem_table_many : (Go.Proofs.Tryz.prog.funcs[51]?).bind (compFunc Go.Proofs.Tryz.prog) = some ephem_table_many := by kernel_rfl
theorem ok_ephem_table_anew : (Go.Proofs.Tryz.prog.funcs[52]?).bind (compFunc Go.Proofs.Tryz.prog) = some ephem_table_anew := by kernel_rfl
theorem ok_ephem_table_lay : (Go.Proofs.Tryz.prog.funcs[53]?).bind (compFunc Go.Proofs.Tryz.prog) = some ephem_table_lay := by kernel_rfl
theorem ok_ephem_All : (Go.Proofs.Tryz.prog.funcs[54]?).bind (compFunc Go.Proofs.Tryz.prog) = some ephem_All := by kernel_rfl
theorem ok_slices_Concat_uint64 : (Go.Proofs.Tryz.prog.funcs[55]?).bind (compFunc Go.Proofs.Tryz.prog) = some slices_Concat_uint64 := by kernel_rfl
theorem ok_model_graph_reach_1 : (Go.Proofs.Tryz.prog.funcs[56]?).bind (compFunc Go.Proofs.Tryz.prog) = some model_graph_reach_1 := by kernel_rfl
theorem ok_heap_Refs : (Go.Proofs.Tryz.prog.funcs[57]?).bind (compFunc Go.Proofs.Tryz.prog) = some heap_Refs := by kernel_rfl
theorem ok_slices_Sort_uint64 : (Go.Proofs.Tryz.prog.funcs[58]?).bind (compFunc Go.Proofs.Tryz.prog) = some slices_Sort_uint64 := by kernel_rfl
theorem ok_ref07_Check : (Go.Proofs.Tryz.prog.funcs[59]?).bind (compFunc Go.Proofs.Tryz.prog) = some ref07_Check := by kernel_rfl
theorem ok_ref07_all : (Go.Proofs.Tryz.prog.funcs[60]?).bind (compFunc Go.Proofs.Tryz.prog) = some ref07_all := by kernel_rfl
theorem ok_ref10_Home : (Go.Proofs.Tryz.prog.funcs[61]?).bind (compFunc Go.Proofs.Tryz.prog) = some ref10_Home := by kernel_rfl
theorem ok_ref10_many : (Go.Proofs.Tryz.prog.funcs[62]?).bind (compFunc Go.Proofs.Tryz.prog) = some ref10_many := by kernel_rfl
theorem ok_ref10_find : (Go.Proofs.Tryz.prog.funcs[63]?).bind (compFunc Go.Proofs.Tryz.prog) = some ref10_find := by kernel_rfl
theorem ok_ref07_All : (Go.Proofs.Tryz.prog.funcs[64]?).bind (compFunc Go.Proofs.Tryz.prog) = some ref07_All := by kernel_rfl
theorem ok_ref11_refs : (Go.Proofs.Tryz.prog.funcs[65]?).bind (compFunc Go.Proofs.Tryz.prog) = some ref11_refs := by kernel_rfl
theorem ok_slices_IsSortedFunc_Special : (Go.Proofs.Tryz.prog.funcs[66]?).bind (compFunc Go.Proofs.Tryz.prog) = some slices_IsSortedFunc_Special := by kernel_rfl
theorem ok_special_Check_1 : (Go.Proofs.Tryz.prog.funcs[67]?).bind (compFunc Go.Proofs.Tryz.prog) = some special_Check_1 := by kernel_rfl
theorem ok_cmp_Compare_uint64 : (Go.Proofs.Tryz.prog.funcs[68]?).bind (compFunc Go.Proofs.Tryz.prog) = some cmp_Compare_uint64 := by kernel_rfl
theorem ok_special_one : (Go.Proofs.Tryz.prog.funcs[69]?).bind (compFunc Go.Proofs.Tryz.prog) = some special_one := by kernel_rfl
theorem ok_special_final : (Go.Proofs.Tryz.prog.funcs[70]?).bind (compFunc Go.Proofs.Tryz.prog) = some special_final := by kernel_rfl
theorem ok_slices_IndexFunc_Special : (Go.Proofs.Tryz.prog.funcs[71]?).bind (compFunc Go.Proofs.Tryz.prog) = some slices_IndexFunc_Special := by kernel_rfl
theorem ok_model_has_uint64 : (Go.Proofs.Tryz.prog.funcs[72]?).bind (compFunc Go.Proofs.Tryz.prog) = some model_has_uint64 := by kernel_rfl
theorem ok_slices_DeleteFunc_Special : (Go.Proofs.Tryz.prog.funcs[73]?).bind (compFunc Go.Proofs.Tryz.prog) = some slices_DeleteFunc_Special := by kernel_rfl
theorem ok_slices_Clone_Special : (Go.Proofs.Tryz.prog.funcs[74]?).bind (compFunc Go.Proofs.Tryz.prog) = some slices_Clone_Special := by kernel_rfl
theorem ok_model_some_1 : (Go.Proofs.Tryz.prog.funcs[75]?).bind (compFunc Go.Proofs.Tryz.prog) = some model_some_1 := by kernel_rfl
theorem ok_ref08_one : (Go.Proofs.Tryz.prog.funcs[76]?).bind (compFunc Go.Proofs.Tryz.prog) = some ref08_one := by kernel_rfl
theorem ok_arena_Make : (Go.Proofs.Tryz.prog.funcs[77]?).bind (compFunc Go.Proofs.Tryz.prog) = some arena_Make := by kernel_rfl
theorem ok_pages_Make : (Go.Proofs.Tryz.prog.funcs[78]?).bind (compFunc Go.Proofs.Tryz.prog) = some pages_Make := by kernel_rfl
theorem ok_pages_Take : (Go.Proofs.Tryz.prog.funcs[79]?).bind (compFunc Go.Proofs.Tryz.prog) = some pages_Take := by kernel_rfl
theorem ok_heap_mine : (Go.Proofs.Tryz.prog.funcs[80]?).bind (compFunc Go.Proofs.Tryz.prog) = some heap_mine := by kernel_rfl
theorem ok_head_Check : (Go.Proofs.Tryz.prog.funcs[81]?).bind (compFunc Go.Proofs.Tryz.prog) = some head_Check := by kernel_rfl
theorem ok_heap_sizes : (Go.Proofs.Tryz.prog.funcs[82]?).bind (compFunc Go.Proofs.Tryz.prog) = some heap_sizes := by kernel_rfl
theorem ok_span_Room : (Go.Proofs.Tryz.prog.funcs[83]?).bind (compFunc Go.Proofs.Tryz.prog) = some span_Room := by kernel_rfl
theorem ok_heap_store_grow : (Go.Proofs.Tryz.prog.funcs[84]?).bind (compFunc Go.Proofs.Tryz.prog) = some heap_store_grow := by kernel_rfl
theorem ok_heap_store_put : (Go.Proofs.Tryz.prog.funcs[85]?).bind (compFunc Go.Proofs.Tryz.prog) = some heap_store_put := by kernel_rfl
theorem ok_heap_store_framed : (Go.Proofs.Tryz.prog.funcs[86]?).bind (compFunc Go.Proofs.Tryz.prog) = some heap_store_framed := by kernel_rfl
theorem ok_heap_store_look : (Go.Proofs.Tryz.prog.funcs[87]?).bind (compFunc Go.Proofs.Tryz.prog) = some heap_store_look := by kernel_rfl
theorem ok_heap_store_sound : (Go.Proofs.Tryz.prog.funcs[88]?).bind (compFunc Go.Proofs.Tryz.prog) = some heap_store_sound := by kernel_rfl
theorem ok_heap_store_find : (Go.Proofs.Tryz.prog.funcs[89]?).bind (compFunc Go.Proofs.Tryz.prog) = some heap_store_find := by kernel_rfl
theorem ok_head_Ref : (Go.Proofs.Tryz.prog.funcs[90]?).bind (compFunc Go.Proofs.Tryz.prog) = some head_Ref := by kernel_rfl
theorem ok_heap_store_currents_1 : (Go.Proofs.Tryz.prog.funcs[91]?).bind (compFunc Go.Proofs.Tryz.prog) = some heap_store_currents_1 := by kernel_rfl
theorem ok_ephem_sized : (Go.Proofs.Tryz.prog.funcs[92]?).bind (compFunc Go.Proofs.Tryz.prog) = some ephem_sized := by kernel_rfl
theorem ok_slices_Clone_EphSlot : (Go.Proofs.Tryz.prog.funcs[93]?).bind (compFunc Go.Proofs.Tryz.prog) = some slices_Clone_EphSlot := by kernel_rfl
theorem ok_ephem_home : (Go.Proofs.Tryz.prog.funcs[94]?).bind (compFunc Go.Proofs.Tryz.prog) = some ephem_home := by kernel_rfl
theorem ok_slices_DeleteFunc_EphSlot : (Go.Proofs.Tryz.prog.funcs[95]?).bind (compFunc Go.Proofs.Tryz.prog) = some slices_DeleteFunc_EphSlot := by kernel_rfl
theorem ok_ephem_All_1 : (Go.Proofs.Tryz.prog.funcs[96]?).bind (compFunc Go.Proofs.Tryz.prog) = some ephem_All_1 := by kernel_rfl
theorem ok_slices_SortFunc_EphSlot : (Go.Proofs.Tryz.prog.funcs[97]?).bind (compFunc Go.Proofs.Tryz.prog) = some slices_SortFunc_EphSlot := by kernel_rfl
theorem ok_ephem_All_2 : (Go.Proofs.Tryz.prog.funcs[98]?).bind (compFunc Go.Proofs.Tryz.prog) = some ephem_All_2 := by kernel_rfl
theorem ok_slices_Grow_uint64 : (Go.Proofs.Tryz.prog.funcs[99]?).bind (compFunc Go.Proofs.Tryz.prog) = some slices_Grow_uint64 := by kernel_rfl
theorem ok_head_Unpack : (Go.Proofs.Tryz.prog.funcs[100]?).bind (compFunc Go.Proofs.Tryz.prog) = some head_Unpack := by kernel_rfl
theorem ok_heap_store_refs : (Go.Proofs.Tryz.prog.funcs[101]?).bind (compFunc Go.Proofs.Tryz.prog) = some heap_store_refs := by kernel_rfl
theorem ok_heap_Refs_1 : (Go.Proofs.Tryz.prog.funcs[102]?).bind (compFunc Go.Proofs.Tryz.prog) = some heap_Refs_1 := by kernel_rfl
theorem ok_slices_pdqsortOrdered_uint64 : (Go.Proofs.Tryz.prog.funcs[103]?).bind (compFunc Go.Proofs.Tryz.prog) = some slices_pdqsortOrdered_uint64 := by kernel_rfl
theorem ok_math_bits_Len : (Go.Proofs.Tryz.prog.funcs[104]?).bind (compFunc Go.Proofs.Tryz.prog) = some math_bits_Len := by kernel_rfl
theorem ok_ref07_framed : (Go.Proofs.Tryz.prog.funcs[105]?).bind (compFunc Go.Proofs.Tryz.prog) = some ref07_framed := by kernel_rfl
theorem ok_ref06_Is : (Go.Proofs.Tryz.prog.funcs[106]?).bind (compFunc Go.Proofs.Tryz.prog) = some ref06_Is := by kernel_rfl
theorem ok_ref07_find : (Go.Proofs.Tryz.prog.funcs[107]?).bind (compFunc Go.Proofs.Tryz.prog) = some ref07_find := by kernel_rfl
theorem ok_ref01_Is : (Go.Proofs.Tryz.prog.funcs[108]?).bind (compFunc Go.Proofs.Tryz.prog) = some ref01_Is := by kernel_rfl
theorem ok_ref05_At : (Go.Proofs.Tryz.prog.funcs[109]?).bind (compFunc Go.Proofs.Tryz.prog) = some ref05_At := by kernel_rfl
theorem ok_ref06_Unpack : (Go.Proofs.Tryz.prog.funcs[110]?).bind (compFunc Go.Proofs.Tryz.prog) = some ref06_Unpack := by kernel_rfl
theorem ok_ref07_fits : (Go.Proofs.Tryz.prog.funcs[111]?).bind (compFunc Go.Proofs.Tryz.prog) = some ref07_fits := by kernel_rfl
theorem ok_ref07_Lead : (Go.Proofs.Tryz.prog.funcs[112]?).bind (compFunc Go.Proofs.Tryz.prog) = some ref07_Lead := by kernel_rfl
theorem ok_cmp_isNaN_uint64 : (Go.Proofs.Tryz.prog.funcs[113]?).bind (compFunc Go.Proofs.Tryz.prog) = some cmp_isNaN_uint64 := by kernel_rfl
theorem ok_special_final_1 : (Go.Proofs.Tryz.prog.funcs[114]?).bind (compFunc Go.Proofs.Tryz.prog) = some special_final_1 := by kernel_rfl
theorem ok_slices_BinarySearch_uint64 : (Go.Proofs.Tryz.prog.funcs[115]?).bind (compFunc Go.Proofs.Tryz.prog) = some slices_BinarySearch_uint64 := by kernel_rfl
theorem ok_bits_Make : (Go.Proofs.Tryz.prog.funcs[116]?).bind (compFunc Go.Proofs.Tryz.prog) = some bits_Make := by kernel_rfl
theorem ok_pages_Check : (Go.Proofs.Tryz.prog.funcs[117]?).bind (compFunc Go.Proofs.Tryz.prog) = some pages_Check := by kernel_rfl
theorem ok_pages_Own : (Go.Proofs.Tryz.prog.funcs[118]?).bind (compFunc Go.Proofs.Tryz.prog) = some pages_Own := by kernel_rfl
theorem ok_bits_Run : (Go.Proofs.Tryz.prog.funcs[119]?).bind (compFunc Go.Proofs.Tryz.prog) = some bits_Run := by kernel_rfl
theorem ok_pages_book_set : (Go.Proofs.Tryz.prog.funcs[120]?).bind (compFunc Go.Proofs.Tryz.prog) = some pages_book_set := by kernel_rfl
theorem ok_heap_Own : (Go.Proofs.Tryz.prog.funcs[121]?).bind (compFunc Go.Proofs.Tryz.prog) = some heap_Own := by kernel_rfl
theorem ok_math_bits_Len64 : (Go.Proofs.Tryz.prog.funcs[122]?).bind (compFunc Go.Proofs.Tryz.prog) = some math_bits_Len64 := by kernel_rfl
theorem ok_class_Of : (Go.Proofs.Tryz.prog.funcs[123]?).bind (compFunc Go.Proofs.Tryz.prog) = some class_Of := by kernel_rfl
theorem ok_class_Size : (Go.Proofs.Tryz.prog.funcs[124]?).bind (compFunc Go.Proofs.Tryz.prog) = some class_Size := by kernel_rfl
theorem ok_class_Pages : (Go.Proofs.Tryz.prog.funcs[125]?).bind (compFunc Go.Proofs.Tryz.prog) = some class_Pages := by kernel_rfl
theorem ok_span_Check : (Go.Proofs.Tryz.prog.funcs[126]?).bind (compFunc Go.Proofs.Tryz.prog) = some span_Check := by kernel_rfl
theorem ok_bits_First : (Go.Proofs.Tryz.prog.funcs[127]?).bind (compFunc Go.Proofs.Tryz.prog) = some bits_First := by kernel_rfl
theorem ok_span_Make : (Go.Proofs.Tryz.prog.funcs[128]?).bind (compFunc Go.Proofs.Tryz.prog) = some span_Make := by kernel_rfl
theorem ok_span_Add : (Go.Proofs.Tryz.prog.funcs[129]?).bind (compFunc Go.Proofs.Tryz.prog) = some span_Add := by kernel_rfl
theorem ok_slices_IndexFunc_Span : (Go.Proofs.Tryz.prog.funcs[130]?).bind (compFunc Go.Proofs.Tryz.prog) = some slices_IndexFunc_Span := by kernel_rfl
theorem ok_heap_store_grow_1 : (Go.Proofs.Tryz.prog.funcs[131]?).bind (compFunc Go.Proofs.Tryz.prog) = some heap_store_grow_1 := by kernel_rfl
theorem ok_bits_Put : (Go.Proofs.Tryz.prog.funcs[132]?).bind (compFunc Go.Proofs.Tryz.prog) = some bits_Put := by kernel_rfl
theorem ok_span_Base : (Go.Proofs.Tryz.prog.funcs[133]?).bind (compFunc Go.Proofs.Tryz.prog) = some span_Base := by kernel_rfl
theorem ok_head_Pack : (Go.Proofs.Tryz.prog.funcs[134]?).bind (compFunc Go.Proofs.Tryz.prog) = some head_Pack := by kernel_rfl
theorem ok_arena_Check : (Go.Proofs.Tryz.prog.funcs[135]?).bind (compFunc Go.Proofs.Tryz.prog) = some arena_Check := by kernel_rfl
theorem ok_bits_Fill : (Go.Proofs.Tryz.prog.funcs[136]?).bind (compFunc Go.Proofs.Tryz.prog) = some bits_Fill := by kernel_rfl
theorem ok_bits_Is : (Go.Proofs.Tryz.prog.funcs[137]?).bind (compFunc Go.Proofs.Tryz.prog) = some bits_Is := by kernel_rfl
theorem ok_heap_store_sound_1 : (Go.Proofs.Tryz.prog.funcs[138]?).bind (compFunc Go.Proofs.Tryz.prog) = some heap_store_sound_1 := by kernel_rfl
theorem ok_slices_ContainsFunc_uint64 : (Go.Proofs.Tryz.prog.funcs[139]?).bind (compFunc Go.Proofs.Tryz.prog) = some slices_ContainsFunc_uint64 := by kernel_rfl
theorem ok_heap_store_sound_1_1 : (Go.Proofs.Tryz.prog.funcs[140]?).bind (compFunc Go.Proofs.Tryz.prog) = some heap_store_sound_1_1 := by kernel_rfl
theorem ok_heap_store_leads : (Go.Proofs.Tryz.prog.funcs[141]?).bind (compFunc Go.Proofs.Tryz.prog) = some heap_store_leads := by kernel_rfl
theorem ok_slices_BinarySearchFunc_uint64 : (Go.Proofs.Tryz.prog.funcs[142]?).bind (compFunc Go.Proofs.Tryz.prog) = some slices_BinarySearchFunc_uint64 := by kernel_rfl
theorem ok_heap_store_find_1 : (Go.Proofs.Tryz.prog.funcs[143]?).bind (compFunc Go.Proofs.Tryz.prog) = some heap_store_find_1 := by kernel_rfl
theorem ok_head_Refs : (Go.Proofs.Tryz.prog.funcs[144]?).bind (compFunc Go.Proofs.Tryz.prog) = some head_Refs := by kernel_rfl
theorem ok_slices_IndexFunc_EphSlot : (Go.Proofs.Tryz.prog.funcs[145]?).bind (compFunc Go.Proofs.Tryz.prog) = some slices_IndexFunc_EphSlot := by kernel_rfl
theorem ok_slices_pdqsortCmpFunc_EphSlot : (Go.Proofs.Tryz.prog.funcs[146]?).bind (compFunc Go.Proofs.Tryz.prog) = some slices_pdqsortCmpFunc_EphSlot := by kernel_rfl
theorem ok_head_Is : (Go.Proofs.Tryz.prog.funcs[147]?).bind (compFunc Go.Proofs.Tryz.prog) = some head_Is := by kernel_rfl
theorem ok_slices_insertionSortOrdered_uint64 : (Go.Proofs.Tryz.prog.funcs[148]?).bind (compFunc Go.Proofs.Tryz.prog) = some slices_insertionSortOrdered_uint64 := by kernel_rfl
theorem ok_slices_heapSortOrdered_uint64 : (Go.Proofs.Tryz.prog.funcs[149]?).bind (compFunc Go.Proofs.Tryz.prog) = some slices_heapSortOrdered_uint64 := by kernel_rfl
theorem ok_slices_breakPatternsOrdered_uint64 : (Go.Proofs.Tryz.prog.funcs[150]?).bind (compFunc Go.Proofs.Tryz.prog) = some slices_breakPatternsOrdered_uint64 := by kernel_rfl
theorem ok_slices_choosePivotOrdered_uint64 : (Go.Proofs.Tryz.prog.funcs[151]?).bind (compFunc Go.Proofs.Tryz.prog) = some slices_choosePivotOrdered_uint64 := by kernel_rfl
theorem ok_slices_reverseRangeOrdered_uint64 : (Go.Proofs.Tryz.prog.funcs[152]?).bind (compFunc Go.Proofs.Tryz.prog) = some slices_reverseRangeOrdered_uint64 := by kernel_rfl
theorem ok_slices_partialInsertionSortOrdered_uint64 : (Go.Proofs.Tryz.prog.funcs[153]?).bind (compFunc Go.Proofs.Tryz.prog) = some slices_partialInsertionSortOrdered_uint64 := by kernel_rfl
theorem ok_cmp_Less_uint64 : (Go.Proofs.Tryz.prog.funcs[154]?).bind (compFunc Go.Proofs.Tryz.prog) = some cmp_Less_uint64 := by kernel_rfl
theorem ok_slices_partitionEqualOrdered_uint64 : (Go.Proofs.Tryz.prog.funcs[155]?).bind (compFunc Go.Proofs.Tryz.prog) = some slices_partitionEqualOrdered_uint64 := by kernel_rfl
theorem ok_slices_partitionOrdered_uint64 : (Go.Proofs.Tryz.prog.funcs[156]?).bind (compFunc Go.Proofs.Tryz.prog) = some slices_partitionOrdered_uint64 := by kernel_rfl
theorem ok_math_bits_Len32 : (Go.Proofs.Tryz.prog.funcs[157]?).bind (compFunc Go.Proofs.Tryz.prog) = some math_bits_Len32 := by kernel_rfl
theorem ok_ref02_Check : (Go.Proofs.Tryz.prog.funcs[158]?).bind (compFunc Go.Proofs.Tryz.prog) = some ref02_Check := by kernel_rfl
theorem ok_ref03_Check : (Go.Proofs.Tryz.prog.funcs[159]?).bind (compFunc Go.Proofs.Tryz.prog) = some ref03_Check := by kernel_rfl
theorem ok_ref05_Check : (Go.Proofs.Tryz.prog.funcs[160]?).bind (compFunc Go.Proofs.Tryz.prog) = some ref05_Check := by kernel_rfl
theorem ok_ref06_Pack : (Go.Proofs.Tryz.prog.funcs[161]?).bind (compFunc Go.Proofs.Tryz.prog) = some ref06_Pack := by kernel_rfl
theorem ok_ref04_Of : (Go.Proofs.Tryz.prog.funcs[162]?).bind (compFunc Go.Proofs.Tryz.prog) = some ref04_Of := by kernel_rfl
theorem ok_ref04_Pages : (Go.Proofs.Tryz.prog.funcs[163]?).bind (compFunc Go.Proofs.Tryz.prog) = some ref04_Pages := by kernel_rfl
theorem ok_ref04_Size : (Go.Proofs.Tryz.prog.funcs[164]?).bind (compFunc Go.Proofs.Tryz.prog) = some ref04_Size := by kernel_rfl
theorem ok_slices_isNaN_uint64 : (Go.Proofs.Tryz.prog.funcs[165]?).bind (compFunc Go.Proofs.Tryz.prog) = some slices_isNaN_uint64 := by kernel_rfl
theorem ok_bits_Check : (Go.Proofs.Tryz.prog.funcs[166]?).bind (compFunc Go.Proofs.Tryz.prog) = some bits_Check := by kernel_rfl
theorem ok_bits_Own : (Go.Proofs.Tryz.prog.funcs[167]?).bind (compFunc Go.Proofs.Tryz.prog) = some bits_Own := by kernel_rfl
theorem ok_bits_list_first : (Go.Proofs.Tryz.prog.funcs[168]?).bind (compFunc Go.Proofs.Tryz.prog) = some bits_list_first := by kernel_rfl
theorem ok_arena_Own : (Go.Proofs.Tryz.prog.funcs[169]?).bind (compFunc Go.Proofs.Tryz.prog) = some arena_Own := by kernel_rfl
theorem ok_span_Own : (Go.Proofs.Tryz.prog.funcs[170]?).bind (compFunc Go.Proofs.Tryz.prog) = some span_Own := by kernel_rfl
theorem ok_span_right : (Go.Proofs.Tryz.prog.funcs[171]?).bind (compFunc Go.Proofs.Tryz.prog) = some span_right := by kernel_rfl
theorem ok_span_end : (Go.Proofs.Tryz.prog.funcs[172]?).bind (compFunc Go.Proofs.Tryz.prog) = some span_end := by kernel_rfl
theorem ok_span_shaped : (Go.Proofs.Tryz.prog.funcs[173]?).bind (compFunc Go.Proofs.Tryz.prog) = some span_shaped := by kernel_rfl
theorem ok_span_slots : (Go.Proofs.Tryz.prog.funcs[174]?).bind (compFunc Go.Proofs.Tryz.prog) = some span_slots := by kernel_rfl
theorem ok_slices_BinarySearchFunc_int : (Go.Proofs.Tryz.prog.funcs[175]?).bind (compFunc Go.Proofs.Tryz.prog) = some slices_BinarySearchFunc_int := by kernel_rfl
theorem ok_span_Add_1 : (Go.Proofs.Tryz.prog.funcs[176]?).bind (compFunc Go.Proofs.Tryz.prog) = some span_Add_1 := by kernel_rfl
theorem ok_cmp_Compare_int : (Go.Proofs.Tryz.prog.funcs[177]?).bind (compFunc Go.Proofs.Tryz.prog) = some cmp_Compare_int := by kernel_rfl
theorem ok_slices_Insert_Span : (Go.Proofs.Tryz.prog.funcs[178]?).bind (compFunc Go.Proofs.Tryz.prog) = some slices_Insert_Span := by kernel_rfl
theorem ok_span_One : (Go.Proofs.Tryz.prog.funcs[179]?).bind (compFunc Go.Proofs.Tryz.prog) = some span_One := by kernel_rfl
theorem ok_bits_list_put : (Go.Proofs.Tryz.prog.funcs[180]?).bind (compFunc Go.Proofs.Tryz.prog) = some bits_list_put := by kernel_rfl
theorem ok_slices_IndexFunc_uint64 : (Go.Proofs.Tryz.prog.funcs[181]?).bind (compFunc Go.Proofs.Tryz.prog) = some slices_IndexFunc_uint64 := by kernel_rfl
theorem ok_slices_insertionSortCmpFunc_EphSlot : (Go.Proofs.Tryz.prog.funcs[182]?).bind (compFunc Go.Proofs.Tryz.prog) = some slices_insertionSortCmpFunc_EphSlot := by kernel_rfl
theorem ok_slices_heapSortCmpFunc_EphSlot : (Go.Proofs.Tryz.prog.funcs[183]?).bind (compFunc Go.Proofs.Tryz.prog) = some slices_heapSortCmpFunc_EphSlot := by kernel_rfl
theorem ok_slices_breakPatternsCmpFunc_EphSlot : (Go.Proofs.Tryz.prog.funcs[184]?).bind (compFunc Go.Proofs.Tryz.prog) = some slices_breakPatternsCmpFunc_EphSlot := by kernel_rfl
theorem ok_slices_choosePivotCmpFunc_EphSlot : (Go.Proofs.Tryz.prog.funcs[185]?).bind (compFunc Go.Proofs.Tryz.prog) = some slices_choosePivotCmpFunc_EphSlot := by kernel_rfl
theorem ok_slices_reverseRangeCmpFunc_EphSlot : (Go.Proofs.Tryz.prog.funcs[186]?).bind (compFunc Go.Proofs.Tryz.prog) = some slices_reverseRangeCmpFunc_EphSlot := by kernel_rfl
theorem ok_slices_partialInsertionSortCmpFunc_EphSlot : (Go.Proofs.Tryz.prog.funcs[187]?).bind (compFunc Go.Proofs.Tryz.prog) = some slices_partialInsertionSortCmpFunc_EphSlot := by kernel_rfl
theorem ok_slices_partitionEqualCmpFunc_EphSlot : (Go.Proofs.Tryz.prog.funcs[188]?).bind (compFunc Go.Proofs.Tryz.prog) = some slices_partitionEqualCmpFunc_EphSlot := by kernel_rfl
theorem ok_slices_partitionCmpFunc_EphSlot : (Go.Proofs.Tryz.prog.funcs[189]?).bind (compFunc Go.Proofs.Tryz.prog) = some slices_partitionCmpFunc_EphSlot := by kernel_rfl
theorem ok_slices_siftDownOrdered_uint64 : (Go.Proofs.Tryz.prog.funcs[190]?).bind (compFunc Go.Proofs.Tryz.prog) = some slices_siftDownOrdered_uint64 := by kernel_rfl
theorem ok_slices_nextPowerOfTwo : (Go.Proofs.Tryz.prog.funcs[191]?).bind (compFunc Go.Proofs.Tryz.prog) = some slices_nextPowerOfTwo := by kernel_rfl
theorem ok_slices_xorshift_Next : (Go.Proofs.Tryz.prog.funcs[192]?).bind (compFunc Go.Proofs.Tryz.prog) = some slices_xorshift_Next := by kernel_rfl
theorem ok_slices_medianAdjacentOrdered_uint64 : (Go.Proofs.Tryz.prog.funcs[193]?).bind (compFunc Go.Proofs.Tryz.prog) = some slices_medianAdjacentOrdered_uint64 := by kernel_rfl
theorem ok_slices_medianOrdered_uint64 : (Go.Proofs.Tryz.prog.funcs[194]?).bind (compFunc Go.Proofs.Tryz.prog) = some slices_medianOrdered_uint64 := by kernel_rfl
theorem ok_ref01_Check : (Go.Proofs.Tryz.prog.funcs[195]?).bind (compFunc Go.Proofs.Tryz.prog) = some ref01_Check := by kernel_rfl
theorem ok_ref05_right : (Go.Proofs.Tryz.prog.funcs[196]?).bind (compFunc Go.Proofs.Tryz.prog) = some ref05_right := by kernel_rfl
theorem ok_ref06_Check : (Go.Proofs.Tryz.prog.funcs[197]?).bind (compFunc Go.Proofs.Tryz.prog) = some ref06_Check := by kernel_rfl
theorem ok_math_bits_TrailingZeros64 : (Go.Proofs.Tryz.prog.funcs[198]?).bind (compFunc Go.Proofs.Tryz.prog) = some math_bits_TrailingZeros64 := by kernel_rfl
theorem ok_slices_Clone_Span : (Go.Proofs.Tryz.prog.funcs[199]?).bind (compFunc Go.Proofs.Tryz.prog) = some slices_Clone_Span := by kernel_rfl
theorem ok_bits_Both : (Go.Proofs.Tryz.prog.funcs[200]?).bind (compFunc Go.Proofs.Tryz.prog) = some bits_Both := by kernel_rfl
theorem ok_cmp_isNaN_int : (Go.Proofs.Tryz.prog.funcs[201]?).bind (compFunc Go.Proofs.Tryz.prog) = some cmp_isNaN_int := by kernel_rfl
theorem ok_slices_rotateRight_Span : (Go.Proofs.Tryz.prog.funcs[203]?).bind (compFunc Go.Proofs.Tryz.prog) = some slices_rotateRight_Span := by kernel_rfl
theorem ok_slices_siftDownCmpFunc_EphSlot : (Go.Proofs.Tryz.prog.funcs[204]?).bind (compFunc Go.Proofs.Tryz.prog) = some slices_siftDownCmpFunc_EphSlot := by kernel_rfl
theorem ok_slices_medianAdjacentCmpFunc_EphSlot : (Go.Proofs.Tryz.prog.funcs[205]?).bind (compFunc Go.Proofs.Tryz.prog) = some slices_medianAdjacentCmpFunc_EphSlot := by kernel_rfl
theorem ok_slices_medianCmpFunc_EphSlot : (Go.Proofs.Tryz.prog.funcs[206]?).bind (compFunc Go.Proofs.Tryz.prog) = some slices_medianCmpFunc_EphSlot := by kernel_rfl
theorem ok_slices_order2Ordered_uint64 : (Go.Proofs.Tryz.prog.funcs[207]?).bind (compFunc Go.Proofs.Tryz.prog) = some slices_order2Ordered_uint64 := by kernel_rfl
theorem ok_ref05_Many : (Go.Proofs.Tryz.prog.funcs[208]?).bind (compFunc Go.Proofs.Tryz.prog) = some ref05_Many := by kernel_rfl
theorem ok_slices_rotateLeft_Span : (Go.Proofs.Tryz.prog.funcs[209]?).bind (compFunc Go.Proofs.Tryz.prog) = some slices_rotateLeft_Span := by kernel_rfl
theorem ok_slices_order2CmpFunc_EphSlot : (Go.Proofs.Tryz.prog.funcs[210]?).bind (compFunc Go.Proofs.Tryz.prog) = some slices_order2CmpFunc_EphSlot := by kernel_rfl
theorem ok_slices_Reverse_Span : (Go.Proofs.Tryz.prog.funcs[211]?).bind (compFunc Go.Proofs.Tryz.prog) = some slices_Reverse_Span := by kernel_rfl
theorem ok_gosem_cut_vars : (Go.Proofs.Tryz.prog.funcs[231]?).bind (compFunc Go.Proofs.Tryz.prog) = some gosem_cut_vars := by kernel_rfl
theorem of_all {P : Program} {tab : List (Nat × AFunc)} (h : ∀ p ∈ tab, (P.funcs[p.1]?).bind (compFunc P) = some p.2) : TableOk P (fun f => tab.lookup f) := by
  intro f fn hf
  have hm : (f, fn) ∈ tab := by
    clear h
    induction tab with
    | nil => simp at hf
    | cons p tab ih =>
      simp only [List.lookup] at hf
      split at hf
      · rename_i e
        simp only [Option.some.injEq] at hf
        subst hf
        have := beq_iff_eq.1 e
        subst this
        simp
      · simp [ih hf]
  have := h _ hm
  simp only [Option.bind_eq_some_iff] at this
  obtain ⟨g, h1, h2⟩ := this
  exact ⟨g, h1, h2⟩
theorem tableOk : TableOk Go.Proofs.Tryz.prog (fun f => tab.lookup f) := by
  refine of_all ?_
  unfold tab
  refine List.forall_mem_cons.2 ⟨ok_gosem_cut_init, List.forall_mem_cons.2 ⟨ok_law11_ModelTells, List.forall_mem_cons.2 ⟨ok_law11_ModelAlike, List.forall_mem_cons.2 ⟨ok_law11_ModelKept, List.forall_mem_cons.2 ⟨ok_law11_ModelNone, List.forall_mem_cons.2 ⟨ok_law11_ModelClosed, List.forall_mem_cons.2 ⟨ok_law11_ModelLeast, List.forall_mem_cons.2 ⟨ok_law11_ModelTable, List.forall_mem_cons.2 ⟨ok_model_Reach, List.forall_mem_cons.2 ⟨ok_ref11_Reach, List.forall_mem_cons.2 ⟨ok_model_Fate, List.forall_mem_cons.2 ⟨ok_ref11_Fate, List.forall_mem_cons.2 ⟨ok_law11_lives, List.forall_mem_cons.2 ⟨ok_ref09_Same, List.forall_mem_cons.2 ⟨ok_ref11_Alike, List.forall_mem_cons.2 ⟨ok_model_Alike, List.forall_mem_cons.2 ⟨ok_ref11_Has, List.forall_mem_cons.2 ⟨ok_heap_At, List.forall_mem_cons.2 ⟨ok_heap_Load, List.forall_mem_cons.2 ⟨ok_ephem_Put, List.forall_mem_cons.2 ⟨ok_ephem_Get, List.forall_mem_cons.2 ⟨ok_model_open, List.forall_mem_cons.2 ⟨ok_model_graph_dead, List.forall_mem_cons.2 ⟨ok_model_graph_reach, List.forall_mem_cons.2 ⟨ok_ref07_Objects, List.forall_mem_cons.2 ⟨ok_ref10_Check, List.forall_mem_cons.2 ⟨ok_ref11_put, List.forall_mem_cons.2 ⟨ok_ref11_wider, List.forall_mem_cons.2 ⟨ok_special_Check, List.forall_mem_cons.2 ⟨ok_slices_ContainsFunc_Special, List.forall_mem_cons.2 ⟨ok_model_Fate_1, List.forall_mem_cons.2 ⟨ok_model_graph_sound, List.forall_mem_cons.2 ⟨ok_model_some, List.forall_mem_cons.2 ⟨ok_slices_Clone_uint64, List.forall_mem_cons.2 ⟨ok_ref08_Check, List.forall_mem_cons.2 ⟨ok_heap_Make, List.forall_mem_cons.2 ⟨ok_heap_New, List.forall_mem_cons.2 ⟨ok_heap_Store, List.forall_mem_cons.2 ⟨ok_ref08_Same, List.forall_mem_cons.2 ⟨ok_slices_Equal_uint64, List.forall_mem_cons.2 ⟨ok_slices_Equal_Special, List.forall_mem_cons.2 ⟨ok_heap_open, List.forall_mem_cons.2 ⟨ok_heap_store_lead, List.forall_mem_cons.2 ⟨ok_heap_store_field, List.forall_mem_cons.2 ⟨ok_heap_store_currents, List.forall_mem_cons.2 ⟨ok_ephem_Check, List.forall_mem_cons.2 ⟨ok_ephem_Own, List.forall_mem_cons.2 ⟨ok_ephem_table_find, List.forall_mem_cons.2 ⟨ok_ephem_table_many, List.forall_mem_cons.2 ⟨ok_ephem_table_anew, List.forall_mem_cons.2 ⟨ok_ephem_table_lay, List.forall_mem_cons.2 ⟨ok_ephem_All, List.forall_mem_cons.2 ⟨ok_slices_Concat_uint64, List.forall_mem_cons.2 ⟨ok_model_graph_reach_1, List.forall_mem_cons.2 ⟨ok_heap_Refs, List.forall_mem_cons.2 ⟨ok_slices_Sort_uint64, List.forall_mem_cons.2 ⟨ok_ref07_Check, List.forall_mem_cons.2 ⟨ok_ref07_all, List.forall_mem_cons.2 ⟨ok_ref10_Home, List.forall_mem_cons.2 ⟨ok_ref10_many, List.forall_mem_cons.2 ⟨ok_ref10_find, List.forall_mem_cons.2 ⟨ok_ref07_All, List.forall_mem_cons.2 ⟨ok_ref11_refs, List.forall_mem_cons.2 ⟨ok_slices_IsSortedFunc_Special, List.forall_mem_cons.2 ⟨ok_special_Check_1, List.forall_mem_cons.2 ⟨ok_cmp_Compare_uint64, List.forall_mem_cons.2 ⟨ok_special_one, List.forall_mem_cons.2 ⟨ok_special_final, List.forall_mem_cons.2 ⟨ok_slices_IndexFunc_Special, List.forall_mem_cons.2 ⟨ok_model_has_uint64, List.forall_mem_cons.2 ⟨ok_slices_DeleteFunc_Special, List.forall_mem_cons.2 ⟨ok_slices_Clone_Special, List.forall_mem_cons.2 ⟨ok_model_some_1, List.forall_mem_cons.2 ⟨ok_ref08_one, List.forall_mem_cons.2 ⟨ok_arena_Make, List.forall_mem_cons.2 ⟨ok_pages_Make, List.forall_mem_cons.2 ⟨ok_pages_Take, List.forall_mem_cons.2 ⟨ok_heap_mine, List.forall_mem_cons.2 ⟨ok_head_Check, List.forall_mem_cons.2 ⟨ok_heap_sizes, List.forall_mem_cons.2 ⟨ok_span_Room, List.forall_mem_cons.2 ⟨ok_heap_store_grow, List.forall_mem_cons.2 ⟨ok_heap_store_put, List.forall_mem_cons.2 ⟨ok_heap_store_framed, List.forall_mem_cons.2 ⟨ok_heap_store_look, List.forall_mem_cons.2 ⟨ok_heap_store_sound, List.forall_mem_cons.2 ⟨ok_heap_store_find, List.forall_mem_cons.2 ⟨ok_head_Ref, List.forall_mem_cons.2 ⟨ok_heap_store_currents_1, List.forall_mem_cons.2 ⟨ok_ephem_sized, List.forall_mem_cons.2 ⟨ok_slices_Clone_EphSlot, List.forall_mem_cons.2 ⟨ok_ephem_home, List.forall_mem_cons.2 ⟨ok_slices_DeleteFunc_EphSlot, List.forall_mem_cons.2 ⟨ok_ephem_All_1, List.forall_mem_cons.2 ⟨ok_slices_SortFunc_EphSlot, List.forall_mem_cons.2 ⟨ok_ephem_All_2, List.forall_mem_cons.2 ⟨ok_slices_Grow_uint64, List.forall_mem_cons.2 ⟨ok_head_Unpack, List.forall_mem_cons.2 ⟨ok_heap_store_refs, List.forall_mem_cons.2 ⟨ok_heap_Refs_1, List.forall_mem_cons.2 ⟨ok_slices_pdqsortOrdered_uint64, List.forall_mem_cons.2 ⟨ok_math_bits_Len, List.forall_mem_cons.2 ⟨ok_ref07_framed, List.forall_mem_cons.2 ⟨ok_ref06_Is, List.forall_mem_cons.2 ⟨ok_ref07_find, List.forall_mem_cons.2 ⟨ok_ref01_Is, List.forall_mem_cons.2 ⟨ok_ref05_At, List.forall_mem_cons.2 ⟨ok_ref06_Unpack, List.forall_mem_cons.2 ⟨ok_ref07_fits, List.forall_mem_cons.2 ⟨ok_ref07_Lead, List.forall_mem_cons.2 ⟨ok_cmp_isNaN_uint64, List.forall_mem_cons.2 ⟨ok_special_final_1, List.forall_mem_cons.2 ⟨ok_slices_BinarySearch_uint64, List.forall_mem_cons.2 ⟨ok_bits_Make, List.forall_mem_cons.2 ⟨ok_pages_Check, List.forall_mem_cons.2 ⟨ok_pages_Own, List.forall_mem_cons.2 ⟨ok_bits_Run, List.forall_mem_cons.2 ⟨ok_pages_book_set, List.forall_mem_cons.2 ⟨ok_heap_Own, List.forall_mem_cons.2 ⟨ok_math_bits_Len64, List.forall_mem_cons.2 ⟨ok_class_Of, List.forall_mem_cons.2 ⟨ok_class_Size, List.forall_mem_cons.2 ⟨ok_class_Pages, List.forall_mem_cons.2 ⟨ok_span_Check, List.forall_mem_cons.2 ⟨ok_bits_First, List.forall_mem_cons.2 ⟨ok_span_Make, List.forall_mem_cons.2 ⟨ok_span_Add, List.forall_mem_cons.2 ⟨ok_slices_IndexFunc_Span, List.forall_mem_cons.2 ⟨ok_heap_store_grow_1, List.forall_mem_cons.2 ⟨ok_bits_Put, List.forall_mem_cons.2 ⟨ok_span_Base, List.forall_mem_cons.2 ⟨ok_head_Pack, List.forall_mem_cons.2 ⟨ok_arena_Check, List.forall_mem_cons.2 ⟨ok_bits_Fill, List.forall_mem_cons.2 ⟨ok_bits_Is, List.forall_mem_cons.2 ⟨ok_heap_store_sound_1, List.forall_mem_cons.2 ⟨ok_slices_ContainsFunc_uint64, List.forall_mem_cons.2 ⟨ok_heap_store_sound_1_1, List.forall_mem_cons.2 ⟨ok_heap_store_leads, List.forall_mem_cons.2 ⟨ok_slices_BinarySearchFunc_uint64, List.forall_mem_cons.2 ⟨ok_heap_store_find_1, List.forall_mem_cons.2 ⟨ok_head_Refs, List.forall_mem_cons.2 ⟨ok_slices_IndexFunc_EphSlot, List.forall_mem_cons.2 ⟨ok_slices_pdqsortCmpFunc_EphSlot, List.forall_mem_cons.2 ⟨ok_head_Is, List.forall_mem_cons.2 ⟨ok_slices_insertionSortOrdered_uint64, List.forall_mem_cons.2 ⟨ok_slices_heapSortOrdered_uint64, List.forall_mem_cons.2 ⟨ok_slices_breakPatternsOrdered_uint64, List.forall_mem_cons.2 ⟨ok_slices_choosePivotOrdered_uint64, List.forall_mem_cons.2 ⟨ok_slices_reverseRangeOrdered_uint64, List.forall_mem_cons.2 ⟨ok_slices_partialInsertionSortOrdered_uint64, List.forall_mem_cons.2 ⟨ok_cmp_Less_uint64, List.forall_mem_cons.2 ⟨ok_slices_partitionEqualOrdered_uint64, List.forall_mem_cons.2 ⟨ok_slices_partitionOrdered_uint64, List.forall_mem_cons.2 ⟨ok_math_bits_Len32, List.forall_mem_cons.2 ⟨ok_ref02_Check, List.forall_mem_cons.2 ⟨ok_ref03_Check, List.forall_mem_cons.2 ⟨ok_ref05_Check, List.forall_mem_cons.2 ⟨ok_ref06_Pack, List.forall_mem_cons.2 ⟨ok_ref04_Of, List.forall_mem_cons.2 ⟨ok_ref04_Pages, List.forall_mem_cons.2 ⟨ok_ref04_Size, List.forall_mem_cons.2 ⟨ok_slices_isNaN_uint64, List.forall_mem_cons.2 ⟨ok_bits_Check, List.forall_mem_cons.2 ⟨ok_bits_Own, List.forall_mem_cons.2 ⟨ok_bits_list_first, List.forall_mem_cons.2 ⟨ok_arena_Own, List.forall_mem_cons.2 ⟨ok_span_Own, List.forall_mem_cons.2 ⟨ok_span_right, List.forall_mem_cons.2 ⟨ok_span_end, List.forall_mem_cons.2 ⟨ok_span_shaped, List.forall_mem_cons.2 ⟨ok_span_slots, List.forall_mem_cons.2 ⟨ok_slices_BinarySearchFunc_int, List.forall_mem_cons.2 ⟨ok_span_Add_1, List.forall_mem_cons.2 ⟨ok_cmp_Compare_int, List.forall_mem_cons.2 ⟨ok_slices_Insert_Span, List.forall_mem_cons.2 ⟨ok_span_One, List.forall_mem_cons.2 ⟨ok_bits_list_put, List.forall_mem_cons.2 ⟨ok_slices_IndexFunc_uint64, List.forall_mem_cons.2 ⟨ok_slices_insertionSortCmpFunc_EphSlot, List.forall_mem_cons.2 ⟨ok_slices_heapSortCmpFunc_EphSlot, List.forall_mem_cons.2 ⟨ok_slices_breakPatternsCmpFunc_EphSlot, List.forall_mem_cons.2 ⟨ok_slices_choosePivotCmpFunc_EphSlot, List.forall_mem_cons.2 ⟨ok_slices_reverseRangeCmpFunc_EphSlot, List.forall_mem_cons.2 ⟨ok_slices_partialInsertionSortCmpFunc_EphSlot, List.forall_mem_cons.2 ⟨ok_slices_partitionEqualCmpFunc_EphSlot, List.forall_mem_cons.2 ⟨ok_slices_partitionCmpFunc_EphSlot, List.forall_mem_cons.2 ⟨ok_slices_siftDownOrdered_uint64, List.forall_mem_cons.2 ⟨ok_slices_nextPowerOfTwo, List.forall_mem_cons.2 ⟨ok_slices_xorshift_Next, List.forall_mem_cons.2 ⟨ok_slices_medianAdjacentOrdered_uint64, List.forall_mem_cons.2 ⟨ok_slices_medianOrdered_uint64, List.forall_mem_cons.2 ⟨ok_ref01_Check, List.forall_mem_cons.2 ⟨ok_ref05_right, List.forall_mem_cons.2 ⟨ok_ref06_Check, List.forall_mem_cons.2 ⟨ok_math_bits_TrailingZeros64, List.forall_mem_cons.2 ⟨ok_slices_Clone_Span, List.forall_mem_cons.2 ⟨ok_bits_Both, List.forall_mem_cons.2 ⟨ok_cmp_isNaN_int, List.forall_mem_cons.2 ⟨ok_slices_rotateRight_Span, List.forall_mem_cons.2 ⟨ok_slices_siftDownCmpFunc_EphSlot, List.forall_mem_cons.2 ⟨ok_slices_medianAdjacentCmpFunc_EphSlot, List.forall_mem_cons.2 ⟨ok_slices_medianCmpFunc_EphSlot, List.forall_mem_cons.2 ⟨ok_slices_order2Ordered_uint64, List.forall_mem_cons.2 ⟨ok_ref05_Many, List.forall_mem_cons.2 ⟨ok_slices_rotateLeft_Span, List.forall_mem_cons.2 ⟨ok_slices_order2CmpFunc_EphSlot, List.forall_mem_cons.2 ⟨ok_slices_Reverse_Span, List.forall_mem_cons.2 ⟨ok_gosem_cut_vars, fun _ h => nomatch h⟩⟩⟩⟩⟩⟩⟩⟩⟩⟩⟩⟩⟩⟩⟩⟩⟩⟩⟩⟩⟩⟩⟩⟩⟩⟩⟩⟩⟩⟩⟩⟩⟩⟩⟩⟩⟩⟩⟩⟩⟩⟩⟩⟩⟩⟩⟩⟩⟩⟩⟩⟩⟩⟩⟩⟩⟩⟩⟩⟩⟩⟩⟩⟩⟩⟩⟩⟩⟩⟩⟩⟩⟩⟩⟩⟩⟩⟩⟩⟩⟩⟩⟩⟩⟩⟩⟩⟩⟩⟩⟩⟩⟩⟩⟩⟩⟩⟩⟩⟩⟩⟩⟩⟩⟩⟩⟩⟩⟩⟩⟩⟩⟩⟩⟩⟩⟩⟩⟩⟩⟩⟩⟩⟩⟩⟩⟩⟩⟩⟩⟩⟩⟩⟩⟩⟩⟩⟩⟩⟩⟩⟩⟩⟩⟩⟩⟩⟩⟩⟩⟩⟩⟩⟩⟩⟩⟩⟩⟩⟩⟩⟩⟩⟩⟩⟩⟩⟩⟩⟩⟩⟩⟩⟩⟩⟩⟩⟩⟩⟩⟩⟩⟩⟩⟩⟩⟩⟩⟩⟩⟩⟩⟩⟩⟩⟩⟩⟩⟩⟩⟩⟩⟩⟩⟩⟩⟩⟩⟩
end Go.AM.G
