/- Part of the proof: contracts of functions of the given program on an abstract machine. -/
import Derived.Test.YtkimcedmfnoeoaaGreatDoorHpCode
import Derived.WalkKit
set_option linter.unusedVariables false
set_option linter.unusedSimpArgs false
set_option maxRecDepth 100000
set_option maxHeartbeats 0
namespace Go.AM.G
open Go Go.AM
abbrev Ok (n : Nat) (f : AFunc) : Prop := (Go.Proofs.Tryz.prog.funcs[n]?).bind (compFunc Go.Proofs.Tryz.prog) = some f
theorem okI {n : Nat} {f : AFunc} (h : (Go.Proofs.Tryz.prog.funcs[n]?).bind (compFunc Go.Proofs.Tryz.prog) = some f) : Ok n f := h
theorem o3 : Ok 3 law11_ModelTells := okI (by kernel_rfl)
theorem o10 : Ok 10 model_Reach := okI (by kernel_rfl)
theorem o11 : Ok 11 ref11_Reach := okI (by kernel_rfl)
theorem o12 : Ok 12 model_Fate := okI (by kernel_rfl)
theorem o13 : Ok 13 ref11_Fate := okI (by kernel_rfl)
theorem o14 : Ok 14 law11_lives := okI (by kernel_rfl)
theorem o15 : Ok 15 ref09_Same := okI (by kernel_rfl)
theorem o16 : Ok 16 ref11_Alike := okI (by kernel_rfl)
theorem o17 : Ok 17 model_Alike := okI (by kernel_rfl)
theorem o18 : Ok 18 ref11_Has := okI (by kernel_rfl)
theorem o22 : Ok 22 ephem_Put := okI (by kernel_rfl)
theorem o24 : Ok 24 model_open := okI (by kernel_rfl)
theorem o25 : Ok 25 model_graph_dead := okI (by kernel_rfl)
theorem o26 : Ok 26 model_graph_reach := okI (by kernel_rfl)
theorem o27 : Ok 27 ref07_Objects := okI (by kernel_rfl)
theorem o28 : Ok 28 ref10_Check := okI (by kernel_rfl)
theorem o29 : Ok 29 ref11_put := okI (by kernel_rfl)
theorem o30 : Ok 30 ref11_wider := okI (by kernel_rfl)
theorem o31 : Ok 31 special_Check := okI (by kernel_rfl)
theorem o32 : Ok 32 slices_ContainsFunc_Special := okI (by kernel_rfl)
theorem o33 : Ok 33 model_Fate_1 := okI (by kernel_rfl)
theorem o34 : Ok 34 model_graph_sound := okI (by kernel_rfl)
theorem o35 : Ok 35 model_some := okI (by kernel_rfl)
theorem o36 : Ok 36 slices_Clone_uint64 := okI (by kernel_rfl)
theorem o37 : Ok 37 ref08_Check := okI (by kernel_rfl)
theorem o38 : Ok 38 heap_Make := okI (by kernel_rfl)
theorem o39 : Ok 39 heap_New := okI (by kernel_rfl)
theorem o40 : Ok 40 heap_Store := okI (by kernel_rfl)
theorem o41 : Ok 41 ref08_Same := okI (by kernel_rfl)
theorem o42 : Ok 42 slices_Equal_uint64 := okI (by kernel_rfl)
theorem o43 : Ok 43 slices_Equal_Special := okI (by kernel_rfl)
theorem o44 : Ok 44 heap_open := okI (by kernel_rfl)
theorem o45 : Ok 45 heap_store_lead := okI (by kernel_rfl)
theorem o46 : Ok 46 heap_store_field := okI (by kernel_rfl)
theorem o48 : Ok 48 ephem_Check := okI (by kernel_rfl)
theorem o49 : Ok 49 ephem_Own := okI (by kernel_rfl)
theorem o50 : Ok 50 ephem_table_find := okI (by kernel_rfl)
theorem o51 : Ok 51 ephem_table_many := okI (by kernel_rfl)
theorem o52 : Ok 52 ephem_table_anew := okI (by kernel_rfl)
theorem o53 : Ok 53 ephem_table_lay := okI (by kernel_rfl)
theorem o54 : Ok 54 ephem_All := okI (by kernel_rfl)
theorem o55 : Ok 55 slices_Concat_uint64 := okI (by kernel_rfl)
theorem o56 : Ok 56 model_graph_reach_1 := okI (by kernel_rfl)
theorem o57 : Ok 57 heap_Refs := okI (by kernel_rfl)
theorem o58 : Ok 58 slices_Sort_uint64 := okI (by kernel_rfl)
theorem o59 : Ok 59 ref07_Check := okI (by kernel_rfl)
theorem o60 : Ok 60 ref07_all := okI (by kernel_rfl)
theorem o61 : Ok 61 ref10_Home := okI (by kernel_rfl)
theorem o62 : Ok 62 ref10_many := okI (by kernel_rfl)
theorem o63 : Ok 63 ref10_find := okI (by kernel_rfl)
theorem o64 : Ok 64 ref07_All := okI (by kernel_rfl)
theorem o65 : Ok 65 ref11_refs := okI (by kernel_rfl)
theorem o66 : Ok 66 slices_IsSortedFunc_Special := okI (by kernel_rfl)
theorem o67 : Ok 67 special_Check_1 := okI (by kernel_rfl)
theorem o68 : Ok 68 cmp_Compare_uint64 := okI (by kernel_rfl)
theorem o69 : Ok 69 special_one := okI (by kernel_rfl)
theorem o70 : Ok 70 special_final := okI (by kernel_rfl)
theorem o71 : Ok 71 slices_IndexFunc_Special := okI (by kernel_rfl)
theorem o72 : Ok 72 model_has_uint64 := okI (by kernel_rfl)
theorem o73 : Ok 73 slices_DeleteFunc_Special := okI (by kernel_rfl)
theorem o74 : Ok 74 slices_Clone_Special := okI (by kernel_rfl)
theorem o75 : Ok 75 model_some_1 := okI (by kernel_rfl)
theorem o76 : Ok 76 ref08_one := okI (by kernel_rfl)
theorem o77 : Ok 77 arena_Make := okI (by kernel_rfl)
theorem o78 : Ok 78 pages_Make := okI (by kernel_rfl)
theorem o79 : Ok 79 pages_Take := okI (by kernel_rfl)
theorem o80 : Ok 80 heap_mine := okI (by kernel_rfl)
theorem o81 : Ok 81 head_Check := okI (by kernel_rfl)
theorem o82 : Ok 82 heap_sizes := okI (by kernel_rfl)
theorem o83 : Ok 83 span_Room := okI (by kernel_rfl)
theorem o84 : Ok 84 heap_store_grow := okI (by kernel_rfl)
theorem o85 : Ok 85 heap_store_put := okI (by kernel_rfl)
theorem o86 : Ok 86 heap_store_framed := okI (by kernel_rfl)
theorem o87 : Ok 87 heap_store_look := okI (by kernel_rfl)
theorem o88 : Ok 88 heap_store_sound := okI (by kernel_rfl)
theorem o89 : Ok 89 heap_store_find := okI (by kernel_rfl)
theorem o90 : Ok 90 head_Ref := okI (by kernel_rfl)
theorem o92 : Ok 92 ephem_sized := okI (by kernel_rfl)
theorem o93 : Ok 93 slices_Clone_EphSlot := okI (by kernel_rfl)
theorem o94 : Ok 94 ephem_home := okI (by kernel_rfl)
theorem o95 : Ok 95 slices_DeleteFunc_EphSlot := okI (by kernel_rfl)
theorem o96 : Ok 96 ephem_All_1 := okI (by kernel_rfl)
theorem o97 : Ok 97 slices_SortFunc_EphSlot := okI (by kernel_rfl)
theorem o98 : Ok 98 ephem_All_2 := okI (by kernel_rfl)
theorem o99 : Ok 99 slices_Grow_uint64 := okI (by kernel_rfl)
theorem o100 : Ok 100 head_Unpack := okI (by kernel_rfl)
theorem o101 : Ok 101 heap_store_refs := okI (by kernel_rfl)
theorem o102 : Ok 102 heap_Refs_1 := okI (by kernel_rfl)
theorem o103 : Ok 103 slices_pdqsortOrdered_uint64 := okI (by kernel_rfl)
theorem o104 : Ok 104 math_bits_Len := okI (by kernel_rfl)
theorem o105 : Ok 105 ref07_framed := okI (by kernel_rfl)
theorem o106 : Ok 106 ref06_Is := okI (by kernel_rfl)
theorem o107 : Ok 107 ref07_find := okI (by kernel_rfl)
theorem o108 : Ok 108 ref01_Is := okI (by kernel_rfl)
theorem o109 : Ok 109 ref05_At := okI (by kernel_rfl)
theorem o110 : Ok 110 ref06_Unpack := okI (by kernel_rfl)
theorem o111 : Ok 111 ref07_fits := okI (by kernel_rfl)
theorem o112 : Ok 112 ref07_Lead := okI (by kernel_rfl)
theorem o113 : Ok 113 cmp_isNaN_uint64 := okI (by kernel_rfl)
theorem o114 : Ok 114 special_final_1 := okI (by kernel_rfl)
theorem o115 : Ok 115 slices_BinarySearch_uint64 := okI (by kernel_rfl)
theorem o116 : Ok 116 bits_Make := okI (by kernel_rfl)
theorem o117 : Ok 117 pages_Check := okI (by kernel_rfl)
theorem o118 : Ok 118 pages_Own := okI (by kernel_rfl)
theorem o119 : Ok 119 bits_Run := okI (by kernel_rfl)
theorem o120 : Ok 120 pages_book_set := okI (by kernel_rfl)
theorem o121 : Ok 121 heap_Own := okI (by kernel_rfl)
theorem o122 : Ok 122 math_bits_Len64 := okI (by kernel_rfl)
theorem o123 : Ok 123 class_Of := okI (by kernel_rfl)
theorem o124 : Ok 124 class_Size := okI (by kernel_rfl)
theorem o125 : Ok 125 class_Pages := okI (by kernel_rfl)
theorem o126 : Ok 126 span_Check := okI (by kernel_rfl)
theorem o127 : Ok 127 bits_First := okI (by kernel_rfl)
theorem o128 : Ok 128 span_Make := okI (by kernel_rfl)
theorem o129 : Ok 129 span_Add := okI (by kernel_rfl)
theorem o130 : Ok 130 slices_IndexFunc_Span := okI (by kernel_rfl)
theorem o131 : Ok 131 heap_store_grow_1 := okI (by kernel_rfl)
theorem o132 : Ok 132 bits_Put := okI (by kernel_rfl)
theorem o133 : Ok 133 span_Base := okI (by kernel_rfl)
theorem o134 : Ok 134 head_Pack := okI (by kernel_rfl)
theorem o135 : Ok 135 arena_Check := okI (by kernel_rfl)
theorem o136 : Ok 136 bits_Fill := okI (by kernel_rfl)
theorem o137 : Ok 137 bits_Is := okI (by kernel_rfl)
theorem o138 : Ok 138 heap_store_sound_1 := okI (by kernel_rfl)
theorem o139 : Ok 139 slices_ContainsFunc_uint64 := okI (by kernel_rfl)
theorem o140 : Ok 140 heap_store_sound_1_1 := okI (by kernel_rfl)
theorem o141 : Ok 141 heap_store_leads := okI (by kernel_rfl)
theorem o142 : Ok 142 slices_BinarySearchFunc_uint64 := okI (by kernel_rfl)
theorem o143 : Ok 143 heap_store_find_1 := okI (by kernel_rfl)
theorem o144 : Ok 144 head_Refs := okI (by kernel_rfl)
theorem o145 : Ok 145 slices_IndexFunc_EphSlot := okI (by kernel_rfl)
theorem o146 : Ok 146 slices_pdqsortCmpFunc_EphSlot := okI (by kernel_rfl)
theorem o147 : Ok 147 head_Is := okI (by kernel_rfl)
theorem o148 : Ok 148 slices_insertionSortOrdered_uint64 := okI (by kernel_rfl)
theorem o149 : Ok 149 slices_heapSortOrdered_uint64 := okI (by kernel_rfl)
theorem o150 : Ok 150 slices_breakPatternsOrdered_uint64 := okI (by kernel_rfl)
theorem o151 : Ok 151 slices_choosePivotOrdered_uint64 := okI (by kernel_rfl)
theorem o152 : Ok 152 slices_reverseRangeOrdered_uint64 := okI (by kernel_rfl)
theorem o153 : Ok 153 slices_partialInsertionSortOrdered_uint64 := okI (by kernel_rfl)
theorem o154 : Ok 154 cmp_Less_uint64 := okI (by kernel_rfl)
theorem o155 : Ok 155 slices_partitionEqualOrdered_uint64 := okI (by kernel_rfl)
theorem o156 : Ok 156 slices_partitionOrdered_uint64 := okI (by kernel_rfl)
theorem o158 : Ok 158 ref02_Check := okI (by kernel_rfl)
theorem o159 : Ok 159 ref03_Check := okI (by kernel_rfl)
theorem o160 : Ok 160 ref05_Check := okI (by kernel_rfl)
theorem o161 : Ok 161 ref06_Pack := okI (by kernel_rfl)
theorem o162 : Ok 162 ref04_Of := okI (by kernel_rfl)
theorem o163 : Ok 163 ref04_Pages := okI (by kernel_rfl)
theorem o164 : Ok 164 ref04_Size := okI (by kernel_rfl)
theorem o165 : Ok 165 slices_isNaN_uint64 := okI (by kernel_rfl)
theorem o166 : Ok 166 bits_Check := okI (by kernel_rfl)
theorem o167 : Ok 167 bits_Own := okI (by kernel_rfl)
theorem o168 : Ok 168 bits_list_first := okI (by kernel_rfl)
theorem o169 : Ok 169 arena_Own := okI (by kernel_rfl)
theorem o170 : Ok 170 span_Own := okI (by kernel_rfl)
theorem o171 : Ok 171 span_right := okI (by kernel_rfl)
theorem o172 : Ok 172 span_end := okI (by kernel_rfl)
theorem o173 : Ok 173 span_shaped := okI (by kernel_rfl)
theorem o174 : Ok 174 span_slots := okI (by kernel_rfl)
theorem o175 : Ok 175 slices_BinarySearchFunc_int := okI (by kernel_rfl)
theorem o176 : Ok 176 span_Add_1 := okI (by kernel_rfl)
theorem o177 : Ok 177 cmp_Compare_int := okI (by kernel_rfl)
theorem o178 : Ok 178 slices_Insert_Span := okI (by kernel_rfl)
theorem o179 : Ok 179 span_One := okI (by kernel_rfl)
theorem o180 : Ok 180 bits_list_put := okI (by kernel_rfl)
theorem o181 : Ok 181 slices_IndexFunc_uint64 := okI (by kernel_rfl)
theorem o182 : Ok 182 slices_insertionSortCmpFunc_EphSlot := okI (by kernel_rfl)
theorem o190 : Ok 190 slices_siftDownOrdered_uint64 := okI (by kernel_rfl)
theorem o191 : Ok 191 slices_nextPowerOfTwo := okI (by kernel_rfl)
theorem o192 : Ok 192 slices_xorshift_Next := okI (by kernel_rfl)
theorem o193 : Ok 193 slices_medianAdjacentOrdered_uint64 := okI (by kernel_rfl)
theorem o194 : Ok 194 slices_medianOrdered_uint64 := okI (by kernel_rfl)
theorem o195 : Ok 195 ref01_Check := okI (by kernel_rfl)
theorem o196 : Ok 196 ref05_right := okI (by kernel_rfl)
theorem o197 : Ok 197 ref06_Check := okI (by kernel_rfl)
theorem o198 : Ok 198 math_bits_TrailingZeros64 := okI (by kernel_rfl)
theorem o199 : Ok 199 slices_Clone_Span := okI (by kernel_rfl)
theorem o200 : Ok 200 bits_Both := okI (by kernel_rfl)
theorem o201 : Ok 201 cmp_isNaN_int := okI (by kernel_rfl)
theorem o203 : Ok 203 slices_rotateRight_Span := okI (by kernel_rfl)
theorem o207 : Ok 207 slices_order2Ordered_uint64 := okI (by kernel_rfl)
theorem o208 : Ok 208 ref05_Many := okI (by kernel_rfl)
theorem o209 : Ok 209 slices_rotateLeft_Span := okI (by kernel_rfl)
theorem o211 : Ok 211 slices_Reverse_Span := okI (by kernel_rfl)
theorem of_all {P : Program} {tab : List (Nat × AFunc)} (h : ∀ p ∈ tab, (P.funcs[p.1]?).bind (compFunc P) = some p.2) : TableOk P (fun f => tab.lookup f) := by
 intro f fn hf
 have hm : (f, fn) ∈ tab := by
  clear h
  induction tab with
  | nil => simp at hf
  | cons p tab ih =>
   simp only [List.lookup] at hf
   split at hf
   ·rename_i e
    simp only [Option.some.injEq] at hf
    subst hf
    have := beq_iff_eq.1 e
    subst this
    simp
   ·simp [ih hf]
 have := h _ hm
 simp only [Option.bind_eq_some_iff] at this
 obtain ⟨g, h1, h2⟩ := this
 exact ⟨g, h1, h2⟩
theorem cA {P : Nat × AFunc → Prop} {n : Nat} {f : AFunc} {l : List (Nat × AFunc)} (a : P (n, f)) (b : ∀ p ∈ l, P p) : ∀ p ∈ (n, f) :: l, P p := List.forall_mem_cons.2 ⟨a, b⟩
theorem tableOk : TableOk Go.Proofs.Tryz.prog (fun f => tab.lookup f) := by
 refine of_all ?_
 unfold tab
 exact cA o3 <| cA o10 <| cA o11 <| cA o12 <| cA o13 <| cA o14 <| cA o15 <| cA o16 <| cA o17 <| cA o18 <| cA o22 <| cA o24 <| 
  cA o25 <| cA o26 <| cA o27 <| cA o28 <| cA o29 <| cA o30 <| cA o31 <| cA o32 <| cA o33 <| cA o34 <| cA o35 <| cA o36 <| 
  cA o37 <| cA o38 <| cA o39 <| cA o40 <| cA o41 <| cA o42 <| cA o43 <| cA o44 <| cA o45 <| cA o46 <| cA o48 <| cA o49 <| 
  cA o50 <| cA o51 <| cA o52 <| cA o53 <| cA o54 <| cA o55 <| cA o56 <| cA o57 <| cA o58 <| cA o59 <| cA o60 <| cA o61 <| 
  cA o62 <| cA o63 <| cA o64 <| cA o65 <| cA o66 <| cA o67 <| cA o68 <| cA o69 <| cA o70 <| cA o71 <| cA o72 <| cA o73 <| 
  cA o74 <| cA o75 <| cA o76 <| cA o77 <| cA o78 <| cA o79 <| cA o80 <| cA o81 <| cA o82 <| cA o83 <| cA o84 <| cA o85 <| 
  cA o86 <| cA o87 <| cA o88 <| cA o89 <| cA o90 <| cA o92 <| cA o93 <| cA o94 <| cA o95 <| cA o96 <| cA o97 <| cA o98 <| 
  cA o99 <| cA o100 <| cA o101 <| cA o102 <| cA o103 <| cA o104 <| cA o105 <| cA o106 <| cA o107 <| cA o108 <| cA o109 <| cA o110 <| 
  cA o111 <| cA o112 <| cA o113 <| cA o114 <| cA o115 <| cA o116 <| cA o117 <| cA o118 <| cA o119 <| cA o120 <| cA o121 <| cA o122 <| 
  cA o123 <| cA o124 <| cA o125 <| cA o126 <| cA o127 <| cA o128 <| cA o129 <| cA o130 <| cA o131 <| cA o132 <| cA o133 <| cA o134 <| 
  cA o135 <| cA o136 <| cA o137 <| cA o138 <| cA o139 <| cA o140 <| cA o141 <| cA o142 <| cA o143 <| cA o144 <| cA o145 <| cA o146 <| 
  cA o147 <| cA o148 <| cA o149 <| cA o150 <| cA o151 <| cA o152 <| cA o153 <| cA o154 <| cA o155 <| cA o156 <| cA o158 <| cA o159 <| 
  cA o160 <| cA o161 <| cA o162 <| cA o163 <| cA o164 <| cA o165 <| cA o166 <| cA o167 <| cA o168 <| cA o169 <| cA o170 <| cA o171 <| 
  cA o172 <| cA o173 <| cA o174 <| cA o175 <| cA o176 <| cA o177 <| cA o178 <| cA o179 <| cA o180 <| cA o181 <| cA o182 <| cA o190 <| 
  cA o191 <| cA o192 <| cA o193 <| cA o194 <| cA o195 <| cA o196 <| cA o197 <| cA o198 <| cA o199 <| cA o200 <| cA o201 <| cA o203 <| 
  cA o207 <| cA o208 <| cA o209 <| cA o211 <| fun _ h => nomatch h
end Go.AM.G
