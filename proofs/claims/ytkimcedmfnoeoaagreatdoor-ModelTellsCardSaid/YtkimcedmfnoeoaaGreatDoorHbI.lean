/- The library's table that one function reads, as it lies when a law is asked. -/
import Derived.Test.YtkimcedmfnoeoaaGreatDoorAmToldA
import Derived.Lib.TrailingZeros
import Derived.Test.YtkimcedmfnoeoaaGreatDoorProg
import Derived.Shelf.SlSortCmp.WholeK
import Derived.Shelf.Small.Bits
import Derived.Shelf.Spec.TrailingZeros
import Derived.WalkKit
import Derived.ProofKit
set_option linter.unusedVariables false
set_option linter.unusedSimpArgs false
namespace Go.AM.G
open Go Go.AM
instance : HasLay := ⟨true, 0, fun o => ∃ c e fr, o = some (.cells c e fr) ∧ ∀ j, j < 64 → c[j]? = some (.int .u8 (Go.Lib.deBruijn64tab.getD j 0))⟩
end Go.AM.G
set_option maxRecDepth 100000
namespace Go.Proofs.HbLay
open Go Go.Shelf Go.RowKit Go.Lib Go.Sort
def ren6 : Ren := { f := fun x => match x with | 6 => 97 | 15 => 104 | 14 => 146 | 28 => 157 | 29 => 122 | 20 => 182 | 21 => 183 | 22 => 184 | 23 => 185 | 24 => 186 | 25 => 187 | 26 => 188 | 27 => 189 | 46 => 204 | 47 => 191 | 48 => 192 | 49 => 205 | 50 => 206 | 57 => 210 | n => n, t := fun x => match x with | 22 => 32 | 24 => 61 | 25 => 164 | 3 => 3 | 39 => 171 | 0 => 0 | 53 => 224 | 55 => 47 | 4 => 4 | 46 => 217 | 45 => 216 | 50 => 105 | 5 => 5 | 9 => 9 | 66 => 250 | 70 => 254 | 76 => 261 | 77 => 147 | n => n, g := fun n => n }
theorem lays6 : SlLaysF0.n6 Tryz.prog ren6 where
 mixed := rfl
 f6 := ⟨"slices.SortFunc[[]besom/api.EphSlot,besom/api.EphSlot]", of_decide_eq_true rfl, Tryz.func97.trans (congrArg some (by kernel_rfl))⟩
 f14 := ⟨"slices.pdqsortCmpFunc[besom/api.EphSlot]", of_decide_eq_true rfl, Tryz.func146.trans (congrArg some (by kernel_rfl))⟩
 f15 := Tryz.func104.trans (congrArg some (by kernel_rfl))
 f20 := ⟨"slices.insertionSortCmpFunc[besom/api.EphSlot]", of_decide_eq_true rfl, Tryz.func182.trans (congrArg some (by kernel_rfl))⟩
 f21 := ⟨"slices.heapSortCmpFunc[besom/api.EphSlot]", of_decide_eq_true rfl, Tryz.func183.trans (congrArg some (by kernel_rfl))⟩
 f22 := ⟨"slices.breakPatternsCmpFunc[besom/api.EphSlot]", of_decide_eq_true rfl, Tryz.func184.trans (congrArg some (by kernel_rfl))⟩
 f23 := ⟨"slices.choosePivotCmpFunc[besom/api.EphSlot]", of_decide_eq_true rfl, Tryz.func185.trans (congrArg some (by kernel_rfl))⟩
 f24 := ⟨"slices.reverseRangeCmpFunc[besom/api.EphSlot]", of_decide_eq_true rfl, Tryz.func186.trans (congrArg some (by kernel_rfl))⟩
 f25 := ⟨"slices.partialInsertionSortCmpFunc[besom/api.EphSlot]", of_decide_eq_true rfl, Tryz.func187.trans (congrArg some (by kernel_rfl))⟩
 f26 := ⟨"slices.partitionEqualCmpFunc[besom/api.EphSlot]", of_decide_eq_true rfl, Tryz.func188.trans (congrArg some (by kernel_rfl))⟩
 f27 := ⟨"slices.partitionCmpFunc[besom/api.EphSlot]", of_decide_eq_true rfl, Tryz.func189.trans (congrArg some (by kernel_rfl))⟩
 f28 := Tryz.func157.trans (congrArg some (by kernel_rfl))
 f29 := Tryz.func122.trans (congrArg some (by kernel_rfl))
 f46 := ⟨"slices.siftDownCmpFunc[besom/api.EphSlot]", of_decide_eq_true rfl, Tryz.func204.trans (congrArg some (by kernel_rfl))⟩
 f47 := Tryz.func191.trans (congrArg some (by kernel_rfl))
 f48 := Tryz.func192.trans (congrArg some (by kernel_rfl))
 f49 := ⟨"slices.medianAdjacentCmpFunc[besom/api.EphSlot]", of_decide_eq_true rfl, Tryz.func205.trans (congrArg some (by kernel_rfl))⟩
 f50 := ⟨"slices.medianCmpFunc[besom/api.EphSlot]", of_decide_eq_true rfl, Tryz.func206.trans (congrArg some (by kernel_rfl))⟩
 f57 := ⟨"slices.order2CmpFunc[besom/api.EphSlot]", of_decide_eq_true rfl, Tryz.func210.trans (congrArg some (by kernel_rfl))⟩
 t0 := Tryz.underlying0
 a0 := Tryz.isAgg0
 z0 := Tryz.sizeOf0
 v0 := Tryz.zeroValue0
 t3 := Tryz.underlying3
 a3 := Tryz.isAgg3
 z3 := Tryz.sizeOf3
 v3 := Tryz.zeroValue3
 t4 := Tryz.underlying4
 a4 := Tryz.isAgg4
 z4 := Tryz.sizeOf4
 v4 := Tryz.zeroValue4
 t5 := Tryz.underlying5
 a5 := Tryz.isAgg5
 z5 := Tryz.sizeOf5
 v5 := Tryz.zeroValue5
 t9 := Tryz.underlying9
 a9 := Tryz.isAgg9
 z9 := Tryz.sizeOf9
 v9 := Tryz.zeroValue9
 t22 := Tryz.underlying32
 a22 := Tryz.isAgg32
 z22 := Tryz.sizeOf32
 v22 := Tryz.zeroValue32
 t25 := Tryz.underlying164
 a25 := Tryz.isAgg164
 z25 := Tryz.sizeOf164
 v25 := Tryz.zeroValue164
 t39 := Tryz.underlying171
 a39 := Tryz.isAgg171
 z39 := Tryz.sizeOf171
 v39 := Tryz.zeroValue171
 t45 := Tryz.underlying216
 a45 := Tryz.isAgg216
 z45 := Tryz.sizeOf216
 v45 := Tryz.zeroValue216
 t46 := Tryz.underlying217
 a46 := Tryz.isAgg217
 z46 := Tryz.sizeOf217
 v46 := Tryz.zeroValue217
 t50 := Tryz.underlying105
 a50 := Tryz.isAgg105
 z50 := Tryz.sizeOf105
 v50 := Tryz.zeroValue105
 t53 := Tryz.underlying224
 a53 := Tryz.isAgg224
 z53 := Tryz.sizeOf224
 v53 := Tryz.zeroValue224
 t55 := Tryz.underlying47
 a55 := Tryz.isAgg47
 z55 := Tryz.sizeOf47
 v55 := Tryz.zeroValue47
 t66 := Tryz.underlying250
 a66 := Tryz.isAgg250
 z66 := Tryz.sizeOf250
 v66 := Tryz.zeroValue250
 t70 := Tryz.underlying254
 a70 := Tryz.isAgg254
 z70 := Tryz.sizeOf254
 v70 := Tryz.zeroValue254
 t76 := Tryz.underlying261
 a76 := Tryz.isAgg261
 z76 := Tryz.sizeOf261
 v76 := Tryz.zeroValue261
 t77 := Tryz.underlying147
 a77 := Tryz.isAgg147
 z77 := Tryz.sizeOf147
 v77 := Tryz.zeroValue147
def ren125 : Ren := { f := fun x => match x with | 125 => 104 | 128 => 157 | 129 => 122 | n => n, t := fun x => match x with | 46 => 171 | 3 => 3 | 51 => 224 | 53 => 47 | 4 => 4 | 5 => 5 | 9 => 9 | n => n, g := fun n => n }
theorem lays125 : Lays.n125 Tryz.prog ren125 where
 mixed := rfl
 f125 := Tryz.func104.trans (congrArg some (by kernel_rfl))
 f128 := Tryz.func157.trans (congrArg some (by kernel_rfl))
 f129 := Tryz.func122.trans (congrArg some (by kernel_rfl))
 t3 := Tryz.underlying3
 a3 := Tryz.isAgg3
 z3 := Tryz.sizeOf3
 v3 := Tryz.zeroValue3
 t4 := Tryz.underlying4
 a4 := Tryz.isAgg4
 z4 := Tryz.sizeOf4
 v4 := Tryz.zeroValue4
 t5 := Tryz.underlying5
 a5 := Tryz.isAgg5
 z5 := Tryz.sizeOf5
 v5 := Tryz.zeroValue5
 t9 := Tryz.underlying9
 a9 := Tryz.isAgg9
 z9 := Tryz.sizeOf9
 v9 := Tryz.zeroValue9
 t46 := Tryz.underlying171
 a46 := Tryz.isAgg171
 z46 := Tryz.sizeOf171
 v46 := Tryz.zeroValue171
 t51 := Tryz.underlying224
 a51 := Tryz.isAgg224
 z51 := Tryz.sizeOf224
 v51 := Tryz.zeroValue224
 t53 := Tryz.underlying47
 a53 := Tryz.isAgg47
 z53 := Tryz.sizeOf47
 v53 := Tryz.zeroValue47
def ren29 : Ren := { f := fun x => match x with | 29 => 198 | n => n, t := fun x => match x with | 22 => 47 | 3 => 3 | 4 => 4 | 25 => 171 | 54 => 263 | 0 => 0 | 5 => 5 | n => n, g := fun x => match x with | 1 => 0 | n => n }
theorem lays29 : Lays7.n29 Tryz.prog ren29 where
 mixed := rfl
 f29 := Tryz.func198.trans (congrArg some (by kernel_rfl))
 t0 := Tryz.underlying0
 a0 := Tryz.isAgg0
 z0 := Tryz.sizeOf0
 v0 := Tryz.zeroValue0
 t3 := Tryz.underlying3
 a3 := Tryz.isAgg3
 z3 := Tryz.sizeOf3
 v3 := Tryz.zeroValue3
 t4 := Tryz.underlying4
 a4 := Tryz.isAgg4
 z4 := Tryz.sizeOf4
 v4 := Tryz.zeroValue4
 t5 := Tryz.underlying5
 a5 := Tryz.isAgg5
 z5 := Tryz.sizeOf5
 v5 := Tryz.zeroValue5
 t22 := Tryz.underlying47
 a22 := Tryz.isAgg47
 z22 := Tryz.sizeOf47
 v22 := Tryz.zeroValue47
 t25 := Tryz.underlying171
 a25 := Tryz.isAgg171
 z25 := Tryz.sizeOf171
 v25 := Tryz.zeroValue171
 t54 := Tryz.underlying263
 a54 := Tryz.isAgg263
 z54 := Tryz.sizeOf263
 i0 := by kernel_rfl
 i3 := by kernel_rfl
 i4 := by kernel_rfl
 i5 := by kernel_rfl
 i22 := by kernel_rfl
 i25 := by kernel_rfl
 g1 := by kernel_rfl
theorem bits_Len (x : Int) (w : World) (h0 : 0 ≤ x) (h1 : x ≤ 18446744073709551615) : Calls Tryz.prog 104 #[.int .u64 x] w fun e w' => e = .returned (.int .i64 (Lib.bitLen x.toNat)) ∧ w' = w := Any.bits_Len lays125 x w h0 h1
theorem bits_Len64 (x : Int) (w : World) (h0 : 0 ≤ x) (h1 : x ≤ 18446744073709551615) : Calls Tryz.prog 122 #[.int .u64 x] w fun e w' => e = .returned (.int .i64 (Lib.bitLen x.toNat)) ∧ w' = w := Any.bits_Len64 { lays125 with } x w h0 h1
theorem bits_Zeros (x : Nat) (hx : x < 18446744073709551616) (w : World) (hT : TabAt 0 Lib.deBruijn64tab w) : Calls Tryz.prog 198 #[.int .u64 x] w fun e w' => e = .returned (.int .i64 (Lib.ctz 64 x)) ∧ w' = w := Any7.bits_TrailingZeros64 lays29 x hx w fun _ => hT
theorem isNaN (x : Int) (w : World) : Calls Tryz.prog 113 #[.int .u64 x] w fun e w' => e = .returned (.bool false) ∧ w' = w := by
 go_enter Tryz.func113, Tryz.ntmps113
 go_wp2
 go_ret
 exact ⟨by simp, rfl⟩
set_option maxHeartbeats 1000000 in
theorem cmp (x y : Int) (w : World) : Calls Tryz.prog 68 #[.int .u64 x, .int .u64 y] w fun e w' => e = .returned (.int .i64 (Lib.compareInt x y)) ∧ w' = w := by
 go_enter Tryz.func68, Tryz.ntmps68
 go_wp2_with (go_at_call 113; refine (isNaN _ _).mono ?_; rintro e w' ⟨rfl, hw⟩; rw [hw])
 all_goals (go_ret; refine ⟨?_, rfl⟩; unfold Lib.compareInt; (repeat' split) <;> first | rfl | (exfalso; omega))
set_option maxHeartbeats 1000000 in
theorem closure (a b c a' b' c' : Int) (W : World) : Calls Tryz.prog 98 #[.agg #[.int .u8 a, .int .u64 b, .int .u64 c], .agg #[.int .u8 a', .int .u64 b', .int .u64 c']] W fun e w' => e = .returned (.int .i64 (Lib.compareInt b b')) ∧ ∃ q os', w' = grow (W.drewN q) os' := by
 have hcon := fun W' => cmp b b' W'
 generalize Lib.compareInt b b' = r at hcon ⊢
 go_enter Tryz.func98, Tryz.ntmps98
 go_wp2_with (go_at_call 68; refine (hcon _).mono ?_; rintro e w' ⟨rfl, rfl⟩)
 go_ret
 exact ⟨rfl, 0, _, by rw [alloc_eq_grow, alloc_eq_grow, grow_grow]; rfl⟩
end Go.Proofs.HbLay
