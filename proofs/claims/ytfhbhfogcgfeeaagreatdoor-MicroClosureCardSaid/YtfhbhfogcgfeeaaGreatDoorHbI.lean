import Derived.Test.YtfhbhfogcgfeeaaGreatDoorAmToldA
import Derived.Lib.TrailingZeros
import Derived.Test.YtfhbhfogcgfeeaaGreatDoorProg
import Derived.Shelf.SlSortCmp.WholeK
import Derived.Shelf.Small.Bits
import Derived.Shelf.Spec.TrailingZeros
import Derived.WalkKit
import Derived.ProofKit
set_option linter.unusedVariables false
set_option linter.unusedSimpArgs false
namespace Go.AM.G
open Go Go.AM
instance:HasLay:=⟨true,0,fun o=> ∃c e fr,o=some (.cells c e fr)/\ ∀j,j<64->c[j]? =some (.int .u8 (Go.Lib.deBruijn64tab.getD j 0))⟩
end Go.AM.G
set_option maxRecDepth 100000
namespace Go.Proofs.HbLay
open Go Go.Shelf Go.RowKit Go.Lib Go.Sort
def zyA:Ren:={ f:=fun x=>match x with|125=>174|128=>232|129=>157|n=>n,t:=fun x=>match x with|46=>108|3=>3|51=>290|53=>60|4=>4|5=>5|9=>9|n=>n,g:=fun n=>n }
theorem zuq:Lays.n125 Tryz.prog zyA where
 mixed:=rfl
 f125:=Tryz.func174.trans (congrArg some (by kernel_rfl))
 f128:=Tryz.func232.trans (congrArg some (by kernel_rfl))
 f129:=Tryz.func157.trans (congrArg some (by kernel_rfl))
 t3:=Tryz.underlying3
 a3:=Tryz.isAgg3
 z3:=Tryz.sizeOf3
 v3:=Tryz.zeroValue3
 t4:=Tryz.underlying4
 a4:=Tryz.isAgg4
 z4:=Tryz.sizeOf4
 v4:=Tryz.zeroValue4
 t5:=Tryz.underlying5
 a5:=Tryz.isAgg5
 z5:=Tryz.sizeOf5
 v5:=Tryz.zeroValue5
 t9:=Tryz.underlying9
 a9:=Tryz.isAgg9
 z9:=Tryz.sizeOf9
 v9:=Tryz.zeroValue9
 t46:=Tryz.underlying108
 a46:=Tryz.isAgg108
 z46:=Tryz.sizeOf108
 v46:=Tryz.zeroValue108
 t51:=Tryz.underlying290
 a51:=Tryz.isAgg290
 z51:=Tryz.sizeOf290
 v51:=Tryz.zeroValue290
 t53:=Tryz.underlying60
 a53:=Tryz.isAgg60
 z53:=Tryz.sizeOf60
 v53:=Tryz.zeroValue60
def zy2:Ren:={ f:=fun x=>match x with|29=>198|n=>n,t:=fun x=>match x with|22=>60|3=>3|4=>4|25=>108|54=>301|0=>0|5=>5|n=>n,g:=fun x=>match x with|1=>0|n=>n }
theorem zyB:Lays7.n29 Tryz.prog zy2 where
 mixed:=rfl
 f29:=Tryz.func198.trans (congrArg some (by kernel_rfl))
 t0:=Tryz.underlying0
 a0:=Tryz.isAgg0
 z0:=Tryz.sizeOf0
 v0:=Tryz.zeroValue0
 t3:=Tryz.underlying3
 a3:=Tryz.isAgg3
 z3:=Tryz.sizeOf3
 v3:=Tryz.zeroValue3
 t4:=Tryz.underlying4
 a4:=Tryz.isAgg4
 z4:=Tryz.sizeOf4
 v4:=Tryz.zeroValue4
 t5:=Tryz.underlying5
 a5:=Tryz.isAgg5
 z5:=Tryz.sizeOf5
 v5:=Tryz.zeroValue5
 t22:=Tryz.underlying60
 a22:=Tryz.isAgg60
 z22:=Tryz.sizeOf60
 v22:=Tryz.zeroValue60
 t25:=Tryz.underlying108
 a25:=Tryz.isAgg108
 z25:=Tryz.sizeOf108
 v25:=Tryz.zeroValue108
 t54:=Tryz.underlying301
 a54:=Tryz.isAgg301
 z54:=Tryz.sizeOf301
 i0:=by kernel_rfl
 i3:=by kernel_rfl
 i4:=by kernel_rfl
 i5:=by kernel_rfl
 i22:=by kernel_rfl
 i25:=by kernel_rfl
 g1:=by kernel_rfl
theorem bits_Len (x:Int) (w:World) (h0:0<=x) (h1:x<=18446744073709551615):Calls Tryz.prog 174 #[.int .u64 x] w fun e w'=>e= .returned (.int .i64 (Lib.bitLen x.toNat))/\w'=w:=Any.bits_Len zuq x w h0 h1
theorem bits_Len64 (x:Int) (w:World) (h0:0<=x) (h1:x<=18446744073709551615):Calls Tryz.prog 157 #[.int .u64 x] w fun e w'=>e= .returned (.int .i64 (Lib.bitLen x.toNat))/\w'=w:=Any.bits_Len64 { zuq with } x w h0 h1
theorem bits_Zeros (x:Nat) (hx:x<18446744073709551616) (w:World) (hT:TabAt 0 Lib.deBruijn64tab w):Calls Tryz.prog 198 #[.int .u64 x] w fun e w'=>e= .returned (.int .i64 (Lib.ctz 64 x))/\w'=w:=Any7.bits_TrailingZeros64 zyB x hx w fun _=>hT
end Go.Proofs.HbLay
