import Derived.Test.YtfhbhfogcgfeeaaGreatDoorHpTab
import Derived.Test.YtfhbhfogcgfeeaaGreatDoorAmLift
import Derived.Lib.BitFns
import Derived.Lib.ItoaNum
import Derived.Lib.TrailingZeros
set_option linter.unusedVariables false
set_option linter.unusedSimpArgs false
set_option maxRecDepth 100000
namespace Go.AM.G
open Go Go.AM
def zqb (args:List V) (m:Mem):Option (V×Mem):=
 match args with
 | [.int .u64 n]=>if 0<=n/\n<=18446744073709551615 then some (.int .i64 ((Go.Lib.bitLen n.toNat:Nat):Int),m) else none
 |_=>none
def isO (el:List V):Bool:=
 match el with
 | [.int .i64 _,.int .i64 _,.int .u64 _,.int .i64 _,.int .u64 _,.bool _]=>true
 |_=>false
def zkd:List (List V)->List (List V)
 | []=>[]
 | [_,_,a,_,_,.bool true]::r=>[a]::zkd r
 |_::r=>zkd r
def zxO (args:List V):Bool:=
 match args with
 | [.agg [a,b,c,d]]=>a.isCell&&b.isCell&&c.isCell&&d.isCell
 |_=>false
def zkM (call:Nat->List V->Mem->Option (V×Mem)) (args:List V) (m:Mem):Option (V×Mem):=
 if zxO args=true then match call zba args m with
 |some (.tup [.nilp,.int .i64 e],m1)=>if e=0 then none else some (.tup [.nils,.int .i64 e],m1)
 |some (.tup [.ptr P 0 0,.int .i64 0],m1)=>match m1[P]? with
  |some (.cells _ [[_,_,_,_,ov]])=>match elems m1 ov with
   |some els=>if els.all isO=true/\els.length<1000000/\zOk ov 6=true then
     (match zkd els with
     | []=>some (.tup [.nils,.int .i64 0],m1)
     |a::r=>some (.tup [.slice m1.length 0 (r.length+1) (r.length+1) false 1,.int .i64 0],m1++[.cells true (a::r)])) else none
   |none=>none
  |_=>none
 |_=>none else none
def tTz (args:List V) (m:Mem):Option (V×Mem):=
 match args with
 | [.int .u64 n]=>if 0<=n/\n<=18446744073709551615 then some (.int .i64 ((Go.Lib.ctz 64 n.toNat:Nat):Int),m) else none
 |_=>none
def X0:Told:=fun f=>if f=zaG\/f=zbc then some (fun _=>zqb) else if f=zaW then some zkM else if f=zR then some (fun _=>tTz) else none
theorem zu9 {c c':Nat->List V->Mem->Option (V×Mem)}(hc: ∀f a m r,c f a m=some r->c' f a m=some r){a:List V}{m:Mem}{r:V×Mem}(e:zkM c a m=some r):zkM c' a m=some r:=by
 unfold zkM at e ⊢
 split at e
 case isFalse=>cases e
 rename_i hi
 rw [if_pos hi];cases h:c zba a m with
 |none=>rw [h] at e;cases e
 |some y=>rw [h] at e;rw [hc _ _ _ _ h];exact e
theorem zsW:zhM X0:=fun f t h c c' hc a m r e=>by
 unfold X0 at h
 split at h
 ·cases h;exact e
 split at h
 ·cases h;exact zu9 hc e
 split at h
 ·cases h;exact e
 ·cases h
def X:Told:=fun f=>if f=zbV then some (fun _ args m=>match args with| []=>some (.bool true,m)|_=>none) else X0 f
theorem zy5:zhM X:=by
 intro f t h c c' hc a m r e;unfold X at h
 split at h
 ·cases h;exact e
 ·exact zsW f t h c c' hc a m r e
def X1:Told:=fun f=>if f=zbV then some (fun _ _ _=>none) else X0 f
theorem zyF:zhM X1:=by
 intro f t h c c' hc a m r e;unfold X1 at h
 split at h
 ·cases h;exact e
 ·exact zsW f t h c c' hc a m r e
def S:Sys:=⟨fun f=>tab.lookup f,X1,zyF⟩
def Stl:Sys:=⟨fun f=>tab.lookup f,X,zy5⟩
def Sv:Sys:=⟨fun f=>tab.lookup f,X0,zsW⟩
theorem toL {f:Nat}{args:List V}{m:Mem}{Q:V->Mem->Prop}(h:C S f args m Q):C Stl f args m Q:=C.lift (S1:=S) (S2:=Stl) rfl ⟨fun f t e=>by
 have e1:X1 f=some t:=e;unfold X1 at e1
 split at e1
 ·cases e1;exact .inr fun _ _ _=>rfl
 ·rename_i hn
  exact .inl ⟨t,by show X f=some t;unfold X;rw [if_neg hn];exact e1,fun _ _ _ _ h=>h⟩,fun f e=>by
 have e1:X1 f=none:=e;unfold X1 at e1
 split at e1
 ·cases e1
 ·rename_i hn
  show X f=none;unfold X;rw [if_neg hn];exact e1⟩ h
theorem toV {f:Nat}{args:List V}{m:Mem}{Q:V->Mem->Prop}(h:C S f args m Q):C Sv f args m Q:=C.lift (S1:=S) (S2:=Sv) rfl ⟨fun f t e=>by
 have e1:X1 f=some t:=e;unfold X1 at e1
 split at e1
 ·cases e1;exact .inr fun _ _ _=>rfl
 ·exact .inl ⟨t,e1,fun _ _ _ _ h=>h⟩,fun f e=>by
 have e1:X1 f=none:=e;unfold X1 at e1
 split at e1
 ·cases e1
 ·exact e1⟩ h
theorem zsX {m:Mem}:C Stl zbV [] m (fun r m'=>r= .bool true/\m=m'):=⟨1,_,_,rfl,rfl,rfl⟩
theorem zhR {m:Mem}{n:Nat}(hn:n<18446744073709551616):C S zaG [.int .u64 (n:Nat)] m (fun r m'=>r= .int .i64 ((Go.Lib.bitLen n:Nat):Int)/\m'=m):=by
 refine ⟨1,_,_,?_,rfl,rfl⟩;show zqb [.int .u64 (n:Int)] m=_;simp only [zqb];rw [if_pos ⟨by omega,by omega⟩];simp
theorem zsY {m:Mem}{n:Nat}(hn:n<18446744073709551616):C S zbc [.int .u64 (n:Nat)] m (fun r m'=>r= .int .i64 ((Go.Lib.bitLen n:Nat):Int)/\m'=m):=by
 refine ⟨1,_,_,?_,rfl,rfl⟩;show zqb [.int .u64 (n:Int)] m=_;simp only [zqb];rw [if_pos ⟨by omega,by omega⟩];simp
end Go.AM.G
