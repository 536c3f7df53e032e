import Derived.Test.YtfhbhfogcgfeeaaGreatDoorHmA
import Derived.Test.YtfhbhfogcgfeeaaGreatDoorHsJ
set_option linter.unusedVariables false
set_option linter.unusedSimpArgs false
set_option maxRecDepth 100000
namespace Go.AM.G
open Go Go.AM
theorem zqP {l:List Nat}:zgb l.toArray []=zJ l:=by simp [zgb,zJ]
theorem zss {M:Mem}{b:Nat}{l:List Nat}(hb:M[b]? =some (.cells true (zJ l))) (hl:l.length<100000000000000000):C S za0 [.slice b 0 l.length l.length false 1] M (fun r M'=>r= .tup []/\ ∃g,M'=M.set b (.cells true (zJ (zdq l)))++g):=by
 have hlt:=(List.getElem?_eq_some_iff.1 hb).1;have:=zsL (cap:=l.length) (ex:=false) (r:=[]) (Pl.of hlt) (d:=l.toArray) (n:=l.length) (by simp) hl;have e:M.set b (.cells true (zgb l.toArray []))=M:=by
  rw [zqP];obtain ⟨hlt,hg⟩:=List.getElem?_eq_some_iff.1 hb;rw [<-hg];exact List.set_getElem_self hlt
 have e2:at_ (fun X=>M.set b X) [] l.toArray=M:=e;rw [e2] at this;refine this.mono ?_;rintro _ _ ⟨rfl,g,rfl⟩;refine ⟨rfl,g,?_⟩;show M.set b (.cells true (zgb (zdq l).toArray []))++g=_;rw [zqP]
theorem zxo {m:Mem}:C S zW [.nils,.int .i64 0,.int .i64 0] m (fun r m'=>r= .tup []/\ ∃g,m'=m++g):=by
 have w1:IntKind.i64.wrap ((0:Int)+1)=1:=by decide
 have w2:IntKind.i64.wrap (1:Int)=1:=by decide
 have c1:((1:Int)<0)=False:=eq_false (by omega);refine fn rfl ?_
 let I:=fun (d:Nat) (fr:Frame) (M:Mem)=>Has fr [(0,.nils),(2,.int .i64 0),(6,.int .i64 1)]/\ ∃g,M=m++g
 refine zai I ?_ 0 ⟨zi,[],by simp⟩;rintro d fr _ ⟨F,⟨g,rfl⟩⟩;refine into ?_;exact ⟨_,rfl⟩
theorem zxp {m:Mem}{lim:Nat}:C S zx [.nils,.int .i64 0,.int .i64 0,.int .i64 (lim:Nat)] m (fun r m'=>r= .tup []/\ ∃g,m'=m++g):=by
 have w1:IntKind.i64.wrap ((0:Int)-0)=0:=by decide
 have w2:IntKind.i64.wrap (0:Int)=0:=by decide
 have c1:((0:Int)<=12)=True:=eq_true (by omega);refine fn rfl ?_
 let I:=fun (d:Nat) (fr:Frame) (M:Mem)=>Has fr [(0,.nils),(1,.int .i64 0),(2,.int .i64 0)]/\ ∃g,M=m++g
 refine zai I ?_ 0 ⟨zi,[],by simp⟩;rintro d fr _ ⟨F,⟨g,rfl⟩⟩;refine into ?_;refine zxo.mono ?_;rintro _ _ ⟨rfl,g2,rfl⟩;refine am ?_;exact ⟨_,rfl⟩
theorem zuM {m:Mem}:C S za0 [.nils] m (fun r m'=>r= .tup []/\ ∃g,m'=m++g):=by
 have w1:IntKind.u64.wrap (0:Int)=0:=by decide
 refine fn rfl ?_;refine (zjg (n:=0) (by omega)).mono ?_;rintro _ _ ⟨rfl,rfl⟩;refine am ?_;refine zxp.mono ?_;rintro _ _ ⟨rfl,g,rfl⟩;refine am ?_;exact ⟨_,rfl⟩
end Go.AM.G
