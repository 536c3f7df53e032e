import Derived.Test.YtfhbhfogcgfeeaaGreatDoorHmA
set_option linter.unusedVariables false
set_option linter.unusedSimpArgs false
set_option maxRecDepth 100000
namespace Go.AM.G
open Go Go.AM
theorem zsQ {m:Mem}{v u:V}{n k:Nat}{w x:Nat->Nat}(hv:Rd m v 1 n (zG w)) (hu:Rd m u 1 k (zG x)) (hn:n<4611686018427387904):C S zkh [v,u] m (fun r m'=>r= .bool (decide (n=k/\ ∀i,i<n->w i=x i))/\m'=m):=by
 have A:=hv.ar;have B:=hu.ar
 by_cases h:n=k
 case neg=>
  have h1:((n:Int)=(k:Int))=False:=eq_false (by omega);have h2:(n=k/\ ∀i,i<n->w i=x i)=False:=eq_false fun e=>h e.1
  refine fn rfl ?_
  simp
 subst h;have h1:((n:Int)=(n:Int))=True:=eq_true rfl;refine fn rfl ?_;refine range (α:=Unit) n (fun _=>[(0,v),(1,u)]) (fun j _ M=>M=m/\ ∀i,i<j->w i=x i) () ⟨rfl,fun i hi=>absurd hi (Nat.not_lt_zero _)⟩ ?_ ?_
 ·rintro j ⟨⟩ fr _ hj F ⟨rfl,hj2⟩
  by_cases e:w j=x j
  ·have e':((w j:Int)=(x j:Int))=True:=eq_true (by omega)
   refine am ?_;exact ⟨(),zh,rfl,fun i hi=>by by_cases h:i=j;exact h▸e;exact hj2 i (by omega)⟩
  ·have e':((w j:Int)=(x j:Int))=False:=eq_false (by omega)
   refine am ?_;exact (decide_eq_false fun h=>e (h j hj)).symm
 ·rintro ⟨⟩ fr _ F ⟨rfl,hj2⟩
  have e2:id (∀i,i<n->w i=x i):=hj2;clear hj2;refine am ?_;exact (decide_eq_true (show ∀i,i<n->w i=x i from e2)).symm
def b01 (b:Bool):Int:=if b then 1 else 0
theorem zlX {m:Mem}{N f M:Nat}{v:V}(hs:zqc N M) (hM:M<18446744073709551616) (hf:f<N) (hN:N<=48) (hv:Rd m v 1 1 (fun _=>[.int .i64 (f:Nat)])):
  C S zhW [.agg [.int .i64 (N:Nat),.int .u64 (M:Nat)],v] m (fun r m'=>r= .tup [.int .i64 (b01 (M.testBit f)),.int .i64 0]/\Grow m m'):=by
 have A:=hv.ar;refine fn rfl ?_;refine (zcS hM).mono ?_;rintro _ _ ⟨⟨_,rfl⟩|⟨hn,_⟩,⟨g1,rfl⟩⟩
 case inr=>exact absurd hs hn
 have hs':=zU hs;clear hs;refine am ?_;refine range (α:=Int) 1 (fun x=>[(2,.ptr m.length 0 0),(15,v),(7,.int .i64 x)]) (fun j x M'=>(∃g,M'=m++ .cells true [[.int .i64 (N:Nat),.int .u64 (M:Nat)]]::g)/\x=if j=0 then 0 else b01 (M.testBit f)) 0 ⟨⟨_,rfl⟩,rfl⟩ ?_ ?_
 ·rintro j x fr _ hj F ⟨⟨g,rfl⟩,hx⟩
  obtain rfl:j=0:=by omega
  have hx0:x=0:=hx;subst hx0;have A:=(hv.app (g:= .cells true [[.int .i64 (N:Nat),.int .u64 (M:Nat)]]::g)).ar;have c1:((f:Int)<0)=False:=eq_false (by omega);have c2:((N:Int)<=(f:Int))=False:=eq_false (by omega);have c3:((f:Int)<(N:Int))=True:=eq_true (by omega);have c4:((0:Nat):Int)=0:=rfl;have w11:IntKind.i64.wrap 1=1:=rfl;have ix:zaB 1 v (.int .i64 0)=some (atp v 0 0):=A.2.2.2.1 .i64 0 (by omega);clear hx;refine am ?_;refine (zkg (f:=f) hM (by omega)).mono ?_;rintro _ _ ⟨rfl,⟨g2,rfl⟩⟩;cases hb:M.testBit f with
  |true=>
   refine am ?_;refine ⟨1,zh,⟨_,rfl⟩,rfl⟩
  |false=>
   refine am ?_;refine ⟨0,zh,⟨_,rfl⟩,rfl⟩
 ·rintro x fr _ F ⟨⟨g,rfl⟩,hx⟩
  have hx':x=b01 (M.testBit f):=hx;subst hx';clear hx;refine am ?_;exact ⟨_,rfl⟩
theorem zn8 {m:Mem}{N f M:Nat}(hs:zqc N M) (hM:M<18446744073709551616) (hf:f<N) (hN:N<=48):
  C S zeY [.agg [.int .i64 (N:Nat),.int .u64 (M:Nat)],.int .i64 (f:Nat)] m (fun r m'=>r= .tup [.bool (M.testBit f),.int .i64 0]/\Grow m m'):=by
 have hs':=zU hs;clear hs;refine fn rfl ?_;refine am ?_;have hr:Rd (m++ .cells true [[.int .i64 (N:Nat),.int .u64 (M:Nat)]]::[.cells true [[.int .i64 (f:Nat)]]]) (.slice (m.length+1) 0 1 1 true 1) 1 1 (fun _=>[.int .i64 (f:Nat)]):=by
  refine .inl ?_;exact Sl.mk (els:=[[.int .i64 (f:Nat)]]) (own:=true) (by rw [zi];rfl)
 refine (zlX hs'.down hM hf hN hr).mono ?_;rintro _ _ ⟨rfl,⟨g,rfl⟩⟩;cases hb:M.testBit f with
 |true=>
  have e:b01 true=1:=rfl;refine am ?_;exact ⟨_,rfl⟩
 |false=>
  have e:b01 false=0:=rfl;refine am ?_;exact ⟨_,rfl⟩
def Gx (len:Nat) (g:Mem) (v:V) (els:List (List V)):Prop:=Gw len g v 1 els\/(els=[]/\ ∃j own es,v= .slice (len+j) 0 0 0 true 1/\g[j]? =some (.cells own es))
theorem Gx.cell {len:Nat}{g:Mem}{v:V}{els:List (List V)}(h:Gx len g v els):v.isCell=true:=by
 rcases h with h|⟨_,_,_,_,rfl,_⟩
 ·exact h.cell
 ·rfl
theorem Gx.sl {A g G:Mem}{v:V}{els:List (List V)}(h:Gx A.length g v els):Sl (A++(g++G)) v 1 els:=by
 rcases h with h|⟨rfl,j,own,es,rfl,hj⟩
 ·exact h.sl
 ·have:(A++(g++G))[A.length+j]? =some (.cells own es):=by rw [zi];exact zb hj
  exact ⟨by simp [elems,this],by simp [zOk]⟩
theorem Gx.push {A g:Mem}{v:V}{els:List (List V)}(h:Gx A.length g v els) (hr:roomy (els.length+1) 8=true):
  ∃g',g'.length=g.length/\(∀j,zah v≠some (A.length+j)->g'[j]? =g[j]?)/\ ∀G T,zM (A++(g++G)) [.int .u64 0] 8 v (.slice T 0 1 1 true 1)=pushB (A++(g++G))[T]? fun x=>(.slice (A.length+(g.length+G.length)) 0 (els.length+1) (els.length+1) false 1,A++(g'++(G++[.cells true (els++[x])]))):=by
 rcases h with h|⟨rfl,j,own,es,rfl,hj⟩
 ·exact h.push rfl hr
 ·refine ⟨g,rfl,fun _ _=>rfl,fun G T=> ?_⟩
  have e:(A++(g++G))[A.length+j]? =some (.cells own es):=by rw [zi];exact zb hj
  unfold zM zde elems pushB;dsimp only;cases hT:(A++(g++G))[T]? with
  |none=>rfl
  |some y=>
   cases y with
   |dead=>rfl
   |mp es=>rfl
   |cells o xs=>
    cases xs with
    |nil=>simp
    |cons x xs=>
     have hr':roomy 1 8=true:=by simpa using hr
     simp [zOk,e,hr',List.append_assoc]
theorem zc1 {m:Mem}{v:V}{rs:List Nat}(hv:Nus m v rs) (hn:rs.length<17592186044417):C S zF [v] m (fun r m'=> ∃g,m'=m++g/\Gx m.length g r (zD rs)):=by
 have hlen:(zD rs).length=rs.length:=by simp
 rcases hv with hv|⟨e,rfl⟩
 ·rcases hv.cases with ⟨rfl,he⟩|⟨b,i,len,cap,ex,rfl⟩
  ·have:rs=[]:=by
    have:=congrArg List.length he
    simpa using this
   subst this;refine fn rfl ?_;exact ⟨[],by simp,.inl (.inl ⟨rfl,rfl⟩)⟩
  ·have he:elems (m++[.cells true []]) (.slice b i len cap ex 1)=some (zD rs):=by
    have:=(hv.app (g:=[.cells true []])).1;rw [this]
    congr 1
    exact (zkX (f:=fun p:Nat=>[V.int .u64 (p:Int)]) (l:=rs)).symm
   have hy:=zf4 he;have hz:zOk (.slice b i len cap ex 1) 1=true:=hv.2
   by_cases h0:rs=[]
   ·subst h0
    have ap:zM (m++[.cells true []]) [.int .u64 0] 8 (.slice m.length 0 0 0 true 1) (.slice b i len cap ex 1)=some (.slice m.length 0 0 0 true 1,m++[.cells true []]):=by
     unfold zM;rw [hy];simp [hz,zD]
    clear hy he;refine fn rfl ?_;exact ⟨_,rfl,.inr ⟨rfl,0,true,[],rfl,rfl⟩⟩
   ·have hpos:0<rs.length:=List.length_pos_iff.2 h0
    have ap:zM (m++[.cells true []]) [.int .u64 0] 8 (.slice m.length 0 0 0 true 1) (.slice b i len cap ex 1)=some (.slice (m.length+1) 0 rs.length rs.length false 1,m++([.cells true []]++[.cells true (zD rs)])):=by
     unfold zM;rw [hy];have e1:(zD rs).isEmpty=false:=by cases rs with
      |nil=>exact absurd rfl h0
      |cons a l=>rfl
     have e2:(m++[Blk.cells true []])[m.length]? =some (.cells true []):=by simp
     have e3:roomy rs.length 8=true:=by simp [roomy];omega
     have e4:¬ rs.length=0:=by omega
     have e5:¬ rs.length<=0:=by omega
     simp [hz,e1,hlen,e3,e4,List.append_assoc]
    clear hy he;refine fn rfl ?_;refine ⟨_,rfl,.inl (.inr ⟨1,?_,rfl⟩)⟩;rw [hlen]
 ·have:rs=[]:=by
   cases rs with
   |nil=>rfl
   |cons a l=>simp at e
  subst this;refine fn rfl ?_;exact ⟨.slice m.length 0 0 0 true 1,m++[.cells true []],by simp [zM,zde,zOk],[.cells true []],rfl,.inr ⟨rfl,0,true,[],rfl,rfl⟩⟩
end Go.AM.G
