import Derived.Test.YtfhbhfogcgfeeaaGreatDoorHqA
set_option linter.unusedVariables false
set_option linter.unusedSimpArgs false
set_option maxRecDepth 100000
namespace Go.AM.G
open Go Go.AM
abbrev zn9 (n:Nat):List (List V):=List.replicate n [V.int .u64 0]
theorem zwL {m:Mem}:C S zbb [.nils,.int .i64 0] m (fun r m'=>r= .nils/\m'=m):=by
 have w2:IntKind.i64.wrap (0:Int)=0:=by decide
 have c1:((0:Int)<0)=False:=eq_false (by omega);refine fn rfl ?_;trivial
theorem zu4 {m:Mem}{n:Nat}(h1:0<n) (hn:n<=17592186044416):C S zbb [.nils,.int .i64 (n:Nat)] m (fun r m'=>r= .slice m.length 0 0 n false 1/\m'=m++[.cells true (zn9 n)]):=by
 have w1:IntKind.i64.wrap (0:Int)=0:=by decide
 have w3:=wn (a:=n) (by omega);have w2:IntKind.i64.wrap ((n:Int)-0)=(n:Int):=by rw [wrap_i64]<;>omega
 have c1:((n:Int)<0)=False:=eq_false (by omega);have c2:((0:Int)<(n:Int))=True:=eq_true (by omega);have rm:roomy n 8=true:=by simp [roomy];omega
 have ap:zlc m [.int .u64 0] 8 .nils (.int .i64 (n:Nat))=some (.slice m.length 0 n n false 1,m++[.cells true (zn9 n)]):=by
  unfold zlc;dsimp only;rw [Int.toNat_natCast,if_pos ⟨by omega,rm⟩];rfl
 have s1:za6 .nils none (some (.int .i64 0)) none=some .nils:=rfl;have s2:za6 (.slice m.length 0 n n false 1) none (some (.int .i64 0)) none=some (.slice m.length 0 0 n false 1):=by simp [za6,bound]
 have z1:zOk (.slice m.length 0 n n false 1) 1=true:=rfl;have z2:zOk .nils 1=true:=rfl;have on: ∀{f:Arg->V},Option.map f none=none:=rfl;clear rm h1 hn;refine fn rfl ?_;trivial
def cat (ls:Nat->List Nat):Nat->List Nat
 |0=>[]
 |k+1=>cat ls k++ls k
theorem zwM {ls:Nat->List Nat}{i k:Nat}(h:i<=k):(cat ls i).length<=(cat ls k).length:=by
 induction k with
 |zero=>
   have:i=0:=by omega
   subst this;exact Nat.le_refl _
 |succ k ih=>
  by_cases e:i=k+1
  ·subst e;exact Nat.le_refl _
  ·have:=ih (by omega)
   simp only [cat,List.length_append];omega
theorem elY {m:Mem}{v:V}{l:List Nat}(h:Nus m v l):zde m v=some (zD l)/\zOk v 1=true:=by
 rcases h with ⟨h1,h2⟩|⟨h1,rfl⟩
 ·refine ⟨zf4 ?_,h2⟩
  rw [h1];exact congrArg some (zkX (f:=fun p:Nat=>[V.int .u64 (p:Int)]) (l:=l)).symm
 ·have:l=[]:=List.eq_nil_of_length_eq_zero h1
  subst this;exact ⟨rfl,rfl⟩
theorem zwN {L l:List Nat}{t:Nat}(ht:L.length+l.length<=t):over (zD L++zn9 (t-L.length)) L.length (zD l)=zD (L++l)++zn9 (t-(L++l).length):=by
 unfold over;have e1:(zD L).length=L.length:=by simp
 rw [List.take_left' e1,List.length_map,List.drop_append,List.drop_of_length_le (by rw [e1];omega),e1,List.nil_append,Nat.add_sub_cancel_left,List.drop_replicate,zD,zD,zD,List.map_append,List.append_assoc,List.length_append]
 congr 3
 omega
theorem zwO {M:Mem}{B t:Nat}{y:V}{L l:List Nat}(hB:M[B]? =some (.cells true (zD L++zn9 (t-L.length)))) (hy:Nus M y l) (ht:L.length+l.length<=t):
  zM M [.int .u64 0] 8 (.slice B 0 L.length t false 1) y=some (.slice B 0 (L++l).length t false 1,M.set B (.cells true (zD (L++l)++zn9 (t-(L++l).length)))):=by
 obtain ⟨h1,h2⟩:=elY hy;have hov:=zwN ht;unfold zM;rw [h1]
 by_cases hl:l=[]
 ·subst hl
  have:M.set B (.cells true (zD (L++[])++zn9 (t-(L++[]).length)))=M:=by
   obtain ⟨hlt,hg⟩:=List.getElem?_eq_some_iff.1 hB;rw [List.append_nil,<-hg];exact List.set_getElem_self hlt
  rw [this];simp [h2]
 ·have hne:(zD l).isEmpty=false:=by cases l<;>simp_all
  have hll:(zD l).length=l.length:=by simp
  have hel:(zD L++zn9 (t-L.length)).length=t:=by simp;omega
  simp only [List.length_cons,List.length_nil,h2,hB,hne,hll,hel,Bool.true_eq_false,Bool.false_eq_true,if_false,Nat.zero_add,ne_eq,not_true_eq_false];rw [if_pos (by omega),if_pos (by omega),if_pos ⟨trivial,by omega⟩,hov,List.length_append]
def Cw (len t:Nat) (g:Mem) (v:V) (L:List Nat):Prop:=(t=0/\v= .nils)\/ ∃j,v= .slice (len+j) 0 L.length t false 1/\g[j]? =some (.cells true (zD L++zn9 (t-L.length)))
theorem Cw.cell {len t:Nat}{g:Mem}{v:V}{L:List Nat}(h:Cw len t g v L):v.isCell=true:=by
 rcases h with ⟨_,rfl⟩|⟨j,rfl,_⟩<;>rfl
theorem Cw.push {m g:Mem}{t:Nat}{v y:V}{L l:List Nat}(h:Cw m.length t g v L) (hy:Nus (m++g) y l) (ht:L.length+l.length<=t): ∃v' g',zM (m++g) [.int .u64 0] 8 v y=some (v',m++g')/\Cw m.length t g' v' (L++l)/\v'.isCell=true:=by
 rcases h with ⟨h0,rfl⟩|⟨j,rfl,hj⟩
 ·have hl:l=[]:=List.eq_nil_of_length_eq_zero (by omega)
  subst hl;obtain ⟨h1,h2⟩:=elY hy;refine ⟨.nils,g,?_,.inl ⟨h0,rfl⟩,rfl⟩;unfold zM;rw [h1];simp [h2]
 ·have hlt:=(List.getElem?_eq_some_iff.1 hj).1
  have hB:(m++g)[m.length+j]? =some (.cells true (zD L++zn9 (t-L.length))):=by rw [zi];exact hj
  refine ⟨_,_,(zwO hB hy ht).trans (by rw [zfn]),.inr ⟨j,rfl,by simp [hlt]⟩,rfl⟩
theorem Cw.gw {len t:Nat}{g:Mem}{v:V}{L:List Nat}(h:Cw len t g v L) (ht:L.length=t):Gw len g v 1 (zD L):=by
 rcases h with ⟨h0,rfl⟩|⟨j,rfl,hj⟩
 ·have:L=[]:=List.eq_nil_of_length_eq_zero (by omega)
  subst this;exact .inl ⟨rfl,rfl⟩
 ·refine .inr ⟨j,by rw [List.length_map,ht],?_⟩
  rw [hj,ht];simp
theorem zhP {m:Mem}{sv:V}{k:Nat}{vs:Nat->V}{ls:Nat->List Nat}(hs:Rd m sv 1 k (fun i=>[vs i])) (hr: ∀i,i<k->Nus m (vs i) (ls i)) (hk:k<1000000) (ht:(cat ls k).length<=17592186044416):
  C S zaL [sv] m (fun r m'=> ∃g,m'=m++g/\Gw m.length g r 1 (zD (cat ls k))):=by
 have A:=hs.ar;have hr':=zU hr;have ht':=zU ht;clear hr ht;refine fn rfl ?_;refine range (α:=Nat) k (fun x=>[(0,sv),(9,sv),(3,.int .i64 (x:Nat))]) (fun j x M=>m=M/\x=(cat ls j).length) 0 ⟨rfl,rfl⟩ ?_ ?_
 ·rintro j x fr _ hj F ⟨rfl,hx⟩
  have B:=(hr'.down j hj).ar;have h1:(cat ls (j+1)).length=x+(ls j).length:=by rw [hx];simp [cat]
  have h2:=zwM (ls:=ls) (i:=j+1) (k:=k) hj;have h3:=ht'.down;have w1:IntKind.i64.wrap ((x:Int)+((ls j).length:Int))=((x+(ls j).length:Nat):Int):=by rw [wrap_i64]<;>omega
  have c1:(((x+(ls j).length:Nat):Int)<0)=False:=eq_false (by omega);have h1':=zU h1;clear hx h1 h2 h3;refine am ?_;exact ⟨x+(ls j).length,zh,rfl,h1'.down.symm⟩
 ·rintro x fr _ F ⟨rfl,hx⟩
  obtain ⟨t,et⟩: ∃t,(cat ls k).length=t:=⟨_,rfl⟩
  have ht2:t<=17592186044416:=et▸ht'.down;have et':=zU et;have key:C S zbb [.nils,.int .i64 (t:Nat)] m (fun r m'=> ∃g,m'=m++g/\Cw m.length t g r []):=by
   by_cases h0:t=0
   ·subst h0
    refine zwL.mono ?_;rintro _ _ ⟨rfl,rfl⟩;exact ⟨[],by simp,.inl ⟨rfl,rfl⟩⟩
   ·refine (zu4 (by omega) ht2).mono ?_
    rintro _ _ ⟨rfl,rfl⟩;exact ⟨_,rfl,.inr ⟨0,rfl,by simp⟩⟩
  rw [et] at hx;subst hx;clear et;refine am ?_;refine key.mono ?_;rintro v _ ⟨g,rfl,hv⟩;have vc:=hv.cell;refine am ?_;refine range (α:=V) k (fun v=>[(6,v),(25,sv)]) (fun j v M=> ∃g,M=m++g/\Cw m.length x g v (cat ls j)) v ⟨g,rfl,hv⟩ ?_ ?_
  ·rintro j v fr _ hj F ⟨g,rfl,hv⟩
   have A2:=(hs.app (g:=g)).ar;have B:=(hr'.down j hj).app (g:=g);have h1:(cat ls (j+1)).length=(cat ls j).length+(ls j).length:=by simp [cat]
   have h2:=zwM (ls:=ls) (i:=j+1) (k:=k) hj;have h3:=et'.down;obtain ⟨v',g',ap,hv',vc'⟩:=hv.push B (by omega);have hv'':=zU hv';have D:=B.ar;clear h1 h2 h3 hv hv' B;refine am ?_;exact ⟨v',zh,g',rfl,hv''.down⟩
  ·rintro v fr _ F ⟨g,rfl,hv⟩
   have hv':=zU (hv.gw et'.down);have vc:=hv.cell;clear hv;refine am ?_;exact ⟨g,rfl,hv'.down⟩
theorem zoa {m:Mem}{v:V}{l:List Nat}{a:Nat}(hv:Nus m v l) (hr:l.Pairwise (· < ·)) (hl:l.length<1000000):C S zbO [v,.int .u64 (a:Nat)] m
  (fun r m'=>(∃i:Nat,r= .tup [.int .i64 (i:Nat),.bool (decide (a∈l))])/\Grow m m'):=by
 have A:=hv.ar;have hr':=zU hr;clear hr;refine fn rfl ?_
 let I:=fun (d:Nat) (fr:Frame) (M:Mem)=> ∃i j:Nat,i<=j/\j<=l.length/\d=j-i/\(∀p,p<i->nx l p<a)/\(∀p,j<=p->p<l.length->a<=nx l p)/\Has fr [(0,v),(1,.int .u64 (a:Nat)),(6,.int .i64 (l.length:Nat)),(7,.int .i64 (i:Nat)),(8,.int .i64 (j:Nat))]/\(∃g,M=m++g)
 refine zW I ?_ l.length ⟨0,l.length,Nat.zero_le _,Nat.le_refl _,rfl,fun p h=>absurd h (Nat.not_lt_zero _),fun p h1 h2=>absurd h2 (by omega),zh,⟨[],by simp⟩⟩;rintro d fr _ ⟨i,j,hij,hj,rfl,hlo,hhi,F,⟨g,rfl⟩⟩;have hlo':=zU hlo;have hhi':=zU hhi;clear hlo hhi
 by_cases h:i<j
 ·have c1:((i:Int)<(j:Int))=True:=eq_true (by omega)
  have w1:IntKind.i64.wrap ((i:Int)+(j:Int))=((i+j:Nat):Int):=by rw [wrap_i64]<;>omega
  have w2:=un' (a:=i+j) (by omega);have w3:=zwZ (i:=i) (j:=j) (by omega);have w4:=wn (a:=(i+j)/2) (by omega);have hm:(i+j)/2<l.length:=by omega
  have w5:IntKind.i64.wrap ((((i+j)/2:Nat):Int)+1)=(((i+j)/2+1:Nat):Int):=by rw [wrap_i64]<;>omega
  refine into ?_;refine (zpq).mono ?_;rintro _ _ ⟨rfl,⟨g2,rfl⟩⟩
  by_cases hlt:nx l ((i+j)/2)<a
  ·rw [decide_eq_true hlt]
   have hlt':=zU hlt;clear hlt;refine am ?_;refine ⟨_,?_,(i+j)/2+1,j,by omega,hj,rfl,fun p hp=> ?_,hhi'.down,zh,⟨_,rfl⟩⟩
   ·omega
   ·by_cases e:p=(i+j)/2
    ·rw [e];exact hlt'.down
    ·have:=zix hr'.down (show p<(i+j)/2 by omega) hm
     have:=hlt'.down;omega
  ·rw [decide_eq_false hlt]
   have hlt':=zU hlt;clear hlt;refine am ?_;refine ⟨_,?_,i,(i+j)/2,by omega,by omega,rfl,hlo'.down,fun p h1 h2=> ?_,zh,⟨_,rfl⟩⟩
   ·omega
   ·by_cases e:p=(i+j)/2
    ·rw [e];have:=hlt'.down;omega
    ·have:=zix hr'.down (show (i+j)/2<p by omega) h2
     have:=hlt'.down;omega
 ·have ej:i=j:=by omega
  subst ej;have c1:((i:Int)<(i:Int))=False:=eq_false (by omega)
  by_cases hi:i<l.length
  ·have c2:((i:Int)<(l.length:Int))=True:=eq_true (by omega)
   by_cases he:nx l i=a
   ·have hm:a∈l:=he▸zaH hi
    rw [decide_eq_true hm];subst he;have c3:(((nx l i:Nat):Int)=((nx l i:Nat):Int))=True:=eq_true rfl;clear hm;refine into ?_;exact ⟨⟨_,rfl⟩,_,rfl⟩
   ·have hm:a∉l:=fun hm=>by
     obtain ⟨p,hp,e⟩:=zeA hm;have h1:=hlo'.down p;have h2:=hhi'.down i (Nat.le_refl _) hi
     by_cases hpi:p<i
     ·have:=h1 hpi;omega
     ·by_cases hpe:p=i
      ·subst hpe;exact he e
      ·have:=zix hr'.down (show i<p by omega) hp;omega
    rw [decide_eq_false hm];have c3:(((nx l i:Nat):Int)=(a:Int))=False:=eq_false (by omega);clear hm he;refine into ?_;refine zlP.mono ?_;rintro _ _ ⟨rfl,⟨g2,rfl⟩⟩;refine am ?_;exact ⟨⟨_,rfl⟩,_,rfl⟩
  ·have c2:((i:Int)<(l.length:Int))=False:=eq_false (by omega)
   have hm:a∉l:=fun hm=>by
    obtain ⟨p,hp,e⟩:=zeA hm;have:=hlo'.down p (by omega);omega
   rw [decide_eq_false hm];clear hm hi;refine into ?_;exact ⟨⟨_,rfl⟩,_,rfl⟩
theorem zwP {m:Mem}{v:V}{l:List Nat}{a:Nat}(hv:Nus m v l) (hr:l.Pairwise (· < ·)) (hl:l.length<1000000):C S ze1 [v,.int .u64 (a:Nat)] m (fun r m'=>r= .bool (decide (a∈l))/\Grow m m'):=by
 have A:=hv.ar;have hr':=zU hr;clear hr;refine fn rfl ?_;refine (zoa hv hr'.down hl).mono ?_;rintro _ _ ⟨⟨i,rfl⟩,⟨g,rfl⟩⟩;refine am ?_;exact ⟨_,rfl⟩
abbrev mgV (hv:List V) (ov kv vv:V):List V:=hv++[ov,kv,vv]
theorem zrn {m:Mem}{P:Nat}{own:Bool}{hv:List V}{ov kv vv:V}{l:List Nat}{a:Nat}(hP:m[P]? =some (.cells own [mgV hv ov kv vv])) (h4:hv.length=4) (hv':Nus m ov l) (hr:l.Pairwise (· < ·)) (hl:l.length<1000000):
  C S zeq [.ptr P 0 0,.int .u64 (a:Nat)] m (fun r m'=>r= .bool (decide (a=0\/a∈l))/\Grow m m'):=by
 match hv,h4 with
 | [x1,x2,x3,x4],_=>
 have A:=hv'.ar;have hr':=zU hr;clear hr
 by_cases h0:a=0
 ·have c:((a:Int)=0)=True:=eq_true (by omega)
  rw [decide_eq_true (.inl h0)];clear h0;refine fn rfl ?_;exact ⟨[],by simp⟩
 ·have c:((a:Int)=0)=False:=eq_false (by omega)
  have e:decide (a=0\/a∈l)=decide (a∈l):=decide_eq_decide.2 ⟨fun h=>h.resolve_left h0,.inr⟩;rw [e];clear h0 e;refine fn rfl ?_;refine (zwP hv' hr'.down hl).mono ?_;rintro _ _ ⟨rfl,⟨g,rfl⟩⟩;refine am ?_;exact ⟨_,rfl⟩
def zkK (m:Mem) (tv:V) (ok:Prop) (K W:List Nat):Prop:= ∀g:Mem,C S zlw [.agg [tv]] (m++g) (fun r m'=> ∃g',m'=m++(g++g')/\((ok/\ ∃kv vv,r= .tup [kv,vv,.int .i64 0]/\kv.isCell=true/\vv.isCell=true/\Nus m' kv K/\Nus m' vv W)\/(¬ ok/\ ∃kv vv,r= .tup [kv,vv,.int .i64 2]/\kv.isCell=true/\vv.isCell=true)))
theorem zkK.app {m g:Mem}{tv:V}{ok:Prop}{K W:List Nat}(h:zkK m tv ok K W):zkK (m++g) tv ok K W:=by
 intro g2;rw [List.append_assoc];refine (h (g++g2)).mono ?_;rintro r _ ⟨g',rfl,hr⟩;exact ⟨g',by simp only [List.append_assoc],hr⟩
theorem zsR {m:Mem}{aw uw sv tv:V}{va vm:Nat->V}{H:zl}{ok:Prop}{K W:List Nat}(h:zcY m aw uw sv va vm H) (ht:tv.isCell=true) (hA:zkK m tv ok K W):C S zkj [.agg (zB H aw uw sv),.agg [tv]] m
  (fun r m'=> ∃g,m'=m++g/\((H.right/\ok/\ ∃P ov kv vv,r= .tup [.ptr (m.length+P) 0 0,.int .i64 0]/\g[P]? =some (.cells true [mgV (zB H aw uw sv) ov kv vv])/\Nus m' ov (zdW (obs H H.ns))/\Nus m' kv K/\Nus m' vv W)\/(¬ (H.right/\ok)/\r= .tup [.nilp,.int .i64 2]))):=by
 have A:=h.a.ar;have B:=h.u.ar;have D:=h.s.s.ar;have hA':=zU hA;clear hA;refine fn rfl ?_;refine (zgY h.app).mono ?_;rintro _ _ (⟨hR,g1,lv,rfl,rfl,hG⟩|⟨hR,rfl,⟨g1,rfl⟩⟩)
 case inr=>
  have hR':=zU hR;clear hR;refine am ?_;exact ⟨_,rfl,.inr fun h=>hR'.down h.1⟩
 have hR':=zU hR;have lc:=hG.cell;have hN: ∀X,Nus (m++ .cells true [zB H aw uw sv]:: .cells true [[tv]]::(g1++X)) lv (zdW (obs H H.ns)):=fun X=>by
  have:=Gw.sl (G:=X) (A:=m++[.cells true [zB H aw uw sv],.cells true [[tv]]]) hG.cast;refine Nus.of ?_
  simpa only [List.append_assoc,List.cons_append,List.nil_append] using this
 have hN':=zU hN;clear hR hG hN;refine am ?_;refine (hA'.down _).mono ?_;rintro r _ ⟨g2,rfl,⟨hk,kv,vv,rfl,kc,vc,h1,h2⟩|⟨hk,kv,vv,rfl,kc,vc⟩⟩
 case inr=>
  have hk':=zU hk;clear hk;refine am ?_;exact ⟨_,rfl,.inr fun h=>hk'.down h.2⟩
 have hk':=zU hk;have h1':=zU h1;have h2':=zU h2;clear hk h1 h2;refine am ?_;refine ⟨_,rfl,.inl ⟨hR'.down,hk'.down,g1.length+g2.length+1+1,lv,kv,vv,rfl,by exact zh,hN'.down _,?_,?_⟩⟩
 ·have:=(h1'.down).app (g:=[.cells true [mgV (zB H aw uw sv) lv kv vv]])
  simpa only [List.append_assoc,List.cons_append,List.nil_append] using this
 ·have:=(h2'.down).app (g:=[.cells true [mgV (zB H aw uw sv) lv kv vv]])
  simpa only [List.append_assoc,List.cons_append,List.nil_append] using this
theorem zu5 {m:Mem}{P:Nat}{own:Bool}{hv:List V}{ov kv vv rv:V}{cs K W rs:List Nat}(hP:m[P]? =some (.cells own [mgV hv ov kv vv])) (h4:hv.length=4) (ho:Nus m ov cs) (hr:cs.Pairwise (· < ·)) (hl:cs.length<1000000) (hk:Nus m kv K) (hw:Nus m vv W) (hrs:Nus m rv rs) (ht:rs.length+(W.length+K.length)<=17592186044416):
  C S zeW [.ptr P 0 0,rv] m (fun r m'=>((∀a,a∈rs++(W++K)->a=0\/a∈cs)/\r= .int .i64 0\/¬ (∀a,a∈rs++(W++K)->a=0\/a∈cs)/\r= .int .i64 10)/\Grow m m'):=by
 match hv,h4 with
 | [x1,x2,x3,x4],_=>
 have A1:=ho.ar.2.1;have A2:=hk.ar.2.1;have A3:=hw.ar.2.1;have A4:=hrs.ar.2.1;have hr':=zU hr;clear hr;refine fn rfl ?_;obtain ⟨vs,evs⟩: ∃vs:Nat->V,vs=fun i=>if i=0 then rv else if i=1 then vv else kv:=⟨_,rfl⟩
 obtain ⟨ls,els⟩: ∃ls:Nat->List Nat,ls=fun i=>if i=0 then rs else if i=1 then W else K:=⟨_,rfl⟩
 have hcat:cat ls 3=rs++(W++K):=by rw [els];simp [cat]
 have hs:Rd (m++[.cells true [[rv],[vv],[kv]]]) (.slice m.length 0 3 3 true 1) 1 3 (fun i=>[vs i]):=by
  refine .inl ?_;rw [evs];exact Sl.mk (els:=[[rv],[vv],[kv]]) (own:=true) (by simp)
 refine (zhP (ls:=ls) hs ?_ (by omega) ?_).mono ?_
 ·intro i hi
  rw [evs,els];dsimp only
  split
  ·exact hrs.app
  ·split
   ·exact hw.app
   ·exact hk.app
 ·rw [hcat];simp only [List.length_append];omega
 rintro v _ ⟨g,rfl,hv⟩;rw [hcat] at hv;obtain ⟨L,eL⟩: ∃L,rs++(W++K)=L:=⟨_,rfl⟩
 have hLl:L.length<=17592186044416:=by rw [<-eL];simp only [List.length_append];omega
 rw [eL] at hv ⊢;have hN: ∀X,Nus (m++ .cells true [[rv],[vv],[kv]]::(g++X)) v L:=fun X=>by
  have:=Gw.sl (G:=X) (A:=m++[.cells true [[rv],[vv],[kv]]]) hv;refine Nus.of ?_
  simpa only [List.append_assoc,List.cons_append,List.nil_append] using this
 have hN':=zU hN;have hNa:=(hN []).ar;simp only [List.append_nil] at hNa;obtain ⟨n1,n2,n3,n4,_⟩:=hNa;have eL':=zU eL;clear hv hN hs hcat eL;refine am ?_;refine range (α:=Unit) L.length (fun _=>[(0,.ptr P 0 0),(17,v)]) (fun k _ M=>(∃g2,M=m++ .cells true [[rv],[vv],[kv]]::(g++g2))/\ ∀j,j<k->nx L j=0\/nx L j∈cs) () ⟨⟨[],by simp⟩,fun j h=>absurd h (Nat.not_lt_zero _)⟩ ?_ ?_
 ·rintro k _ fr _ hk F ⟨⟨g2,rfl⟩,hd⟩
  have D:=(hN'.down g2).ar;have hd':=zU hd;clear hd;refine am ?_;refine (zrn (own:=own) (hv:=[x1,x2,x3,x4]) (zb hP) rfl ho.app hr'.down hl).mono ?_;rintro _ _ ⟨rfl,⟨g3,rfl⟩⟩
  by_cases hs:nx L k=0\/nx L k∈cs
  ·rw [decide_eq_true hs]
   have hs':=zU hs;clear hs;refine am ?_;refine ⟨(),zh,⟨_,rfl⟩,fun j hj=> ?_⟩
   by_cases e:j=k
   ·subst e;exact hs'.down
   ·exact hd'.down j (by omega)
  ·rw [decide_eq_false hs]
   have hs':=zU hs;clear hs;refine am ?_;exact ⟨.inr fun h=>hs'.down (h _ (zaH hk)),_,rfl⟩
 ·rintro _ fr _ F ⟨⟨g2,rfl⟩,hd⟩
  have hd':=zU hd;clear hd;refine am ?_;refine ⟨.inl fun a ha=> ?_,_,rfl⟩;obtain ⟨i,hi,rfl⟩:=zeA ha;exact hd'.down i hi
def zgI (l:List Nat) (a:Nat):List Nat:=if a=0\/a∈l then l else l++[a]
def MS (es:List (Int×Int)) (l:List Nat):Prop:= ∀x:Nat,zfN (x:Int) es=if x∈l then 1 else 0
theorem zoZ {k v x:Int}: ∀{es:List (Int×Int)},zfN x (zhu k v es)=if x=k then v else zfN x es
 | []=>by
  simp only [zhu,zfN]
 |(a,b)::r=>by
  have ih:= @zoZ k v x r;unfold zhu
  by_cases h:k=a
  ·rw [if_pos h]
   simp only [zfN]
   by_cases hx:x=k
   ·rw [if_pos hx,if_pos hx]
   ·rw [if_neg hx,if_neg hx,if_neg (fun e=>hx (e.trans h.symm))]
  ·rw [if_neg h]
   simp only [zfN]
   by_cases hx:x=a
   ·rw [if_pos hx,if_pos hx,if_neg (fun e=>h (e.symm.trans hx))]
   ·rw [if_neg hx,if_neg hx,ih]
theorem MS.nil:MS [] []:=fun x=>by simp [zfN]
theorem MS.see {es:List (Int×Int)}{l:List Nat}{a:Nat}(h:MS es l):MS (zhu (a:Int) 1 es) (l++[a]):=fun x=>by
 rw [zoZ,h x]
 by_cases e:x=a
 ·subst e;simp
 ·have e':¬ ((x:Int)=(a:Int)):=by omega
  rw [if_neg e'];simp [e]
theorem zkc {l:List Nat}{a x:Nat}:x∈zgI l a↔x∈l\/(x=a/\a≠0):=by
 unfold zgI
 split
 ·rename_i h
  constructor
  ·exact .inl
  ·rintro (h1|⟨rfl,h2⟩)
   ·exact h1
   ·exact h.resolve_left h2
 ·rename_i h
  rw [List.mem_append,List.mem_singleton];constructor
  ·rintro (h1|rfl)
   ·exact .inl h1
   ·exact .inr ⟨rfl,fun e=>h (.inl e)⟩
  ·rintro (h1|⟨rfl,_⟩)
   ·exact .inl h1
   ·exact .inr rfl
theorem zro {l:List Nat}{a:Nat}: ∃r,zgI l a=l++r:=by
 unfold zgI
 split
 ·exact ⟨[],by simp⟩
 ·exact ⟨[a],rfl⟩
theorem zjj {l:List Nat}{a:Nat}(h:l.Nodup):(zgI l a).Nodup:=by
 unfold zgI
 split
 ·exact h
 ·rename_i hn
  rw [List.nodup_append];refine ⟨h,by simp,fun x hx y hy e=> ?_⟩;rw [List.mem_singleton] at hy;exact hn (.inr (hy▸e▸hx))
theorem zgb: ∀{l k:List Nat},l.Nodup->(∀x,x∈l->x∈k)->l.length<=k.length
 | [],_,_,_=>Nat.zero_le _
 |a::l,k,h,hs=>by
  rw [List.nodup_cons] at h;have:= @zgb l (k.erase a) h.2 (fun x hx=>(List.mem_erase_of_ne (fun e=>h.1 (by rw [<-e];exact hx))).2 (hs x (List.mem_cons_of_mem _ hx)));have hm:=hs a (by simp);rw [List.length_erase_of_mem hm] at this;have:=List.length_pos_of_mem hm;simp only [List.length_cons];omega
inductive Rcb (rt:List Nat) (nxt:Nat->Nat->Prop):Nat->Prop
 |root {a:Nat}:a∈rt->a≠0->Rcb rt nxt a
 |step {a b:Nat}:Rcb rt nxt a->nxt a b->b≠0->Rcb rt nxt b
def zy4 (a:Nat->Nat) (x b:Nat):Prop:= ∃f,f<a x%256/\(unM (a x)).testBit f=true/\a (x+1+f)=b
def zeT (a:Nat->Nat) (K W:List Nat) (x b:Nat):Prop:=zy4 a x b\/ ∃i,i<K.length/\nx K i=x/\nx W i=b
def zfQ (a:Nat->Nat) (x:Nat) (l:List Nat):Nat->List Nat
 |0=>l
 |f+1=>if (unM (a x)).testBit f=true then zgI (zfQ a x l f) (a (x+1+f)) else zfQ a x l f
def zhQ (K W:List Nat) (x:Nat) (l:List Nat):Nat->List Nat
 |0=>l
 |i+1=>if nx K i=x then zgI (zhQ K W x l i) (nx W i) else zhQ K W x l i
theorem zkL {l k r:List Nat}(h: ∃s,k=l++s) (h2: ∃s,r=k++s): ∃s,r=l++s:=by
 obtain ⟨s,rfl⟩:=h;obtain ⟨t,rfl⟩:=h2;exact ⟨s++t,by rw [List.append_assoc]⟩
theorem zm1 {a:Nat->Nat}{x:Nat}{l:List Nat}: ∀f,(∃r,zfQ a x l f=l++r)/\(l.Nodup->(zfQ a x l f).Nodup)/\ ∀y,y∈zfQ a x l f↔y∈l\/(y≠0/\ ∃g,g<f/\(unM (a x)).testBit g=true/\a (x+1+g)=y)
 |0=>⟨⟨[],by simp [zfQ]⟩,id,fun y=>by simp [zfQ]⟩
 |f+1=>by
  obtain ⟨h1,h2,h3⟩:= @zm1 a x l f;unfold zfQ
  split
  ·rename_i hb
   refine ⟨zkL h1 zro,fun h=>zjj (h2 h),fun y=> ?_⟩;rw [zkc,h3];constructor
   ·rintro ((h|⟨h,g,hg,h4,h5⟩)|⟨rfl,h⟩)
    ·exact .inl h
    ·exact .inr ⟨h,g,by omega,h4,h5⟩
    ·exact .inr ⟨h,f,by omega,hb,rfl⟩
   ·rintro (h|⟨h,g,hg,h4,h5⟩)
    ·exact .inl (.inl h)
    ·by_cases e:g=f
     ·subst e;exact .inr ⟨h5.symm,h5▸h⟩
     ·exact .inl (.inr ⟨h,g,by omega,h4,h5⟩)
  ·rename_i hb
   refine ⟨h1,h2,fun y=> ?_⟩;rw [h3];constructor
   ·rintro (h|⟨h,g,hg,h4,h5⟩)
    ·exact .inl h
    ·exact .inr ⟨h,g,by omega,h4,h5⟩
   ·rintro (h|⟨h,g,hg,h4,h5⟩)
    ·exact .inl h
    ·by_cases e:g=f
     ·subst e;exact absurd h4 hb
     ·exact .inr ⟨h,g,by omega,h4,h5⟩
theorem zm2 {K W:List Nat}{x:Nat}{l:List Nat}: ∀k,(∃r,zhQ K W x l k=l++r)/\(l.Nodup->(zhQ K W x l k).Nodup)/\ ∀y,y∈zhQ K W x l k↔y∈l\/(y≠0/\ ∃i,i<k/\nx K i=x/\nx W i=y)
 |0=>⟨⟨[],by simp [zhQ]⟩,id,fun y=>by simp [zhQ]⟩
 |f+1=>by
  obtain ⟨h1,h2,h3⟩:= @zm2 K W x l f;unfold zhQ
  split
  ·rename_i hb
   refine ⟨zkL h1 zro,fun h=>zjj (h2 h),fun y=> ?_⟩;rw [zkc,h3];constructor
   ·rintro ((h|⟨h,g,hg,h4,h5⟩)|⟨rfl,h⟩)
    ·exact .inl h
    ·exact .inr ⟨h,g,by omega,h4,h5⟩
    ·exact .inr ⟨h,f,by omega,hb,rfl⟩
   ·rintro (h|⟨h,g,hg,h4,h5⟩)
    ·exact .inl (.inl h)
    ·by_cases e:g=f
     ·subst e;exact .inr ⟨h5.symm,h5▸h⟩
     ·exact .inl (.inr ⟨h,g,by omega,h4,h5⟩)
  ·rename_i hb
   refine ⟨h1,h2,fun y=> ?_⟩;rw [h3];constructor
   ·rintro (h|⟨h,g,hg,h4,h5⟩)
    ·exact .inl h
    ·exact .inr ⟨h,g,by omega,h4,h5⟩
   ·rintro (h|⟨h,g,hg,h4,h5⟩)
    ·exact .inl h
    ·by_cases e:g=f
     ·subst e;exact absurd h4 hb
     ·exact .inr ⟨h,g,by omega,h4,h5⟩
structure Wk (rt cs:List Nat) (nxt:Nat->Nat->Prop) (k n:Nat) (l:List Nat):Prop where
 nd:l.Nodup
 rc: ∀x,x∈l->x≠0/\x∈cs/\Rcb rt nxt x
 rt: ∀j,j<k->nx rt j≠0->nx rt j∈l
 le:n<=l.length
 cl: ∀p,p<n-> ∀b,nxt (nx l p) b->b≠0->b∈l
theorem Wk.len {rt cs:List Nat}{nxt:Nat->Nat->Prop}{k n:Nat}{l:List Nat}(h:Wk rt cs nxt k n l):l.length<=cs.length:=zgb h.nd fun x hx=>(h.rc x hx).2.1
theorem zyD {l r:List Nat}{p:Nat}(h:p<l.length):nx (l++r) p=nx l p:=by
 unfold nx;rw [List.getD_eq_getElem?_getD,List.getD_eq_getElem?_getD,List.getElem?_append_left h]
theorem Wk.zero {rt cs:List Nat}{nxt:Nat->Nat->Prop}:Wk rt cs nxt 0 0 []:=⟨List.nodup_nil,fun x h=>by simp at h,fun j h=>absurd h (Nat.not_lt_zero _),Nat.le_refl _,fun p h=>absurd h (Nat.not_lt_zero _)⟩
theorem Wk.root {rt cs:List Nat}{nxt:Nat->Nat->Prop}{k:Nat}{l:List Nat}(h:Wk rt cs nxt k 0 l) (hk:k<rt.length) (hc:nx rt k=0\/nx rt k∈cs):Wk rt cs nxt (k+1) 0 (zgI l (nx rt k)):=by
 refine ⟨zjj h.nd,fun x hx=> ?_,fun j hj hne=> ?_,Nat.zero_le _,fun p h=>absurd h (Nat.not_lt_zero _)⟩
 ·rcases zkc.1 hx with hx|⟨rfl,hne⟩
  ·exact h.rc x hx
  ·exact ⟨hne,hc.resolve_left hne,.root (zaH hk) hne⟩
 ·rw [zkc]
  by_cases e:j=k
  ·subst e;exact .inr ⟨rfl,hne⟩
  ·exact .inl (h.rt j (by omega) hne)
theorem Wk.next {rt cs K W:List Nat}{a:Nat->Nat}{k n:Nat}{l:List Nat}(h:Wk rt cs (zeT a K W) k n l) (hn:n<l.length) (hc: ∀x,x∈cs-> ∀b,zeT a K W x b->b≠0->b∈cs):
  Wk rt cs (zeT a K W) k (n+1) (zhQ K W (nx l n) (zfQ a (nx l n) l (a (nx l n)%256)) K.length):=by
 obtain ⟨x,ex⟩: ∃x,nx l n=x:=⟨_,rfl⟩
 rw [ex];obtain ⟨a1,a2,a3⟩:= @zm1 a x l (a x%256);obtain ⟨b1,b2,b3⟩:= @zm2 K W x (zfQ a x l (a x%256)) K.length;obtain ⟨r,er⟩:=zkL a1 b1;have hxl:x∈l:=ex▸zaH hn;have hm: ∀y,y∈zhQ K W x (zfQ a x l (a x%256)) K.length↔y∈l\/(y≠0/\zeT a K W x y):=by
  intro y;rw [b3,a3];constructor
  ·rintro ((h|⟨h,h2⟩)|⟨h,h2⟩)
   ·exact .inl h
   ·exact .inr ⟨h,.inl h2⟩
   ·exact .inr ⟨h,.inr h2⟩
  ·rintro (h|⟨h,h2|h2⟩)
   ·exact .inl (.inl h)
   ·exact .inl (.inr ⟨h,h2⟩)
   ·exact .inr ⟨h,h2⟩
 refine ⟨b2 (a2 h.nd),fun y hy=> ?_,fun j hj hne=>(hm _).2 (.inl (h.rt j hj hne)),by rw [er,List.length_append];omega,fun p hp b hb hne=> ?_⟩
 ·rcases (hm y).1 hy with hy|⟨hne,hy⟩
  ·exact h.rc y hy
  ·obtain ⟨_,c2,c3⟩:=h.rc x hxl
   exact ⟨hne,hc x c2 y hy hne,.step c3 hy hne⟩
 ·rw [er,zyD (by omega)] at hb
  by_cases e:p=n
  ·subst e
   rw [ex] at hb;exact (hm b).2 (.inr ⟨hne,hb⟩)
  ·exact (hm b).2 (.inl (h.cl p (by omega) b hb hne))
theorem Wk.done {rt cs:List Nat}{nxt:Nat->Nat->Prop}{l:List Nat}(h:Wk rt cs nxt rt.length l.length l): ∀x,x∈l↔Rcb rt nxt x:=by
 intro x;constructor
 ·exact fun hx=>(h.rc x hx).2.2
 ·intro hx
  induction hx with
  |root hr hne=>
   obtain ⟨i,hi,rfl⟩:=zeA hr;exact h.rt i hi hne
  |step _ hs hne ih=>
   obtain ⟨i,hi,rfl⟩:=zeA ih;exact h.cl i hi _ hs hne
end Go.AM.G
