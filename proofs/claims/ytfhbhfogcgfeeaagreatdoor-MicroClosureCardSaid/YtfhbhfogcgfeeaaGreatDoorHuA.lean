import Derived.Test.YtfhbhfogcgfeeaaGreatDoorHkBa
set_option linter.unusedVariables false
set_option linter.unusedSimpArgs false
set_option maxRecDepth 100000
namespace Go.AM.G
open Go Go.AM
def zoo (m:Mem) (c:V) (n:Nat) (arg:Nat->V) (p:Nat->Bool):Prop:= ∀g i,i<n->CV S c [arg i] (m++g) (fun r m'=>r= .bool (p i)/\Grow (m++g) m')
theorem zi9 {m:Mem}{v c:V}{n:Nat}{f:Nat->List V}{arg:Nat->V}{p:Nat->Bool}(hv:Rd m v 1 n f) (ha: ∀i,i<n->part (f i) 0 none=some (arg i)) (hl:n<4611686018427387904) (hc:zoo m c n arg p):
  C S zao [v,c] m (fun r m'=>Grow m m'/\((r= .int .i64 (-1)/\ ∀i,i<n->p i=false)\/ ∃i,i<n/\r= .int .i64 (i:Nat)/\p i=true/\ ∀j,j<i->p j=false)):=by
 have ln:=hv.ar.1;have vc:=hv.ar.2.1;have hc':=zU hc;have ha':=zU ha;clear hc ha;refine fn rfl ?_;refine range (α:=Unit) n (fun _=>[(0,v),(1,c)]) (fun k _ M=>(∃g,M=m++g)/\ ∀j,j<k->p j=false) () ⟨⟨[],by simp⟩,fun j h=>absurd h (Nat.not_lt_zero _)⟩ ?_ ?_
 ·rintro k _ fr _ hk F ⟨⟨g,rfl⟩,hj⟩
  have A:=(hv.app (g:=g)).ar;have ix:=A.2.2.2.1 .i64 k hk;have ld:=A.2.2.2.2 k 0 none hk;rw [ha'.down k hk] at ld;have zk:=A.2.2.1;have hj':=zU hj;have Cx':=zU (hc'.down g k hk);clear hj A;refine am ?_;refine zfG Cx'.down ?_;rintro _ _ ⟨rfl,⟨g2,rfl⟩⟩;cases hp:p k with
  |true=>
   refine am ?_;exact ⟨⟨_,rfl⟩,.inr ⟨k,hk,rfl,hp,hj'.down⟩⟩
  |false=>
   refine am ?_;refine ⟨(),zh,⟨_,rfl⟩,fun j hj=> ?_⟩
   by_cases e:j=k
   ·subst e;exact hp
   ·exact hj'.down j (by omega)
 ·rintro _ fr _ F ⟨⟨g,rfl⟩,hj⟩
  have hj':=zU hj;clear hj;refine am ?_;exact ⟨⟨_,rfl⟩,.inl hj'.down⟩
theorem zgw {m:Mem}{v c:V}{n:Nat}{f:Nat->List V}{arg:Nat->V}{p:Nat->Bool}(hv:Rd m v 1 n f) (ha: ∀i,i<n->part (f i) 0 none=some (arg i)) (hl:n<4611686018427387904) (hc:zoo m c n arg p):
  C S zP [v,c] m (fun r m'=>Grow m m'/\((r= .bool true/\ ∃i,i<n/\p i=true)\/(r= .bool false/\ ∀i,i<n->p i=false))):=by
 have vc:=hv.ar.2.1;have hc':=zU hc;have ha':=zU ha;clear hc ha;refine fn rfl ?_;refine (zi9 hv ha'.down hl hc'.down).mono ?_;rintro _ _ ⟨⟨g,rfl⟩,⟨rfl,hn⟩|⟨i,hi,rfl,hp,_⟩⟩
 ·have hn':=zU hn
  clear hn;refine am ?_;exact ⟨⟨_,rfl⟩,.inr hn'.down⟩
 ·have hp':=zU hp
  have c1:((0:Int)<=(i:Int))=True:=eq_true (by omega);clear hp;refine am ?_;exact ⟨⟨_,rfl⟩,.inl ⟨i,hi,hp'.down⟩⟩
theorem zl3 {m:Mem}{v c:V}{n:Nat}{f:Nat->List V}{arg:Nat->V}{p:Nat->Bool}(hv:Rd m v 1 n f) (ha: ∀i,i<n->part (f i) 0 none=some (arg i)) (hl:n<4611686018427387904) (hc:zoo m c n arg p):
  C S zb4 [v,c] m (fun r m'=>Grow m m'/\((r= .int .i64 (-1)/\ ∀i,i<n->p i=false)\/ ∃i,i<n/\r= .int .i64 (i:Nat)/\p i=true/\ ∀j,j<i->p j=false)):=by
 have ln:=hv.ar.1;have vc:=hv.ar.2.1;have hc':=zU hc;have ha':=zU ha;clear hc ha;refine fn rfl ?_;refine range (α:=Unit) n (fun _=>[(0,v),(1,c)]) (fun k _ M=>(∃g,M=m++g)/\ ∀j,j<k->p j=false) () ⟨⟨[],by simp⟩,fun j h=>absurd h (Nat.not_lt_zero _)⟩ ?_ ?_
 ·rintro k _ fr _ hk F ⟨⟨g,rfl⟩,hj⟩
  have A:=(hv.app (g:=g)).ar;have ix:=A.2.2.2.1 .i64 k hk;have ld:=A.2.2.2.2 k 0 none hk;rw [ha'.down k hk] at ld;have zk:=A.2.2.1;have hj':=zU hj;have Cx':=zU (hc'.down g k hk);clear hj A;refine am ?_;refine zfG Cx'.down ?_;rintro _ _ ⟨rfl,⟨g2,rfl⟩⟩;cases hp:p k with
  |true=>
   refine am ?_;exact ⟨⟨_,rfl⟩,.inr ⟨k,hk,rfl,hp,hj'.down⟩⟩
  |false=>
   refine am ?_;refine ⟨(),zh,⟨_,rfl⟩,fun j hj=> ?_⟩
   by_cases e:j=k
   ·subst e;exact hp
   ·exact hj'.down j (by omega)
 ·rintro _ fr _ F ⟨⟨g,rfl⟩,hj⟩
  have hj':=zU hj;clear hj;refine am ?_;exact ⟨⟨_,rfl⟩,.inl hj'.down⟩
theorem zjE {m:Mem}{v c:V}{n:Nat}{f:Nat->List V}{arg:Nat->V}{p:Nat->Bool}(hv:Rd m v 1 n f) (ha: ∀i,i<n->part (f i) 0 none=some (arg i)) (hl:n<4611686018427387904) (hc:zoo m c n arg p):
  C S zbr [v,c] m (fun r m'=>Grow m m'/\((r= .bool true/\ ∃i,i<n/\p i=true)\/(r= .bool false/\ ∀i,i<n->p i=false))):=by
 have vc:=hv.ar.2.1;have hc':=zU hc;have ha':=zU ha;clear hc ha;refine fn rfl ?_;refine (zl3 hv ha'.down hl hc'.down).mono ?_;rintro _ _ ⟨⟨g,rfl⟩,⟨rfl,hn⟩|⟨i,hi,rfl,hp,_⟩⟩
 ·have hn':=zU hn
  clear hn;refine am ?_;exact ⟨⟨_,rfl⟩,.inr hn'.down⟩
 ·have hp':=zU hp
  have c1:((0:Int)<=(i:Int))=True:=eq_true (by omega);clear hp;refine am ?_;exact ⟨⟨_,rfl⟩,.inl ⟨i,hi,hp'.down⟩⟩
theorem zkZ {m:Mem}{v c:V}{n:Nat}{f:Nat->List V}{arg:Nat->V}{p:Nat->Bool}(hv:Rd m v 7 n f) (ha: ∀i,i<n->part (f i) 0 (some 7)=some (arg i)) (hl:n<4611686018427387904) (hc:zoo m c n arg p):
  C S zbN [v,c] m (fun r m'=>Grow m m'/\((r= .int .i64 (-1)/\ ∀i,i<n->p i=false)\/ ∃i,i<n/\r= .int .i64 (i:Nat)/\p i=true/\ ∀j,j<i->p j=false)):=by
 have ln:=hv.ar.1;have vc:=hv.ar.2.1;have hc':=zU hc;have ha':=zU ha;clear hc ha;refine fn rfl ?_;refine range (α:=Unit) n (fun _=>[(0,v),(1,c)]) (fun k _ M=>(∃g,M=m++g)/\ ∀j,j<k->p j=false) () ⟨⟨[],by simp⟩,fun j h=>absurd h (Nat.not_lt_zero _)⟩ ?_ ?_
 ·rintro k _ fr _ hk F ⟨⟨g,rfl⟩,hj⟩
  have A:=(hv.app (g:=g)).ar;have ix:=A.2.2.2.1 .i64 k hk;have ld:=A.2.2.2.2 k 0 (some 7) hk;rw [ha'.down k hk] at ld;have zk:=A.2.2.1;have hj':=zU hj;have Cx':=zU (hc'.down g k hk);clear hj A;refine am ?_;refine zfG Cx'.down ?_;rintro _ _ ⟨rfl,⟨g2,rfl⟩⟩;cases hp:p k with
  |true=>
   refine am ?_;exact ⟨⟨_,rfl⟩,.inr ⟨k,hk,rfl,hp,hj'.down⟩⟩
  |false=>
   refine am ?_;refine ⟨(),zh,⟨_,rfl⟩,fun j hj=> ?_⟩
   by_cases e:j=k
   ·subst e;exact hp
   ·exact hj'.down j (by omega)
 ·rintro _ fr _ F ⟨⟨g,rfl⟩,hj⟩
  have hj':=zU hj;clear hj;refine am ?_;exact ⟨⟨_,rfl⟩,.inl hj'.down⟩
theorem zeB {m:Mem}{v c:V}{n:Nat}{f:Nat->List V}{arg:Nat->V}{p:Nat->Bool}(hv:Rd m v 7 n f) (ha: ∀i,i<n->part (f i) 0 (some 7)=some (arg i)) (hl:n<4611686018427387904) (hc:zoo m c n arg p):
  C S zal [v,c] m (fun r m'=>Grow m m'/\((r= .bool true/\ ∃i,i<n/\p i=true)\/(r= .bool false/\ ∀i,i<n->p i=false))):=by
 have vc:=hv.ar.2.1;have hc':=zU hc;have ha':=zU ha;clear hc ha;refine fn rfl ?_;refine (zkZ hv ha'.down hl hc'.down).mono ?_;rintro _ _ ⟨⟨g,rfl⟩,⟨rfl,hn⟩|⟨i,hi,rfl,hp,_⟩⟩
 ·have hn':=zU hn
  clear hn;refine am ?_;exact ⟨⟨_,rfl⟩,.inr hn'.down⟩
 ·have hp':=zU hp
  have c1:((0:Int)<=(i:Int))=True:=eq_true (by omega);clear hp;refine am ?_;exact ⟨⟨_,rfl⟩,.inl ⟨i,hi,hp'.down⟩⟩
theorem ztg {m:Mem}{v c:V}{n:Nat}{f:Nat->List V}{arg:Nat->V}{p:Nat->Bool}(hv:Rd m v 1 n f) (ha: ∀i,i<n->part (f i) 0 none=some (arg i)) (hl:n<4611686018427387904) (hc:zoo m c n arg p):
  C S zdq [v,c] m (fun r m'=>Grow m m'/\((r= .int .i64 (-1)/\ ∀i,i<n->p i=false)\/ ∃i,i<n/\r= .int .i64 (i:Nat)/\p i=true/\ ∀j,j<i->p j=false)):=by
 have ln:=hv.ar.1;have vc:=hv.ar.2.1;have hc':=zU hc;have ha':=zU ha;clear hc ha;refine fn rfl ?_;refine range (α:=Unit) n (fun _=>[(0,v),(1,c)]) (fun k _ M=>(∃g,M=m++g)/\ ∀j,j<k->p j=false) () ⟨⟨[],by simp⟩,fun j h=>absurd h (Nat.not_lt_zero _)⟩ ?_ ?_
 ·rintro k _ fr _ hk F ⟨⟨g,rfl⟩,hj⟩
  have A:=(hv.app (g:=g)).ar;have ix:=A.2.2.2.1 .i64 k hk;have ld:=A.2.2.2.2 k 0 none hk;rw [ha'.down k hk] at ld;have zk:=A.2.2.1;have hj':=zU hj;have Cx':=zU (hc'.down g k hk);clear hj A;refine am ?_;refine zfG Cx'.down ?_;rintro _ _ ⟨rfl,⟨g2,rfl⟩⟩;cases hp:p k with
  |true=>
   refine am ?_;exact ⟨⟨_,rfl⟩,.inr ⟨k,hk,rfl,hp,hj'.down⟩⟩
  |false=>
   refine am ?_;refine ⟨(),zh,⟨_,rfl⟩,fun j hj=> ?_⟩
   by_cases e:j=k
   ·subst e;exact hp
   ·exact hj'.down j (by omega)
 ·rintro _ fr _ F ⟨⟨g,rfl⟩,hj⟩
  have hj':=zU hj;clear hj;refine am ?_;exact ⟨⟨_,rfl⟩,.inl hj'.down⟩
theorem zop {m:Mem}{v c:V}{n:Nat}{f:Nat->List V}{arg:Nat->V}{p:Nat->Bool}(hv:Rd m v 1 n f) (ha: ∀i,i<n->part (f i) 0 none=some (arg i)) (hl:n<4611686018427387904) (hc:zoo m c n arg p):
  C S zcz [v,c] m (fun r m'=>Grow m m'/\((r= .bool true/\ ∃i,i<n/\p i=true)\/(r= .bool false/\ ∀i,i<n->p i=false))):=by
 have vc:=hv.ar.2.1;have hc':=zU hc;have ha':=zU ha;clear hc ha;refine fn rfl ?_;refine (ztg hv ha'.down hl hc'.down).mono ?_;rintro _ _ ⟨⟨g,rfl⟩,⟨rfl,hn⟩|⟨i,hi,rfl,hp,_⟩⟩
 ·have hn':=zU hn
  clear hn;refine am ?_;exact ⟨⟨_,rfl⟩,.inr hn'.down⟩
 ·have hp':=zU hp
  have c1:((0:Int)<=(i:Int))=True:=eq_true (by omega);clear hp;refine am ?_;exact ⟨⟨_,rfl⟩,.inl ⟨i,hi,hp'.down⟩⟩
theorem zr5 {m:Mem}{v c:V}{n:Nat}{f:Nat->List V}{arg:Nat->V}{p:Nat->Bool}(hv:Rd m v 8 n f) (ha: ∀i,i<n->part (f i) 0 (some 8)=some (arg i)) (hl:n<4611686018427387904) (hc:zoo m c n arg p):
  C S zbq [v,c] m (fun r m'=>Grow m m'/\((r= .int .i64 (-1)/\ ∀i,i<n->p i=false)\/ ∃i,i<n/\r= .int .i64 (i:Nat)/\p i=true/\ ∀j,j<i->p j=false)):=by
 have ln:=hv.ar.1;have vc:=hv.ar.2.1;have hc':=zU hc;have ha':=zU ha;clear hc ha;refine fn rfl ?_;refine range (α:=Unit) n (fun _=>[(0,v),(1,c)]) (fun k _ M=>(∃g,M=m++g)/\ ∀j,j<k->p j=false) () ⟨⟨[],by simp⟩,fun j h=>absurd h (Nat.not_lt_zero _)⟩ ?_ ?_
 ·rintro k _ fr _ hk F ⟨⟨g,rfl⟩,hj⟩
  have A:=(hv.app (g:=g)).ar;have ix:=A.2.2.2.1 .i64 k hk;have ld:=A.2.2.2.2 k 0 (some 8) hk;rw [ha'.down k hk] at ld;have zk:=A.2.2.1;have hj':=zU hj;have Cx':=zU (hc'.down g k hk);clear hj A;refine am ?_;refine zfG Cx'.down ?_;rintro _ _ ⟨rfl,⟨g2,rfl⟩⟩;cases hp:p k with
  |true=>
   refine am ?_;exact ⟨⟨_,rfl⟩,.inr ⟨k,hk,rfl,hp,hj'.down⟩⟩
  |false=>
   refine am ?_;refine ⟨(),zh,⟨_,rfl⟩,fun j hj=> ?_⟩
   by_cases e:j=k
   ·subst e;exact hp
   ·exact hj'.down j (by omega)
 ·rintro _ fr _ F ⟨⟨g,rfl⟩,hj⟩
  have hj':=zU hj;clear hj;refine am ?_;exact ⟨⟨_,rfl⟩,.inl hj'.down⟩
theorem znH {m:Mem}{v c:V}{n:Nat}{f:Nat->List V}{arg:Nat->V}{p:Nat->Bool}(hv:Rd m v 8 n f) (ha: ∀i,i<n->part (f i) 0 (some 8)=some (arg i)) (hl:n<4611686018427387904) (hc:zoo m c n arg p):
  C S zcb [v,c] m (fun r m'=>Grow m m'/\((r= .bool true/\ ∃i,i<n/\p i=true)\/(r= .bool false/\ ∀i,i<n->p i=false))):=by
 have vc:=hv.ar.2.1;have hc':=zU hc;have ha':=zU ha;clear hc ha;refine fn rfl ?_;refine (zr5 hv ha'.down hl hc'.down).mono ?_;rintro _ _ ⟨⟨g,rfl⟩,⟨rfl,hn⟩|⟨i,hi,rfl,hp,_⟩⟩
 ·have hn':=zU hn
  clear hn;refine am ?_;exact ⟨⟨_,rfl⟩,.inr hn'.down⟩
 ·have hp':=zU hp
  have c1:((0:Int)<=(i:Int))=True:=eq_true (by omega);clear hp;refine am ?_;exact ⟨⟨_,rfl⟩,.inl ⟨i,hi,hp'.down⟩⟩
theorem zoq {m:Mem}{v:V}{l:List Nat}{a:Nat}(hv:Nus m v l) (hr:l.Pairwise (· < ·)) (hl:l.length<1000000):C S zcc [v,.int .u64 (a:Nat)] m
  (fun r m'=>(∃i:Nat,r= .tup [.int .i64 (i:Nat),.bool (decide (a∈l))])/\Grow m m'):=by
 have A:=hv.ar;have hr':=zU hr;clear hr;refine fn rfl ?_
 let I:=fun (d:Nat) (fr:Frame) (M:Mem)=> ∃i j:Nat,i<=j/\j<=l.length/\d=j-i/\(∀p,p<i->nx l p<a)/\(∀p,j<=p->p<l.length->a<=nx l p)/\Has fr [(0,v),(1,.int .u64 (a:Nat)),(6,.int .i64 (l.length:Nat)),(7,.int .i64 (i:Nat)),(8,.int .i64 (j:Nat))]/\(∃g,M=m++g)
 refine zW I ?_ l.length ⟨0,l.length,Nat.zero_le _,Nat.le_refl _,rfl,fun p h=>absurd h (Nat.not_lt_zero _),fun p h1 h2=>absurd h2 (by omega),zh,⟨[],by simp⟩⟩;rintro d fr _ ⟨i,j,hij,hj,rfl,hlo,hhi,F,⟨g,rfl⟩⟩;have hlo':=zU hlo;have hhi':=zU hhi;clear hlo hhi
 by_cases h:i<j
 ·have c1:((i:Int)<(j:Int))=True:=eq_true (by omega)
  have w1:IntKind.i64.wrap ((i:Int)+(j:Int))=((i+j:Nat):Int):=by rw [wrap_i64]<;>omega
  have w2:=un' (a:=i+j) (by omega);have w3:=zwZ (i:=i) (j:=j) (by omega);have w4:=wn (a:=(i+j)/2) (by omega);have hm:(i+j)/2<l.length:=by omega
  have w5:IntKind.i64.wrap ((((i+j)/2:Nat):Int)+1)=(((i+j)/2+1:Nat):Int):=by rw [wrap_i64]<;>omega
  refine into ?_;refine (zpq).mono ?_;rintro _ _ ⟨rfl,⟨g2,rfl⟩⟩
  by_cases hlt:nx l ((i+j)/2)<a
  ·rw [decide_eq_true hlt]
   have hlt':=zU hlt;clear hlt;refine am ?_;refine ⟨_,?_,(i+j)/2+1,j,by omega,hj,rfl,fun p hp=> ?_,hhi'.down,zh,⟨_,rfl⟩⟩
   ·omega
   ·by_cases e:p=(i+j)/2
    ·rw [e];exact hlt'.down
    ·have:=zix hr'.down (show p<(i+j)/2 by omega) hm
     have:=hlt'.down;omega
  ·rw [decide_eq_false hlt]
   have hlt':=zU hlt;clear hlt;refine am ?_;refine ⟨_,?_,i,(i+j)/2,by omega,by omega,rfl,hlo'.down,fun p h1 h2=> ?_,zh,⟨_,rfl⟩⟩
   ·omega
   ·by_cases e:p=(i+j)/2
    ·rw [e];have:=hlt'.down;omega
    ·have:=zix hr'.down (show (i+j)/2<p by omega) h2
     have:=hlt'.down;omega
 ·have ej:i=j:=by omega
  subst ej;have c1:((i:Int)<(i:Int))=False:=eq_false (by omega)
  by_cases hi:i<l.length
  ·have c2:((i:Int)<(l.length:Int))=True:=eq_true (by omega)
   by_cases he:nx l i=a
   ·have hm:a∈l:=he▸zaH hi
    rw [decide_eq_true hm];subst he;have c3:(((nx l i:Nat):Int)=((nx l i:Nat):Int))=True:=eq_true rfl;clear hm;refine into ?_;exact ⟨⟨_,rfl⟩,_,rfl⟩
   ·have hm:a∉l:=fun hm=>by
     obtain ⟨p,hp,e⟩:=zeA hm;have h1:=hlo'.down p;have h2:=hhi'.down i (Nat.le_refl _) hi
     by_cases hpi:p<i
     ·have:=h1 hpi;omega
     ·by_cases hpe:p=i
      ·subst hpe;exact he e
      ·have:=zix hr'.down (show i<p by omega) hp;omega
    rw [decide_eq_false hm];have c3:(((nx l i:Nat):Int)=(a:Int))=False:=eq_false (by omega);clear hm he;refine into ?_;refine zlP.mono ?_;rintro _ _ ⟨rfl,⟨g2,rfl⟩⟩;refine am ?_;exact ⟨⟨_,rfl⟩,_,rfl⟩
  ·have c2:((i:Int)<(l.length:Int))=False:=eq_false (by omega)
   have hm:a∉l:=fun hm=>by
    obtain ⟨p,hp,e⟩:=zeA hm;have:=hlo'.down p (by omega);omega
   rw [decide_eq_false hm];clear hm hi;refine into ?_;exact ⟨⟨_,rfl⟩,_,rfl⟩
theorem zZ {m:Mem}{v:V}{l:List Nat}{a:Nat}(hv:Nus m v l) (hr:l.Pairwise (· < ·)) (hl:l.length<1000000):C S zbo [v,.int .u64 (a:Nat)] m (fun r m'=>r= .bool (decide (a∈l))/\Grow m m'):=by
 have A:=hv.ar;have hr':=zU hr;clear hr;refine fn rfl ?_;refine (zoq hv hr'.down hl).mono ?_;rintro _ _ ⟨⟨i,rfl⟩,⟨g,rfl⟩⟩;refine am ?_;exact ⟨_,rfl⟩
theorem zr6 {m:Mem}{v:V}{l:List Nat}{a:Nat}(hv:Nus m v l) (hl:l.length<4611686018427387904):C S zdK [v,.int .u64 (a:Nat)] m (fun r m'=>m'=m/\((r= .int .i64 (-1)/\a∉l)\/ ∃i:Nat,r= .int .i64 (i:Nat)/\a∈l)):=by
 have A:=hv.ar;refine fn rfl ?_;refine range (α:=Unit) l.length (fun _=>[(0,v),(1,.int .u64 (a:Nat))]) (fun j _ M=>M=m/\ ∀i,i<j->nx l i≠a) () ⟨rfl,fun i hi=>absurd hi (Nat.not_lt_zero _)⟩ ?_ ?_
 ·rintro j ⟨⟩ fr _ hj F ⟨rfl,hj2⟩
  have hj2':=zU hj2;clear hj2
  by_cases e:nx l j=a
  ·have c:((a:Int)=(nx l j:Int))=True:=eq_true (by omega)
   have yes:PLift (a∈l):=⟨e▸zaH hj⟩
   clear e;refine am ?_;exact .inr ⟨j,rfl,yes.down⟩
  ·have c:((a:Int)=(nx l j:Int))=False:=eq_false (by omega)
   have e':=zU e;clear e;refine am ?_;exact ⟨(),zh,rfl,fun i hi=>by by_cases h:i=j;exact h▸e'.down;exact hj2'.down i (by omega)⟩
 ·rintro ⟨⟩ fr _ F ⟨rfl,hj2⟩
  have no:PLift (a∉l):=⟨fun h=>by
   obtain ⟨i,hi,e⟩:=zeA h;exact hj2 i hi e⟩
  clear hj2;refine am ?_;exact .inl no.down
theorem znI {m:Mem}{v:V}{l:List Nat}{a:Nat}(hv:Nus m v l) (hl:l.length<4611686018427387904):C S zcK [v,.int .u64 (a:Nat)] m (fun r m'=>r= .bool (decide (a∈l))/\m'=m):=by
 have A:=hv.ar;refine fn rfl ?_;refine (zr6 hv hl).mono ?_;rintro _ _ ⟨rfl,⟨rfl,hn⟩|⟨i,rfl,hi⟩⟩
 ·have e:=decide_eq_false hn
  clear hn;refine am ?_;trivial
 ·have e:=decide_eq_true hi
  have c1:((0:Int)<=(i:Int))=True:=eq_true (by omega);clear hi;refine am ?_;trivial
def zdR (n:Nat) (f:Nat->Nat):List (List V):=(List.range n).map fun i=>[.int .u64 (f i:Nat)]
theorem zdY {n:Nat}{f:Nat->Nat}:(zdR n f).length=n:=by simp [zdR]
theorem zc8 {n i:Nat}{f:Nat->Nat}(h:i<n):(zdR n f)[i]? =some [.int .u64 (f i:Nat)]:=by simp [zdR,h]
theorem zth {n i:Nat}{f:Nat->Nat}(h:i<n):zhG (some (.cells true (zdR n f))) none i 0=some (.int .u64 (f i:Nat)):=by
 rw [zeR,zc8 h];rfl
theorem zr7 {n i x:Nat}{f:Nat->Nat}(h:i<n):zcW (some (.cells true (zdR n f))) 1 i 0 (.int .u64 (x:Nat))=some (.cells true (zdR n (up f i x))):=by
 unfold zcW;simp only [zc8 h];rw [if_pos ⟨rfl,Nat.le_refl _,rfl⟩];have:(zdR n f).set i (splice [V.int .u64 (f i:Nat)] 0 (V.int .u64 (x:Nat)).cells)=zdR n (up f i x):=by
  apply List.ext_getElem?;intro j
  by_cases hj:j<n
  ·by_cases e:i=j
   ·subst e
    rw [List.getElem?_set_self (by rw [zdY];exact hj),zc8 hj,zK];rfl
   ·rw [List.getElem?_set_ne e,zc8 hj,zc8 hj,zaM (Ne.symm e)]
  ·rw [List.getElem?_eq_none (by simp [zdY];omega),List.getElem?_eq_none (by rw [zdY];omega)]
 rw [this]
theorem zvs {b o len cap i:Nat}{ex:Bool}(ki:IntKind) (h:i<len):zaB 1 (.slice b o len cap ex 1) (.int ki (i:Int))=some (.ptr b (o+i) 0):=by
 unfold zaB;simp [h]
theorem zk0 {n:Nat}{f:Nat->Nat}(h: ∀i,0<i->i<n->f (i-1)≠f i):cl ((List.range n).map f)=(List.range n).map f:=by
 induction n with
 |zero=>rfl
 |succ n ih=>
  have ih:=ih fun i h1 h2=>h i h1 (by omega)
  cases n with
  |zero=>rfl
  |succ n=>
   have e:(List.range (n+1+1)).map f=(List.range n).map f++[f n,f (n+1)]:=by simp [List.range_succ]
   have e2:(List.range (n+1)).map f=(List.range n).map f++[f n]:=by simp [List.range_succ]
   rw [e2] at ih;rw [e,zml,if_neg (by have:=h (n+1) (by omega) (by omega);simpa using this),ih]
   simp
theorem zr8 {n:Nat}{f:Nat->Nat}:cl ((List.range (n+1+1)).map f)=if f n=f (n+1) then cl ((List.range (n+1)).map f) else cl ((List.range (n+1)).map f)++[f (n+1)]:=by
 have e:(List.range (n+1+1)).map f=(List.range n).map f++[f n,f (n+1)]:=by simp [List.range_succ]
 have e2:(List.range (n+1)).map f=(List.range n).map f++[f n]:=by simp [List.range_succ]
 rw [e,e2,zml]
theorem zti {Mm:Blk->Mem}{b n k:Nat}{w:Nat->Nat}(hget: ∀X,(Mm X)[b]? =some X) (hset: ∀X Y,(Mm X).set b Y=Mm Y) (hk:k<=n):
  zfM (Mm (.cells true (zdR n w))) [.int .u64 0] (.slice b k (n-k) (n-k) false 1)=some (undef,Mm (.cells true (zdR n fun i=>if i<k then w i else 0))):=by
 unfold zfM;simp only [hget,zdY,hset,List.length_singleton,ne_eq,not_true_eq_false,if_false];rw [if_pos (by omega)]
 congr 4
 unfold over;apply List.ext_getElem?;intro j;have hl:((zdR n w).take k).length=k:=by rw [List.length_take,zdY];exact Nat.min_eq_left hk
 by_cases hj:j<k
 ·rw [List.getElem?_append_left (by omega),List.getElem?_take,if_pos hj,zc8 (by omega),zc8 (by omega),if_pos hj]
 ·rw [List.getElem?_append_right (by omega),hl]
  by_cases hj2:j<n
  ·rw [List.getElem?_append_left (by simp;omega),zc8 hj2,if_neg hj]
   simp [show j-k<n-k by omega]
  ·rw [List.getElem?_append_right (by simp;omega),List.getElem?_eq_none (by simp [zdY];omega),List.getElem?_eq_none (by rw [zdY];omega)]
theorem zor {Mm:Blk->Mem}{b n:Nat}{f:Nat->Nat}(hget: ∀X,(Mm X)[b]? =some X) (hset: ∀X Y,(Mm X).set b Y=Mm Y) (hn:n<100000000000000000):
  C S zbp [.slice b 0 n n false 1] (Mm (.cells true (zdR n f))) (fun r m'=> ∃k w,r= .slice b 0 k n false 1/\m'=Mm (.cells true (zdR n w))/\k<=n/\(List.range k).map w=cl ((List.range n).map f)):=by
 have i1:= @zth n;have i2:= @zr7 n;have i3:= @zvs;have omn: ∀f:Arg->V,Option.map f none=none:=fun _=>rfl
 have zk: ∀b i l c (e:Bool),zOk (.slice b i l c e 1) 1=true:=fun _ _ _ _ _=>rfl
 by_cases h2:n<2
 ·have c1:((n:Int)<2)=True:=eq_true (by omega)
  have h2':=zU h2;clear h2;refine fn rfl ?_;exact ⟨n,f,rfl,rfl,Nat.le_refl _,(zk0 fun i h1 h3=>by have:=h2'.down;omega).symm⟩
 have c1:((n:Int)<2)=False:=eq_false (by omega);have h2':=zU h2;clear h2;refine fn rfl ?_
 let I:=fun (d:Nat) (fr:Frame) (M:Mem)=> ∃k:Nat,1<=k/\k<=n/\d=n-k/\Has fr [(0,.slice b 0 n n false 1),(3,.int .i64 (k:Nat))]/\M=Mm (.cells true (zdR n f))/\ ∀i,0<i->i<k->f (i-1)≠f i
 refine zW I ?_ (n-1) ⟨1,Nat.le_refl _,by have:=h2'.down;omega,rfl,zh,rfl,fun i h1 h3=>by omega⟩;rintro d fr _ ⟨k,hk1,hkn,rfl,F,rfl,hne⟩;have hne':=zU hne;clear hne
 by_cases hk:k<n
 case neg=>
  have ek:k=n:=by omega
  subst ek;have c2:((k:Int)<(k:Int))=False:=eq_false (by omega);refine into ?_;exact ⟨k,f,rfl,rfl,Nat.le_refl _,(zk0 hne'.down).symm⟩
 have c2:((k:Int)<(n:Int))=True:=eq_true (by omega);have w1:IntKind.i64.wrap ((k:Int)-1)=((k-1:Nat):Int):=by rw [wrap_i64]<;>omega
 have w2:IntKind.i64.wrap ((k:Int)+1)=((k+1:Nat):Int):=by rw [wrap_i64]<;>omega
 have l1:k-1<n:=by omega
 by_cases he:f k=f (k-1)
 case neg=>
  have c3:(((f k:Nat):Int)=((f (k-1):Nat):Int))=False:=eq_false (by omega);have he':=zU he;clear he;refine into ?_;refine ⟨_,?_,k+1,by omega,by omega,rfl,zh,rfl,fun i h1 h3=> ?_⟩
  ·omega
  ·by_cases e:i=k
   ·subst e;exact fun h=>he'.down h.symm
   ·exact hne'.down i h1 (by omega)
 have c3:(((f k:Nat):Int)=((f (k-1):Nat):Int))=True:=eq_true (by omega);have he':=zU he;have s1:za6 (.slice b 0 n n false 1) (some (.int .i64 (k:Nat))) none none=some (.slice b k (n-k) (n-k) false 1):=by simp [za6,bound,hkn]
 have hstart:PLift ((List.range k).map f=cl ((List.range (k+1)).map f)):=⟨by
  obtain ⟨j,rfl⟩: ∃j,k=j+1:=⟨k-1,by omega⟩
  rw [zr8,if_pos (by have:=he'.down;simpa using this.symm),zk0 hne'.down]⟩
 clear he;refine into ?_
 let I2:=fun (d:Nat) (fr:Frame) (M:Mem)=> ∃(e kk:Nat) (w:Nat->Nat),1<=e/\e<=n-k/\1<=kk/\kk<=k+e-1/\d=n-k-e/\Has fr [(0,.slice b 0 n n false 1),(3,.int .i64 (kk:Nat)),(4,.slice b k (n-k) (n-k) false 1),(5,.int .i64 (e:Nat))]/\M=Mm (.cells true (zdR n w))/\(∀i,k+e-1<=i->w i=f i)/\(List.range kk).map w=cl ((List.range (k+e)).map f)
 refine zW I2 ?_ (n-k-1) ⟨1,k,f,Nat.le_refl _,by omega,hk1,by omega,by omega,zh,rfl,fun i _=>rfl,hstart.down⟩;rintro d fr _ ⟨e,kk,w,he1,hen,hkk1,hkk,rfl,F,rfl,hw,hcl⟩;have hw':=zU hw;have hcl':=zU hcl;clear hw hcl
 by_cases hlt:e<n-k
 ·have c4:((e:Int)<((n-k:Nat):Int))=True:=eq_true (by omega)
  have w3:IntKind.i64.wrap ((e:Int)-1)=((e-1:Nat):Int):=by rw [wrap_i64]<;>omega
  have w4:IntKind.i64.wrap ((e:Int)+1)=((e+1:Nat):Int):=by rw [wrap_i64]<;>omega
  have w5:IntKind.i64.wrap ((kk:Int)+1)=((kk+1:Nat):Int):=by rw [wrap_i64]<;>omega
  have b1:k+e<n:=by omega
  have b2:k+(e-1)<n:=by omega
  have b3:kk<n:=by omega
  have b4:e-1<n-k:=by omega
  have f1:w (k+e)=f (k+e):=hw'.down _ (by omega);have f2:w (k+(e-1))=f (k+e-1):=by rw [hw'.down _ (by omega)];congr 1;omega
  have step:PLift (cl ((List.range (k+(e+1))).map f)=if f (k+e-1)=f (k+e) then cl ((List.range (k+e)).map f) else cl ((List.range (k+e)).map f)++[f (k+e)]):=⟨by
   have:= @zr8 (k+e-1) f;rw [show k+e-1+1+1=k+(e+1) by omega,show k+e-1+1=k+e by omega] at this;exact this⟩
  by_cases hf:f (k+e)=f (k+e-1)
  ·have c5:(((f (k+e):Nat):Int)=((f (k+e-1):Nat):Int))=True:=eq_true (by omega)
   have hf':=zU hf;clear hf;refine into ?_;refine into ?_;refine ⟨_,?_,e+1,kk,w,by omega,by omega,hkk1,by omega,rfl,zh,rfl,fun i hi=>hw'.down i (by omega),?_⟩
   ·omega
   ·rw [step.down,if_pos hf'.down.symm];exact hcl'.down
  ·have c5:(((f (k+e):Nat):Int)=((f (k+e-1):Nat):Int))=False:=eq_false (by omega)
   have hf':=zU hf;clear hf;refine into ?_;refine into ?_;refine ⟨_,?_,e+1,kk+1,up w kk (f (k+e)),by omega,by omega,by omega,by omega,rfl,zh,rfl,fun i hi=> ?_,?_⟩
   ·omega
   ·rw [zaM (by omega)];exact hw'.down i (by omega)
   ·rw [step.down,if_neg (fun h=>hf'.down h.symm),<-hcl'.down,List.range_succ,List.map_append]
    congr 1
    ·refine List.map_congr_left fun i hi=> ?_
     have:=List.mem_range.1 hi;exact zaM (by omega)
    ·simp [zK]
 ·have ee:e=n-k:=by omega
  have ekn:k+e=n:=by omega
  have c4:((e:Int)<((n-k:Nat):Int))=False:=eq_false (by omega);have s2:za6 (.slice b 0 n n false 1) (some (.int .i64 (kk:Nat))) none none=some (.slice b kk (n-kk) (n-kk) false 1):=by simp [za6,bound,show kk<=n by omega]
  have s3:za6 (.slice b 0 n n false 1) none (some (.int .i64 (kk:Nat))) none=some (.slice b 0 kk n false 1):=by simp [za6,bound,show kk<=n by omega]
  have s4:=zti (w:=w) hget hset (show kk<=n by omega);have hlast:PLift ((List.range kk).map (fun i=>if i<kk then w i else 0)=cl ((List.range n).map f)):=⟨by
   rw [<-ekn,<-hcl'.down];refine List.map_congr_left fun i hi=> ?_
   rw [if_pos (List.mem_range.1 hi)]⟩
  have hkkn:kk<=n:=by omega
  clear ee ekn;refine into ?_;exact ⟨kk,_,rfl,rfl,hkkn,hlast.down⟩
def AtM (lo:Nat) (g M:Mem):Prop:= ∀(j:Nat) (x:Blk),g[j]? =some x->M[lo+j]? =some x
theorem AtM.here {g:Mem}:AtM 0 g g:=fun j x h=>by rw [Nat.zero_add];exact h
theorem AtM.hereA {g G:Mem}:AtM 0 g (g++G):=fun j x h=>by rw [Nat.zero_add];exact zb h
theorem AtM.drop {lo:Nat}{g M:Mem}{b:Blk}(h:AtM lo g M):AtM (lo+1) g (b::M):=fun j x hj=>by
 rw [show lo+1+j=(lo+j)+1 by omega];exact h j x hj
theorem AtM.left {lo:Nat}{g A M:Mem}(h:AtM lo g M):AtM (A.length+lo) g (A++M):=fun j x hj=>by
 rw [Nat.add_assoc,zi];exact h j x hj
theorem AtM.cst {a lo:Nat}{g M:Mem}(h:AtM a g M) (e:a=lo):AtM lo g M:=e▸h
theorem AtM.set {lo b:Nat}{g M:Mem}{x:Blk}(h:AtM lo g M) (hb:b<lo\/lo+g.length<=b):AtM lo g (M.set b x):=fun j y hj=>by
 have:=(List.getElem?_eq_some_iff.1 hj).1;rw [List.getElem?_set_ne (by omega)];exact h j y hj
theorem AtM.app {lo:Nat}{g M G:Mem}(h:AtM lo g M):AtM lo g (M++G):=fun j x hj=>zb (h j x hj)
def Ps (lo:Nat) (g:Mem) (P:Mem->Prop):Prop:= ∀M,AtM lo g M->P M
theorem Ps.on {lo:Nat}{g M:Mem}{P:Mem->Prop}(h:Ps lo g P) (e:AtM lo g M:=by
  (try simp only [List.append_assoc,List.cons_append,List.nil_append])
  apply AtM.cst
  ·repeat (first|exact AtM.here|exact AtM.hereA|apply AtM.drop|apply AtM.left)
  ·(try simp only [List.length_append,List.length_cons,List.length_nil])<;>omega):P M:=h M e
theorem Ps.imp {lo:Nat}{g:Mem}{P Q:Mem->Prop}(h:Ps lo g P) (k: ∀M,P M->Q M):Ps lo g Q:=fun M hM=>k M (h M hM)
theorem Ps.to {lo k lo2:Nat}{g g2:Mem}{P:Mem->Prop}(h:Ps lo g P) (e:AtM k g g2:=by
  (try simp only [List.append_assoc,List.cons_append,List.nil_append])
  repeat (first|exact AtM.here|exact AtM.hereA|apply AtM.drop|apply AtM.left)) (e2:lo=lo2+k:=by
  (try simp only [List.length_append,List.length_cons,List.length_nil])<;>omega):Ps lo2 g2 P:=fun M hM=>h M fun j x hj=>by
 subst e2;rw [Nat.add_assoc];exact hM _ _ (e j x hj)
theorem Ps.ex {lo:Nat}{g:Mem}{P:Mem->Prop}(h:Ps lo g P): ∃M,P M:=⟨List.replicate lo .dead++g,h _ (by
 have:=AtM.left (A:=List.replicate lo .dead) (AtM.here (g:=g));rw [List.length_replicate] at this;exact this)⟩
theorem AtM.blk {lo b:Nat}{g M P R:Mem}{x:Blk}(h:AtM lo g M) (e:g=P++x::R) (hb:b=lo+P.length):M[b]? =some x:=by
 subst e hb;exact h _ _ (by simp)
theorem _root_.Go.AM.In.cases {len:Nat}{g:Mem}{v:V}{z:Nat}{els:List (List V)}(h:In len g v z els):(v= .nils/\els=[])\/ ∃P R cap ex,g=P++ .cells true els::R/\v= .slice (len+P.length) 0 els.length cap ex z:=by
 rcases (h (List.replicate len .dead) (by simp)).cases with h|⟨b,cap,ex,h1,h2,h3⟩
 ·exact .inl h
 ·obtain ⟨j,rfl⟩: ∃j,b=len+j:=⟨b-len,by omega⟩
  have e:g[j]? =some (.cells true els):=by
   rw [List.getElem?_append_right (by simp)] at h3
   simpa using h3
  obtain ⟨hj,hj2⟩:=List.getElem?_eq_some_iff.1 e;refine .inr ⟨g.take j,g.drop (j+1),cap,ex,?_,?_⟩
  ·rw [<-hj2,List.getElem_cons_drop,List.take_append_drop]
  ·rw [List.length_take,Nat.min_eq_left (by omega),h2]
theorem _root_.Go.AM.In.ps {len:Nat}{g:Mem}{v:V}{z:Nat}{els:List (List V)}(h:In len g v z els):Ps len g (fun M=>Sl M v z els):=fun M hM=>by
 rcases h.cases with ⟨rfl,rfl⟩|⟨P,R,cap,ex,e,rfl⟩
 ·exact ⟨rfl,rfl⟩
 ·exact Sl.mk (hM.blk e rfl)
theorem Gw.ps {len:Nat}{g:Mem}{v:V}{z:Nat}{els:List (List V)}(h:Gw len g v z els):Ps len g (fun M=>Sl M v z els):=fun M hM=>by
 rcases h with ⟨rfl,rfl⟩|⟨j,rfl,hj⟩
 ·exact ⟨rfl,rfl⟩
 ·exact Sl.mk (hM j _ hj)
def Loc (F:Nat->Prop) (M:Mem) (P:Mem->Prop):Prop:= ∀M':Mem,(∀b x,F b->M[b]? =some x->M'[b]? =some x)->P M'
theorem Loc.at {F:Nat->Prop}{M:Mem}{P:Mem->Prop}(h:Loc F M P):P M:=h M fun _ _ _ h=>h
theorem Loc.to {F:Nat->Prop}{M M':Mem}{P:Mem->Prop}(h:Loc F M P) (k: ∀b x,F b->M[b]? =some x->M'[b]? =some x):Loc F M' P:=fun M2 h2=>h M2 fun b x hb hx=>h2 b x hb (k b x hb hx)
theorem Loc.set {F:Nat->Prop}{M:Mem}{P:Mem->Prop}{b:Nat}{y:Blk}(h:Loc F M P) (hb:¬ F b):Loc F (M.set b y) P:=h.to fun c x hc hx=>by
 rw [List.getElem?_set_ne (by rintro rfl;exact hb hc)];exact hx
theorem Loc.app {F:Nat->Prop}{M G:Mem}{P:Mem->Prop}(h:Loc F M P):Loc F (M++G) P:=h.to fun _ _ _ hx=>zb hx
theorem Loc.imp {F:Nat->Prop}{M:Mem}{P Q:Mem->Prop}(h:Loc F M P) (k: ∀M,P M->Q M):Loc F M Q:=fun M' h'=>k _ (h M' h')
theorem Ps.loc {lo:Nat}{g M:Mem}{P:Mem->Prop}(h:Ps lo g P) (e:AtM lo g M):Loc (fun b=>lo<=b/\b<lo+g.length) M P:=fun M' h'=>h M' fun j x hj=>h' _ _ ⟨Nat.le_add_right _ _,by have:=(List.getElem?_eq_some_iff.1 hj).1;omega⟩ (e j x hj)
abbrev zJ (n:Nat) (f:Nat->List V):List (List V):=(List.range n).map f
theorem zcx {n i:Nat}{f:Nat->List V}{own:Bool}{k:Option Nat}{o:Nat}(h:i<n):zhG (some (.cells own (zJ n f))) k i o=part (f i) o k:=by
 rw [zeR];simp [h]
theorem zdZ {n i z:Nat}{f:Nat->List V}{x:V}(h:i<n) (hz:(f i).length=z) (hx:x.cells.length=z) (hc:x.cells.all V.isCell=true):zcW (some (.cells true (zJ n f))) z i 0 x=some (.cells true (zJ n (up f i x.cells))):=by
 unfold zcW;have e:(zJ n f)[i]? =some (f i):=by simp [h]
 simp only [e];rw [if_pos ⟨hx,by omega,hc⟩]
 congr 2
 rw [show zJ n (up f i x.cells)=(zJ n f).set i x.cells from map_set.symm]
 congr 1
 simp [splice,hx,<-hz]
theorem zcT {b o len cap i z:Nat}{ex:Bool}(ki:IntKind) (h:i<len):zaB z (.slice b o len cap ex z) (.int ki (i:Int))=some (.ptr b (o+i) 0):=by
 unfold zaB;simp [h]
theorem _root_.Go.AM.Rd.beq {m:Mem}{v:V}{z n:Nat}{f:Nat->List V}(h:Rd m v z n f) (hn:0<n):V.beq v v=true:=by
 rcases h with h|⟨h,_⟩
 ·exact h.beq'
 ·omega
theorem zxc {S:Sys}{base:Nat}{d t:Option Nat}{r:List zo}{fr:Frame}{m:Mem}{K:Frame->Mem->Prop}{n e:Nat}{k:Option Nat}{a x c:Arg}:O S base (⟨d,none,.store n a x,t,[(none,(e,(k,c)))]⟩::r) fr m K↔ ∃m',zbi m n (a.get fr) (x.get fr)=some m'/\(∃u,zaq m' k (c.get fr)=some u/\V.beq u (fr e)=true)/\O S base r (putO fr d undef) m' K:=by
 rw [zaV rfl];simp only [zu,zO,List.all_cons,List.all_nil,zQ,Bool.not_true,Bool.false_or,Bool.and_true,Option.map_eq_some_iff,Prod.mk.injEq];constructor
 ·rintro ⟨v,m',⟨y,h1,rfl,rfl⟩,h3,h2⟩
  refine ⟨y,h1,?_,h2⟩
  split at h3
  ·rename_i u hu
   exact ⟨u,hu,h3⟩
  ·cases h3
 ·rintro ⟨m',h1,⟨u,hu,h3⟩,h2⟩
  exact ⟨_,m',⟨m',h1,rfl,rfl⟩,by rw [hu];exact h3,h2⟩
def Hp (m:Mem) (cs:List V) (H:zl):Prop:= ∃aw uw sv va vm,cs=zB H aw uw sv/\zcY m aw uw sv va vm H/\V.beq uw uw=true/\V.beq sv sv=true
theorem Hp.app {m g:Mem}{cs:List V}{H:zl}(h:Hp m cs H):Hp (m++g) cs H:=by
 obtain ⟨aw,uw,sv,va,vm,e,h,k⟩:=h;exact ⟨aw,uw,sv,va,vm,e,h.app,k⟩
theorem zxd {m:Mem}{x:zak}{va vm:V}(h:zom m x va vm) (hk:0<x.mr.n):C S zjn [.agg (zaS x va vm)] m (fun r m'=> ∃g va' vm',m'=m++g/\r= .agg (zaS x va' vm')/\va'.isCell=true/\vm'.isCell=true/\Ps m.length g (fun M=>zom M x va' vm')):=by
 have A:=h.a.ar.2.1;have B:=h.k.ar.2.1;have bm:=h.k.beq hk;refine fn rfl ?_;refine (zgc h.a.app h.na).mono ?_;rintro _ _ ⟨g1,v1,rfl,rfl,i1⟩;have A1:=i1.cell;refine am ?_;refine (zgc h.k.app h.nk).mono ?_;rintro _ _ ⟨g2,v2,rfl,rfl,i2⟩;have B1:=i2.cell;refine am ?_;refine ⟨_,v1,v2,rfl,rfl,A1,B1,fun M hM=> ?_⟩;exact ⟨.inl (i1.ps.to.on hM),.inl (i2.ps.to.on hM),h.wa,h.wk,h.na,h.nk⟩
end Go.AM.G
