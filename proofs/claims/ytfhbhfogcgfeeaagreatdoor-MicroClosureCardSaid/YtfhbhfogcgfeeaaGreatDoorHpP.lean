import Derived.Test.YtfhbhfogcgfeeaaGreatDoorHpM
set_option linter.unusedVariables false
set_option linter.unusedSimpArgs false
set_option maxRecDepth 100000
namespace Go.AM.G
open Go Go.AM
def ob0:ObA:=⟨0,0,0,0,false⟩
def ob (l:List ObA) (i:Nat):ObA:=l.getD i ob0
abbrev zOb:List V:=[.int .i64 0,.int .i64 0,.int .u64 0,.int .i64 0,.int .u64 0,.bool false]
abbrev Obs (m:Mem) (v:V) (l:List ObA):Prop:=Rd m v 6 l.length (fun i=>obV (ob l i))
theorem zxS {l:List ObA}:l.map obV=(List.range l.length).map fun i=>obV (ob l i):=by
 apply List.ext_getElem?;intro i;simp only [List.getElem?_map,List.getElem?_range,ob,List.getD_eq_getElem?_getD]
 by_cases h:i<l.length
 ·simp [h]
 ·simp [h]
theorem Gw.obs {g A G:Mem}{v:V}{l:List ObA}(h:Gw A.length g v 6 (l.map obV)):Obs (A++(g++G)) v l:= .inl (zxS▸h.sl)
def rises (l:List ObA):Prop:= ∀p q,p<q->q<l.length->(ob l p).addr<(ob l q).addr
def fnd (l:List ObA) (a:Nat):Option ObA:=l.find? fun o=>o.addr == a&&o.cur
def zrR (x:Option ObA):V:=
 match x with
 |some o=> .tup [.agg (obV o),.bool true]
 |none=> .tup [.agg zOb,.bool false]
def zl1 (a b:Nat):Int:=if a<b then -1 else if b<a then 1 else 0
theorem zjC {m:Mem}{a:Nat}:C S zau [.int .u64 (a:Nat)] m (fun r m'=>r= .bool false/\Grow m m'):=by
 have G:=Grow.refl m;refine fn rfl ?_;trivial
theorem zqu {m:Mem}{a b:Nat}:C S zce [.int .u64 (a:Nat),.int .u64 (b:Nat)] m (fun r m'=>r= .int .i64 (zl1 a b)/\Grow m m'):=by
 refine fn rfl ?_;refine zjC.mono ?_;rintro _ _ ⟨rfl,⟨g1,rfl⟩⟩;refine am ?_;refine zjC.mono ?_;rintro _ _ ⟨rfl,⟨g2,rfl⟩⟩
 by_cases h1:a<b
 ·have c1:((a:Int)<(b:Int))=True:=eq_true (by omega)
  have e:zl1 a b= -1:=if_pos h1;clear h1;refine am ?_;exact ⟨_,rfl⟩
 ·have c1:((a:Int)<(b:Int))=False:=eq_false (by omega)
  by_cases h2:b<a
  ·have c2:((b:Int)<(a:Int))=True:=eq_true (by omega)
   have e:zl1 a b=1:=by unfold zl1;rw [if_neg h1,if_pos h2]
   clear h1 h2;refine am ?_;exact ⟨_,rfl⟩
  ·have c2:((b:Int)<(a:Int))=False:=eq_false (by omega)
   have e:zl1 a b=0:=by unfold zl1;rw [if_neg h1,if_neg h2]
   clear h1 h2;refine am ?_;exact ⟨_,rfl⟩
theorem zlO {m:Mem}{o:ObA}{a:Nat}:C S zbm [.agg (obV o),.int .u64 (a:Nat)] m (fun r m'=>r= .int .i64 (zl1 o.addr a)/\Grow m m'):=by
 refine fn rfl ?_;refine zqu.mono ?_;rintro _ _ ⟨rfl,⟨g,rfl⟩⟩;refine am ?_;exact ⟨_,rfl⟩
theorem zwZ {i j:Nat}(h:i+j<2^62):shI .shr .u64 ((i+j:Nat):Int) 1=some (.int .u64 (((i+j)/2:Nat):Int)):=by
 have:=zrc (w:=i+j) (k:=1) (by omega) (by omega);rw [Nat.shiftRight_eq_div_pow] at this;exact this
theorem zrS {m:Mem}{v:V}{l:List ObA}{a:Nat}(hv:Obs m v l) (hr:rises l) (hl:l.length<1000000):C S zbe [v,.int .u64 (a:Nat),.fn zbm [] []] m
  (fun r m'=>(∃i,i<=l.length/\(∀p,p<i->(ob l p).addr<a)/\(∀p,i<=p->p<l.length->a<=(ob l p).addr)/\r= .tup [.int .i64 (i:Nat),.bool (decide (i<l.length/\(ob l i).addr=a))])/\Grow m m'):=by
 have A:=hv.ar;have hr':=zU hr;clear hr;refine fn rfl ?_
 let I:=fun (d:Nat) (fr:Frame) (M:Mem)=> ∃i j:Nat,i<=j/\j<=l.length/\d=j-i/\Has fr [(0,v),(1,.int .u64 (a:Nat)),(2,.fn zbm [] []),(8,.int .i64 (l.length:Nat)),(9,.int .i64 (i:Nat)),(10,.int .i64 (j:Nat))]/\(∃g,M=m++g)/\(∀p,p<i->(ob l p).addr<a)/\(∀p,j<=p->p<l.length->a<=(ob l p).addr)
 refine zW I ?_ l.length ⟨0,l.length,Nat.zero_le _,Nat.le_refl _,rfl,zh,⟨[],by simp⟩,fun p h=>absurd h (Nat.not_lt_zero _),fun p h h2=>absurd h2 (by omega)⟩;rintro d fr _ ⟨i,j,hij,hj,rfl,F,⟨g,rfl⟩,h1,h2⟩;have h1':=zU h1;have h2':=zU h2;clear h1 h2
 by_cases h:i<j
 ·have c1:((i:Int)<(j:Int))=True:=eq_true (by omega)
  have w1:IntKind.i64.wrap ((i:Int)+(j:Int))=((i+j:Nat):Int):=by rw [wrap_i64]<;>omega
  have w2:=un' (a:=i+j) (by omega);have w3:=zwZ (i:=i) (j:=j) (by omega);have w4:=wn (a:=(i+j)/2) (by omega);have hm:(i+j)/2<l.length:=by omega
  have w5:IntKind.i64.wrap ((((i+j)/2:Nat):Int)+1)=(((i+j)/2+1:Nat):Int):=by rw [wrap_i64]<;>omega
  refine into ?_;refine (zlO).mono ?_;rintro _ _ ⟨rfl,⟨g2,rfl⟩⟩
  by_cases hlt:(ob l ((i+j)/2)).addr<a
  ·have e:zl1 (ob l ((i+j)/2)).addr a= -1:=if_pos hlt
   have hlt':=zU hlt;clear hlt;refine am ?_;refine ⟨_,?_,(i+j)/2+1,j,by omega,hj,rfl,zh,⟨_,rfl⟩,fun p hp=> ?_,h2'.down⟩
   ·omega
   ·by_cases e:p=(i+j)/2
    ·rw [e];exact hlt'.down
    ·exact Nat.lt_trans (hr'.down p _ (by omega) hm) hlt'.down
  ·have e:(zl1 (ob l ((i+j)/2)).addr a<0)=False:=eq_false (by unfold zl1;rw [if_neg hlt];split<;>omega)
   have hlt':=zU hlt;clear hlt;refine am ?_;refine ⟨_,?_,i,(i+j)/2,by omega,by omega,rfl,zh,⟨_,rfl⟩,h1'.down,fun p hp hp2=> ?_⟩
   ·omega
   ·by_cases e:p=(i+j)/2
    ·have:=hlt'.down;rw [e];omega
    ·have:=hlt'.down;have:=hr'.down _ p (show (i+j)/2<p by omega) hp2;omega
 ·have ei:i=j:=by omega
  subst ei;have c1:((i:Int)<(i:Int))=False:=eq_false (by omega)
  by_cases h3:i<l.length
  ·have c2:((i:Int)<(l.length:Int))=True:=eq_true (by omega)
   refine into ?_;refine (zlO).mono ?_;rintro _ _ ⟨rfl,⟨g2,rfl⟩⟩;refine am ?_;refine ⟨⟨i,hj,h1'.down,h2'.down,?_⟩,_,rfl⟩;have:(zl1 (ob l i).addr a=0)↔(ob l i).addr=a:=by unfold zl1;split<;>(try split)<;>omega
   simp [h3,this]
  ·have c2:((i:Int)<(l.length:Int))=False:=eq_false (by omega)
   refine into ?_;exact ⟨⟨i,hj,h1'.down,h2'.down,by simp [h3]⟩,_,rfl⟩
theorem zyH {l:List ObA}{i:Nat}(h:i<l.length):l[i]? =some (ob l i):=by simp [ob,List.getD_eq_getElem?_getD,h]
theorem zw0 {l:List ObA}{o:ObA}(h:o∈l): ∃i,i<l.length/\ob l i=o:=by
 obtain ⟨i,hi,e⟩:=List.getElem_of_mem h;exact ⟨i,hi,by simp [ob,List.getD_eq_getElem?_getD,hi,e]⟩
theorem zrT {l:List ObA}{a:Nat}(h: ∀p,p<l.length->(ob l p).addr=a->(ob l p).cur=false):fnd l a=none:=by
 unfold fnd;rw [List.find?_eq_none];intro o ho;obtain ⟨i,hi,rfl⟩:=zw0 ho;have:=h i hi;simp only [Bool.and_eq_true,beq_iff_eq];rintro ⟨h1,h2⟩;rw [this h1] at h2;cases h2
theorem zw1 {l:List ObA}{a i:Nat}(h: ∀p,p<l.length->(ob l p).addr=a->p=i) (hi:i<l.length) (h1:(ob l i).addr=a) (h2:(ob l i).cur=true):fnd l a=some (ob l i):=by
 cases e:fnd l a with
 |none=>
  unfold fnd at e;rw [List.find?_eq_none] at e;exact absurd (by simp [h1,h2]) (e _ (List.mem_of_getElem? (zyH hi)))
 |some o=>
  unfold fnd at e;obtain ⟨j,hj,rfl⟩:=zw0 (List.mem_of_find?_eq_some e);have:=List.find?_some e;simp only [Bool.and_eq_true,beq_iff_eq] at this;rw [h j hj this.1]
theorem zyI {l:List ObA}{a:Nat}{o:ObA}(h:fnd l a=some o):o.addr=a/\o.cur=true/\o∈l:=by
 have h1:=List.find?_some h;simp only [Bool.and_eq_true,beq_iff_eq] at h1;exact ⟨h1.1,h1.2,List.mem_of_find?_eq_some h⟩
theorem zpo {M:Mem}{P a:Nat}{own:Bool} {aw nn uw sv ov:V}{l:List ObA}(hP:M[P]? =some (.cells own [[aw,nn,uw,sv,ov]])) (hv:Obs M ov l) (hr:rises l) (hl:l.length<1000000):C S zdr [.ptr P 0 0,.int .u64 (a:Nat)] M (fun r m'=>r=zrR (fnd l a)/\Grow M m'):=by
 have A:=hv.ar;have hr':=zU hr;clear hr;refine fn rfl ?_;refine (zrS (l:=l) hv.app hr'.down hl).mono ?_;rintro _ _ ⟨⟨i,hi,h1,h2,rfl⟩,⟨g,rfl⟩⟩;have h1':=zU h1;have h2':=zU h2;clear h1 h2
 by_cases h3:i<l.length/\(ob l i).addr=a
 ·have e3:decide (i<l.length/\(ob l i).addr=a)=true:=decide_eq_true h3
  rw [e3];have hi':=h3.1;have ha:=zU h3.2;clear h3 e3;have only:PLift (∀p,p<l.length->(ob l p).addr=a->p=i):=⟨fun p hp e=>by
   have:=ha.down;rcases Nat.lt_trichotomy p i with h|h|h
   ·have:=hr'.down p i h hi';omega
   ·exact h
   ·have:=hr'.down i p h hp;omega⟩
  cases hc:(ob l i).cur with
  |true=>
   rw [zw1 only.down hi' ha.down hc];refine am ?_;simp only [zrR,obV,hc];exact ⟨trivial,_,rfl⟩
  |false=>
   rw [zrT (a:=a) fun p hp e=>by rw [only.down p hp e];exact hc];refine am ?_;exact ⟨rfl,_,rfl⟩
 ·have e3:decide (i<l.length/\(ob l i).addr=a)=false:=decide_eq_false h3
  rw [e3];rw [zrT (a:=a) fun p hp e=>by
   have:p≠i:=fun h=>h3 (h▸⟨hp,e⟩)
   rcases Nat.lt_trichotomy p i with h|h|h
   ·have:=h1'.down p h;omega
   ·exact absurd h this
   ·have a1:=hr'.down i p h hp
    have:=h2'.down i (Nat.le_refl _) (by omega);omega]
  clear h3 e3;refine am ?_;exact ⟨rfl,_,rfl⟩
theorem zs6 {M:Mem}{P w:Nat}{own:Bool} {aw nn uw sv ov:V}{l:List ObA}(hP:M[P]? =some (.cells own [[aw,nn,uw,sv,ov]])) (hv:Obs M ov l) (hr:rises l) (hl:l.length<1000000):C S zbJ [.ptr P 0 0,.int .u64 (w:Nat)] M (fun r m'=>r= .bool ((fnd l w).isSome||w == 0)/\Grow M m'):=by
 have hr':=zU hr;clear hr;refine fn rfl ?_;refine (zpo hP hv hr'.down hl).mono ?_;rintro _ _ ⟨rfl,⟨g,rfl⟩⟩;cases h:fnd l w with
 |some o=>
  have f1:zrR (some o)= .tup [.agg (obV o),.bool true]:=rfl;have f2:(some o).isSome=true:=rfl;have f3: ∀b,(true||b)=true:=Bool.true_or;refine am ?_;exact ⟨_,rfl⟩
 |none=>
  have f1:zrR none= .tup [.agg zOb,.bool false]:=rfl;have f2:((none:Option ObA).isSome||w == 0)=decide ((w:Int)=0):=by
   by_cases h:w=0<;>simp [h]
  refine am ?_;exact ⟨_,rfl⟩
theorem zfG {v:V}{args:List V}{m:Mem}{P P':V->Mem->Prop}(h:CV S v args m P) (hm: ∀r m',P r m'->P' r m'):CV S v args m P':=by
 cases v with
 |fn g first cap=>exact C.mono h hm
 |_=>exact h
theorem zpp {m:Mem}{P:Nat}{each:V}{o:ObA}{T:Nat->Mem->Prop}{R:Mem->Prop}{na:Nat}{a:Nat->Nat}
  (ho:o.addr+1+o.n<=na) (hna:na<1000000) (hn48:o.n<=48) (hu:unM o.w<18446744073709551616) (he:each.isCell=true)
  (q0:T 0 (m++[.cells true [obV o]]))
  (hQ: ∀f M,T f M->M[m.length]? =some (.cells true [obV o])/\(∃own aw nn uw sv ov,M[P]? =some (.cells own [[aw,nn,uw,sv,ov]])/\Rd M aw 1 na (zG a)))
  (hG: ∀f M g,T f M->T f (M++g))
  (skip: ∀f M,f<o.n->(unM o.w).testBit f=false->T f M->T (f+1) M)
  (step: ∀f M,f<o.n->(unM o.w).testBit f=true->T f M->CV S each [.int .u64 (a (o.addr+1+f):Nat)] M (fun r M'=>(r= .bool true/\T (f+1) M')\/(r= .bool false/\R M'))):
  C S zb2 [.ptr P 0 0,.agg (obV o),each] m (fun r M'=>(r= .bool true/\T o.n M')\/(r= .bool false/\R M')):=by
 have hQ':=zU hQ;have hG':=zU hG;have skip':=zU skip;have step':=zU step;have q0':=zU q0;have ho':o.addr+1+o.w%256<=na:=ho;have hn':o.w%256<=48:=hn48;clear hQ hG skip step q0;refine fn rfl ?_;refine range (α:=Unit) (o.w%256) (fun _=>[(0,.ptr P 0 0),(2,each),(4,.ptr m.length 0 0)]) (fun k _ M=>T k M) () q0'.down ?_ ?_
 ·rintro k _ fr M hk F hq
  obtain ⟨h1,own,aw,nn,uw,sv,ov,h2,h3⟩:=hQ'.down k M hq;have A:=h3.ar;have hq':=zU hq;have w1:IntKind.u64.wrap ((o.addr:Int)+1)=((o.addr+1:Nat):Int):=by rw [wrap_u64]<;>omega
  have w2:=un' (a:=k) (by omega);have w3:IntKind.u64.wrap (((o.addr+1:Nat):Int)+(k:Int))=((o.addr+1+k:Nat):Int):=by rw [wrap_u64]<;>omega
  have hlt:o.addr+1+k<na:=by omega
  clear hq;refine am ?_;refine (zkg (f:=k) hu (by omega)).mono ?_;rintro _ _ ⟨rfl,⟨g,rfl⟩⟩;cases hb:(unM o.w).testBit k with
  |false=>
   refine am ?_;exact ⟨(),zh,skip'.down k _ hk hb (hG'.down k M g hq'.down)⟩
  |true=>
   have hb':=zU hb;clear hb;refine am ?_;refine zfG (step'.down k _ hk hb'.down (hG'.down k M g hq'.down)) ?_;rintro r M' hr;have hr':=zU hr;clear hr;rcases hr'.down with ⟨rfl,h⟩|⟨rfl,h⟩
   ·have h':=zU h
    clear h hr';refine am ?_;exact ⟨(),zh,h'.down⟩
   ·have h':=zU h
    clear h hr';refine am ?_;exact .inr h'.down
 ·rintro _ fr M F hq
  have hq':=zU hq;clear hq;refine am ?_;exact .inl hq'.down
structure zfa (H:zl) (l:List ObA) (b:Nat):Prop where
 a: ∀p q,p<q->q<l.length->(ob l p).addr+(ob l p).n+1<=(ob l q).addr
 b: ∀p,p<l.length->(ob l p).addr+(ob l p).n+1<=b
 c: ∀p,p<l.length->16<=(ob l p).addr/\zkf (ob l p).w/\(ob l p).w=H.a (ob l p).addr/\(ob l p).w<18446744073709551616
theorem zmj {l k:List ObA}{p:Nat}(h:p<l.length):ob (l++k) p=ob l p:=by
 unfold ob;rw [List.getD_eq_getElem?_getD,List.getElem?_append_left h,List.getD_eq_getElem?_getD]
theorem zqv {l:List ObA}{o:ObA}:ob (l++[o]) l.length=o:=by simp [ob,List.getD_eq_getElem?_getD]
theorem zfa.nil {H:zl}{b:Nat}:zfa H [] b:=⟨fun _ _ _ h=>absurd h (Nat.not_lt_zero _),fun _ h=>absurd h (Nat.not_lt_zero _),fun _ h=>absurd h (Nat.not_lt_zero _)⟩
theorem zfa.to {H:zl}{l:List ObA}{b b':Nat}(h:zfa H l b) (hb:b<=b'):zfa H l b':=⟨h.a,fun p hp=>Nat.le_trans (h.b p hp) hb,h.c⟩
theorem zfa.push {H:zl}{l:List ObA}{o:ObA}{b b':Nat}(h:zfa H l b) (h1:b<=o.addr) (h2:o.addr+o.n+1<=b') (h3:16<=o.addr/\zkf o.w/\o.w=H.a o.addr/\o.w<18446744073709551616):zfa H (l++[o]) b':=by
 refine ⟨fun p q hp hq=> ?_,fun p hp=> ?_,fun p hp=> ?_⟩
 ·simp only [List.length_append,List.length_singleton] at hq
  rw [zmj (show p<l.length by omega)]
  by_cases e:q=l.length
  ·subst e
   rw [zqv];have:=h.b p hp;omega
  ·rw [zmj (show q<l.length by omega)]
   exact h.a p q hp (by omega)
 ·simp only [List.length_append,List.length_singleton] at hp
  by_cases e:p=l.length
  ·subst e;rw [zqv];exact h2
  ·rw [zmj (show p<l.length by omega)]
   have:=h.b p (by omega);omega
 ·simp only [List.length_append,List.length_singleton] at hp
  by_cases e:p=l.length
  ·subst e;rw [zqv];exact h3
  ·rw [zmj (show p<l.length by omega)]
   exact h.c p (by omega)
theorem zfa.rises {H:zl}{l:List ObA}{b:Nat}(h:zfa H l b):rises l:=fun p q hp hq=>by have:=h.a p q hp hq;omega
theorem zyJ {n:Nat}(h:siz n≠0):n<=siz n:=by
 unfold siz at h ⊢
 repeat' split
 all_goals first|omega|(exfalso;apply h;repeat' rw [if_neg (by omega)])
theorem zl.framed.ends {H:zl}(h:H.framed): ∀i j,j<i->i<H.ns->(H.sp j).first+(H.sp j).pages<=(H.sp i).first
 |0,j,hj,_=>absurd hj (Nat.not_lt_zero _)
 |i+1,j,hj,hi=>by
  have h1:=(h.2.2.1.2 (i+1) hi).2 (Nat.succ_pos _);simp only [Nat.add_sub_cancel] at h1
  by_cases e:j=i
  ·subst e;exact h1
  ·have h2:=zl.framed.ends h i j (by omega) (by omega)
   obtain ⟨f,p,s,n,F⟩:=h.at (i:=i) (by omega);have:=F.p1;have:=F.hp;omega
theorem SpF.room {H:zl} {i f p s n k w:Nat}(F:SpF H i f p s n) (hk:k<n) (hw:zyg (H.sp i) w):16*f+k*s+(w%256+1)<=16*(f+p)/\(2<=s->16*f+k*s+(w%256+1)<=16*f+(k+1)*s):=by
 have h1:=hw.1;have h2:=hw.2;rw [F.hs] at h1;rw [F.hp] at h2;have h1:siz (w%256+1)=s:=by omega
 have h2:npg (w%256+1)=p:=by omega
 have h3:=F.slot hk;rcases F.sh with ⟨e1,e2⟩|⟨e1,e2,e3⟩
 ·subst e1
  refine ⟨?_,fun h=>by omega⟩;unfold npg at h2;omega
 ·have:=zyJ (n:=w%256+1) (by omega)
  have e:(k+1)*s=k*s+s:=Nat.succ_mul k s;omega
theorem znw {H:zl}(h:H.framed) (wa:w64 H.na H.a): ∀i k,i<H.ns->k<=nsl (H.sp i)->zcZ H i k-> ∃b,zfa H (obs H i++zbA H i k) b/\ ∀f p s n,SpF H i f p s n->(b<=16*f+k*s\/(1<=k/\b<=16*(f+p)/\s=0))/\b<=16*(f+p)
 |0,0,hi,hk,ht=>⟨0,zfa.nil,fun f p s n F=>⟨.inl (Nat.zero_le _),Nat.zero_le _⟩⟩
 |i+1,0,hi,hk,ht=>by
  obtain ⟨f,p,s,n,F⟩:=h.at (i:=i) (by omega);obtain ⟨b,hb,hB⟩:=znw h wa i (nsl (H.sp i)) (by omega) (Nat.le_refl _) ⟨fun j hj=>ht.1 j (by omega),fun l hl=>ht.1 i (by omega) l hl⟩;have h1:=(hB f p s n F).2;have h2:=h.ends (i+1) i (by omega) hi;rw [F.hf,F.hp] at h2;refine ⟨b,?_,fun f' p' s' n' F'=> ?_⟩
  ·show zfa H ((obs H i++zbA H i (nsl (H.sp i)))++[]) b
   rw [List.append_nil];exact hb
  ·rw [F'.hf] at h2
   have:=F'.p1;omega
 |i,k+1,hi,hk,ht=>by
  obtain ⟨f,p,s,n,F⟩:=h.at (i:=i) hi;obtain ⟨b,hb,hB⟩:=znw h wa i k hi (by omega) ⟨ht.1,fun l hl=>ht.2 l (by omega)⟩;have hkn:k<n:=by have:=F.nsl;omega
  have hn:=F.nsl;obtain ⟨h1,h2⟩:=hB f p s n F;have h1':b<=16*f+k*s:=by
   rcases h1 with h1|⟨e1,e2,e3⟩
   ·exact h1
   ·rcases F.sh with ⟨_,e4⟩|⟨e4,_⟩<;>omega
  by_cases hbit:bit (H.sp i).al.w k=true
  ·have hs:=ht.2 k (Nat.lt_succ_self k) hbit
   rw [F.adr] at hs;have hr:=F.room hkn hs.2;have hlt:=F.lt hkn;have e:obs H i++zbA H i (k+1)=(obs H i++zbA H i k)++[zjB H i k]:=by
    rw [show zbA H i (k+1)=zbA H i k++[zjB H i k] from if_pos hbit,List.append_assoc]
   rw [e];have ea:(zjB H i k).addr=16*f+k*s:=F.adr;have ew:(zjB H i k).w=H.a (16*f+k*s):=by show H.a (adr (H.sp i) k)=_;rw [F.adr]
   have en:(zjB H i k).n=H.a (16*f+k*s)%256:=by show (zjB H i k).w%256=_;rw [ew]
   refine ⟨16*f+k*s+(H.a (16*f+k*s)%256+1),hb.push (by rw [ea];exact h1') (by rw [ea,en];omega) ⟨by rw [ea];have:=F.f1;omega,by rw [ew];exact hs.1,by rw [ew,ea],by rw [ew];exact wa _ hlt⟩,fun f' p' s' n' F'=> ?_⟩;have a1:=F'.hf;have a2:=F'.hp;have a3:=F'.hs;rw [F.hf] at a1;rw [F.hp] at a2;rw [F.hs] at a3;have a1:f=f':=by omega
   have a2:p=p':=by omega
   have a3:s=s':=by omega
   subst a1;subst a2;subst a3;refine ⟨?_,by omega⟩;rcases F.sh with ⟨e1,e2⟩|⟨e1,e2,e3⟩
   ·exact .inr ⟨by omega,by omega,e1⟩
   ·exact .inl (by have:=hr.2 e1;omega)
  ·have e:zbA H i (k+1)=zbA H i k:=if_neg hbit
   rw [e];refine ⟨b,hb,fun f' p' s' n' F'=> ?_⟩;have a1:=F'.hf;have a2:=F'.hp;have a3:=F'.hs;rw [F.hf] at a1;rw [F.hp] at a2;rw [F.hs] at a3;have a1:f=f':=by omega
   have a2:p=p':=by omega
   have a3:s=s':=by omega
   subst a1;subst a2;subst a3;have:(k+1)*s=k*s+s:=Nat.succ_mul k s;omega
theorem zl.lookOk.wide {H:zl}(h:H.framed) (wa:w64 H.na H.a) (hl:H.lookOk):zfa H (obs H H.ns) H.na:=by
 by_cases h0:H.ns=0
 ·rw [h0];exact zfa.nil
 ·obtain ⟨k,hk⟩: ∃k,H.ns=k+1:=⟨H.ns-1,by omega⟩
  obtain ⟨f,p,s,n,F⟩:=h.at (i:=k) (by omega);obtain ⟨b,hb,hB⟩:=znw h wa k (nsl (H.sp k)) (by omega) (Nat.le_refl _) ⟨fun j hj=>hl.1 j (by omega),fun l hl'=>hl.1 k (by omega) l hl'⟩;rw [hk];have:=(hB f p s n F).2;have:=F.fp;exact zfa.to hb (by omega)
def zmk (l:List ObA) (w:Nat):Prop:=w=0\/(fnd l w).isSome=true
def zqw (a:Nat->Nat) (l:List ObA) (o:ObA):Prop:= ∀f,f<o.n->(unM o.w).testBit f=true->zmk l (a (o.addr+1+f))
theorem zs7 {w:Nat}:unM w<18446744073709551616:=by unfold unM;omega
theorem zl2 {m:Mem}{P na:Nat}{a:Nat->Nat}{own:Bool} {aw nn uw sv ov:V}{l:List ObA}{o:ObA}(hP:m[P]? =some (.cells own [[aw,nn,uw,sv,ov]])) (hv:Obs m ov l) (hr:rises l) (hl:l.length<1000000)
  (ha:Rd m aw 1 na (zG a)) (hna:na<1000000) (ho:o.addr+1+o.n<=na) (hn:o.n<=48):
  C S zb2 [.ptr P 0 0,.agg (obV o),.fn zbJ [.ptr P 0 0] []] m (fun r m'=>okB (zqw a l o) r/\Grow m m'):=by
 refine (zpp (T:=fun f M=>(∃g,M=m++ .cells true [obV o]::g)/\ ∀f',f'<f->(unM o.w).testBit f'=true->zmk l (a (o.addr+1+f'))) (R:=fun M=>¬ zqw a l o/\Grow m M) (a:=a) (na:=na) ho hna hn zs7 rfl ⟨⟨[],rfl⟩,fun _ h=>absurd h (Nat.not_lt_zero _)⟩ ?_ ?_ ?_ ?_).mono ?_
 ·rintro f _ ⟨⟨g,rfl⟩,_⟩
  exact ⟨by simp,own,aw,nn,uw,sv,ov,zb hP,ha.app⟩
 ·rintro f _ g2 ⟨⟨g,rfl⟩,h⟩
  exact ⟨⟨g++g2,by simp⟩,h⟩
 ·rintro f M hf hb ⟨h1,h2⟩
  refine ⟨h1,fun f' hf' hb'=> ?_⟩
  by_cases e:f'=f
  ·subst e;rw [hb] at hb';cases hb'
  ·exact h2 f' (by omega) hb'
 ·rintro f _ hf hb ⟨⟨g,rfl⟩,h2⟩
  show C S zbJ _ _ _;refine (zs6 (own:=own) (aw:=aw) (nn:=nn) (uw:=uw) (sv:=sv) (ov:=ov) (l:=l) (zb hP) hv.app hr hl).mono ?_;rintro _ _ ⟨rfl,⟨g2,rfl⟩⟩;have e:((fnd l (a (o.addr+1+f))).isSome||a (o.addr+1+f) == 0)=true↔zmk l (a (o.addr+1+f)):=by
   unfold zmk;rw [Bool.or_eq_true,beq_iff_eq];exact Or.comm
  cases h3:((fnd l (a (o.addr+1+f))).isSome||a (o.addr+1+f) == 0) with
  |true=>
   refine .inl ⟨rfl,⟨_,by rw [List.append_assoc,List.cons_append]⟩,fun f' hf' hb'=> ?_⟩
   by_cases e2:f'=f
   ·subst e2;exact e.1 h3
   ·exact h2 f' (by omega) hb'
  |false=>exact .inr ⟨rfl,fun h=>(by have:=e.2 (h f hf hb);rw [h3] at this;cases this),(Grow.refl _).app.app⟩
 ·rintro r M (⟨rfl,⟨g,rfl⟩,h⟩|⟨rfl,h⟩)
  ·exact ⟨.inl ⟨h,rfl⟩,(Grow.refl _).app⟩
  ·exact ⟨.inr ⟨h.1,rfl⟩,h.2⟩
theorem Rd.cut {m:Mem}{v:V}{z n lo hi:Nat}{f:Nat->List V}(h:Rd m v z n f) (hc:ziN v) (h0:0<n) (h1:lo<=hi) (h2:hi<=n): ∃v',(∀k1 k2:IntKind,za6 v (some (.int k1 (lo:Int))) (some (.int k2 (hi:Int))) none=some v')/\Rd m v' z (hi-lo) (fun i=>f (lo+i)):=by
 rcases h with h|⟨rfl,_⟩
 case inr=>omega
 obtain ⟨b,j,len,cap,ex,own,els,rfl,hb,hl,hj⟩:=h.get0 (i:=0) (by simpa using h0);have hc':len<=cap:=hc;rw [List.length_map,List.length_range] at hl;refine ⟨.slice b (j+lo) (hi-lo) (cap-lo) (ex||false) z,fun k1 k2=> ?_,.inl ⟨?_,by simp [zOk]⟩⟩
 ·simp [za6,bound,show hi<=cap by omega,h1]
 ·have he:=h.1
  simp only [elems,hb] at he ⊢;rw [if_pos (by omega)] at he;rw [if_pos (by omega)]
  injection he with he
  congr 1
  have:(List.drop (j+lo) els).take (hi-lo)=(((List.drop j els).take len).drop lo).take (hi-lo):=by
   rw [List.drop_take,List.take_take,List.drop_drop,Nat.min_eq_left (by omega)]
  rw [this,he];apply List.ext_getElem?;intro i;simp only [List.getElem?_take,List.getElem?_drop,List.getElem?_map,List.getElem?_range]
  by_cases hi':i<hi-lo
  ·simp [hi',show lo+i<n by omega]
  ·simp [hi']
theorem znx {m:Mem}{w:Nat}:C S zai [.int .u64 (w:Nat)] m (fun r m'=>r= .bool (decide (¬ w=0))/\Grow m m'):=by
 have G:=Grow.refl m;have e:decide (¬ w=0)=decide (¬ (w:Int)=0):=decide_eq_decide.2 (by omega);rw [e];refine fn rfl ?_;trivial
theorem zs8 {m:Mem}{v:V}{n:Nat}{a:Nat->Nat}(hv:Rd m v 1 n (zG a)) (hn:n<1000000):C S zao [v,.fn zai [] []] m (fun r m'=>((∃k:Nat,r= .int .i64 (k:Nat)/\ ∃i,i<n/\a i≠0)\/(r= .int .i64 (-1)/\ ∀i,i<n->a i=0))/\Grow m m'):=by
 have A:=hv.ar;refine fn rfl ?_;refine range (α:=Unit) n (fun _=>[(0,v),(1,.fn zai [] [])]) (fun k _ M=>(∃g,M=m++g)/\ ∀i,i<k->a i=0) () ⟨⟨[],by simp⟩,fun _ h=>absurd h (Nat.not_lt_zero _)⟩ ?_ ?_
 ·rintro k _ fr _ hk F ⟨⟨g,rfl⟩,hz⟩
  have hz':=zU hz;clear hz;refine am ?_;refine znx.mono ?_;rintro _ _ ⟨rfl,⟨g2,rfl⟩⟩
  by_cases h:a k=0
  ·have h':=zU h
   have e:decide (¬ a k=0)=false:=decide_eq_false (by simp [h]);rw [e];clear h e;refine am ?_;refine ⟨(),zh,⟨_,rfl⟩,fun i hi=> ?_⟩
   by_cases e:i=k
   ·exact e▸h'.down
   ·exact hz'.down i (by omega)
  ·have h':=zU h
   have e:decide (¬ a k=0)=true:=decide_eq_true h;rw [e];clear h e;refine am ?_;exact ⟨.inl ⟨k,rfl,k,hk,h'.down⟩,_,rfl⟩
 ·rintro _ fr _ F ⟨⟨g,rfl⟩,hz⟩
  have hz':=zU hz;clear hz;refine am ?_;exact ⟨.inr hz'.down,_,rfl⟩
theorem zon {m:Mem}{v:V}{n:Nat}{a:Nat->Nat}(hv:Rd m v 1 n (zG a)) (hn:n<1000000):C S zP [v,.fn zai [] []] m (fun r m'=>okB (∃i,i<n/\a i≠0) r/\Grow m m'):=by
 have A:=hv.ar;refine fn rfl ?_;refine (zs8 hv hn).mono ?_;rintro _ _ ⟨⟨k,rfl,h⟩|⟨rfl,h⟩,⟨g,rfl⟩⟩
 ·have h':=zU h
  have c:((k:Int)<0)=False:=eq_false (by omega);have c2:((0:Int)<=(k:Int))=True:=eq_true (by omega);clear h;refine am ?_;exact ⟨.inl ⟨h'.down,rfl⟩,_,rfl⟩
 ·have h':=zU h
  clear h;refine am ?_;exact ⟨.inr ⟨fun ⟨i,hi,e⟩=>e (h'.down i hi),rfl⟩,_,rfl⟩
theorem zkt {m:Mem} {c1 c2 P na at' upto:Nat}{a:Nat->Nat}{o1 o2 o3:Bool} {aw nn uw sv ov:V}(h1:m[c1]? =some (.cells o1 [[.ptr P 0 0]])) (h2:m[c2]? =some (.cells o2 [[.int .u64 (at':Nat)]])) (hP:m[P]? =some (.cells o3 [[aw,nn,uw,sv,ov]]))
  (ha:Rd m aw 1 na (zG a)) (hc:ziN aw) (hna:na<1000000) (hna0:0<na) (hle:at'<=upto) (hu:upto<=na):
  C S zcf [.int .u64 (upto:Nat),.ptr c1 0 0,.ptr c2 0 0] m (fun r m'=>okB (∀i,at'<=i->i<upto->a i=0) r/\Grow m m'):=by
 have A:=ha.ar;obtain ⟨v',hs,hR⟩:=Rd.cut ha hc hna0 hle hu;have omn: ∀f:Arg->V,Option.map f none=none:=fun _=>rfl
 refine fn rfl ?_;refine (zon (a:=fun i=>a (at'+i)) hR (by omega)).mono ?_;rintro _ _ ⟨⟨h,rfl⟩|⟨h,rfl⟩,⟨g,rfl⟩⟩
 ·have h':=zU h
  clear h;refine am ?_;obtain ⟨i,hi,e⟩:=h'.down;exact ⟨.inr ⟨fun k=>e (k (at'+i) (by omega) (by omega)),rfl⟩,_,rfl⟩
 ·have h':=zU h
  clear h;refine am ?_;refine ⟨.inl ⟨fun i h1 h2=> ?_,rfl⟩,_,rfl⟩
  by_cases e:a i=0
  ·exact e
  ·exact absurd ⟨i-at',by omega,by rw [Nat.add_sub_cancel' h1];exact e⟩ h'.down
def covers (l:List ObA) (k i:Nat):Prop:= ∃p,p<k/\(ob l p).addr<=i/\i<=(ob l p).addr+(ob l p).n
def zl.soundOk (H:zl):Prop:=(∀p,p<(obs H H.ns).length->(ob (obs H H.ns) p).cur=true->zqw H.a (obs H H.ns) (ob (obs H H.ns) p))/\ ∀i,i<H.na->¬ covers (obs H H.ns) (obs H H.ns).length i->H.a i=0
def zfb (l:List ObA) (k:Nat):Nat:=if k=0 then 0 else (ob l (k-1)).addr+1+(ob l (k-1)).n
theorem zfa.end_le {H:zl}{l:List ObA}{b k:Nat}(h:zfa H l b) (hk:k<l.length):zfb l k<=(ob l k).addr:=by
 unfold zfb
 split
 ·exact Nat.zero_le _
 ·have:=h.a (k-1) k (by omega) hk;omega
theorem zfa.end_b {H:zl}{l:List ObA}{b k:Nat}(h:zfa H l b) (hk:k<=l.length):zfb l k<=b:=by
 unfold zfb
 split
 ·exact Nat.zero_le _
 ·have:=h.b (k-1) (by omega);omega
theorem zfa.gap {H:zl}{l:List ObA}{b k i:Nat}(h:zfa H l b) (h1:zfb l k<=i) (h2:k<l.length->i<(ob l k).addr) (hk:k<=l.length):¬ covers l l.length i:=by
 rintro ⟨p,hp,e1,e2⟩
 by_cases hpk:p<k
 ·have:(ob l p).addr+1+(ob l p).n<=zfb l k:=by
   unfold zfb;rw [if_neg (by omega)]
   by_cases e:p=k-1
   ·subst e;exact Nat.le_refl _
   ·have:=h.a p (k-1) (by omega) (by omega);omega
  omega
 ·have:=h2 (by omega)
  by_cases e:p=k
  ·subst e;omega
  ·have:=h.a k p (by omega) hp;omega
theorem zs9 {m:Mem}{P:Nat}{own:Bool} {aw nn uw sv ov:V}{H:zl}(hP:m[P]? =some (.cells own [[aw,nn,uw,sv,ov]])) (hv:Obs m ov (obs H H.ns)) (hl:(obs H H.ns).length<1000000)
  (ha:Rd m aw 1 H.na (zG H.a)) (hc:ziN aw) (hna:H.na<1000000) (hna0:0<H.na) (hw:zfa H (obs H H.ns) H.na):
  C S ze0 [.ptr P 0 0] m (fun r m'=>okB H.soundOk r/\Grow m m'):=by
 obtain ⟨Z,hZ⟩: ∃Z,Z=H.soundOk:=⟨_,rfl⟩
 rw [<-hZ];unfold zl.soundOk at hZ;obtain ⟨l,el⟩: ∃l,obs H H.ns=l:=⟨_,rfl⟩
 rw [el] at hv hl hw hZ;have hw':=zU hw;have hZ':=zU hZ;have A:=ha.ar;have B:=hv.ar;clear hZ hw el;refine fn rfl ?_;refine range (α:=Unit) l.length (fun _=>[(1,.ptr m.length 0 0),(3,.ptr (m.length+1) 0 0),(4,.fn zcf [] [.ptr m.length 0 0,.ptr (m.length+1) 0 0]),(11,ov)])
  (fun k _ M=>(∃g,M=m++ .cells true [[.ptr P 0 0]]:: .cells true [[.int .u64 (zfb l k:Nat)]]::g)/\(∀i,i<zfb l k->¬ covers l l.length i->H.a i=0)/\ ∀p,p<k->(ob l p).cur=true->zqw H.a l (ob l p)) () ⟨⟨[],rfl⟩,fun _ h=>absurd h (Nat.not_lt_zero _),fun _ h=>absurd h (Nat.not_lt_zero _)⟩ ?_ ?_
 ·rintro k _ fr _ hk F ⟨⟨g,rfl⟩,hz,hrf⟩
  have hz':=zU hz;have hrf':=zU hrf;have hb:=hw'.down.b k hk;have hcc:=hw'.down.c k hk;have hn48:(ob l k).w%256<=48:=hcc.2.1.2.1;have hb':(ob l k).addr+(ob l k).w%256+1<=H.na:=hb;have w1:IntKind.u64.wrap (((ob l k).addr:Int)+1)=(((ob l k).addr+1:Nat):Int):=by rw [wrap_u64]<;>omega
  have w2:=un' (a:=(ob l k).w%256) (by omega);have w3:IntKind.u64.wrap ((((ob l k).addr+1:Nat):Int)+(((ob l k).w%256:Nat):Int))=(((ob l k).addr+1+(ob l k).w%256:Nat):Int):=by rw [wrap_u64]<;>omega
  have he:zfb l (k+1)=(ob l k).addr+1+(ob l k).w%256:=by unfold zfb;rw [if_neg (by omega)];rfl
  have he':=zU he;clear hz hrf hb hcc he;refine am ?_;refine (zkt (at':=zfb l k) (P:=P) (a:=H.a) (na:=H.na) (aw:=aw) (nn:=nn) (uw:=uw) (sv:=sv) (ov:=ov) (o1:=true) (o2:=true) (o3:=own) zh zh zh ha.app hc hna hna0 (hw'.down.end_le hk) (by omega)).mono ?_;rintro _ _ ⟨⟨h,rfl⟩|⟨h,rfl⟩,⟨g2,rfl⟩⟩
  case inr=>
   have h':=zU h;clear h;refine am ?_;refine ⟨.inr ⟨fun e=>h'.down fun i h1 h2=> ?_,rfl⟩,_,rfl⟩;rw [hZ'.down] at e;exact e.2 i (by omega) (hw'.down.gap h1 (fun _=>h2) (by omega))
  have h':=zU h;clear h;have hz2:PLift (∀i,i<(ob l k).addr+1+(ob l k).w%256->¬ covers l l.length i->H.a i=0):=⟨fun i hi hno=>by
   by_cases h1:i<zfb l k
   ·exact hz'.down i h1 hno
   ·by_cases h2:i<(ob l k).addr
    ·exact h'.down i (by omega) h2
    ·exact absurd ⟨k,hk,by omega,show i<=(ob l k).addr+(ob l k).w%256 by omega⟩ hno⟩
  cases hcu:(ob l k).cur with
  |false=>
   refine am ?_;refine ⟨(),zh,⟨_,by rw [he'.down]⟩,by rw [he'.down];exact hz2.down,fun p hp hc=> ?_⟩
   by_cases e:p=k
   ·subst e;rw [hcu] at hc;cases hc
   ·exact hrf'.down p (by omega) hc
  |true=>
   have hcu':=zU hcu;have eo:obV (ob l k)=[.int .i64 (ob l k).sp,.int .i64 (ob l k).slot,.int .u64 (ob l k).addr,.int .i64 ((ob l k).w%256:Nat),.int .u64 (unM (ob l k).w:Nat),.bool true]:=by rw [<-hcu]
   have eo':=zU eo;clear eo;refine am ?_;rw [<-eo'.down];refine (zl2 (P:=P) (own:=own) (aw:=aw) (nn:=nn) (uw:=uw) (sv:=sv) (ov:=ov) (l:=l) (a:=H.a) (na:=H.na) zh hv.app hw'.down.rises hl ha.app hna (show (ob l k).addr+1+(ob l k).w%256<=H.na by omega) hn48).mono ?_;rintro _ _ ⟨⟨h,rfl⟩|⟨h,rfl⟩,⟨g3,rfl⟩⟩
   case inr=>
    have h':=zU h;clear h;refine am ?_;refine ⟨.inr ⟨fun e=>h'.down ?_,rfl⟩,_,rfl⟩;rw [hZ'.down] at e;exact e.1 k hk hcu'.down
   have h':=zU h;clear h;refine am ?_;refine ⟨(),zh,⟨_,by rw [he'.down]⟩,by rw [he'.down];exact hz2.down,fun p hp hc=> ?_⟩
   by_cases e:p=k
   ·subst e;exact h'.down
   ·exact hrf'.down p (by omega) hc
 ·rintro _ fr _ F ⟨⟨g,rfl⟩,hz,hrf⟩
  have hz':=zU hz;have hrf':=zU hrf;have w1:=un' (a:=H.na) (by omega);clear hz hrf;refine am ?_;refine (zkt (at':=zfb l l.length) (P:=P) (a:=H.a) (na:=H.na) (aw:=aw) (nn:=nn) (uw:=uw) (sv:=sv) (ov:=ov) (o1:=true) (o2:=true) (o3:=own) zh zh zh ha.app hc hna hna0 (hw'.down.end_b (Nat.le_refl _)) (Nat.le_refl _)).mono ?_;rintro _ _ ⟨⟨h,rfl⟩|⟨h,rfl⟩,⟨g2,rfl⟩⟩
  ·have h':=zU h
   clear h;refine am ?_;refine ⟨.inl ⟨?_,rfl⟩,_,rfl⟩;rw [hZ'.down];refine ⟨hrf'.down,fun i hi hno=> ?_⟩
   by_cases h1:i<zfb l l.length
   ·exact hz'.down i h1 hno
   ·exact h'.down i (by omega) hi
  ·have h':=zU h
   clear h;refine am ?_;refine ⟨.inr ⟨fun e=>h'.down fun i h1 h2=> ?_,rfl⟩,_,rfl⟩;rw [hZ'.down] at e;exact e.2 i h2 (hw'.down.gap h1 (fun h=>absurd h (Nat.lt_irrefl _)) (Nat.le_refl _))
def zl.right (H:zl):Prop:=H.framed/\H.lookOk/\H.soundOk
theorem zl.framed.na {H:zl}(h:H.framed):0<H.na/\H.na<=16384:=by
 obtain ⟨h1,h2,h3,h4,h5,h6,h7⟩:=h;omega
theorem zeK {H:zl}(h:H.framed):(obs H H.ns).length<=2048:=by
 have:=zqt h H.ns (Nat.le_refl _);have:=h.2.2.1.1;omega
theorem zkW {m:Mem}{aw uw sv:V}{va vm:Nat->V}{H:zl}(h:zcY m aw uw sv va vm H):C S zba [.agg (zB H aw uw sv)] m
  (fun r m'=>(H.right/\r= .tup [.ptr (m.length+1) 0 0,.int .i64 0]/\ ∃g ov,m'=m++ .cells true [zB H aw uw sv]:: .cells true [[aw,.int .i64 H.us.N,uw,sv,ov]]::g/\Gw (m.length+2) g ov 6 ((obs H H.ns).map obV))\/(¬ H.right/\r= .tup [.nilp,.int .i64 2]/\Grow m m')):=by
 have A:=h.a.ar;have B:=h.u.ar;have D:=h.s.s.ar;refine fn rfl ?_;refine (zrQ (P:=m.length+1) (own:=true) (aw:=aw) (uw:=uw) (sv:=sv) (ov:= .nils) h.app zh).mono ?_;rintro _ _ ⟨⟨hf,rfl⟩|⟨hf,rfl⟩,⟨g1,rfl⟩⟩
 case inr=>
  have hf':=zU hf;clear hf;refine am ?_;exact .inr ⟨fun e=>hf'.down e.1,_,rfl⟩
 have hf':=zU hf;clear hf;have hL:zcY (m++[.cells true [zB H aw uw sv]]) aw uw sv va vm H:=h.app;have R:=zvg (L:=m++[.cells true [zB H aw uw sv]]) (G0:=g1) hL hf'.down;simp only [List.append_assoc,List.cons_append,List.nil_append,List.length_append,List.length_cons,List.length_nil,Nat.zero_add] at R;have R':=zU R;clear R;refine am ?_;refine R'.down.mono ?_;rintro _ _ ⟨ov,g2,rfl,⟨hk,rfl,hG⟩|⟨hk,rfl⟩⟩
 case inr=>
  have hk':=zU hk;clear hk;refine am ?_;exact .inr ⟨fun e=>hk'.down e.2.1,_,rfl⟩
 have hk':=zU hk;have hG':=zU hG;clear hk hG;have oc:=hG'.down.cell;have hO:Obs (m++ .cells true [zB H aw uw sv]:: .cells true [[aw,.int .i64 H.us.N,uw,sv,ov]]::(g1++g2)) ov (obs H H.ns):=by
  have:=Gw.obs (G:=[]) (A:=m++ .cells true [zB H aw uw sv]:: .cells true [[aw,.int .i64 H.us.N,uw,sv,ov]]::g1) hG'.down.cast
  simpa only [List.append_assoc,List.cons_append,List.nil_append,List.append_nil] using this
 have hna:=hf'.down.na;have hol:=zeK hf'.down;refine am ?_;refine (zs9 (P:=m.length+1) (own:=true) (aw:=aw) (nn:= .int .i64 H.us.N) (uw:=uw) (sv:=sv) (ov:=ov) (H:=H) zh hO (by omega) h.a.app h.ca (by omega) (by omega) (hk'.down.wide hf'.down h.wa)).mono ?_;rintro _ _ ⟨⟨hs,rfl⟩|⟨hs,rfl⟩,⟨g3,rfl⟩⟩
 case inr=>
  have hs':=zU hs;clear hs;refine am ?_;exact .inr ⟨fun e=>hs'.down e.2.2,_,rfl⟩
 have hs':=zU hs;clear hs;refine am ?_;refine .inl ⟨⟨hf'.down,hk'.down,hs'.down⟩,_,ov,rfl,?_⟩;exact Gw.pre g1 (hG'.down.app (G:=g3)).cast
end Go.AM.G
