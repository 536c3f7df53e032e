import Derived.Test.YtfhbhfogcgfeeaaGreatDoorHuD
set_option linter.unusedVariables false
set_option linter.unusedSimpArgs false
set_option maxRecDepth 100000
namespace Go.AM.G
open Go Go.AM
theorem zii.grow {m m':Mem}{v:V}{vs:Nat->V}{qs:List (List Nat)}(h:zii m v vs qs) (hg:Grow m m'):zii m' v vs qs:=by
 obtain ⟨g,rfl⟩:=hg;exact h.app
def GrR (m m':Mem) (v:V) (qs:List (List Nat)):Prop:= ∃g,m'=m++g/\v.isCell=true/\V.beq v v=true/\Ps m.length g (fun M=>Qs M v qs)
theorem GrR.nil {m m':Mem}(h:Grow m m'):GrR m m' .nils []:=by
 obtain ⟨g,rfl⟩:=h;exact ⟨g,rfl,rfl,rfl,fun M _=>⟨fun _=> .nils,.inl ⟨rfl,rfl⟩,fun i h=>absurd h (Nat.not_lt_zero _)⟩⟩
theorem GrO.r {m M:Mem}{lo b cap:Nat}{ex:Bool}{vs:Nat->V}{qs:List (List Nat)}(h:GrO lo M b vs qs) (hl:m.length<=lo) (hg:Grow m M):GrR m M (.slice b 0 qs.length cap ex 1) qs:=by
 obtain ⟨g,rfl⟩:=hg;exact ⟨g,rfl,rfl,by simp [V.beq],h.ps hl⟩
theorem zsc {qs:List (List Nat)}(hg:gOk qs):0<qs.length/\qs.length<1000000/\ ∀i,i<qs.length->(qat qs i).length<17592186044417:=⟨hg.1,by have:=hg.2.1;omega,fun i hi=>by have:=zqG hi;have:=hg.2.2.1;omega⟩
theorem ztl {m:Mem}{v rv:V}{vs:Nat->V}{qs:List (List Nat)}{w:Int}{a:Nat}(h:zii m v vs qs) (hn:qs.length<17592186044417) (hr:Nus m rv [a]):C S zlv [.agg [v],.int .i64 w,rv] m (fun r m'=> ∃v' qs' e,r= .tup [.agg [v'],.int .i64 e]/\GrR m m' v' qs'/\zaT qs w a=(qs',e)):=by
 have A:=h.s.ar.2.1;have B:=hr.ar.2.1;have hh:=zU h;have hr':=zU hr;have ln:zhK rv=some (.int .i64 ((1:Nat):Int)):=hr.ar.1;obtain ⟨Q,eQ⟩: ∃Q,zaT qs w a=Q:=⟨_,rfl⟩
 have eQ':=zU eQ;rw [eQ];clear h hr eQ;refine fn rfl ?_;refine (zfI hh.down.app hn).mono ?_;rintro _ _ ⟨⟨hg,rfl⟩|⟨hg,rfl⟩,⟨g1,rfl⟩⟩
 case inr=>
  have e:PLift (Q=([],2)):=⟨by rw [<-eQ'.down,zaT,if_pos hg]⟩
  clear hg;refine am ?_;exact ⟨.nils,[],2,rfl,.nil ⟨_,rfl⟩,e.down⟩
 have hg':=zU hg;obtain ⟨h0,h1,h2⟩:=zsc hg;have h2':=zU h2;clear hg h2;refine am ?_;refine (ziA hh.down.app h0 h1 h2'.down).mono ?_;rintro _ M ⟨b,cap,ex,vs1,⟨g2,rfl⟩,rfl,hO⟩;have hO':=zU hO;clear hO;have key: ∃lo P M0,m++ .cells true [[v]]:: .cells true [[.nils]]::(g1++(g2++[.cells true [[.slice b 0 qs.length cap ex 1]]]))=M0/\m.length+(g1.length+g2.length+1+1)=P/\M0[m.length]? =some (.cells true [[v]])/\M0[m.length+1]? =some (.cells true [[.nils]])/\M0[P]? =some (.cells true [[.slice b 0 qs.length cap ex 1]])/\Grow m M0/\m.length+2<=lo/\lo<=P/\GrO lo M0 b vs1 qs/\P≠b/\(∀i,i<qs.length->zah (vs1 i)≠some P)/\lo<=M0.length:=by
  have h:=hO'.down;refine ⟨_,_,_,rfl,rfl,by simp,by rw [zi];rfl,?_,⟨_,rfl⟩,?_,?_,h.to fun c y _ hy=> ?_,?_,fun i hi e=> ?_,?_⟩
  ·rw [show g1.length+g2.length+1+1=((g1.length+g2.length)+1)+1 by omega,zi,zb9,zb9,zi,zaa];rfl
  ·simp
  ·have:=(List.getElem?_eq_some_iff.1 h.row).1
   have:=h.lb;simp at *;omega
  ·have:=zb (g:=[.cells true [[.slice b 0 qs.length cap ex 1]]]) hy
   simpa only [List.append_assoc,List.cons_append] using this
  ·have:=(List.getElem?_eq_some_iff.1 h.row).1
   intro e;simp at this;omega
  ·have:=(h.e i hi).lt e
   simp at this
   try omega
  ·have:=(List.getElem?_eq_some_iff.1 h.row).1
   have:=h.lb;simp at *;omega
 obtain ⟨lo,P,M0,eM,eP,k1,k2,k3,k4,k5,k6,k7,k8,k9,k10⟩:=key;have k4':=zU k4;have k7':=zU k7;have k9':=zU k9;have s1: ∀y,(M0.set (m.length+1) y)[m.length+1]? =some y:=fun y=>zaU k2
 clear k4 k7 k9
 by_cases hw:0<=w/\w<qs.length
 case neg=>
  have e:PLift (Q=(qs,11)):=⟨by rw [<-eQ'.down,zaT,if_neg (fun e=>e hg'.down),if_pos hw]⟩
  by_cases c:w<0
  ·have c1:(w<0)=True:=eq_true c
   clear hw c;refine am ?_;exact ⟨_,qs,11,rfl,(k7'.down.to fun c y hc hy=>zx (by omega) hy).r (by omega) (Grow.set k4'.down (by omega) _),e.down⟩
  ·have c1:(w<0)=False:=eq_false c
   have c2:((qs.length:Int)<=w)=True:=eq_true (by omega);clear hw c;refine am ?_;exact ⟨_,qs,11,rfl,(k7'.down.to fun c y hc hy=>zx (by omega) hy).r (by omega) (Grow.set k4'.down (by omega) _),e.down⟩
 obtain ⟨k,rfl⟩: ∃k:Nat,w=k:=⟨w.toNat,by omega⟩
 have hk:k<qs.length:=by omega
 have c1:((k:Int)<0)=False:=eq_false (by omega);have c2:((qs.length:Int)<=(k:Int))=False:=eq_false (by omega);clear hw;refine am ?_;have ps:=zvv k3 k7'.down hg'.down hk k8 k9'.down k10 (a:=a);have ps':=zU ps;clear ps;refine range (α:=Unit) 1 (fun _=>[(3,.ptr m.length 0 0),(6,.ptr (m.length+1) 0 0),(1,.int .i64 (k:Nat)),(9,.ptr P 0 0),(39,rv)]) (fun j _ M=>(j=0/\M=M0)\/(j=1/\znK qs a=0/\ ∃vs',GrO lo M b vs' (qs.set k (qat qs k++[a]))/\(∀c y,c<lo\/c=P->M0[c]? =some y->M[c]? =some y)/\M0.length<=M.length)) () (.inl ⟨rfl,rfl⟩) ?_ ?_
 ·rintro j _ fr M hj F (⟨rfl,rfl⟩|⟨rfl,_⟩)
  case inr=>omega
  have hin:Nus M rv [a]:=hr'.down.grow k4'.down;have ix:zaB 1 rv (.int .i64 0)=some (atp rv 0 0):=hin.ar.2.2.2.1 .i64 0 (by simp);have ld:zaq M none (atp rv 0 0)=some (.int .u64 (a:Nat)):=hin.ar.2.2.2.2 0 0 none (by simp);clear hin;refine am ?_;refine ps'.down.mono ?_;rintro _ M1 ⟨rfl,f1,f2,f3⟩;have hg1:Grow m M1:=ztM fun c y hc hy=>f1 c y (.inl (by omega)) (k4'.down.get hy)
  have b1:=f1 _ _ (.inl (by omega)) k1;have b2:=f1 _ _ (.inl (by omega)) k2;have b3:=f1 _ _ (.inr rfl) k3;have hg1':=zU hg1;have f1':=zU f1;have f3':=zU f3;obtain ⟨E,eE⟩: ∃E,znK qs a=E:=⟨_,rfl⟩
  have eE':=zU eE;rw [eE];clear hg1 f1 f3 eE
  by_cases h0:E=0
  ·have c0:(E=0)=True:=eq_true h0
   have hO2:=f3'.down.resolve_left (fun h=>h (eE'.down.trans h0));have hO2':=zU hO2;have e0:PLift (znK qs a=0):=⟨eE'.down.trans h0⟩
   clear hO2 h0;refine am ?_;obtain ⟨vs',h⟩:=hO2'.down
   first|exact ⟨(),zh,.inr ⟨rfl,e0.down,vs',h,f1'.down,f2⟩⟩|exact ⟨(),zh,.inr ⟨rfl,vs',h,f1'.down,f2⟩⟩|exact ⟨(),zh,vs',h,f1'.down,f2⟩
  ·have c0:(E=0)=False:=eq_false h0
   have hQ:PLift (Q=(qs,E)):=⟨by
    rw [<-eQ'.down,zaT,if_neg (fun e=>e hg'.down),if_neg (fun e=>e (by omega)),<-eE'.down];rw [<-eE'.down] at h0;unfold znK at h0 ⊢
    by_cases h1:a=0
    ·rw [if_pos h1,if_pos h1]
    ·rw [if_neg h1,if_neg h1]
     rw [if_neg h1] at h0
     by_cases h2:a∈qs.flatten
     ·rw [if_pos h2,if_pos h2]
     ·rw [if_neg h2,if_neg h2]
      rw [if_neg h2] at h0
      by_cases h3:qs.flatten.length=16384
      ·rw [if_pos h3,if_pos h3]
      ·rw [if_neg h3] at h0
       exact absurd rfl h0⟩
   clear h0;refine am ?_;refine (ziA (hh.down.grow hg1'.down) ‹_› ‹_› h2'.down).mono ?_;rintro _ M2 ⟨b',cap',ex',vs2,⟨g4,rfl⟩,rfl,hO3⟩;have hO3':=zU hO3;have b22:=zb (g:=g4) b2;have s2: ∀y,((M1++g4).set (m.length+1) y)[m.length+1]? =some y:=fun y=>zaU b22
   clear hO3;refine am ?_;have hl1:=(List.getElem?_eq_some_iff.1 b2).1;exact ⟨_,qs,E,rfl,(hO3'.down.to fun c y hc hy=>zx (by omega) hy).r (by omega) (Grow.set (hg1'.down.app) (by omega) _),hQ.down⟩
 ·rintro _ fr M F (⟨h,_⟩|⟨_,e0,vs',hO2,f1,f2⟩)
  ·omega
  have hg1:Grow m M:=ztM fun c y hc hy=>f1 c y (.inl (by omega)) (k4'.down.get hy)
  have b2:=f1 _ _ (.inl (by omega)) k2;have b3:=f1 _ _ (.inr rfl) k3;have hQ:PLift (Q=(qs.set k (qat qs k++[a]),0)):=⟨by
   rw [<-eQ'.down,zaT,if_neg (fun e=>e hg'.down),if_neg (fun e=>e (by omega))];unfold znK at e0
   by_cases h1:a=0
   ·rw [if_pos h1] at e0;cases e0
   ·rw [if_neg h1] at e0 ⊢
    by_cases h2:a∈qs.flatten
    ·rw [if_pos h2] at e0;cases e0
    ·rw [if_neg h2] at e0 ⊢
     by_cases h3:qs.flatten.length=16384
     ·rw [if_pos h3] at e0;cases e0
     ·rw [if_neg h3];rfl⟩
  have s2: ∀y,(M.set (m.length+1) y)[m.length+1]? =some y:=fun y=>zaU b2
  have hO2':=zU hO2;have hg1':=zU hg1;clear hg1 e0 f1 hO2;refine am ?_;have hr2:=(hO2'.down.to (M':=M.set (m.length+1) (.cells true [[.slice b 0 qs.length cap ex 1]])) fun c y hc hy=>zx (by omega) hy).r (m:=m) (cap:=cap) (ex:=ex) (by omega) (Grow.set hg1'.down (by omega) _);rw [List.length_set] at hr2;exact ⟨_,_,0,rfl,hr2,hQ.down⟩
theorem zy8 {M M':Mem}{v:V}{z:Nat}{els:List (List V)}(h:Sl M v z els) (k: ∀c y,zah v=some c->M[c]? =some y->M'[c]? =some y):Sl M' v z els:=by
 refine ⟨?_,h.2⟩;have h1:=h.1;cases v with
 |slice b i len cap ex z'=>
  simp only [elems] at h1 ⊢;cases hb:M[b]? with
  |none=>rw [hb] at h1;cases h1
  |some x=>rw [hb] at h1;rw [k b x rfl hb];exact h1
 |_=>exact h1
theorem zlU {M M':Mem}{v:V}{z n:Nat}{f:Nat->List V}(h:Rd M v z n f) (k: ∀c y,zah v=some c->M[c]? =some y->M'[c]? =some y):Rd M' v z n f:=h.imp (fun h=>zy8 h k) id
theorem zBr {m M:Mem}{b cap:Nat}{ex:Bool}{vs:Nat->V}{qs:List (List Nat)}(hg:Grow m M) (hb:m.length<=b) (hrow:M[b]? =some (.cells true (zJ qs.length fun i=>[vs i]))) (he: ∀i,i<qs.length->Nus M (vs i) (qat qs i)) (hl: ∀i,i<qs.length-> ∀c,zah (vs i)=some c->m.length<=c):GrR m M (.slice b 0 qs.length cap ex 1) qs:=by
 obtain ⟨g,rfl⟩:=hg;refine ⟨g,rfl,rfl,by simp [V.beq],fun M hM=> ?_⟩;have go: ∀c y,m.length<=c->(m++g)[c]? =some y->M[c]? =some y:=fun c y hc hy=>by
  obtain ⟨j,rfl⟩: ∃j,c=m.length+j:=⟨c-m.length,by omega⟩
  rw [zi] at hy;exact hM j y hy
 refine ⟨vs,.inl ?_,fun i hi=>zlU (he i hi) fun c y hc hy=>go c y (hl i hi c hc) hy⟩;have:=Sl.mk (cap:=cap) (z:=1) (ex:=ex) (go b _ hb hrow);rw [List.length_map,List.length_range] at this;exact this
def lng (qs:List (List Nat)):Nat->Nat
 |0=>0
 |k+1=>if (qat qs (lng qs k)).length<(qat qs k).length then k else lng qs k
theorem zqH {qs:List (List Nat)}: ∀{k},lng qs k<k\/lng qs k=0
 |0=> .inr rfl
 |k+1=>by
  unfold lng
  split
  ·exact .inl (Nat.lt_succ_self _)
  ·rcases zqH (qs:=qs) (k:=k) with h|h
   ·exact .inl (by omega)
   ·exact .inr h
theorem zqI {m:Mem}{P:Nat}{own:Bool}{v:V}{vs:Nat->V}{qs:List (List Nat)}(hP:m[P]? =some (.cells own [[v]])) (h:zii m v vs qs) (h0:0<qs.length) (hn:qs.length<1000000):C S zet [.ptr P 0 0] m (fun r m'=>r= .int .i64 (lng qs qs.length:Nat)/\m'=m):=by
 have A:=h.s.ar;have he:=zU h.e;refine fn rfl ?_;refine range (α:=Nat) qs.length (fun x=>[(10,v),(0,.ptr P 0 0),(3,.int .i64 (x:Nat))]) (fun k x M=>M=m/\x=lng qs k) 0 ⟨rfl,rfl⟩ ?_ ?_
 ·rintro k x fr _ hk F ⟨rfl,hx⟩
  have hxl:x<qs.length:=by
   rcases zqH (qs:=qs) (k:=k) with h|h<;>omega
  have B:=(he.down k hk).ar;have B2:=(he.down x hxl).ar;have h4:(vs k).isCell=true:=B.2.1;have h5:(vs x).isCell=true:=B2.2.1;have e2:PLift (lng qs (k+1)=if (qat qs x).length<(qat qs k).length then k else x):=⟨by rw [lng,hx]⟩
  clear hx
  by_cases c:(qat qs x).length<(qat qs k).length
  ·have c1:(((qat qs x).length:Int)<((qat qs k).length:Int))=True:=eq_true (by omega)
   have e3:=e2.down;rw [if_pos c] at e3;have e3':=zU e3;clear c e3;refine am ?_;exact ⟨k,zh,rfl,e3'.down.symm⟩
  ·have c1:(((qat qs x).length:Int)<((qat qs k).length:Int))=False:=eq_false (by omega)
   have e3:=e2.down;rw [if_neg c] at e3;have e3':=zU e3;clear c e3;refine am ?_;exact ⟨x,zh,rfl,e3'.down.symm⟩
 ·rintro x fr _ F ⟨rfl,hx⟩
  have hx':=zU hx;clear hx;refine am ?_;rw [hx'.down]
theorem ztm {m:Mem}{v:V}{vs:Nat->V}{qs:List (List Nat)}(h:zii m v vs qs) (hn:qs.length<17592186044417):C S zls [.agg [v]] m (fun r m'=>((gOk qs/\r= .tup [.int .i64 (qs.flatten.length:Nat),.int .i64 0])\/(¬ gOk qs/\r= .tup [.int .i64 0,.int .i64 2]))/\Grow m m'):=by
 have A:=h.s.ar.2.1;have hh:=zU h;refine fn rfl ?_;refine (zfI hh.down.app hn).mono ?_;rintro _ _ ⟨⟨hg,rfl⟩|⟨hg,rfl⟩,⟨g1,rfl⟩⟩
 ·have hg':=zU hg
  have h1:=(zsc hg).2.1;clear hg;refine am ?_;refine (zk2 (own:=true) (v:=v) (by rw [show m.length+(g1.length+1)=m.length+(g1.length+1) by rfl,zi,zb9,zaa];rfl) hh.down.app h1).mono ?_;rintro _ _ ⟨⟨n,rfl,hk⟩,rfl⟩;have e:n=qs.flatten.length:=by
   have:=hg'.down.2.2.1;rcases hk with hk|hk<;>omega
  subst e;clear hk;refine am ?_;exact ⟨.inl hg'.down,_,rfl⟩
 ·have hg':=zU hg
  clear hg;refine am ?_;exact ⟨.inr hg'.down,_,rfl⟩
def zav (qs:List (List Nat)) (w:Int):List (List Nat)×Nat×Bool×Int:=
 if ¬ gOk qs then ([],0,false,2) else if ¬ (0<=w/\w<qs.length) then (qs,0,false,11)
 else if 0<(qat qs w.toNat).length then (qs.set w.toNat ((qat qs w.toNat).take ((qat qs w.toNat).length-1)),nx (qat qs w.toNat) ((qat qs w.toNat).length-1),false,0)
 else if (qat qs (lng qs qs.length)).length=0 then (qs,0,false,3) else (qs.set (lng qs qs.length) ((qat qs (lng qs qs.length)).drop 1),nx (qat qs (lng qs qs.length)) 0,true,0)
theorem Gm.pos {M:Mem}{v:V}{l:List Nat}(h:Gm M v l) (h0:0<l.length): ∃b,v= .slice b 0 l.length l.length false 1/\M[b]? =some (.cells true (zD l)):=by
 rcases h with ⟨rfl,rfl⟩|h|⟨rfl,_⟩
 ·cases h0
 ·exact h
 ·cases h0
theorem zxf {l:List Nat}{i:Nat}(h:i<l.length):(zD l)[i]? =some [.int .u64 (nx l i:Nat)]:=by simp [zjD h]
theorem zxg {M:Mem}{b o k cap:Nat}{ex own:Bool}{l:List Nat}(hb:M[b]? =some (.cells own (zD l))) (h:o+k<=l.length):Nus M (.slice b o k cap ex 1) ((l.drop o).take k):=by
 refine Nus.of ⟨?_,by simp [zOk]⟩;simp only [elems,hb];rw [if_pos (by rw [List.length_map];exact h),zD,<-List.map_drop,<-List.map_take]
theorem GrO.pop {m M0:Mem} {lo b bk x o k c cap:Nat}{e ex:Bool}{vs:Nat->V}{qs:List (List Nat)}{Z:Blk}(h:GrO lo M0 b vs qs) (hx:x<qs.length) (hv:zah (vs x)=some bk) (hbk:M0[bk]? =some (.cells true (zD (qat qs x)))) (hok:o+k<=(qat qs x).length) (hg:Grow m M0) (hlo:m.length+2<=lo):
  GrR m ((M0.set b (.cells true (zJ qs.length (up (fun i=>[vs i]) x [.slice bk o k c e 1])))).set (m.length+1) Z) (.slice b 0 qs.length cap ex 1) (qs.set x (((qat qs x).drop o).take k)):=by
 have lb:=h.lb;have lk:=h.l x hx bk hv;have lw:(qs.set x (((qat qs x).drop o).take k)).length=qs.length:=List.length_set;rw [<-lw];refine zBr (vs:=up vs x (.slice bk o k c e 1)) (Grow.set (Grow.set hg (by omega) _) (by omega) _) (by omega) ?_ (fun i hi=> ?_) (fun i hi c hc=> ?_)
 ·rw [lw]
  refine zx (by omega) ((zaU h.row).trans ?_)
  congr 3
  funext i
  by_cases e:i=x
  ·subst e;simp [zK]
  ·simp [zaM e]
 ·rw [lw] at hi
  rw [zuz hx]
  by_cases e:i=x
  ·subst e
   rw [zK,if_pos rfl];exact zxg (zx (by omega) (zx (Ne.symm lk.2) hbk)) hok
  ·rw [zaM e,if_neg e]
   exact zlU (h.e i hi).nus fun c y hc hy=>zx (by have:=(h.l i hi c hc).1;omega) (zx (Ne.symm (h.l i hi c hc).2) hy)
 ·rw [lw] at hi
  by_cases e:i=x
  ·subst e
   rw [zK] at hc;simp only [zah,Option.some.injEq] at hc;omega
  ·rw [zaM e] at hc
   have:=(h.l i hi c hc).1;omega
theorem zvw {m:Mem}{v:V}{vs:Nat->V}{qs:List (List Nat)}{w:Int}(h:zii m v vs qs) (hn:qs.length<17592186044417):C S zm5 [.agg [v],.int .i64 w] m (fun r m'=> ∃v' qs' a t e,r= .tup [.agg [v'],.int .u64 (a:Nat),.bool t,.int .i64 e]/\GrR m m' v' qs'/\zav qs w=(qs',a,t,e)):=by
 have A:=h.s.ar.2.1;have hh:=zU h;obtain ⟨Q,eQ⟩: ∃Q,zav qs w=Q:=⟨_,rfl⟩
 have eQ':=zU eQ;rw [eQ];clear h eQ;have oc:= @zxc;refine fn rfl ?_;refine (zfI hh.down.app hn).mono ?_;rintro _ _ ⟨⟨hg,rfl⟩|⟨hg,rfl⟩,⟨g1,rfl⟩⟩
 case inr=>
  have e:PLift (Q=([],0,false,2)):=⟨by rw [<-eQ'.down,zav,if_pos hg]⟩
  clear hg;refine am ?_;exact ⟨.nils,[],0,false,2,rfl,.nil ⟨_,rfl⟩,e.down⟩
 have hg':=zU hg;obtain ⟨h0,h1,h2⟩:=zsc hg;have h2':=zU h2;clear hg h2;refine am ?_;refine (ziA hh.down.app h0 h1 h2'.down).mono ?_;rintro _ M ⟨b,cap,ex,vs1,⟨g2,rfl⟩,rfl,hO⟩;have hO':=zU hO;clear hO;have key: ∃lo P M0,m++ .cells true [[v]]:: .cells true [[.nils]]::(g1++(g2++[.cells true [[.slice b 0 qs.length cap ex 1]]]))=M0/\m.length+(g1.length+g2.length+1+1)=P/\M0[m.length]? =some (.cells true [[v]])/\M0[m.length+1]? =some (.cells true [[.nils]])/\M0[P]? =some (.cells true [[.slice b 0 qs.length cap ex 1]])/\Grow m M0/\m.length+2<=lo/\lo<=P/\GrO lo M0 b vs1 qs/\P≠b/\(∀i,i<qs.length->zah (vs1 i)≠some P)/\lo<=M0.length:=by
  have h:=hO'.down;refine ⟨_,_,_,rfl,rfl,by simp,by rw [zi];rfl,?_,⟨_,rfl⟩,?_,?_,h.to fun c y _ hy=> ?_,?_,fun i hi e=> ?_,?_⟩
  ·rw [show g1.length+g2.length+1+1=((g1.length+g2.length)+1)+1 by omega,zi,zb9,zb9,zi,zaa];rfl
  ·simp
  ·have:=(List.getElem?_eq_some_iff.1 h.row).1
   have:=h.lb;simp at *;omega
  ·have:=zb (g:=[.cells true [[.slice b 0 qs.length cap ex 1]]]) hy
   simpa only [List.append_assoc,List.cons_append] using this
  ·have:=(List.getElem?_eq_some_iff.1 h.row).1
   intro e;simp at this;omega
  ·have:=(h.e i hi).lt e
   simp at this
   try omega
  ·have:=(List.getElem?_eq_some_iff.1 h.row).1
   have:=h.lb;simp at *;omega
 obtain ⟨lo,P,M0,eM,eP,k1,k2,k3,k4,k5,k6,k7,k8,k9,k10⟩:=key;have k4':=zU k4;have k7':=zU k7;have k9':=zU k9;have s1: ∀y,(M0.set (m.length+1) y)[m.length+1]? =some y:=fun y=>zaU k2
 clear k4 k7 k9
 by_cases hw:0<=w/\w<qs.length
 case neg=>
  have e:PLift (Q=(qs,0,false,11)):=⟨by rw [<-eQ'.down,zav,if_neg (fun e=>e hg'.down),if_pos hw]⟩
  by_cases c:w<0
  ·have c1:(w<0)=True:=eq_true c
   clear hw c;refine am ?_;exact ⟨_,qs,0,false,11,rfl,(k7'.down.to fun c y hc hy=>zx (by omega) hy).r (by omega) (Grow.set k4'.down (by omega) _),e.down⟩
  ·have c1:(w<0)=False:=eq_false c
   have c2:((qs.length:Int)<=w)=True:=eq_true (by omega);clear hw c;refine am ?_;exact ⟨_,qs,0,false,11,rfl,(k7'.down.to fun c y hc hy=>zx (by omega) hy).r (by omega) (Grow.set k4'.down (by omega) _),e.down⟩
 obtain ⟨k,rfl⟩: ∃k:Nat,w=k:=⟨w.toNat,by omega⟩
 have hk:k<qs.length:=by omega
 have c1:((k:Int)<0)=False:=eq_false (by omega);have c2:((qs.length:Int)<=(k:Int))=False:=eq_false (by omega);have hrow:=k7'.down.row;have i1:=fun k=> @zcx qs.length k (fun i=>[vs1 i])
 have i2:=fun k=> @zdZ qs.length k 1 (fun i=>[vs1 i])
 have ix:=fun k=> @zcT b 0 qs.length cap k 1 ex .i64
 have ln:=(k7'.down.e k hk).nus.ar.1;have vc:=(k7'.down.e k hk).nus.ar.2.1;clear hw
 by_cases hq:0<(qat qs k).length
 ·obtain ⟨bk,ebk,hbk⟩:=(k7'.down.e k hk).pos hq
  obtain ⟨l,el⟩: ∃l,(qat qs k).length=l+1:=⟨(qat qs k).length-1,by omega⟩
  have hQ:PLift (Q=(qs.set k ((qat qs k).take l),nx (qat qs k) l,false,0)):=⟨by
   rw [<-eQ'.down,zav,if_neg (fun e=>e hg'.down),if_neg (fun e=>e (by omega)),Int.toNat_natCast,if_pos hq,el];rfl⟩
  rw [el] at ebk ln;have c3:((0:Int)<((l+1:Nat):Int))=True:=eq_true (by omega);have hle:l+1<=16384:=by
   have:=zqG hk;have:=hg'.down.2.2.1;omega
  have w1:IntKind.i64.wrap (((l+1:Nat):Int)-1)=(l:Int):=by rw [wrap_i64]<;>omega
  have sl:za6 (.slice bk 0 (l+1) (l+1) false 1) none (some (.int .i64 (l:Nat))) (some (.int .i64 (l:Nat)))=some (.slice bk 0 l l true 1):=by simp [za6,bound,show (l:Int)<=(l:Int)+1 by omega]
  have ix2:= @zcT bk 0 (l+1) (l+1) l 1 false .i64 (by omega);have ra:=zxf (l:=qat qs k) (i:=l) (by omega);obtain ⟨R,eR⟩: ∃R,zD (qat qs k)=R:=⟨_,rfl⟩
  have eR':=zU eR;rw [eR] at hbk ra;have omn: ∀f:Arg->V,Option.map f none=none:=fun _=>rfl
  have zk: ∀b i l c (e:Bool),zOk (.slice b i l c e 1) 1=true:=fun _ _ _ _ _=>rfl
  have nb:b≠bk:=fun e=>(k7'.down.l k hk bk (by rw [ebk];rfl)).2 e.symm
  have nP:bk≠P:=fun e=>k9'.down k hk (by rw [ebk,e];rfl)
  have hbk2: ∀y,(M0.set b y)[bk]? =some (.cells true R):=fun y=>zx nb hbk
  have hP2: ∀y,(M0.set b y)[P]? =some (.cells true [[.slice b 0 qs.length cap ex 1]]):=fun y=>zx (Ne.symm k8) k3
  have lb:lo<=b:=k7'.down.lb;have lk:lo<=bk:=(k7'.down.l k hk bk (by rw [ebk];rfl)).1;have ha2: ∀y,(M0.set b y)[m.length+1]? =some (.cells true [[.nils]]):=fun y=>zx (by omega) k2
  have ha3: ∀y z,((M0.set b y).set (m.length+1) z)[m.length+1]? =some z:=fun y z=>zaU (ha2 y)
  have ha4: ∀y z,((M0.set b y).set (m.length+1) z)[bk]? =some (.cells true R):=fun y z=>zx (by omega) (hbk2 y)
  clear hq el eR;refine am ?_;have hr:=k7'.down.pop (o:=0) (k:=l) (c:=l) (e:=true) (cap:=cap) (ex:=ex) (Z:= .cells true [[.slice b 0 qs.length cap ex 1]]) hk (by rw [ebk];rfl) (by rw [eR'.down];exact hbk) (by have:=(List.getElem?_eq_some_iff.1 ra).1;rw [<-eR'.down,List.length_map] at this;omega) k4'.down k5;rw [List.drop_zero] at hr;exact ⟨_,_,_,_,_,rfl,hr,hQ.down⟩
 ·have e0:PLift (¬ 0<(qat qs k).length):=⟨hq⟩
  have c3:((0:Int)<((qat qs k).length:Int))=False:=eq_false (by omega);obtain ⟨x,ex0⟩: ∃x,lng qs qs.length=x:=⟨_,rfl⟩
  have hx:x<qs.length:=by
   rcases zqH (qs:=qs) (k:=qs.length) with h|h<;>omega
  have lnx:=(k7'.down.e x hx).nus.ar.1;have vcx:=(k7'.down.e x hx).nus.ar.2.1;have L:=zqI k3 k7'.down.qs h0 h1;rw [ex0] at L;have L':=zU L;have ex':=zU ex0;clear hq L ex0;refine am ?_;refine L'.down.mono ?_;rintro _ M' ⟨rfl,e2⟩;rw [e2];clear e2 M'
  by_cases hz:(qat qs x).length=0
  ·have c4:(((qat qs x).length:Int)=0)=True:=eq_true (by omega)
   have hQ:PLift (Q=(qs,0,false,3)):=⟨by
    rw [<-eQ'.down,zav,if_neg (fun e=>e hg'.down),if_neg (fun e=>e (by omega)),Int.toNat_natCast,if_neg e0.down,ex'.down,if_pos hz]⟩
   clear hz;refine am ?_;exact ⟨_,qs,0,false,3,rfl,(k7'.down.to fun c y hc hy=>zx (by omega) hy).r (by omega) (Grow.set k4'.down (by omega) _),hQ.down⟩
  have c4:(((qat qs x).length:Int)=0)=False:=eq_false (by omega);have hQ:PLift (Q=(qs.set x ((qat qs x).drop 1),nx (qat qs x) 0,true,0)):=⟨by
   rw [<-eQ'.down,zav,if_neg (fun e=>e hg'.down),if_neg (fun e=>e (by omega)),Int.toNat_natCast,if_neg e0.down,ex'.down,if_neg hz]⟩
  obtain ⟨bk,ebk,hbk⟩:=(k7'.down.e x hx).pos (by omega);obtain ⟨l,el⟩: ∃l,(qat qs x).length=l+1:=⟨(qat qs x).length-1,by omega⟩
  rw [el] at ebk lnx c4;have sl:za6 (.slice bk 0 (l+1) (l+1) false 1) (some (.int .i64 1)) none none=some (.slice bk 1 l l false 1):=by simp [za6,bound,show (1:Int)<=(l:Int)+1 by omega]
  have ix2:zaB 1 (.slice bk 0 (l+1) (l+1) false 1) (.int .i64 0)=some (.ptr bk 0 0):= @zcT bk 0 (l+1) (l+1) 0 1 false .i64 (by omega);have ra:=zxf (l:=qat qs x) (i:=0) (by omega);obtain ⟨R,eR⟩: ∃R,zD (qat qs x)=R:=⟨_,rfl⟩
  have eR':=zU eR;rw [eR] at hbk ra;have omn: ∀f:Arg->V,Option.map f none=none:=fun _=>rfl
  have zk: ∀b i l c (e:Bool),zOk (.slice b i l c e 1) 1=true:=fun _ _ _ _ _=>rfl
  have nb:b≠bk:=fun e=>(k7'.down.l x hx bk (by rw [ebk];rfl)).2 e.symm
  have hbk2: ∀y,(M0.set b y)[bk]? =some (.cells true R):=fun y=>zx nb hbk
  have hP2: ∀y,(M0.set b y)[P]? =some (.cells true [[.slice b 0 qs.length cap ex 1]]):=fun y=>zx (Ne.symm k8) k3
  have lb:lo<=b:=k7'.down.lb;have lk:lo<=bk:=(k7'.down.l x hx bk (by rw [ebk];rfl)).1;have ha2: ∀y,(M0.set b y)[m.length+1]? =some (.cells true [[.nils]]):=fun y=>zx (by omega) k2
  have ha3: ∀y z,((M0.set b y).set (m.length+1) z)[m.length+1]? =some z:=fun y z=>zaU (ha2 y)
  have ha4: ∀y z,((M0.set b y).set (m.length+1) z)[bk]? =some (.cells true R):=fun y z=>zx (by omega) (hbk2 y)
  have el':=zU el;clear hz el eR;refine am ?_;have hr:=k7'.down.pop (o:=1) (k:=l) (c:=l) (e:=false) (cap:=cap) (ex:=ex) (Z:= .cells true [[.slice b 0 qs.length cap ex 1]]) hx (by rw [ebk];rfl) (by rw [eR'.down];exact hbk) (by have:=el'.down;omega) k4'.down k5;rw [List.take_of_length_le (by rw [List.length_drop,el'.down];omega)] at hr;exact ⟨_,_,_,_,_,rfl,hr,hQ.down⟩
end Go.AM.G
