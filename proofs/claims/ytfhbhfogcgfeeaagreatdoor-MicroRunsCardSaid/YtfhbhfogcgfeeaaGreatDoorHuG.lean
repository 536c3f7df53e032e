import Derived.Test.YtfhbhfogcgfeeaaGreatDoorHuD
set_option linter.unusedVariables false
set_option linter.unusedSimpArgs false
set_option maxRecDepth 100000
namespace Go.AM.G
open Go Go.AM
theorem zdw.grow {m m':Mem}{v:V}{vs:Nat->V}{qs:List (List Nat)}(h:zdw m v vs qs) (hg:Grow m m'):zdw m' v vs qs:=by
 obtain ⟨g,rfl⟩:=hg;exact h.app
def GrR (m m':Mem) (v:V) (qs:List (List Nat)):Prop:= ∃g,m'=m++g/\v.isCell=true/\V.beq v v=true/\Ps m.length g (fun M=>Qs M v qs)
theorem GrR.nil {m m':Mem}(h:Grow m m'):GrR m m' .nils []:=by
 obtain ⟨g,rfl⟩:=h;exact ⟨g,rfl,rfl,rfl,fun M _=>⟨fun _=> .nils,.inl ⟨rfl,rfl⟩,fun i h=>absurd h (Nat.not_lt_zero _)⟩⟩
theorem GrO.r {m M:Mem}{lo b cap:Nat}{ex:Bool}{vs:Nat->V}{qs:List (List Nat)}(h:GrO lo M b vs qs) (hl:m.length<=lo) (hg:Grow m M):GrR m M (.slice b 0 qs.length cap ex 1) qs:=by
 obtain ⟨g,rfl⟩:=hg;exact ⟨g,rfl,rfl,by simp [V.beq],h.ps hl⟩
theorem zjj {qs:List (List Nat)}(hg:gOk qs):0<qs.length/\qs.length<1000000/\ ∀i,i<qs.length->(qat qs i).length<17592186044417:=⟨hg.1,by have:=hg.2.1;omega,fun i hi=>by have:=zgV hi;have:=hg.2.2.1;omega⟩
theorem zwb {m:Mem}{v rv:V}{vs:Nat->V}{qs:List (List Nat)}{w:Int}{a:Nat}(h:zdw m v vs qs) (hn:qs.length<17592186044417) (hr:Nus m rv [a]):C S zl5 [.agg [v],.int .i64 w,rv] m (fun r m'=> ∃v' qs' e,r= .tup [.agg [v'],.int .i64 e]/\GrR m m' v' qs'/\zaE qs w a=(qs',e)):=by
 have A:=h.s.ar.2.1;have B:=hr.ar.2.1;have hh:=zU h;have hr':=zU hr;have ln:zg1 rv=some (.int .i64 ((1:Nat):Int)):=hr.ar.1;obtain ⟨Q,eQ⟩: ∃Q,zaE qs w a=Q:=⟨_,rfl⟩
 have eQ':=zU eQ;rw [eQ];clear h hr eQ;refine fn rfl ?_;refine (zfq hh.down.app hn).mono ?_;rintro _ _ ⟨⟨hg,rfl⟩|⟨hg,rfl⟩,⟨g1,rfl⟩⟩
 case inr=>
  have e:PLift (Q=([],2)):=⟨by rw [<-eQ'.down,zaE,if_pos hg]⟩
  clear hg;refine am ?_;exact ⟨.nils,[],2,rfl,.nil ⟨_,rfl⟩,e.down⟩
 have hg':=zU hg;obtain ⟨h0,h1,h2⟩:=zjj hg;have h2':=zU h2;clear hg h2;refine am ?_;refine (ziz hh.down.app h0 h1 h2'.down).mono ?_;rintro _ M ⟨b,cap,ex,vs1,⟨g2,rfl⟩,rfl,hO⟩;have hO':=zU hO;clear hO;have key: ∃lo P M0,m++ .cells true [[v]]:: .cells true [[.nils]]::(g1++(g2++[.cells true [[.slice b 0 qs.length cap ex 1]]]))=M0/\m.length+(g1.length+g2.length+1+1)=P/\M0[m.length]? =some (.cells true [[v]])/\M0[m.length+1]? =some (.cells true [[.nils]])/\M0[P]? =some (.cells true [[.slice b 0 qs.length cap ex 1]])/\Grow m M0/\m.length+2<=lo/\lo<=P/\GrO lo M0 b vs1 qs/\P≠b/\(∀i,i<qs.length->zP (vs1 i)≠some P)/\lo<=M0.length:=by
  have h:=hO'.down;refine ⟨_,_,_,rfl,rfl,by simp,by rw [zh];rfl,?_,⟨_,rfl⟩,?_,?_,h.to fun c y _ hy=> ?_,?_,fun i hi e=> ?_,?_⟩
  ·rw [show g1.length+g2.length+1+1=((g1.length+g2.length)+1)+1 by omega,zh,zaR,zaR,zh,zM];rfl
  ·simp
  ·have:=(List.getElem?_eq_some_iff.1 h.row).1
   have:=h.lb;simp at *;omega
  ·have:=zb (g:=[.cells true [[.slice b 0 qs.length cap ex 1]]]) hy
   simpa only [List.append_assoc,List.cons_append] using this
  ·have:=(List.getElem?_eq_some_iff.1 h.row).1
   intro e;simp at this;omega
  ·have:=(h.e i hi).lt e
   simp at this
   try omega
  ·have:=(List.getElem?_eq_some_iff.1 h.row).1
   have:=h.lb;simp at *;omega
 obtain ⟨lo,P,M0,eM,eP,k1,k2,k3,k4,k5,k6,k7,k8,k9,k10⟩:=key;have k4':=zU k4;have k7':=zU k7;have k9':=zU k9;have s1: ∀y,(M0.set (m.length+1) y)[m.length+1]? =some y:=fun y=>zZ k2
 clear k4 k7 k9
 by_cases hw:0<=w/\w<qs.length
 case neg=>
  have e:PLift (Q=(qs,11)):=⟨by rw [<-eQ'.down,zaE,if_neg (fun e=>e hg'.down),if_pos hw]⟩
  by_cases c:w<0
  ·have c1:(w<0)=True:=eq_true c
   clear hw c;refine am ?_;exact ⟨_,qs,11,rfl,(k7'.down.to fun c y hc hy=>zi (by omega) hy).r (by omega) (Grow.set k4'.down (by omega) _),e.down⟩
  ·have c1:(w<0)=False:=eq_false c
   have c2:((qs.length:Int)<=w)=True:=eq_true (by omega);clear hw c;refine am ?_;exact ⟨_,qs,11,rfl,(k7'.down.to fun c y hc hy=>zi (by omega) hy).r (by omega) (Grow.set k4'.down (by omega) _),e.down⟩
 obtain ⟨k,rfl⟩: ∃k:Nat,w=k:=⟨w.toNat,by omega⟩
 have hk:k<qs.length:=by omega
 have c1:((k:Int)<0)=False:=eq_false (by omega);have c2:((qs.length:Int)<=(k:Int))=False:=eq_false (by omega);clear hw;refine am ?_;have ps:=zyp k3 k7'.down hg'.down hk k8 k9'.down k10 (a:=a);have ps':=zU ps;clear ps;refine range (α:=Unit) 1 (fun _=>[(3,.ptr m.length 0 0),(6,.ptr (m.length+1) 0 0),(1,.int .i64 (k:Nat)),(9,.ptr P 0 0),(39,rv)]) (fun j _ M=>(j=0/\M=M0)\/(j=1/\zps qs a=0/\ ∃vs',GrO lo M b vs' (qs.set k (qat qs k++[a]))/\(∀c y,c<lo\/c=P->M0[c]? =some y->M[c]? =some y)/\M0.length<=M.length)) () (.inl ⟨rfl,rfl⟩) ?_ ?_
 ·rintro j _ fr M hj F (⟨rfl,rfl⟩|⟨rfl,_⟩)
  case inr=>omega
  have hin:Nus M rv [a]:=hr'.down.grow k4'.down;have ix:zak 1 rv (.int .i64 0)=some (atp rv 0 0):=hin.ar.2.2.2.1 .i64 0 (by simp);have ld:zaf M none (atp rv 0 0)=some (.int .u64 (a:Nat)):=hin.ar.2.2.2.2 0 0 none (by simp);clear hin;refine am ?_;refine ps'.down.mono ?_;rintro _ M1 ⟨rfl,f1,f2,f3⟩;have hg1:Grow m M1:=zj2 fun c y hc hy=>f1 c y (.inl (by omega)) (k4'.down.get hy)
  have b1:=f1 _ _ (.inl (by omega)) k1;have b2:=f1 _ _ (.inl (by omega)) k2;have b3:=f1 _ _ (.inr rfl) k3;have hg1':=zU hg1;have f1':=zU f1;have f3':=zU f3;obtain ⟨E,eE⟩: ∃E,zps qs a=E:=⟨_,rfl⟩
  have eE':=zU eE;rw [eE];clear hg1 f1 f3 eE
  by_cases h0:E=0
  ·have c0:(E=0)=True:=eq_true h0
   have hO2:=f3'.down.resolve_left (fun h=>h (eE'.down.trans h0));have hO2':=zU hO2;have e0:PLift (zps qs a=0):=⟨eE'.down.trans h0⟩
   clear hO2 h0;refine am ?_;obtain ⟨vs',h⟩:=hO2'.down
   first|exact ⟨(),zg,.inr ⟨rfl,e0.down,vs',h,f1'.down,f2⟩⟩|exact ⟨(),zg,.inr ⟨rfl,vs',h,f1'.down,f2⟩⟩|exact ⟨(),zg,vs',h,f1'.down,f2⟩
  ·have c0:(E=0)=False:=eq_false h0
   have hQ:PLift (Q=(qs,E)):=⟨by
    rw [<-eQ'.down,zaE,if_neg (fun e=>e hg'.down),if_neg (fun e=>e (by omega)),<-eE'.down];rw [<-eE'.down] at h0;unfold zps at h0 ⊢
    by_cases h1:a=0
    ·rw [if_pos h1,if_pos h1]
    ·rw [if_neg h1,if_neg h1]
     rw [if_neg h1] at h0
     by_cases h2:a∈qs.flatten
     ·rw [if_pos h2,if_pos h2]
     ·rw [if_neg h2,if_neg h2]
      rw [if_neg h2] at h0
      by_cases h3:qs.flatten.length=16384
      ·rw [if_pos h3,if_pos h3]
      ·rw [if_neg h3] at h0
       exact absurd rfl h0⟩
   clear h0;refine am ?_;refine (ziz (hh.down.grow hg1'.down) ‹_› ‹_› h2'.down).mono ?_;rintro _ M2 ⟨b',cap',ex',vs2,⟨g4,rfl⟩,rfl,hO3⟩;have hO3':=zU hO3;have b22:=zb (g:=g4) b2;have s2: ∀y,((M1++g4).set (m.length+1) y)[m.length+1]? =some y:=fun y=>zZ b22
   clear hO3;refine am ?_;have hl1:=(List.getElem?_eq_some_iff.1 b2).1;exact ⟨_,qs,E,rfl,(hO3'.down.to fun c y hc hy=>zi (by omega) hy).r (by omega) (Grow.set (hg1'.down.app) (by omega) _),hQ.down⟩
 ·rintro _ fr M F (⟨h,_⟩|⟨_,e0,vs',hO2,f1,f2⟩)
  ·omega
  have hg1:Grow m M:=zj2 fun c y hc hy=>f1 c y (.inl (by omega)) (k4'.down.get hy)
  have b2:=f1 _ _ (.inl (by omega)) k2;have b3:=f1 _ _ (.inr rfl) k3;have hQ:PLift (Q=(qs.set k (qat qs k++[a]),0)):=⟨by
   rw [<-eQ'.down,zaE,if_neg (fun e=>e hg'.down),if_neg (fun e=>e (by omega))];unfold zps at e0
   by_cases h1:a=0
   ·rw [if_pos h1] at e0;cases e0
   ·rw [if_neg h1] at e0 ⊢
    by_cases h2:a∈qs.flatten
    ·rw [if_pos h2] at e0;cases e0
    ·rw [if_neg h2] at e0 ⊢
     by_cases h3:qs.flatten.length=16384
     ·rw [if_pos h3] at e0;cases e0
     ·rw [if_neg h3];rfl⟩
  have s2: ∀y,(M.set (m.length+1) y)[m.length+1]? =some y:=fun y=>zZ b2
  have hO2':=zU hO2;have hg1':=zU hg1;clear hg1 e0 f1 hO2;refine am ?_;have hr2:=(hO2'.down.to (M':=M.set (m.length+1) (.cells true [[.slice b 0 qs.length cap ex 1]])) fun c y hc hy=>zi (by omega) hy).r (m:=m) (cap:=cap) (ex:=ex) (by omega) (Grow.set hg1'.down (by omega) _);rw [List.length_set] at hr2;exact ⟨_,_,0,rfl,hr2,hQ.down⟩
theorem zBW {M M':Mem}{v:V}{z:Nat}{els:List (List V)}(h:Sl M v z els) (k: ∀c y,zP v=some c->M[c]? =some y->M'[c]? =some y):Sl M' v z els:=by
 refine ⟨?_,h.2⟩;have h1:=h.1;cases v with
 |slice b i len cap ex z'=>
  simp only [elems] at h1 ⊢;cases hb:M[b]? with
  |none=>rw [hb] at h1;cases h1
  |some x=>rw [hb] at h1;rw [k b x rfl hb];exact h1
 |_=>exact h1
theorem zmC {M M':Mem}{v:V}{z n:Nat}{f:Nat->List V}(h:Rd M v z n f) (k: ∀c y,zP v=some c->M[c]? =some y->M'[c]? =some y):Rd M' v z n f:=h.imp (fun h=>zBW h k) id
theorem zEs {m M:Mem}{b cap:Nat}{ex:Bool}{vs:Nat->V}{qs:List (List Nat)}(hg:Grow m M) (hb:m.length<=b) (hrow:M[b]? =some (.cells true (zG qs.length fun i=>[vs i]))) (he: ∀i,i<qs.length->Nus M (vs i) (qat qs i)) (hl: ∀i,i<qs.length-> ∀c,zP (vs i)=some c->m.length<=c):GrR m M (.slice b 0 qs.length cap ex 1) qs:=by
 obtain ⟨g,rfl⟩:=hg;refine ⟨g,rfl,rfl,by simp [V.beq],fun M hM=> ?_⟩;have go: ∀c y,m.length<=c->(m++g)[c]? =some y->M[c]? =some y:=fun c y hc hy=>by
  obtain ⟨j,rfl⟩: ∃j,c=m.length+j:=⟨c-m.length,by omega⟩
  rw [zh] at hy;exact hM j y hy
 refine ⟨vs,.inl ?_,fun i hi=>zmC (he i hi) fun c y hc hy=>go c y (hl i hi c hc) hy⟩;have:=Sl.mk (cap:=cap) (z:=1) (ex:=ex) (go b _ hb hrow);rw [List.length_map,List.length_range] at this;exact this
def lng (qs:List (List Nat)):Nat->Nat
 |0=>0
 |k+1=>if (qat qs (lng qs k)).length<(qat qs k).length then k else lng qs k
theorem zlD {qs:List (List Nat)}: ∀{k},lng qs k<k\/lng qs k=0
 |0=> .inr rfl
 |k+1=>by
  unfold lng
  split
  ·exact .inl (Nat.lt_succ_self _)
  ·rcases zlD (qs:=qs) (k:=k) with h|h
   ·exact .inl (by omega)
   ·exact .inr h
theorem zs6 {m:Mem}{P:Nat}{own:Bool}{v:V}{vs:Nat->V}{qs:List (List Nat)}(hP:m[P]? =some (.cells own [[v]])) (h:zdw m v vs qs) (h0:0<qs.length) (hn:qs.length<1000000):C S zee [.ptr P 0 0] m (fun r m'=>r= .int .i64 (lng qs qs.length:Nat)/\m'=m):=by
 have A:=h.s.ar;have he:=zU h.e;refine fn rfl ?_;refine range (α:=Nat) qs.length (fun x=>[(10,v),(0,.ptr P 0 0),(3,.int .i64 (x:Nat))]) (fun k x M=>M=m/\x=lng qs k) 0 ⟨rfl,rfl⟩ ?_ ?_
 ·rintro k x fr _ hk F ⟨rfl,hx⟩
  have hxl:x<qs.length:=by
   rcases zlD (qs:=qs) (k:=k) with h|h<;>omega
  have B:=(he.down k hk).ar;have B2:=(he.down x hxl).ar;have h4:(vs k).isCell=true:=B.2.1;have h5:(vs x).isCell=true:=B2.2.1;have e2:PLift (lng qs (k+1)=if (qat qs x).length<(qat qs k).length then k else x):=⟨by rw [lng,hx]⟩
  clear hx
  by_cases c:(qat qs x).length<(qat qs k).length
  ·have c1:(((qat qs x).length:Int)<((qat qs k).length:Int))=True:=eq_true (by omega)
   have e3:=e2.down;rw [if_pos c] at e3;have e3':=zU e3;clear c e3;refine am ?_;exact ⟨k,zg,rfl,e3'.down.symm⟩
  ·have c1:(((qat qs x).length:Int)<((qat qs k).length:Int))=False:=eq_false (by omega)
   have e3:=e2.down;rw [if_neg c] at e3;have e3':=zU e3;clear c e3;refine am ?_;exact ⟨x,zg,rfl,e3'.down.symm⟩
 ·rintro x fr _ F ⟨rfl,hx⟩
  have hx':=zU hx;clear hx;refine am ?_;rw [hx'.down]
theorem zwc {m:Mem}{v:V}{vs:Nat->V}{qs:List (List Nat)}(h:zdw m v vs qs) (hn:qs.length<17592186044417):C S zl2 [.agg [v]] m (fun r m'=>((gOk qs/\r= .tup [.int .i64 (qs.flatten.length:Nat),.int .i64 0])\/(¬ gOk qs/\r= .tup [.int .i64 0,.int .i64 2]))/\Grow m m'):=by
 have A:=h.s.ar.2.1;have hh:=zU h;refine fn rfl ?_;refine (zfq hh.down.app hn).mono ?_;rintro _ _ ⟨⟨hg,rfl⟩|⟨hg,rfl⟩,⟨g1,rfl⟩⟩
 ·have hg':=zU hg
  have h1:=(zjj hg).2.1;clear hg;refine am ?_;refine (zlB (own:=true) (v:=v) (by rw [show m.length+(g1.length+1)=m.length+(g1.length+1) by rfl,zh,zaR,zM];rfl) hh.down.app h1).mono ?_;rintro _ _ ⟨⟨n,rfl,hk⟩,rfl⟩;have e:n=qs.flatten.length:=by
   have:=hg'.down.2.2.1;rcases hk with hk|hk<;>omega
  subst e;clear hk;refine am ?_;exact ⟨.inl hg'.down,_,rfl⟩
 ·have hg':=zU hg
  clear hg;refine am ?_;exact ⟨.inr hg'.down,_,rfl⟩
def zaF (qs:List (List Nat)) (w:Int):List (List Nat)×Nat×Bool×Int:=
 if ¬ gOk qs then ([],0,false,2) else if ¬ (0<=w/\w<qs.length) then (qs,0,false,11)
 else if 0<(qat qs w.toNat).length then (qs.set w.toNat ((qat qs w.toNat).take ((qat qs w.toNat).length-1)),nx (qat qs w.toNat) ((qat qs w.toNat).length-1),false,0)
 else if (qat qs (lng qs qs.length)).length=0 then (qs,0,false,3) else (qs.set (lng qs qs.length) ((qat qs (lng qs qs.length)).drop 1),nx (qat qs (lng qs qs.length)) 0,true,0)
theorem Gm.pos {M:Mem}{v:V}{l:List Nat}(h:Gm M v l) (h0:0<l.length): ∃b,v= .slice b 0 l.length l.length false 1/\M[b]? =some (.cells true (zH l)):=by
 rcases h with ⟨rfl,rfl⟩|h|⟨rfl,_⟩
 ·cases h0
 ·exact h
 ·cases h0
theorem zs7 {l:List Nat}{i:Nat}(h:i<l.length):(zH l)[i]? =some [.int .u64 (nx l i:Nat)]:=by simp [zh9 h]
theorem zz4 {M:Mem}{b o k cap:Nat}{ex own:Bool}{l:List Nat}(hb:M[b]? =some (.cells own (zH l))) (h:o+k<=l.length):Nus M (.slice b o k cap ex 1) ((l.drop o).take k):=by
 refine Nus.of ⟨?_,by simp [zOk]⟩;simp only [elems,hb];rw [if_pos (by rw [List.length_map];exact h),zH,<-List.map_drop,<-List.map_take]
theorem GrO.pop {m M0:Mem} {lo b bk x o k c cap:Nat}{e ex:Bool}{vs:Nat->V}{qs:List (List Nat)}{Z:Blk}(h:GrO lo M0 b vs qs) (hx:x<qs.length) (hv:zP (vs x)=some bk) (hbk:M0[bk]? =some (.cells true (zH (qat qs x)))) (hok:o+k<=(qat qs x).length) (hg:Grow m M0) (hlo:m.length+2<=lo):
  GrR m ((M0.set b (.cells true (zG qs.length (up (fun i=>[vs i]) x [.slice bk o k c e 1])))).set (m.length+1) Z) (.slice b 0 qs.length cap ex 1) (qs.set x (((qat qs x).drop o).take k)):=by
 have lb:=h.lb;have lk:=h.l x hx bk hv;have lw:(qs.set x (((qat qs x).drop o).take k)).length=qs.length:=List.length_set;rw [<-lw];refine zEs (vs:=up vs x (.slice bk o k c e 1)) (Grow.set (Grow.set hg (by omega) _) (by omega) _) (by omega) ?_ (fun i hi=> ?_) (fun i hi c hc=> ?_)
 ·rw [lw]
  refine zi (by omega) ((zZ h.row).trans ?_)
  congr 3
  funext i
  by_cases e:i=x
  ·subst e;simp [zF]
  ·simp [zab e]
 ·rw [lw] at hi
  rw [zxr hx]
  by_cases e:i=x
  ·subst e
   rw [zF,if_pos rfl];exact zz4 (zi (by omega) (zi (Ne.symm lk.2) hbk)) hok
  ·rw [zab e,if_neg e]
   exact zmC (h.e i hi).nus fun c y hc hy=>zi (by have:=(h.l i hi c hc).1;omega) (zi (Ne.symm (h.l i hi c hc).2) hy)
 ·rw [lw] at hi
  by_cases e:i=x
  ·subst e
   rw [zF] at hc;simp only [zP,Option.some.injEq] at hc;omega
  ·rw [zab e] at hc
   have:=(h.l i hi c hc).1;omega
theorem zyq {m:Mem}{v:V}{vs:Nat->V}{qs:List (List Nat)}{w:Int}(h:zdw m v vs qs) (hn:qs.length<17592186044417):C S zn2 [.agg [v],.int .i64 w] m (fun r m'=> ∃v' qs' a t e,r= .tup [.agg [v'],.int .u64 (a:Nat),.bool t,.int .i64 e]/\GrR m m' v' qs'/\zaF qs w=(qs',a,t,e)):=by
 have A:=h.s.ar.2.1;have hh:=zU h;obtain ⟨Q,eQ⟩: ∃Q,zaF qs w=Q:=⟨_,rfl⟩
 have eQ':=zU eQ;rw [eQ];clear h eQ;have oc:= @zuO;refine fn rfl ?_;refine (zfq hh.down.app hn).mono ?_;rintro _ _ ⟨⟨hg,rfl⟩|⟨hg,rfl⟩,⟨g1,rfl⟩⟩
 case inr=>
  have e:PLift (Q=([],0,false,2)):=⟨by rw [<-eQ'.down,zaF,if_pos hg]⟩
  clear hg;refine am ?_;exact ⟨.nils,[],0,false,2,rfl,.nil ⟨_,rfl⟩,e.down⟩
 have hg':=zU hg;obtain ⟨h0,h1,h2⟩:=zjj hg;have h2':=zU h2;clear hg h2;refine am ?_;refine (ziz hh.down.app h0 h1 h2'.down).mono ?_;rintro _ M ⟨b,cap,ex,vs1,⟨g2,rfl⟩,rfl,hO⟩;have hO':=zU hO;clear hO;have key: ∃lo P M0,m++ .cells true [[v]]:: .cells true [[.nils]]::(g1++(g2++[.cells true [[.slice b 0 qs.length cap ex 1]]]))=M0/\m.length+(g1.length+g2.length+1+1)=P/\M0[m.length]? =some (.cells true [[v]])/\M0[m.length+1]? =some (.cells true [[.nils]])/\M0[P]? =some (.cells true [[.slice b 0 qs.length cap ex 1]])/\Grow m M0/\m.length+2<=lo/\lo<=P/\GrO lo M0 b vs1 qs/\P≠b/\(∀i,i<qs.length->zP (vs1 i)≠some P)/\lo<=M0.length:=by
  have h:=hO'.down;refine ⟨_,_,_,rfl,rfl,by simp,by rw [zh];rfl,?_,⟨_,rfl⟩,?_,?_,h.to fun c y _ hy=> ?_,?_,fun i hi e=> ?_,?_⟩
  ·rw [show g1.length+g2.length+1+1=((g1.length+g2.length)+1)+1 by omega,zh,zaR,zaR,zh,zM];rfl
  ·simp
  ·have:=(List.getElem?_eq_some_iff.1 h.row).1
   have:=h.lb;simp at *;omega
  ·have:=zb (g:=[.cells true [[.slice b 0 qs.length cap ex 1]]]) hy
   simpa only [List.append_assoc,List.cons_append] using this
  ·have:=(List.getElem?_eq_some_iff.1 h.row).1
   intro e;simp at this;omega
  ·have:=(h.e i hi).lt e
   simp at this
   try omega
  ·have:=(List.getElem?_eq_some_iff.1 h.row).1
   have:=h.lb;simp at *;omega
 obtain ⟨lo,P,M0,eM,eP,k1,k2,k3,k4,k5,k6,k7,k8,k9,k10⟩:=key;have k4':=zU k4;have k7':=zU k7;have k9':=zU k9;have s1: ∀y,(M0.set (m.length+1) y)[m.length+1]? =some y:=fun y=>zZ k2
 clear k4 k7 k9
 by_cases hw:0<=w/\w<qs.length
 case neg=>
  have e:PLift (Q=(qs,0,false,11)):=⟨by rw [<-eQ'.down,zaF,if_neg (fun e=>e hg'.down),if_pos hw]⟩
  by_cases c:w<0
  ·have c1:(w<0)=True:=eq_true c
   clear hw c;refine am ?_;exact ⟨_,qs,0,false,11,rfl,(k7'.down.to fun c y hc hy=>zi (by omega) hy).r (by omega) (Grow.set k4'.down (by omega) _),e.down⟩
  ·have c1:(w<0)=False:=eq_false c
   have c2:((qs.length:Int)<=w)=True:=eq_true (by omega);clear hw c;refine am ?_;exact ⟨_,qs,0,false,11,rfl,(k7'.down.to fun c y hc hy=>zi (by omega) hy).r (by omega) (Grow.set k4'.down (by omega) _),e.down⟩
 obtain ⟨k,rfl⟩: ∃k:Nat,w=k:=⟨w.toNat,by omega⟩
 have hk:k<qs.length:=by omega
 have c1:((k:Int)<0)=False:=eq_false (by omega);have c2:((qs.length:Int)<=(k:Int))=False:=eq_false (by omega);have hrow:=k7'.down.row;have i1:=fun k=> @zaQ qs.length k (fun i=>[vs1 i])
 have i2:=fun k=> @zbS qs.length k 1 (fun i=>[vs1 i])
 have ix:=fun k=> @zaL b 0 qs.length cap k 1 ex .i64
 have ln:=(k7'.down.e k hk).nus.ar.1;have vc:=(k7'.down.e k hk).nus.ar.2.1;clear hw
 by_cases hq:0<(qat qs k).length
 ·obtain ⟨bk,ebk,hbk⟩:=(k7'.down.e k hk).pos hq
  obtain ⟨l,el⟩: ∃l,(qat qs k).length=l+1:=⟨(qat qs k).length-1,by omega⟩
  have hQ:PLift (Q=(qs.set k ((qat qs k).take l),nx (qat qs k) l,false,0)):=⟨by
   rw [<-eQ'.down,zaF,if_neg (fun e=>e hg'.down),if_neg (fun e=>e (by omega)),Int.toNat_natCast,if_pos hq,el];rfl⟩
  rw [el] at ebk ln;have c3:((0:Int)<((l+1:Nat):Int))=True:=eq_true (by omega);have hle:l+1<=16384:=by
   have:=zgV hk;have:=hg'.down.2.2.1;omega
  have w1:IntKind.i64.wrap (((l+1:Nat):Int)-1)=(l:Int):=by rw [wrap_i64]<;>omega
  have sl:zaz (.slice bk 0 (l+1) (l+1) false 1) none (some (.int .i64 (l:Nat))) (some (.int .i64 (l:Nat)))=some (.slice bk 0 l l true 1):=by simp [zaz,bound,show (l:Int)<=(l:Int)+1 by omega]
  have ix2:= @zaL bk 0 (l+1) (l+1) l 1 false .i64 (by omega);have ra:=zs7 (l:=qat qs k) (i:=l) (by omega);obtain ⟨R,eR⟩: ∃R,zH (qat qs k)=R:=⟨_,rfl⟩
  have eR':=zU eR;rw [eR] at hbk ra;have omn: ∀f:Arg->V,Option.map f none=none:=fun _=>rfl
  have zk: ∀b i l c (e:Bool),zOk (.slice b i l c e 1) 1=true:=fun _ _ _ _ _=>rfl
  have nb:b≠bk:=fun e=>(k7'.down.l k hk bk (by rw [ebk];rfl)).2 e.symm
  have nP:bk≠P:=fun e=>k9'.down k hk (by rw [ebk,e];rfl)
  have hbk2: ∀y,(M0.set b y)[bk]? =some (.cells true R):=fun y=>zi nb hbk
  have hP2: ∀y,(M0.set b y)[P]? =some (.cells true [[.slice b 0 qs.length cap ex 1]]):=fun y=>zi (Ne.symm k8) k3
  have lb:lo<=b:=k7'.down.lb;have lk:lo<=bk:=(k7'.down.l k hk bk (by rw [ebk];rfl)).1;have ha2: ∀y,(M0.set b y)[m.length+1]? =some (.cells true [[.nils]]):=fun y=>zi (by omega) k2
  have ha3: ∀y z,((M0.set b y).set (m.length+1) z)[m.length+1]? =some z:=fun y z=>zZ (ha2 y)
  have ha4: ∀y z,((M0.set b y).set (m.length+1) z)[bk]? =some (.cells true R):=fun y z=>zi (by omega) (hbk2 y)
  clear hq el eR;refine am ?_;have hr:=k7'.down.pop (o:=0) (k:=l) (c:=l) (e:=true) (cap:=cap) (ex:=ex) (Z:= .cells true [[.slice b 0 qs.length cap ex 1]]) hk (by rw [ebk];rfl) (by rw [eR'.down];exact hbk) (by have:=(List.getElem?_eq_some_iff.1 ra).1;rw [<-eR'.down,List.length_map] at this;omega) k4'.down k5;rw [List.drop_zero] at hr;exact ⟨_,_,_,_,_,rfl,hr,hQ.down⟩
 ·have e0:PLift (¬ 0<(qat qs k).length):=⟨hq⟩
  have c3:((0:Int)<((qat qs k).length:Int))=False:=eq_false (by omega);obtain ⟨x,ex0⟩: ∃x,lng qs qs.length=x:=⟨_,rfl⟩
  have hx:x<qs.length:=by
   rcases zlD (qs:=qs) (k:=qs.length) with h|h<;>omega
  have lnx:=(k7'.down.e x hx).nus.ar.1;have vcx:=(k7'.down.e x hx).nus.ar.2.1;have L:=zs6 k3 k7'.down.qs h0 h1;rw [ex0] at L;have L':=zU L;have ex':=zU ex0;clear hq L ex0;refine am ?_;refine L'.down.mono ?_;rintro _ M' ⟨rfl,e2⟩;rw [e2];clear e2 M'
  by_cases hz:(qat qs x).length=0
  ·have c4:(((qat qs x).length:Int)=0)=True:=eq_true (by omega)
   have hQ:PLift (Q=(qs,0,false,3)):=⟨by
    rw [<-eQ'.down,zaF,if_neg (fun e=>e hg'.down),if_neg (fun e=>e (by omega)),Int.toNat_natCast,if_neg e0.down,ex'.down,if_pos hz]⟩
   clear hz;refine am ?_;exact ⟨_,qs,0,false,3,rfl,(k7'.down.to fun c y hc hy=>zi (by omega) hy).r (by omega) (Grow.set k4'.down (by omega) _),hQ.down⟩
  have c4:(((qat qs x).length:Int)=0)=False:=eq_false (by omega);have hQ:PLift (Q=(qs.set x ((qat qs x).drop 1),nx (qat qs x) 0,true,0)):=⟨by
   rw [<-eQ'.down,zaF,if_neg (fun e=>e hg'.down),if_neg (fun e=>e (by omega)),Int.toNat_natCast,if_neg e0.down,ex'.down,if_neg hz]⟩
  obtain ⟨bk,ebk,hbk⟩:=(k7'.down.e x hx).pos (by omega);obtain ⟨l,el⟩: ∃l,(qat qs x).length=l+1:=⟨(qat qs x).length-1,by omega⟩
  rw [el] at ebk lnx c4;have sl:zaz (.slice bk 0 (l+1) (l+1) false 1) (some (.int .i64 1)) none none=some (.slice bk 1 l l false 1):=by simp [zaz,bound,show (1:Int)<=(l:Int)+1 by omega]
  have ix2:zak 1 (.slice bk 0 (l+1) (l+1) false 1) (.int .i64 0)=some (.ptr bk 0 0):= @zaL bk 0 (l+1) (l+1) 0 1 false .i64 (by omega);have ra:=zs7 (l:=qat qs x) (i:=0) (by omega);obtain ⟨R,eR⟩: ∃R,zH (qat qs x)=R:=⟨_,rfl⟩
  have eR':=zU eR;rw [eR] at hbk ra;have omn: ∀f:Arg->V,Option.map f none=none:=fun _=>rfl
  have zk: ∀b i l c (e:Bool),zOk (.slice b i l c e 1) 1=true:=fun _ _ _ _ _=>rfl
  have nb:b≠bk:=fun e=>(k7'.down.l x hx bk (by rw [ebk];rfl)).2 e.symm
  have hbk2: ∀y,(M0.set b y)[bk]? =some (.cells true R):=fun y=>zi nb hbk
  have hP2: ∀y,(M0.set b y)[P]? =some (.cells true [[.slice b 0 qs.length cap ex 1]]):=fun y=>zi (Ne.symm k8) k3
  have lb:lo<=b:=k7'.down.lb;have lk:lo<=bk:=(k7'.down.l x hx bk (by rw [ebk];rfl)).1;have ha2: ∀y,(M0.set b y)[m.length+1]? =some (.cells true [[.nils]]):=fun y=>zi (by omega) k2
  have ha3: ∀y z,((M0.set b y).set (m.length+1) z)[m.length+1]? =some z:=fun y z=>zZ (ha2 y)
  have ha4: ∀y z,((M0.set b y).set (m.length+1) z)[bk]? =some (.cells true R):=fun y z=>zi (by omega) (hbk2 y)
  have el':=zU el;clear hz el eR;refine am ?_;have hr:=k7'.down.pop (o:=1) (k:=l) (c:=l) (e:=false) (cap:=cap) (ex:=ex) (Z:= .cells true [[.slice b 0 qs.length cap ex 1]]) hx (by rw [ebk];rfl) (by rw [eR'.down];exact hbk) (by have:=el'.down;omega) k4'.down k5;rw [List.take_of_length_le (by rw [List.length_drop,el'.down];omega)] at hr;exact ⟨_,_,_,_,_,rfl,hr,hQ.down⟩
theorem zz5 {l:List Nat}{k a:Nat}(h:k<l.length):(l.take (k+1)).count a=(l.take k).count a+if nx l k=a then 1 else 0:=by
 have e:l[k]? =some (nx l k):=zh9 h;rw [List.take_add_one,e,Option.toList_some,List.count_append,List.count_singleton]
 simp
theorem zpt {m:Mem}{v:V}{vs:Nat->V}{qs:List (List Nat)}{a:Nat}(h:zdw m v vs qs) (hn:qs.length<1000000) (hl:qs.flatten.length<=1000000):C S zhM [.agg [v],.int .u64 (a:Nat)] m (fun r m'=>r= .int .i64 (qs.flatten.count a:Nat)/\Grow m m'):=by
 have A:=h.s.ar;have hh:=zU h;clear h;refine fn rfl ?_;refine range (α:=Nat) qs.length (fun x=>[(11,v),(1,.int .u64 (a:Nat)),(5,.int .i64 (x:Nat))]) (fun k x M=>M=m++[.cells true [[v]]]/\x=((qs.take k).flatten).count a) 0 ⟨rfl,by simp⟩ ?_ ?_
 ·rintro k x fr _ hk F ⟨rfl,hx⟩
  have B:=((hh.down.app (g:=[.cells true [[v]]])).e k hk).ar;have A':=(hh.down.app (g:=[.cells true [[v]]])).s.ar;have hle:(qat qs k).length<=1000000:=Nat.le_trans (zgV hk) hl;have hxl:x<=1000000:=by rw [hx];exact Nat.le_trans (List.count_le_length) (Nat.le_trans zkY hl)
  have e2:PLift (((qs.take (k+1)).flatten).count a=x+(qat qs k).count a):=⟨by rw [zey hk,List.count_append,<-hx]⟩
  have h4:(vs k).isCell=true:=B.2.1;clear hx A;refine am ?_;refine range (α:=Nat) (qat qs k).length (fun y=>[(11,v),(12,.int .i64 (qs.length:Nat)),(13,.int .i64 (k:Nat)),(17,vs k),(1,.int .u64 (a:Nat)),(5,.int .i64 (y:Nat))]) (fun j y M=>M=m++[.cells true [[v]]]/\y=x+((qat qs k).take j).count a) x ⟨rfl,by simp⟩ ?_ ?_
  ·rintro j y fr _ hj F ⟨rfl,hy⟩
   have e3:=zz5 (a:=a) hj;have hyl:y<=2000000:=by
    rw [hy];have:((qat qs k).take j).count a<=(qat qs k).length:=Nat.le_trans List.count_le_length (by simp;omega);omega
   have w1:IntKind.i64.wrap ((y:Int)+1)=((y+1:Nat):Int):=by rw [wrap_i64]<;>omega
   by_cases e:nx (qat qs k) j=a
   ·have c1:((nx (qat qs k) j:Int)=(a:Int))=True:=eq_true (by omega)
    rw [if_pos e] at e3;have e4:PLift (y+1=x+((qat qs k).take (j+1)).count a):=⟨by omega⟩
    clear hy e3 e;refine am ?_;exact ⟨y+1,zg,rfl,e4.down⟩
   ·have c1:((nx (qat qs k) j:Int)=(a:Int))=False:=eq_false (by omega)
    rw [if_neg e] at e3;have e4:PLift (y=x+((qat qs k).take (j+1)).count a):=⟨by omega⟩
    clear hy e3 e;refine am ?_;exact ⟨y,zg,rfl,e4.down⟩
  ·rintro y fr _ F ⟨rfl,hy⟩
   rw [List.take_length] at hy;have e4:PLift (y=((qs.take (k+1)).flatten).count a):=⟨by rw [e2.down,hy]⟩
   clear hy;refine am ?_;exact ⟨y,zg,rfl,e4.down⟩
 ·rintro x fr _ F ⟨rfl,hx⟩
  rw [List.take_length] at hx;have e4:=zU hx;clear hx;refine am ?_;rw [e4.down];exact ⟨rfl,_,rfl⟩
theorem zmD {m:Mem}{v:V}{vs:Nat->V}{qs:List (List Nat)}(h:zdw m v vs qs) (hn:qs.length<1000000) (hl:qs.flatten.length<=1000000):C S zgF [.agg [v]] m (fun r m'=>r= .int .i64 (qs.flatten.length:Nat)/\Grow m m'):=by
 have A:=h.s.ar;have hh:=zU h;clear h;refine fn rfl ?_;refine range (α:=Nat) qs.length (fun x=>[(7,v),(3,.int .i64 (x:Nat))]) (fun k x M=>M=m++[.cells true [[v]]]/\x=((qs.take k).flatten).length) 0 ⟨rfl,by simp⟩ ?_ ?_
 ·rintro k x fr _ hk F ⟨rfl,hx⟩
  have B:=((hh.down.app (g:=[.cells true [[v]]])).e k hk).ar;have A':=(hh.down.app (g:=[.cells true [[v]]])).s.ar;have e2:((qs.take (k+1)).flatten).length=x+(qat qs k).length:=by rw [zey hk,List.length_append,<-hx]
  have e3:=zkY (qs:=qs) (k:=k+1);have w1:IntKind.i64.wrap ((x:Int)+((qat qs k).length:Int))=((x+(qat qs k).length:Nat):Int):=by rw [wrap_i64]<;>omega
  have e2':=zU e2;clear hx A e2 e3;refine am ?_;exact ⟨_,zg,rfl,e2'.down.symm⟩
 ·rintro x fr _ F ⟨rfl,hx⟩
  rw [List.take_length] at hx;have e4:=zU hx;clear hx;refine am ?_;rw [e4.down];exact ⟨rfl,_,rfl⟩
theorem zAL {qs:List (List Nat)}:gOk qs↔1<=qs.length/\qs.length<=4/\qs.flatten.length<=16384/\ ∀i,i<qs.length-> ∀j,j<(qat qs i).length->nx (qat qs i) j≠0/\qs.flatten.count (nx (qat qs i) j)<=1:=by
 unfold gOk;have k1:(∀i,i<qs.length-> ∀j,j<(qat qs i).length->nx (qat qs i) j≠0/\qs.flatten.count (nx (qat qs i) j)<=1)↔qs.flatten.Nodup/\0∉qs.flatten:=by
  rw [List.nodup_iff_count];constructor
  ·intro h
   refine ⟨fun a=> ?_,fun h0=> ?_⟩
   ·by_cases ha:a∈qs.flatten
    ·obtain ⟨i,hi,hm⟩:=zd6.1 ha
     obtain ⟨j,hj,e⟩:=zd4 hm;rw [<-e];exact (h i hi j hj).2
    ·rw [List.count_eq_zero_of_not_mem ha];omega
   ·obtain ⟨i,hi,hm⟩:=zd6.1 h0
    obtain ⟨j,hj,e⟩:=zd4 hm;exact (h i hi j hj).1 e
  ·rintro ⟨h1,h2⟩ i hi j hj
   exact ⟨fun e=>h2 (e▸zd6.2 ⟨i,hi,za4 hj⟩),h1 _⟩
 rw [k1]
theorem zew {m:Mem}{v:V}{vs:Nat->V}{qs:List (List Nat)}(h:zdw m v vs qs) (hn:qs.length<17592186044417):C S zcI [.agg [v]] m (fun r m'=>okE (gOk qs) r/\Grow m m'):=by
 have A:=h.s.ar;have hh:=zU h;obtain ⟨Q,eQ⟩: ∃Q,gOk qs=Q:=⟨_,rfl⟩
 have eQ':=zU eQ;rw [eQ];clear h eQ
 by_cases c:qs.length<1
 ·have c1:((qs.length:Int)<1)=True:=eq_true (by omega)
  have no:PLift (¬ Q):=⟨by rw [<-eQ'.down];exact fun e=>by have:=e.1;omega⟩
  clear c;refine fn rfl ?_;exact ⟨.inr ⟨no.down,rfl⟩,_,rfl⟩
 have c1:((qs.length:Int)<1)=False:=eq_false (by omega)
 by_cases c':4<qs.length
 ·have c2:((4:Int)<(qs.length:Int))=True:=eq_true (by omega)
  have no:PLift (¬ Q):=⟨by rw [<-eQ'.down];exact fun e=>by have:=e.2.1;omega⟩
  clear c c';refine fn rfl ?_;exact ⟨.inr ⟨no.down,rfl⟩,_,rfl⟩
 have c2:((4:Int)<(qs.length:Int))=False:=eq_false (by omega);have hq:PLift (1<=qs.length/\qs.length<=4):=⟨by omega⟩
 have hn2:qs.length<=4:=by omega
 clear c c';refine fn rfl ?_;refine range (α:=Nat) qs.length (fun x=>[(21,v),(1,.ptr m.length 0 0),(3,.int .i64 (x:Nat))]) (fun k x M=>M=m++[.cells true [[v]]]/\x=((qs.take k).flatten).length/\x<=16384) 0 ⟨rfl,by simp,by decide⟩ ?_ ?_
 ·rintro k x fr _ hk F ⟨rfl,hx,hxl⟩
  have B:=((hh.down.app (g:=[.cells true [[v]]])).e k hk).ar;have A':=(hh.down.app (g:=[.cells true [[v]]])).s.ar;have e2:((qs.take (k+1)).flatten).length=x+(qat qs k).length:=by rw [zey hk,List.length_append,<-hx]
  have e3:=zkY (qs:=qs) (k:=k+1);have e2':=zU e2;obtain ⟨l,el⟩: ∃l,(qat qs k).length=l:=⟨_,rfl⟩
  rw [el] at B e2;clear hx A
  by_cases d:16384<l
  ·have d1:((16384:Int)<(l:Int))=True:=eq_true (by omega)
   have no:PLift (¬ Q):=⟨by rw [<-eQ'.down];exact fun e=>by have:=e.2.2.1;omega⟩
   clear e2 e3 d;refine am ?_;exact ⟨.inr ⟨no.down,rfl⟩,_,rfl⟩
  have d1:((16384:Int)<(l:Int))=False:=eq_false (by omega);have w2:IntKind.i64.wrap ((16384:Int)-(l:Int))=((16384-l:Nat):Int):=by rw [wrap_i64]<;>omega
  by_cases d':16384-l<x
  ·have d2:(((16384-l:Nat):Int)<(x:Int))=True:=eq_true (by omega)
   have no:PLift (¬ Q):=⟨by rw [<-eQ'.down];exact fun e=>by have:=e.2.2.1;omega⟩
   clear e2 e3 d d';refine am ?_;exact ⟨.inr ⟨no.down,rfl⟩,_,rfl⟩
  have d2:(((16384-l:Nat):Int)<(x:Int))=False:=eq_false (by omega);have w1:IntKind.i64.wrap ((x:Int)+(l:Int))=((x+l:Nat):Int):=by rw [wrap_i64]<;>omega
  have d3:x+l<=16384:=by omega
  have el':=zU el;clear e2 e3 d d' el;refine am ?_;exact ⟨x+l,zg,rfl,by rw [e2'.down,el'.down],d3⟩
 rintro x fr _ F ⟨rfl,hx,hxl⟩;rw [List.take_length] at hx;have hfl:qs.flatten.length<=16384:=by omega
 have yes:PLift (Q↔ ∀i,i<qs.length-> ∀j,j<(qat qs i).length->nx (qat qs i) j≠0/\qs.flatten.count (nx (qat qs i) j)<=1):=⟨by
  rw [<-eQ'.down,zAL];have:=hq.down;exact ⟨fun h=>h.2.2.2,fun h=>⟨this.1,this.2,hfl,h⟩⟩⟩
 have A':=(hh.down.app (g:=[.cells true [[v]]])).s.ar;clear hx A eQ';refine am ?_;refine range (α:=Unit) qs.length (fun _=>[(43,v),(1,.ptr m.length 0 0)]) (fun k _ M=>(∃g,M=m++ .cells true [[v]]::g)/\ ∀i,i<k-> ∀j,j<(qat qs i).length->nx (qat qs i) j≠0/\qs.flatten.count (nx (qat qs i) j)<=1) () ⟨⟨_,rfl⟩,fun i h=>absurd h (Nat.not_lt_zero _)⟩ ?_ ?_
 ·rintro k _ fr _ hk F ⟨⟨g,rfl⟩,hall⟩
  have hall':=zU hall;have B:=((hh.down.app (g:= .cells true [[v]]::g)).e k hk).ar;have A2:=(hh.down.app (g:= .cells true [[v]]::g)).s.ar;have hvk:=B.2.1;have hle:(qat qs k).length<=16384:=Nat.le_trans (zgV hk) hfl;clear hall A';refine am ?_;refine range (α:=Unit) (qat qs k).length (fun _=>[(43,v),(44,.int .i64 (qs.length:Nat)),(45,.int .i64 (k:Nat)),(1,.ptr m.length 0 0),(49,vs k)]) (fun j _ M=>(∃g,M=m++ .cells true [[v]]::g)/\ ∀i,i<j->nx (qat qs k) i≠0/\qs.flatten.count (nx (qat qs k) i)<=1) () ⟨⟨_,rfl⟩,fun i h=>absurd h (Nat.not_lt_zero _)⟩ ?_ ?_
  ·rintro j _ fr _ hj F ⟨⟨g2,rfl⟩,hal⟩
   have hal':=zU hal;have B3:=((hh.down.app (g:= .cells true [[v]]::g2)).e k hk).ar;clear hal B A2
   by_cases d:nx (qat qs k) j=0
   ·have d1:((nx (qat qs k) j:Int)=0)=True:=eq_true (by omega)
    have no:PLift (¬ Q):=⟨fun e=>(yes.down.1 e k hk j hj).1 d⟩
    clear d;refine am ?_;exact ⟨.inr ⟨no.down,rfl⟩,_,rfl⟩
   have d1:((nx (qat qs k) j:Int)=0)=False:=eq_false (by omega);have d':=zU d;clear d;refine am ?_;refine (zpt (hh.down.app) (by omega) (by omega)).mono ?_;rintro _ _ ⟨rfl,⟨g3,rfl⟩⟩
   by_cases d2:1<qs.flatten.count (nx (qat qs k) j)
   ·have d3:((1:Int)<(qs.flatten.count (nx (qat qs k) j):Int))=True:=eq_true (by omega)
    have no:PLift (¬ Q):=⟨fun e=>by have:=(yes.down.1 e k hk j hj).2;omega⟩
    clear d2;refine am ?_;exact ⟨.inr ⟨no.down,rfl⟩,_,rfl⟩
   ·have d3:((1:Int)<(qs.flatten.count (nx (qat qs k) j):Int))=False:=eq_false (by omega)
    have d4:PLift (qs.flatten.count (nx (qat qs k) j)<=1):=⟨by omega⟩
    clear d2;refine am ?_;refine ⟨(),zg,⟨_,rfl⟩,fun i hi=> ?_⟩
    by_cases e:i=j
    ·subst e;exact ⟨d'.down,d4.down⟩
    ·exact hal'.down i (by omega)
  ·rintro _ fr _ F ⟨⟨g2,rfl⟩,hal⟩
   have hal':=zU hal;clear hal;refine am ?_;refine ⟨(),zg,⟨_,rfl⟩,fun i hi=> ?_⟩
   by_cases e:i=k
   ·subst e;exact hal'.down
   ·exact hall'.down i (by omega)
 ·rintro _ fr _ F ⟨⟨g2,rfl⟩,hal⟩
  have y:PLift Q:=⟨yes.down.2 hal⟩
  clear hal;refine am ?_;exact ⟨.inl ⟨y.down,rfl⟩,_,rfl⟩
end Go.AM.G
