import Derived.Test.YtfhbhfogcgfeeaaGreatDoorHuT
set_option linter.unusedVariables false
set_option linter.unusedSimpArgs false
set_option maxRecDepth 100000
namespace Go.AM.G
open Go Go.AM
abbrev zHd:List V:=[.int .u8 0,.int .u64 0,.int .i64 0,.int .u64 0,.int .i64 0,.int .u64 0,.int .u64 0]
theorem zvz {m:Mem}{v:V}{n:Nat}{f:Nat->List V}(hv:Rd m v 7 n f) (hn:n*56<=140737488355328): ∃r g,zM (m++[.cells true []]) zHd 56 (.slice m.length 0 0 0 true 7) v=some (r,m++g)/\In m.length g r 7 (zJ n f):=by
 have hl:(zJ n f).length=n:=by simp
 rcases hv with hv|⟨rfl,rfl⟩
 ·obtain ⟨v',m',a1,⟨g,rfl⟩,a3⟩:=zgC (zero:=zHd) (bytes:=56) hv rfl (by decide) (by rw [hl];omega)
  exact ⟨v',g,a1,.mk a3⟩
 ·exact ⟨.slice m.length 0 0 0 true 7,[.cells true []],by simp [zM,zde,zOk],.mk ⟨Sl.mk (els:=[]) (own:=true) (by simp),.inr ⟨_,_,_,Nat.le_refl _,rfl,by simp⟩⟩⟩
theorem zqK {m:Mem}{v:V}{n:Nat}{f:Nat->List V}(hv:Rd m v 7 n f) (hn:n*56<=140737488355328):C S zcJ [v] m (fun r m'=> ∃g,m'=m++g/\In m.length g r 7 (zJ n f)):=by
 have hl:(zJ n f).length=n:=by simp
 rcases hv with hv|⟨rfl,rfl⟩
 ·rcases hv.cases with ⟨rfl,he⟩|⟨b,i,len,cap,ex,rfl⟩
  ·clear he
   refine fn rfl ?_;exact ⟨[],by simp,.mk ⟨by rw [List.append_nil];exact hv,.inl rfl⟩⟩
  ·obtain ⟨r,g,a1,a3⟩:=zvz (.inl hv) hn
   have a3':=zU a3;clear a3;refine fn rfl ?_;exact ⟨g,rfl,a3'.down⟩
 ·refine fn rfl ?_
  exact ⟨.slice m.length 0 0 0 true 7,m++[.cells true []],by simp [zM,zde,zOk],[.cells true []],rfl,.mk ⟨Sl.mk (els:=[]) (own:=true) (by simp),.inr ⟨_,_,_,Nat.le_refl _,rfl,by simp⟩⟩⟩
def MiF (m m':Mem) (aw uw sv mv qv hv:V) (X:MiA):Prop:= ∃b1 b2 g1 g2 g3 g4 va vm,m'=m++b1::b2::(g1++(g2++(g3++g4)))/\Ps (m.length+2) g1 (fun M=>zcY M aw uw sv va vm X.H)/\Gx (m.length+2+g1.length) g2 mv (zD ((List.range X.nm).map X.mw))/\Ps (m.length+2+g1.length+g2.length) g3 (fun M=>Qs M qv X.qs)/\In (m.length+2+g1.length+g2.length+g3.length) g4 hv 7 (zJ X.hs.length fun i=>zH (hat X.hs i))/\
 aw.isCell=true/\uw.isCell=true/\sv.isCell=true/\mv.isCell=true/\qv.isCell=true/\hv.isCell=true/\V.beq aw aw=true/\V.beq uw uw=true/\V.beq sv sv=true/\V.beq qv qv=true
structure MiB (X:MiA):Prop where
 wk:w64 X.nm X.mw
 lk:X.nm<17592186044417
 lq:X.qs.length*24<=140737488355328
 ll: ∀i,i<X.qs.length->(qat X.qs i).length<17592186044417
 ld:X.hs.length*56<=140737488355328
 ls:X.H.ns*96<=140737488355328
theorem zfi.b {m:Mem} {aw uw sv mv qv hv:V}{va vm vs:Nat->V}{X:MiA}(h:zfi m aw uw sv mv qv hv va vm vs X):MiB X:=⟨h.wk,h.lk,h.lq,h.ll,h.ld,h.ls⟩
theorem zx1 {M:Mem}{v:V}{z n:Nat}{f:Nat->List V}(h:Sl M v z (zJ n f)):Rd M v z n f:= .inl h
theorem MiF.rd {m m':Mem} {aw uw sv mv qv hv:V}{X:MiA}(h:MiF m m' aw uw sv mv qv hv X) (b:MiB X): ∃g,m'=m++g/\Ps m.length g (fun M=> ∃va vm vs,zfi M aw uw sv mv qv hv va vm vs X):=by
 obtain ⟨b1,b2,g1,g2,g3,g4,va,vm,rfl,h1,h2,h3,h4,c1,c2,c3,c4,c5,c6,d1,d2,d3,d4⟩:=h;refine ⟨_,rfl,fun M hM=> ?_⟩;have p1:=h1.to (lo2:=m.length) (g2:=b1::b2::(g1++(g2++(g3++g4)))) (k:=2) (.drop (.drop .hereA)) rfl M hM;have e3:=h3.to (lo2:=m.length) (g2:=b1::b2::(g1++(g2++(g3++g4)))) (k:=g1.length+(g2.length+0)+1+1) (.drop (.drop (.left (.left .hereA)))) (by omega) M hM;have e4:=h4.ps.to (lo2:=m.length) (g2:=b1::b2::(g1++(g2++(g3++g4)))) (k:=g1.length+(g2.length+(g3.length+0))+1+1) (.drop (.drop (.left (.left (.left .here))))) (by omega) M hM;have e2:Gm M mv ((List.range X.nm).map X.mw):=by
  have hA:AtM (m.length+2+g1.length) g2 M:=fun j x hj=>by
   have:=hM (g1.length+j+1+1) x (by
    rw [List.getElem?_cons_succ,List.getElem?_cons_succ,zi];exact zb hj)
   rw [<-this]
   congr 1
   omega
  rcases h2 with (⟨rfl,e⟩|⟨j,rfl,hj⟩)|⟨e,j,own,es,rfl,hj⟩
  ·exact .inl ⟨rfl,by simpa using e⟩
  ·exact .inr (.inl ⟨_,by rw [List.length_map],hA j _ hj⟩)
  ·exact .inr (.inr ⟨by simpa using e,_,own,es,rfl,hA j _ hj⟩)
 obtain ⟨vs,hq⟩:=e3;exact ⟨va,vm,vs,p1,zk3.1 e2.nus,hq,zx1 e4,b.wk,b.lk,b.lq,b.ll,b.ld,b.ls,d1,d2,d3,(zto e2).2,d4,e4.beq'⟩
structure MiO (lo:Nat) (M:Mem) (aw uw sv qv:V) (bm bh cm ch:Nat) (em eh:Bool) (Fh Fq:Nat->Prop) (X:MiA):Prop where
 h:Loc Fh M (fun M=> ∃va vm,zcY M aw uw sv va vm X.H)
 q:Loc Fq M (fun M=>Qs M qv X.qs)
 m:M[bm]? =some (.cells true (zJ X.nm (zG X.mw)))
 d:M[bh]? =some (.cells true (zJ X.hs.length fun i=>zH (hat X.hs i)))
 l:lo<=bm/\lo<=bh/\bm≠bh
 f:¬ Fh bm/\¬ Fh bh/\¬ Fq bm/\¬ Fq bh
 fl: ∀b,Fh b\/Fq b->lo<=b
 c:aw.isCell=true/\uw.isCell=true/\sv.isCell=true/\qv.isCell=true
 b:V.beq aw aw=true/\V.beq uw uw=true/\V.beq sv sv=true/\V.beq qv qv=true
 w:MiB X
abbrev slM (X:MiA) (bm cm:Nat) (em:Bool):V:= .slice bm 0 X.nm cm em 1
abbrev slH (X:MiA) (bh ch:Nat) (eh:Bool):V:= .slice bh 0 X.hs.length ch eh 7
theorem MiF.own {m m':Mem} {aw uw sv mv qv hv:V}{X:MiA}(h:MiF m m' aw uw sv mv qv hv X) (b:MiB X) (hn:0<X.nm) (hh:0<X.hs.length): ∃bm bh cm ch em eh Fh Fq,mv=slM X bm cm em/\hv=slH X bh ch eh/\MiO (m.length+2) m' aw uw sv qv bm bh cm ch em eh Fh Fq X:=by
 obtain ⟨b1,b2,g1,g2,g3,g4,va,vm,rfl,h1,h2,h3,h4,c1,c2,c3,c4,c5,c6,d1,d2,d3,d4⟩:=h;have hl:((List.range X.nm).map X.mw).length=X.nm:=by simp
 have hl2:(zJ X.hs.length fun i=>zH (hat X.hs i)).length=X.hs.length:=by simp
 rcases h2 with (⟨rfl,e⟩|⟨j,rfl,hj⟩)|⟨e,j,own,es,rfl,hj⟩
 ·have:=congrArg List.length e;simp at this;omega
 case inr=>have:=congrArg List.length e;simp at this;omega
 rcases h4.cases with ⟨_,e⟩|⟨P,R,cap,ex,rfl,rfl⟩
 ·have:X.hs.length=0:=by rw [<-hl2,e];rfl
  omega
 have jl:=(List.getElem?_eq_some_iff.1 hj).1;have e1:AtM (m.length+2) g1 (m++b1::b2::(g1++(g2++(g3++(P++Blk.cells true (zJ X.hs.length fun i=>zH (hat X.hs i))::R))))):= .left (.drop (.drop .hereA));have e3:AtM (m.length+2+g1.length+g2.length) g3 (m++b1::b2::(g1++(g2++(g3++(P++Blk.cells true (zJ X.hs.length fun i=>zH (hat X.hs i))::R))))):=(AtM.left (.drop (.drop (.left (.left .hereA))))).cst (by omega);rw [List.length_map,hl,hl2];refine ⟨m.length+2+g1.length+j,m.length+2+g1.length+g2.length+g3.length+P.length,X.nm,cap,false,ex,_,_,rfl,rfl,((h1.loc e1).imp fun M h=>⟨va,vm,h⟩),h3.loc e3,?_,?_,⟨by omega,by omega,by omega⟩,⟨by omega,by omega,by omega,by omega⟩,fun b hb=>by omega,⟨c1,c2,c3,c5⟩,⟨d1,d2,d3,d4⟩,b⟩
 ·rw [show m.length+2+g1.length+j=m.length+((g1.length+j)+1+1) by omega,zi,zb9,zb9,zi,zb hj,zD,List.map_map]
  rfl
 ·rw [show m.length+2+g1.length+g2.length+g3.length+P.length=m.length+((g1.length+(g2.length+(g3.length+P.length)))+1+1) by omega,zi,zb9,zb9,zi,zi,zi,zaa]
  rfl
theorem MiO.rd {lo:Nat}{m g:Mem}{aw uw sv qv:V}{bm bh cm ch:Nat}{em eh:Bool}{Fh Fq:Nat->Prop}{X:MiA}(h:MiO lo (m++g) aw uw sv qv bm bh cm ch em eh Fh Fq X) (hl:m.length<=lo):Ps m.length g (fun M=> ∃va vm vs,zfi M aw uw sv (slM X bm cm em) qv (slH X bh ch eh) va vm vs X):=fun M hM=>by
 have go:=hM.of;obtain ⟨va,vm,p1⟩:=h.h M fun c y hc hy=>go c y (by have:=h.fl c (.inl hc);omega) hy
 obtain ⟨vs,p2⟩:=h.q M fun c y hc hy=>go c y (by have:=h.fl c (.inr hc);omega) hy
 have p3:=Sl.mk (cap:=cm) (z:=1) (ex:=em) (go bm _ (by have:=h.l;omega) h.m);have p4:=Sl.mk (cap:=ch) (z:=7) (ex:=eh) (go bh _ (by have:=h.l;omega) h.d);rw [List.length_map,List.length_range] at p3 p4;exact ⟨va,vm,vs,p1,.inl p3,p2,.inl p4,h.w.wk,h.w.lk,h.w.lq,h.w.ll,h.w.ld,h.w.ls,h.b.1,h.b.2.1,h.b.2.2.1,p3.beq',h.b.2.2.2,p4.beq'⟩
theorem Ps.cast {a b:Nat}{g:Mem}{P:Mem->Prop}(h:Ps a g P) (e:a=b:=by (try simp only [List.length_append,List.length_cons,List.length_nil])<;>omega):Ps b g P:=e▸h
theorem Gx.cast {a b:Nat}{g:Mem}{v:V}{els:List (List V)}(h:Gx a g v els) (e:a=b:=by (try simp only [List.length_append,List.length_cons,List.length_nil])<;>omega):Gx b g v els:=e▸h
theorem zvA {m:Mem} {aw uw sv mv qv hv:V}{va vm vs:Nat->V}{X:MiA}(h:zfi m aw uw sv mv qv hv va vm vs X) (hf:X.H.framed) (hg:gOk X.qs):C S zlr [.agg (miV X aw uw sv mv qv hv)] m (fun r m'=> ∃aw' uw' sv' mv' qv' hv',r= .agg (miV X aw' uw' sv' mv' qv' hv')/\MiF m m' aw' uw' sv' mv' qv' hv' X):=by
 have A1:=h.h.a.ar.2.1;have A2:=h.h.u.ar.2.1;have A3:=h.h.s.s.ar.2.1;have A4:=h.k.ar.2.1;have A5:=h.q.s.ar.2.1;have A6:=h.d.ar.2.1;have b1:=h.bm;have b2:=h.bq;have b3:=h.bh;have hh:=zU h;have hf':=zU hf;obtain ⟨g0,g1,g2⟩:=zsc hg;have g2':=zU g2;clear h hf hg g2;refine fn rfl ?_;refine (zpv hh.down.h.app hf'.down hh.down.bs).mono ?_;rintro _ _ ⟨_,rfl,G1,aw',uw',sv',rfl,rfl,c1,c2,c3,d1,d2,d3,va',vm',hP⟩;have hP':=zU hP;clear hP;refine am ?_;refine (zc1 (zk3.2 hh.down.k.app) (by have:=hh.down.lk;simpa using this)).mono ?_;rintro mv' _ ⟨G2,rfl,hG⟩;have c4:=hG.cell;have hG':=zU hG;clear hG;refine am ?_;refine (ziA hh.down.q.app g0 g1 g2'.down).mono ?_;rintro _ M3 ⟨b,cap,ex,vs',hgr,rfl,hO⟩;obtain ⟨G3,rfl,c5,d5,hQ⟩:=hO.r (cap:=cap) (ex:=ex) (by omega) hgr;obtain ⟨qv',eq⟩: ∃qv',V.slice b 0 X.qs.length cap ex 1=qv':=⟨_,rfl⟩
 rw [eq] at c5 d5 hQ;have hQ':=zU hQ;clear hQ hO hgr;refine am ?_;refine (zqK hh.down.d.app hh.down.ld).mono ?_;rintro hv' _ ⟨G4,rfl,hI⟩;have c6:=hI.cell;have hI':=zU hI;clear hI;refine am ?_;exact ⟨aw',uw',sv',mv',qv',hv',rfl,_,_,G1,G2,G3,G4,va',vm',rfl,hP'.down.cast,hG'.down.cast,hQ'.down.cast,hI'.down.cast,c1,c2,c3,c4,c5,c6,d1,d2,d3,d5⟩
theorem ztt {X:MiA}(h:X.ok):0<X.nm/\0<X.hs.length/\X.H.framed:=by
 obtain ⟨h1,h2,h3,h4,_⟩:=h;have:=h1.1.na;have:=h2.1;unfold nwm at h4;exact ⟨by omega,by omega,h1.1⟩
structure zgy (lo:Nat) (M:Mem) (P:Nat) (aw uw sv qv:V) (bm bh cm ch:Nat) (em eh:Bool) (Fh Fq:Nat->Prop) (X:MiA):Prop where
 o:MiO lo M aw uw sv qv bm bh cm ch em eh Fh Fq X
 p:M[P]? =some (.cells true [miV X aw uw sv (slM X bm cm em) qv (slH X bh ch eh)])
 n:P≠bm/\P≠bh/\¬ Fh P/\¬ Fq P/\lo<=P
theorem MiO.grow {lo:Nat}{M g:Mem}{aw uw sv qv:V}{bm bh cm ch:Nat}{em eh:Bool}{Fh Fq:Nat->Prop}{X:MiA}(h:MiO lo M aw uw sv qv bm bh cm ch em eh Fh Fq X):MiO lo (M++g) aw uw sv qv bm bh cm ch em eh Fh Fq X:=⟨h.h.app,h.q.app,zb h.m,zb h.d,h.l,h.f,h.fl,h.c,h.b,h.w⟩
theorem MiO.small {lo:Nat}{M:Mem}{aw uw sv qv:V}{bm bh cm ch:Nat}{em eh:Bool}{Fh Fq:Nat->Prop}{X:MiA}(h:MiO lo M aw uw sv qv bm bh cm ch em eh Fh Fq X):MiO lo M aw uw sv qv bm bh cm ch em eh (fun b=>Fh b/\b<M.length) (fun b=>Fq b/\b<M.length) X:=⟨h.h.lt,h.q.lt,h.m,h.d,h.l,⟨fun e=>h.f.1 e.1,fun e=>h.f.2.1 e.1,fun e=>h.f.2.2.1 e.1,fun e=>h.f.2.2.2 e.1⟩,fun b hb=>h.fl b (hb.imp (·.1) (·.1)),h.c,h.b,h.w⟩
theorem zlV {m:Mem} {aw uw sv mv qv hv:V}{va vm vs:Nat->V}{X:MiA}(h:zfi m aw uw sv mv qv hv va vm vs X):C S zgL [.agg (miV X aw uw sv mv qv hv)] m (fun r m'=>Grow m m'/\((X.ok/\ ∃P aw' uw' sv' qv' bm bh cm ch em eh Fh Fq,r= .tup [.ptr P 0 0,.int .i64 0]/\zgy m.length m' P aw' uw' sv' qv' bm bh cm ch em eh Fh Fq X)\/(¬ X.ok/\r= .tup [.nilp,.int .i64 2]))):=by
 have A1:=h.h.a.ar.2.1;have A2:=h.h.u.ar.2.1;have A3:=h.h.s.s.ar.2.1;have A4:=h.k.ar.2.1;have A5:=h.q.s.ar.2.1;have A6:=h.d.ar.2.1;have hh:=zU h;clear h;refine fn rfl ?_;refine (zfK hh.down.app).mono ?_;rintro _ _ ⟨⟨hk,rfl⟩|⟨hk,rfl⟩,⟨g1,rfl⟩⟩
 case inr=>
  have hk':=zU hk;clear hk;refine am ?_;exact ⟨⟨_,rfl⟩,.inr hk'.down⟩
 have hk':=zU hk;clear hk;refine am ?_;refine (zvA hh.down.app (ztt hk'.down).2.2 hk'.down.2.1).mono ?_;rintro _ M ⟨aw',uw',sv',mv',qv',hv',rfl,hF⟩;have hgr:Grow m M:=by
  obtain ⟨b1,b2,g1,g2,g3,g4,_,_,rfl,_⟩:=hF;exact ⟨_,by rw [List.append_assoc]⟩
 obtain ⟨bm,bh,cm,ch,em,eh,Fh,Fq,rfl,rfl,hO⟩:=hF.own hh.down.b (ztt hk'.down).1 (ztt hk'.down).2.1;have hO':=zU hO.small;have hgr':=zU hgr;have c:=hO.c;obtain ⟨c1,c2,c3,c4⟩:=c;clear hF hO hgr;refine am ?_;have h:=hO'.down;have l1:=(List.getElem?_eq_some_iff.1 h.m).1;have l2:=(List.getElem?_eq_some_iff.1 h.d).1;refine ⟨hgr'.down.app,.inl ⟨hk'.down,M.length,aw',uw',sv',qv',bm,bh,cm,ch,em,eh,(fun b=>Fh b/\b<M.length),(fun b=>Fq b/\b<M.length),rfl,⟨?_,by simp,by omega,by omega,fun e=>by have:=e.2;omega,fun e=>by have:=e.2;omega,hgr'.down.len⟩⟩⟩;have hg:=h.grow (g:=[.cells true [miV X aw' uw' sv' (slM X bm cm em) qv' (slH X bh ch eh)]]);have hl:m.length<=List.length (m++ .cells true [miV X aw uw sv mv qv hv]::g1)+2:=by rw [List.length_append];omega
 exact ⟨hg.h,hg.q,hg.m,hg.d,⟨by have:=hg.l;omega,by have:=hg.l;omega,hg.l.2.2⟩,hg.f,fun b hb=>by have:=hg.fl b hb;omega,hg.c,hg.b,hg.w⟩
end Go.AM.G
