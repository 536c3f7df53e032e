import Derived.Test.YtfhbhfogcgfeeaaGreatDoorHvA
set_option linter.unusedVariables false
set_option linter.unusedSimpArgs false
set_option maxRecDepth 100000
namespace Go.AM.G
open Go Go.AM
theorem zgy.upd {lo:Nat}{M M2:Mem}{P:Nat} {aw uw sv qv qv':V}{bm bh cm ch:Nat}{em eh:Bool}{Fh Fq Fq':Nat->Prop}{X X':MiA}(h:zgy lo M P aw uw sv qv bm bh cm ch em eh Fh Fq X) (eH:X'.H=X.H)
  (k: ∀c y,c≠P->c≠bm->c≠bh->M[c]? =some y->M2[c]? =some y) (p:M2[P]? =some (.cells true [miV X' aw uw sv (slM X' bm cm em) qv' (slH X' bh ch eh)])) (hm:M2[bm]? =some (.cells true (zJ X'.nm (zG X'.mw)))) (hd:M2[bh]? =some (.cells true (zJ X'.hs.length fun i=>zH (hat X'.hs i))))
  (q:Loc Fq' M2 (fun M=>Qs M qv' X'.qs)) (fq:¬ Fq' bm/\¬ Fq' bh/\¬ Fq' P/\ ∀b,Fq' b->lo<=b) (cq:qv'.isCell=true) (bq:V.beq qv' qv'=true) (wb:MiB X'):zgy lo M2 P aw uw sv qv' bm bh cm ch em eh Fh Fq' X':=by
 refine ⟨⟨?_,q,hm,hd,h.o.l,⟨h.o.f.1,h.o.f.2.1,fq.1,fq.2.1⟩,fun b hb=> ?_,⟨h.o.c.1,h.o.c.2.1,h.o.c.2.2.1,cq⟩,⟨h.o.b.1,h.o.b.2.1,h.o.b.2.2.1,bq⟩,wb⟩,p,⟨h.n.1,h.n.2.1,h.n.2.2.1,fq.2.2.1,h.n.2.2.2.2⟩⟩
 ·rw [eH]
  exact h.o.h.to fun c y hc hy=>k c y (fun e=>h.n.2.2.1 (e▸hc)) (fun e=>h.o.f.1 (e▸hc)) (fun e=>h.o.f.2.1 (e▸hc)) hy
 ·rcases hb with hb|hb
  ·exact h.o.fl b (.inl hb)
  ·exact fq.2.2.2 b hb
theorem zvB {M:Mem} {P bh w n ch:Nat}{eh:Bool} {c0 c1 c2 c3 c4 qv:V}{qs:List (List Nat)}{f:Nat->List V}(hP:M[P]? =some (.cells true [[c0,c1,c2,c3,c4,qv,.slice bh 0 n ch eh 7]])) (hq:Qs M qv qs) (hql:qs.length<17592186044417) (hd:M[bh]? =some (.cells true (zJ n f))) (e1:(bh=P)=False) (e2:(P=bh)=False) (hw:w<n) (hf:f w=zH hand0) (cc:c0.isCell=true/\c1.isCell=true/\c2.isCell=true/\c3.isCell=true/\c4.isCell=true):
  C S zgh [.ptr P 0 0,.int .i64 (w:Nat),.ptr bh w 0] M (fun r M'=>((zav qs w).2.2.2≠0/\r= .tup [.int .u8 0,.int .i64 (zav qs w).2.2.2]/\Grow M M')\/((zav qs w).2.2.2=0/\r= .tup [.int .u8 1,.int .i64 0]/\ ∃v',v'.isCell=true/\V.beq v' v'=true/\Loc (fun b=>M.length<=b) M' (fun M=>Qs M v' (zav qs w).1)/\M'[P]? =some (.cells true [[c0,c1,c2,c3,c4,v',.slice bh 0 n ch eh 7]])/\M'[bh]? =some (.cells true (zJ n (up f w (zH ⟨1,(zav qs w).2.1,0,0,0,0,0⟩))))/\M.length<=M'.length/\ ∀c y,c≠P->c≠bh->M[c]? =some y->M'[c]? =some y)):=by
 obtain ⟨vs,hq⟩:=hq;obtain ⟨d0,d1,d2,d3,d4⟩:=cc;have qc:=hq.s.ar.2.1;have GP:=zvw (w:=(w:Int)) hq hql;have GP':=zU GP;have i1:=fun (k':Option Nat) (o:Nat) (own:Bool)=> @zfL n w o f _ own k' hw hf
 have i2:=fun (z o:Nat) (y:V)=> @zbS n w z o f _ y hw hf
 have i3:=fun (z o:Nat) (y:V) (c:List V)=> @zbS n w z o (up f w c) c y hw zK
 have g1:= @zL;have g2:= @zd2;have g3:= @set_set;have g4:=fun (a b:List V)=> @zpy _ f w a b
 obtain ⟨R,eR⟩: ∃R,zav qs w=R:=⟨_,rfl⟩
 have eR':=zU eR;rw [eR];clear GP hf hq eR;refine fn rfl ?_;refine GP'.down.mono ?_;rintro _ _ ⟨v',qs',a,t,e,rfl,⟨g,rfl,vc,vb,hQ⟩,ep⟩;obtain rfl:R=(qs',a,t,e):=eR'.down.symm.trans ep;have hQ':=zU hQ;have vcc:=zcU vc;clear hQ ep
 by_cases h0:e=0
 ·subst h0
  refine am ?_;have lP:=(List.getElem?_eq_some_iff.1 hP).1;have lb:=(List.getElem?_eq_some_iff.1 hd).1;refine .inr ⟨v',vc,vb,?_,rfl,rfl,?_,fun c y h1 h2 hy=>zx (Ne.symm h2) (zx (Ne.symm h1) (zb hy))⟩
  ·refine (hQ'.down.loc (((AtM.left (A:=M) (AtM.hereA (g:=g))).cst (Nat.add_zero _)).set (.inl lP) |>.set (.inl lb))).mono fun b hb=>hb.1
  ·rw [List.length_set,List.length_set,List.length_append];omega
 ·have c0:(e=0)=False:=eq_false h0
  have h0':=zU h0;clear h0;refine am ?_;exact .inl ⟨_,rfl⟩
theorem znR {M:Mem}{P w a:Nat} {c0 c1 c2 c3 c4 qv c6:V}{qs:List (List Nat)}(hP:M[P]? =some (.cells true [[c0,c1,c2,c3,c4,qv,c6]])) (hq:Qs M qv qs) (hql:qs.length<17592186044417) (cc:c0.isCell=true/\c1.isCell=true/\c2.isCell=true/\c3.isCell=true/\c4.isCell=true/\c6.isCell=true):
  C S zdp [.ptr P 0 0,.int .i64 (w:Nat),.int .u64 (a:Nat)] M (fun _ M'=>((zaT qs w a).2≠0/\Grow M M')\/((zaT qs w a).2=0/\ ∃v',v'.isCell=true/\V.beq v' v'=true/\Loc (fun b=>M.length<=b) M' (fun M=>Qs M v' (zaT qs w a).1)/\M'[P]? =some (.cells true [[c0,c1,c2,c3,c4,v',c6]])/\M.length<=M'.length/\ ∀c y,c≠P->M[c]? =some y->M'[c]? =some y)):=by
 obtain ⟨vs,hq⟩:=hq;obtain ⟨d0,d1,d2,d3,d4,d6⟩:=cc;have qc:=hq.s.ar.2.1;have hq':=zU hq;have g1:= @zL;have g2:= @zd2;have g3:= @set_set;obtain ⟨R,eR⟩: ∃R,zaT qs w a=R:=⟨_,rfl⟩
 have eR':=zU eR;rw [eR];clear hq eR;refine fn rfl ?_;have hr:Nus (M++[Blk.cells true [[V.int .u64 (a:Int)]]]) (.slice M.length 0 1 1 true 1) [a]:=by
  refine Nus.of ?_;exact Sl.mk (els:=[[.int .u64 (a:Nat)]]) (own:=true) (by simp)
 refine (ztl (w:=(w:Int)) hq'.down.app hql hr).mono ?_;clear hr;rintro _ _ ⟨v',qs',e,rfl,⟨g,rfl,vc,vb,hQ⟩,ep⟩;obtain rfl:R=(qs',e):=eR'.down.symm.trans ep;have hQ':=zU hQ;have vcc:=zcU vc;clear hQ ep
 by_cases h0:e=0
 ·subst h0
  refine am ?_;have lP:=(List.getElem?_eq_some_iff.1 hP).1;refine .inr ⟨v',vc,vb,?_,rfl,?_,fun c y h1 hy=>zx (Ne.symm h1) (zb hy)⟩
  ·have hA:AtM (List.length (M++[Blk.cells true [[V.int .u64 (a:Int)]]])) g (M++Blk.cells true [[V.int .u64 (a:Int)]]::(g++[Blk.cells true [[v']]])):=(AtM.left (A:=M) (.drop (AtM.hereA (g:=g)))).cst (by simp)
   refine (hQ'.down.loc (hA.set (.inl (by rw [List.length_append];omega)))).mono fun b hb=> ?_
   have:=hb.1;rw [List.length_append] at this;omega
  ·rw [List.length_set,List.length_append];omega
 ·have c0:(e=0)=False:=eq_false h0
  clear h0;refine am ?_;exact .inl ⟨_,rfl⟩
theorem zgy.hand {lo:Nat}{M M2:Mem}{P:Nat}{aw uw sv qv:V}{bm bh cm ch:Nat}{em eh:Bool}{Fh Fq:Nat->Prop}{X:MiA}(h:zgy lo M P aw uw sv qv bm bh cm ch em eh Fh Fq X){w:Nat}{y:zT}(hw:w<X.hs.length) (k: ∀c y,c≠bh->M[c]? =some y->M2[c]? =some y) (hd:M2[bh]? =some (.cells true (zJ X.hs.length (up (fun i=>zH (hat X.hs i)) w (zH y))))) (wb:MiB (X.sh w y)):zgy lo M2 P aw uw sv qv bm bh cm ch em eh Fh Fq (X.sh w y):=by
 have el:(X.hs.set w y).length=X.hs.length:=List.length_set;refine h.upd rfl (fun c y _ _ hc hy=>k c y hc hy) ?_ (k _ _ h.o.l.2.2 h.o.m) ?_ (h.o.q.to fun c y hc hy=>k c y (fun e=>h.o.f.2.2.2 (e▸hc)) hy) ⟨h.o.f.2.2.1,h.o.f.2.2.2,h.n.2.2.2.1,fun b hb=>h.o.fl b (.inr hb)⟩ h.o.c.2.2.2 h.o.b.2.2.2 wb
 ·have:=k _ _ h.n.2.1 h.p
  show M2[P]? =some (.cells true [[aw,.int .i64 X.H.us.N,uw,sv,slM X bm cm em,qv,.slice bh 0 (X.hs.set w y).length ch eh 7]]);rw [el];exact this
 ·show M2[bh]? =some (.cells true (zJ (X.hs.set w y).length fun i=>zH (hat (X.hs.set w y) i)))
  rw [el,hd,zky hw]
theorem znS {lo:Nat}{M:Mem}{P:Nat}{aw uw sv qv:V}{bm bh cm ch:Nat}{em eh:Bool}{Fh Fq:Nat->Prop}{X:MiA}(h:zgy lo M P aw uw sv qv bm bh cm ch em eh Fh Fq X) (hok:X.ok){w:Nat}(hw:w<X.hs.length):
  C S zdl [.ptr P 0 0,.int .i64 (w:Nat)] M (fun r M'=>r= .tup [.int .u8 ((zm X w).2.1:Nat),.int .i64 (zm X w).2.2]/\M.length<=M'.length/\(∀c y,(c≠P/\c≠bm/\c≠bh)->M[c]? =some y->M'[c]? =some y)/\ ∃qv' Fq',(∀b,Fq' b->Fq b\/M.length<=b)/\zgy lo M' P aw uw sv qv' bm bh cm ch em eh Fh Fq' (zm X w).1):=by
 have hP:=h.p;have hm:=h.o.m;have hd:=h.o.d;obtain ⟨c1,c2,c3,c4⟩:=h.o.c;obtain ⟨va,vm,hrd⟩:=h.o.h.at;obtain ⟨k1,k2,k3,k4,k5⟩:=zkx hok hrd.wa h.o.w.wk hw;have hx:=hok.2.2.2.2.2.2.2 w hw;have hb:=zyP k1 (by rw [k4];exact k2);have hh:=zU h;have hql:=h.o.w.lq;have hq:=h.o.q.at;obtain ⟨x,ex⟩: ∃x,hat X.hs w=x:=⟨_,rfl⟩
 rw [ex] at hx;have hf:(fun i=>zH (hat X.hs i)) w=zH x:=by rw [<-ex]
 have hP1:(bh=P)=False:=eq_false (Ne.symm h.n.2.1);have hP2:(P=bh)=False:=eq_false h.n.2.1;have hP3:(bm=bh)=False:=eq_false h.o.l.2.2;have hP4:(bh=bm)=False:=eq_false (Ne.symm h.o.l.2.2);have hlo:lo<=P/\lo<=bm/\lo<=bh:=⟨h.n.2.2.2.2,h.o.l.1,h.o.l.2.1⟩
 have lP:=(List.getElem?_eq_some_iff.1 hP).1;have lbm:=(List.getElem?_eq_some_iff.1 hm).1;have lbh:=(List.getElem?_eq_some_iff.1 hd).1;have ix:= @zcT bh 0 X.hs.length ch w 7 eh .i64 hw;have i1:=fun (k':Option Nat) (o:Nat) (own:Bool)=> @zfL X.hs.length w o (fun i=>zH (hat X.hs i)) (zH x) own k' hw hf
 have i2:=fun (z o:Nat) (y:V)=> @zbS X.hs.length w z o (fun i=>zH (hat X.hs i)) (zH x) y hw hf
 have i3:=fun (z o:Nat) (y:V) (c:List V)=> @zbS X.hs.length w z o (up (fun i=>zH (hat X.hs i)) w c) c y hw zK
 have g1:= @zL;have g2:= @zd2;have g3:= @set_set;have g4:=fun (a b:List V)=> @zpy _ (fun i=>zH (hat X.hs i)) w a b
 have ex':=zU ex;have hx':=zU hx;have hok':=zU hok;have hb':=zU hb;have hrd':=zU hrd;have hq':=zU hq;have hwk:=zU h.o.w.wk;clear hx hok hb hrd hq h ex hf k1 k2 k3 k4 k5
 by_cases p0:x.pc=0
 ·have hx0:x=hand0:=by
   rcases hx'.down with e|e|e
   ·exact e.2
   ·omega
   ·omega
  have d0:((x.pc:Int)=0)=True:=eq_true (by omega);have es:zm X w=if (zav X.qs w).2.2.2=0 then ({ X with qs:=(zav X.qs w).1,hs:=X.hs.set w ⟨1,(zav X.qs w).2.1,0,0,0,0,0⟩ },1,0) else (X,0,(zav X.qs w).2.2.2):=by
   unfold zm;rw [ex'.down,if_pos p0]
  have es':=zU es;obtain ⟨Z,eZ⟩: ∃Z,zm X w=Z:=⟨_,rfl⟩
  rw [eZ];have eZ':=zU eZ;have PM:=zvB (w:=w) hP hq'.down (by omega) hd hP1 hP2 hw (by rw [<-hx0,<-ex'.down]) ⟨c1,rfl,c2,c3,rfl⟩;have PM':=zU PM;clear es eZ PM p0 hx0;refine fn rfl ?_;refine PM'.down.mono ?_;rintro _ M' (⟨he,rfl,hg⟩|⟨he,rfl,v',vc,vb,q1,q2,q3,q4,q5⟩)
  ·have eZ2:PLift (Z=(X,0,(zav X.qs w).2.2.2)):=⟨by rw [<-eZ'.down,es'.down,if_neg he]⟩
   have hg':=zU hg;clear he hg;refine am ?_;rw [eZ2.down];obtain ⟨g,rfl⟩:=hg'.down;refine ⟨rfl,by simp,fun c y _ hy=>zb hy,qv,Fq,fun _ h=> .inl h,?_⟩;have h:=hh.down;exact ⟨h.o.grow,zb h.p,h.n⟩
  ·have eZ2:PLift (Z=({ X with qs:=(zav X.qs w).1,hs:=X.hs.set w ⟨1,(zav X.qs w).2.1,0,0,0,0,0⟩ },1,0)):=⟨by rw [<-eZ'.down,es'.down,if_pos he]⟩
   have hb2:=hb'.down;rw [eZ'.down,eZ2.down] at hb2;have fin:PLift (zgy lo M' P aw uw sv v' bm bh cm ch em eh Fh (fun b=>M.length<=b) { X with qs:=(zav X.qs w).1,hs:=X.hs.set w ⟨1,(zav X.qs w).2.1,0,0,0,0,0⟩ }):=⟨by
    have el:(X.hs.set w ⟨1,(zav X.qs w).2.1,0,0,0,0,0⟩).length=X.hs.length:=List.length_set;refine hh.down.upd rfl (fun c y h1 _ h3 hy=>q5 c y h1 h3 hy) ?_ (q5 _ _ (Ne.symm hh.down.n.1) hh.down.o.l.2.2 hm) ?_ q1 ⟨by omega,by omega,by omega,fun b hb=>by omega⟩ vc vb hb2
    ·show M'[P]? =some (.cells true [[aw,.int .i64 X.H.us.N,uw,sv,slM X bm cm em,v',.slice bh 0 (X.hs.set w _).length ch eh 7]])
     rw [el];exact q2
    ·show M'[bh]? =some (.cells true (zJ (X.hs.set w _).length fun i=>zH (hat (X.hs.set w _) i)))
     rw [el,q3,zky hw]⟩
   have fr:PLift (∀c y,(c≠P/\c≠bm/\c≠bh)->M[c]? =some y->M'[c]? =some y):=⟨fun c y hc hy=>q5 c y (by omega) (by omega) hy⟩
   clear q1 q2 q3 q5 he hb2;refine am ?_;rw [eZ2.down]
   first|exact ⟨rfl,q4,fr.down,v',_,fun _ h=> .inr h,fin.down⟩|exact ⟨rfl,fr.down,v',_,fun _ h=> .inr h,fin.down⟩
 have d0:((x.pc:Int)=0)=False:=eq_false (by omega);have obj:x.obj∈X.H.cs:=by
  rcases hx'.down with e|e|e
  ·exact absurd e.1 p0
  ·exact e.2.1
  ·exact e.2.2.1
 obtain ⟨z0,z1,z2,z3⟩:=zk5 hok'.down.1 hrd'.down.wa obj;obtain ⟨Z,eZ⟩: ∃Z,zm X w=Z:=⟨_,rfl⟩
 rw [eZ] at hb' ⊢;have eZ':=zU eZ;have z2':=zU z2;clear eZ z2 z3
 by_cases p1:x.pc=1
 ·have d1:((x.pc:Int)=1)=True:=eq_true (by omega)
  have eZ2:PLift (Z=(X.sh w { x with pc:=2,N:=(X.H.a x.obj%256:Nat),M:=unM (X.H.a x.obj) },2,0)):=⟨by
   rw [<-eZ'.down];unfold zm;rw [ex'.down,if_neg p0,if_pos p1]⟩
  have hb2:=hb'.down;rw [eZ2.down] at hb2;have hb2':=zU hb2;have za:=zxi hok'.down.1 hrd'.down.wa obj;have AT:=zqy hrd'.down (a:=x.obj);have zat:PLift (∀r,atR X.H x.obj r->r= .tup [.agg [.int .i64 (X.H.a x.obj%256:Nat),.int .u64 (unM (X.H.a x.obj):Nat)],.int .i64 0]):=⟨fun r hr=>by
   rcases hr with ⟨_,e⟩|⟨hn,_⟩
   ·rw [e,za]
   ·exact absurd hok'.down.1 hn⟩
  have AT':=zU AT;clear p0 p1 hb2 za AT obj;refine fn rfl ?_;refine AT'.down.mono ?_;rintro r _ ⟨hr,⟨g,rfl⟩⟩;rw [zat.down r hr];clear hr r;refine am ?_;rw [eZ2.down];refine ⟨rfl,?_,fun c y hc hy=>zx (by omega) (zb hy),qv,Fq,fun _ h=> .inl h,hh.down.hand hw (fun c y hc hy=>zx (Ne.symm hc) (zb hy)) (by rw [zaU (zb hd)];rfl) hb2'.down⟩;rw [List.length_set,List.length_append];omega
 have d1:((x.pc:Int)=1)=False:=eq_false (by omega);obtain ⟨a1,a2,a3,a4,a5,a6,a7,a8,a9⟩:=zd3 hx'.down p0 p1
 by_cases p2:x.pc=2
 ·have d2:((x.pc:Int)=2)=True:=eq_true (by omega)
  have eZ2:PLift (Z=(X.sh w (zg1 X.H x).1,(zg1 X.H x).2,0)):=⟨by
   rw [<-eZ'.down];unfold zm zg1;rw [ex'.down,if_neg p0,if_neg p1,if_pos p2];cases zfd x.M x.N.toNat x.f.toNat with
   |none=>rfl
   |some g=>
    dsimp only
    split<;>rfl⟩
  have hb2:=hb'.down;rw [eZ2.down] at hb2;have hb2':=zU hb2;have FS:=zsh (x:=x) (n:=X.hs.length) (Fh:=Fh) hP hP1 (hh.down.o.h.imp fun M ⟨va,vm,h⟩=>h.a) hh.down.o.f.2.1 hd hw (by rw [<-ex'.down]) a4 a5 z2'.down a6 a7 z1 (hok'.down.1.1.na).2;have FS':=zU FS;clear p0 p1 p2 hb2 FS obj a1 a2 a3 a4 a5 a6 a7 a8 a9;refine fn rfl ?_;refine FS'.down.mono ?_;rintro _ _ ⟨g,rfl,rfl⟩;refine am ?_;rw [eZ2.down];refine ⟨rfl,?_,fun c y hc hy=>zx (by omega) (zb hy),qv,Fq,fun _ h=> .inl h,hh.down.hand hw (fun c y hc hy=>zx (Ne.symm hc) (zb hy)) (zaU (zb hd)) hb2'.down⟩;rw [List.length_set,List.length_append];omega
 have d2:((x.pc:Int)=2)=False:=eq_false (by omega);obtain ⟨b1,b2,b3,b4⟩:x.pc≠2/\x.f<x.N/\x.M.testBit x.f.toNat=true/\x.to∈X.H.cs:=by
  rcases a9 with a9|a9
  ·exact absurd a9.1 p2
  ·exact a9
 obtain ⟨t1,t2⟩:=zcR hok'.down.1 hrd'.down.wa b4;have t3:x.to/2/64<X.nm:=by rw [hok'.down.2.2.2.1];exact t2
 have fl:x.f<=1000:=by have:=z2'.down.2.1;omega
 by_cases p3:x.pc=3
 ·have d3:((x.pc:Int)=3)=True:=eq_true (by omega)
  have eZ2:PLift (Z=(X.sh w (if bit X.mw (x.to/2)=true then behind x else { x with pc:=4,seen:=X.mw (x.to/2/64) }),3,0)):=⟨by
   rw [<-eZ'.down];unfold zm;rw [ex'.down,if_neg p0,if_neg p1,if_neg p2,if_pos p3]
   split<;>rfl⟩
  have hb2:=hb'.down;rw [eZ2.down] at hb2;have hb2':=zU hb2;have LS:=ztu (x:=x) (n:=X.hs.length) hP hm hwk.down hd hw (by rw [<-ex'.down]) (by omega) a6 fl t1 t3;have LS':=zU LS;obtain ⟨Y,eY⟩: ∃Y,(if bit X.mw (x.to/2)=true then behind x else { x with pc:=4,seen:=X.mw (x.to/2/64) })=Y:=⟨_,rfl⟩
  rw [eY] at LS' eZ2 hb2';clear p0 p1 p2 p3 hb2 LS obj a1 a2 a3 a4 a5 a6 a7 a8 a9 b1 b2 b3 b4 eY;refine fn rfl ?_;refine LS'.down.mono ?_;rintro _ _ ⟨rfl,rfl⟩;refine am ?_;rw [eZ2.down];refine ⟨rfl,?_,fun c y hc hy=>zx (by omega) hy,qv,Fq,fun _ h=> .inl h,hh.down.hand hw (fun c y hc hy=>zx (Ne.symm hc) hy) (zaU hd) hb2'.down⟩;rw [List.length_set];exact Nat.le_refl _
 have d3:((x.pc:Int)=3)=False:=eq_false (by omega)
 by_cases p4:x.pc=4
 ·have d4:((x.pc:Int)=4)=True:=eq_true (by omega)
  have es:Z=if X.mw (x.to/2/64)=x.seen then ({ X with mw:=za7 X.mw (x.to/2) true,hs:=X.hs.set w { x with pc:=5,seen:=0 } },4,0) else (X.sh w { x with pc:=3,seen:=0 },5,0):=by
   rw [<-eZ'.down];unfold zm;rw [ex'.down,if_neg p0,if_neg p1,if_neg p2,if_neg p3,if_pos p4]
  have es':=zU es;have SS:=ztv (x:=x) (n:=X.hs.length) hP hm hwk.down hd hP1 hP4 hP3 hw (by rw [<-ex'.down]) t1 t3;have SS':=zU SS;clear p0 p1 p2 p3 p4 es SS obj a1 a2 a3 a4 a5 a6 a7 a8 a9 b1 b2 b3 b4;refine fn rfl ?_;refine SS'.down.mono ?_;rintro _ M' (⟨he,rfl,q1,q2,q3⟩|⟨he,rfl,rfl⟩)
  ·have eZ2:PLift (Z=({ X with mw:=za7 X.mw (x.to/2) true,hs:=X.hs.set w { x with pc:=5,seen:=0 } },4,0)):=⟨by rw [es'.down,if_pos he]⟩
   have hb2:=hb'.down;rw [eZ2.down] at hb2;have h:=hh.down;have fin:PLift (zgy lo M' P aw uw sv qv bm bh cm ch em eh Fh Fq { X with mw:=za7 X.mw (x.to/2) true,hs:=X.hs.set w { x with pc:=5,seen:=0 } }):=⟨by
    have el:(X.hs.set w { x with pc:=5,seen:=0 }).length=X.hs.length:=List.length_set;refine h.upd rfl (fun c y _ h2 h3 hy=>(q3 c h2 h3).trans hy) ?_ q1 ?_ (h.o.q.to fun c y hc hy=>(q3 c (fun e=>h.o.f.2.2.1 (e▸hc)) (fun e=>h.o.f.2.2.2 (e▸hc))).trans hy) ⟨h.o.f.2.2.1,h.o.f.2.2.2,h.n.2.2.2.1,fun b hb=>h.o.fl b (.inr hb)⟩ h.o.c.2.2.2 h.o.b.2.2.2 hb2
    ·show M'[P]? =some (.cells true [[aw,.int .i64 X.H.us.N,uw,sv,slM X bm cm em,qv,.slice bh 0 (X.hs.set w _).length ch eh 7]])
     rw [el];exact (q3 P h.n.1 h.n.2.1).trans hP
    ·show M'[bh]? =some (.cells true (zJ (X.hs.set w _).length fun i=>zH (hat (X.hs.set w _) i)))
     rw [el,q2,zky hw]⟩
   have fr:PLift (∀c y,(c≠P/\c≠bm/\c≠bh)->M[c]? =some y->M'[c]? =some y):=⟨fun c y hc hy=>(q3 c (by omega) (by omega)).trans hy⟩
   have ql:PLift (M.length<=M'.length):=⟨by
    apply Classical.byContradiction;intro hn;have h1:M'.length<M.length:=by omega
    have l1:=(List.getElem?_eq_some_iff.1 q1).1;have l2:=(List.getElem?_eq_some_iff.1 q2).1;have h2:(M'.length)≠bm/\M'.length≠bh:=by omega
    have h3:=q3 M'.length h2.1 h2.2;rw [List.getElem?_eq_none (Nat.le_refl _),List.getElem?_eq_getElem h1] at h3;cases h3⟩
   clear q1 q2 q3 he hb2 h;refine am ?_;rw [eZ2.down];exact ⟨rfl,ql.down,fr.down,qv,Fq,fun _ h=> .inl h,fin.down⟩
  ·have eZ2:PLift (Z=(X.sh w { x with pc:=3,seen:=0 },5,0)):=⟨by rw [es'.down,if_neg he]⟩
   have hb2:=hb'.down;rw [eZ2.down] at hb2;have hb2':=zU hb2;clear he hb2;refine am ?_;rw [eZ2.down];refine ⟨rfl,?_,fun c y hc hy=>zx (by omega) hy,qv,Fq,fun _ h=> .inl h,hh.down.hand hw (fun c y hc hy=>zx (Ne.symm hc) hy) (zaU hd) hb2'.down⟩;rw [List.length_set];exact Nat.le_refl _
 have d4:((x.pc:Int)=4)=False:=eq_false (by omega);have es:Z=({ X with qs:=if (zaT X.qs w x.to).2=0 then (zaT X.qs w x.to).1 else X.qs,hs:=X.hs.set w (behind x) },1,0):=by
  rw [<-eZ'.down];unfold zm;rw [ex'.down,if_neg p0,if_neg p1,if_neg p2,if_neg p3,if_neg p4]
 have hs0:x.seen=0:=by omega
 have es':=zU es;have PU:=znR (w:=w) (a:=x.to) hP hq'.down (by omega) ⟨c1,rfl,c2,c3,rfl,rfl⟩;have PU':=zU PU;have ebh:PLift (behind x={ x with pc:=2,f:=x.f+1,to:=0 }):=⟨by rw [behind,hs0]⟩
 have a6':=a6;clear p0 p1 p2 p3 p4 es PU obj a1 a2 a3 a4 a5 a7 a8 a9 b1 b2 b3 b4 hs0;refine fn rfl ?_;refine PU'.down.mono ?_;rintro _ M' (⟨he,hg⟩|⟨he,v',vc,vb,q1,q2,q4,q5⟩)
 ·have eZ2:PLift (Z=(X.sh w (behind x),1,0)):=⟨by rw [es'.down,if_neg he];rfl⟩
  have hb2:=hb'.down;rw [eZ2.down] at hb2;have hb2':=zU hb2;obtain ⟨g,rfl⟩:=hg;have PS:=zk7 (M:=M++g) (n:=X.hs.length) (x:=x) (f:=fun i=>zH (hat X.hs i)) (zb hd) hw (by rw [<-ex'.down]) a6' fl;have PS':=zU PS;clear he hb2 PS;refine am ?_;refine PS'.down.mono ?_;rintro _ _ rfl;refine am ?_;rw [eZ2.down];refine ⟨rfl,?_,fun c y hc hy=>zx (by omega) (zb hy),qv,Fq,fun _ h=> .inl h,hh.down.hand hw (fun c y hc hy=>zx (Ne.symm hc) (zb hy)) (by rw [zaU (zb hd),ebh.down]) hb2'.down⟩;rw [List.length_set,List.length_append];omega
 ·have eZ2:PLift (Z=({ X with qs:=(zaT X.qs w x.to).1,hs:=X.hs.set w (behind x) },1,0)):=⟨by rw [es'.down,if_pos he]⟩
  have hb2:=hb'.down;rw [eZ2.down] at hb2;have hd2:=q5 bh _ (Ne.symm hh.down.n.2.1) hd;have PS:=zk7 (M:=M') (n:=X.hs.length) (x:=x) (f:=fun i=>zH (hat X.hs i)) hd2 hw (by rw [<-ex'.down]) a6' fl;have PS':=zU PS;have h:=hh.down;have fin:PLift (zgy lo (M'.set bh (.cells true (zJ X.hs.length (up (fun i=>zH (hat X.hs i)) w (zH { x with pc:=2,f:=x.f+1,to:=0 }))))) P aw uw sv v' bm bh cm ch em eh Fh (fun b=>M.length<=b) { X with qs:=(zaT X.qs w x.to).1,hs:=X.hs.set w (behind x) }):=⟨by
   have el:(X.hs.set w (behind x)).length=X.hs.length:=List.length_set;refine h.upd rfl (fun c y h1 _ h3 hy=>zx (Ne.symm h3) (q5 c y h1 hy)) ?_ (zx (Ne.symm h.o.l.2.2) (q5 _ _ (Ne.symm h.n.1) hm)) ?_ (q1.set (by omega)) ⟨by omega,by omega,by omega,fun b hb=>by omega⟩ vc vb hb2
   ·show (M'.set bh _)[P]? =some (.cells true [[aw,.int .i64 X.H.us.N,uw,sv,slM X bm cm em,v',.slice bh 0 (X.hs.set w _).length ch eh 7]])
    rw [el];exact zx (Ne.symm h.n.2.1) q2
   ·show (M'.set bh _)[bh]? =some (.cells true (zJ (X.hs.set w _).length fun i=>zH (hat (X.hs.set w _) i)))
    rw [el,zaU hd2,<-ebh.down,zky hw]⟩
  have fr:PLift (∀c y,(c≠P/\c≠bm/\c≠bh)->M[c]? =some y->(M'.set bh (.cells true (zJ X.hs.length (up (fun i=>zH (hat X.hs i)) w (zH { x with pc:=2,f:=x.f+1,to:=0 })))))[c]? =some y):=⟨fun c y hc hy=>zx (by omega) (q5 c y (by omega) hy)⟩
  have hd2':=zU hd2;clear q1 q5 he hb2 PS h hd2;have q2':=hd2'.down;refine am ?_;refine PS'.down.mono ?_;rintro _ _ rfl;refine am ?_;rw [eZ2.down];refine ⟨rfl,by rw [List.length_set];exact q4,fr.down,v',_,fun _ h=> .inr h,fin.down⟩
theorem MiO.upd {lo:Nat}{M M2:Mem} {aw uw sv qv qv':V}{bm bh cm ch:Nat}{em eh:Bool}{Fh Fq Fq':Nat->Prop}{X X':MiA}(h:MiO lo M aw uw sv qv bm bh cm ch em eh Fh Fq X) (eH:X'.H=X.H)
  (k: ∀c y,c≠bm->c≠bh->M[c]? =some y->M2[c]? =some y) (hm:M2[bm]? =some (.cells true (zJ X'.nm (zG X'.mw)))) (hd:M2[bh]? =some (.cells true (zJ X'.hs.length fun i=>zH (hat X'.hs i))))
  (q:Loc Fq' M2 (fun M=>Qs M qv' X'.qs)) (fq:¬ Fq' bm/\¬ Fq' bh/\ ∀b,Fq' b->lo<=b) (cq:qv'.isCell=true) (bq:V.beq qv' qv'=true) (wb:MiB X'):MiO lo M2 aw uw sv qv' bm bh cm ch em eh Fh Fq' X':=by
 refine ⟨?_,q,hm,hd,h.l,⟨h.f.1,h.f.2.1,fq.1,fq.2.1⟩,fun b hb=> ?_,⟨h.c.1,h.c.2.1,h.c.2.2.1,cq⟩,⟨h.b.1,h.b.2.1,h.b.2.2.1,bq⟩,wb⟩
 ·rw [eH]
  exact h.h.to fun c y hc hy=>k c y (fun e=>h.f.1 (e▸hc)) (fun e=>h.f.2.1 (e▸hc)) hy
 ·rcases hb with hb|hb
  ·exact h.fl b (.inl hb)
  ·exact fq.2.2 b hb
end Go.AM.G
