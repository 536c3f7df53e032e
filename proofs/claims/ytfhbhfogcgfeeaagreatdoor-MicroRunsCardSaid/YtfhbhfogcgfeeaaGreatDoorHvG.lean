import Derived.Test.YtfhbhfogcgfeeaaGreatDoorHvE
set_option linter.unusedVariables false
set_option linter.unusedSimpArgs false
set_option maxRecDepth 100000
namespace Go.AM.G
open Go Go.AM
theorem zmI {M G:Mem}{bh:Nat}{Y Z:Blk}: ∀c y,c≠bh->M[c]? =some y->(((M++G).set bh Y).set (M.length+1) Z)[c]? =some y:=fun c y hc hy=>zi (by have:=(List.getElem?_eq_some_iff.1 hy).1;omega) (zi (Ne.symm hc) (zb hy))
theorem MiO.hand {lo:Nat}{M M2:Mem}{aw uw sv qv:V}{bm bh cm ch:Nat}{em eh:Bool}{Fh Fq:Nat->Prop}{X:MiA}(h:MiO lo M aw uw sv qv bm bh cm ch em eh Fh Fq X){w:Nat}{y:zY}(hw:w<X.hs.length) (k: ∀c y,c≠bh->M[c]? =some y->M2[c]? =some y) (hd:M2[bh]? =some (.cells true (zG X.hs.length (up (fun i=>zt (hat X.hs i)) w (zt y))))) (wb:MiB (X.sh w y)):MiO lo M2 aw uw sv qv bm bh cm ch em eh Fh Fq (X.sh w y):=by
 have el:(X.hs.set w y).length=X.hs.length:=List.length_set;refine h.upd rfl (fun c y _ hc hy=>k c y hc hy) (k _ _ h.l.2.2 h.m) ?_ (h.q.to fun c y hc hy=>k c y (fun e=>h.f.2.2.2 (e▸hc)) hy) ⟨h.f.2.2.1,h.f.2.2.2,fun b hb=>h.fl b (.inr hb)⟩ h.c.2.2.2 h.b.2.2.2 wb;show M2[bh]? =some (.cells true (zG (X.hs.set w y).length fun i=>zt (hat (X.hs.set w y) i)));rw [el,hd,zft hw]
def zBa (lo:Nat) (M:Mem) (aw uw sv:V) (bm bh cm ch:Nat) (em eh:Bool) (Fh Fq:Nat->Prop) (N n nh:Int) (Z:MiA×Nat×Int) (r:V) (M':Mem):Prop:=M.length<=M'.length/\(∀c y,(c≠bm/\c≠bh)->M[c]? =some y->M'[c]? =some y)/\ ∃qv' Fq',(∀b,Fq' b->Fq b\/M.length<=b)/\r= .tup [.agg [aw,.int .i64 N,uw,sv,.slice bm 0 n.toNat cm em 1,qv',.slice bh 0 nh.toNat ch eh 7],.int .u8 (Z.2.1:Nat),.int .i64 Z.2.2]/\MiO lo M' aw uw sv qv' bm bh cm ch em eh Fh Fq' Z.1
set_option maxHeartbeats 1000000 in
theorem zwo {lo:Nat}{M:Mem}{aw uw sv qv:V}{bm bh cm ch:Nat}{em eh:Bool}{Fh Fq:Nat->Prop}{X:MiA}(h:MiO lo M aw uw sv qv bm bh cm ch em eh Fh Fq X) (hok:X.ok) (hlo:lo<=M.length){w:Nat}(hw:w<X.hs.length):
  C S zkp [.agg (miV X aw uw sv (slM X bm cm em) qv (slH X bh ch eh)),.int .i64 (w:Nat)] M (fun r M'=>zBa lo M aw uw sv bm bh cm ch em eh Fh Fq X.H.us.N X.nm X.hs.length (zB X w) r M'):=by
 have hm:=h.m;have hd:=h.d;obtain ⟨c1,c2,c3,c4⟩:=h.c;obtain ⟨va,vm,hrd⟩:=h.h.at;obtain ⟨k1,k2,k3,k4,k5⟩:=zk0 hok hrd.wa h.w.wk hw;have hx:=hok.2.2.2.2.2.2.2 w hw;have hb:=zyw k1 (by rw [k4];exact k2);have hh:=zU h;have hql:=h.w.lq;have hq:=h.q.at;obtain ⟨x,ex⟩: ∃x,hat X.hs w=x:=⟨_,rfl⟩
 rw [ex] at hx;have hf:(fun i=>zt (hat X.hs i)) w=zt x:=by rw [<-ex]
 have hP3:(bm=bh)=False:=eq_false h.l.2.2;have hP4:(bh=bm)=False:=eq_false (Ne.symm h.l.2.2);have lbm:=(List.getElem?_eq_some_iff.1 hm).1;have lbh:=(List.getElem?_eq_some_iff.1 hd).1;have n0:(bh=M.length)=False:=eq_false (by omega);have n1:(bh=M.length+1)=False:=eq_false (by omega);have n2:(bh=M.length+2)=False:=eq_false (by omega);have n3:(M.length+1=bh)=False:=eq_false (by omega);have hl:=h.l;have ix:= @zaL bh 0 X.hs.length ch w 7 eh .i64 hw;have i1:=fun (k':Option Nat) (o:Nat) (own:Bool)=> @zex X.hs.length w o (fun i=>zt (hat X.hs i)) (zt x) own k' hw hf
 have i2:=fun (z o:Nat) (y:V)=> @zbE X.hs.length w z o (fun i=>zt (hat X.hs i)) (zt x) y hw hf
 have g1:= @zx;have g2:= @zaX;have ex':=zU ex;have hx':=zU hx;have hok':=zU hok;have hb':=zU hb;have hrd':=zU hrd;have hq':=zU hq;have hwk:=zU h.w.wk;obtain ⟨Z,eZ⟩: ∃Z,zB X w=Z:=⟨_,rfl⟩
 rw [eZ] at hb' ⊢;have eZ':=zU eZ;clear hx hok hb hrd hq h ex hf k1 k2 k3 k4 k5 eZ;obtain ⟨T,eT⟩: ∃T,zBa lo M aw uw sv bm bh cm ch em eh Fh Fq X.H.us.N X.nm X.hs.length Z=T:=⟨_,rfl⟩
 have hT:PLift (∀r M',T r M'↔M.length<=M'.length/\(∀c y,(c≠bm/\c≠bh)->M[c]? =some y->M'[c]? =some y)/\ ∃qv' Fq',(∀b,Fq' b->Fq b\/M.length<=b)/\r= .tup [.agg [aw,.int .i64 X.H.us.N,uw,sv,.slice bm 0 X.nm cm em 1,qv',.slice bh 0 X.hs.length ch eh 7],.int .u8 (Z.2.1:Nat),.int .i64 Z.2.2]/\MiO lo M' aw uw sv qv' bm bh cm ch em eh Fh Fq' Z.1):=⟨fun r M'=>by rw [<-eT];rfl⟩
 rw [eT];clear eT;have hand:PLift (∀G Y Z0 y (k:Nat),Y=Blk.cells true (zG X.hs.length (up (fun i=>zt (hat X.hs i)) w (zt y)))->Z.1=X.sh w y->Z.2.1=k->Z.2.2=0->T (.tup [.agg [aw,.int .i64 X.H.us.N,uw,sv,.slice bm 0 X.nm cm em 1,qv,.slice bh 0 X.hs.length ch eh 7],.int .u8 (k:Nat),.int .i64 0]) (((M++G).set bh Y).set (M.length+1) Z0)):=⟨fun G Y Z0 y k eY e1 ek e2=>by
  subst ek;rw [hT.down];have hb2:=hb'.down;rw [e1] at hb2;refine ⟨by rw [List.length_set,List.length_set,List.length_append];omega,fun c y hc hy=>zmI c y (by omega) hy,qv,Fq,fun _=> .inl,by rw [e2],?_⟩;rw [e1];exact hh.down.hand hw zmI (by rw [zi (by omega) (zZ (zb hd)),eY]) hb2⟩
 by_cases p0:x.pc=0
 ·have hx0:x=hand0:=by
   rcases hx'.down with e|e|e
   ·exact e.2
   ·omega
   ·omega
  have d0:((x.pc:Int)=0)=True:=eq_true (by omega);have es:Z=if (zaF X.qs w).2.2.2=0 then ({ X with qs:=(zaF X.qs w).1,hs:=X.hs.set w ⟨1,(zaF X.qs w).2.1,0,0,0,0,0⟩ },1,0) else (X,0,(zaF X.qs w).2.2.2):=by
   rw [<-eZ'.down];unfold zB;rw [ex'.down,if_pos p0]
  have es':=zU es;obtain ⟨vs,hqr⟩:=hq'.down;have hqr':=zU hqr;clear es p0 hx0 hqr;refine fn rfl ?_;refine (zwd (w:=(w:Int)) hqr'.down.app (by omega)).mono ?_;rintro _ _ ⟨v',qs',a,t,e,rfl,⟨g,rfl,vc,vb,hQ⟩,ep⟩;have hQ':=zU hQ;have vcc:=zae vc;rw [ep] at es';clear hQ ep
  by_cases h0:e=0
  ·subst h0
   have eZ2:PLift (Z=({ X with qs:=qs',hs:=X.hs.set w ⟨1,a,0,0,0,0,0⟩ },1,0)):=⟨by rw [es'.down,if_pos rfl]⟩
   have hb2:=hb'.down;rw [eZ2.down] at hb2;have hb2':=zU hb2;clear hb2;refine am ?_;refine into ?_;rw [hT.down,eZ2.down];refine ⟨by rw [List.length_set,List.length_set,List.length_append];omega,fun c y hc hy=>zmI c y (by omega) hy,v',(fun b=>M.length<=b),fun _=> .inr,rfl,?_⟩;have h:=hh.down;have el:(X.hs.set w ⟨1,a,0,0,0,0,0⟩).length=X.hs.length:=List.length_set;refine h.upd rfl (fun c y _ h3 hy=>zmI c y h3 hy) (zmI _ _ hl.2.2 hm) ?_ ?_ ⟨by omega,by omega,fun b hb=>by omega⟩ vc vb hb2'.down
   ·refine Eq.trans (zi (by omega) (zZ (zb hd))) ?_
    show some (Blk.cells true _)=some (Blk.cells true (zG (X.hs.set w ⟨1,a,0,0,0,0,0⟩).length fun i=>zt (hat (X.hs.set w ⟨1,a,0,0,0,0,0⟩) i)));rw [el,<-zft hw];rfl
   ·have hA:AtM (List.length (M++[Blk.cells true [[aw,.int .i64 X.H.us.N,uw,sv,slM X bm cm em,qv,slH X bh ch eh]],Blk.cells true [[V.nils,Q.i64 0,V.nils,V.nils,V.nils,V.nils,V.nils]],Blk.cells true [zt x]])) g (M++
      Blk.cells true [[aw,V.int IntKind.i64 X.H.us.N,uw,sv,slM X bm cm em,v',slH X bh ch eh]]::
       Blk.cells true [[V.nils,Q.i64 0,V.nils,V.nils,V.nils,V.nils,V.nils]]::
        Blk.cells true [[V.int IntKind.u8 1,V.int IntKind.u64 a,Q.i64 0,Q.u64 0,Q.i64 0,Q.u64 0,Q.u64 0]]::(g++[Blk.cells true [[v']]])):=(AtM.left (A:=M) (.drop (.drop (.drop (AtM.hereA (g:=g)))))).cst (by simp)
    refine (hQ'.down.loc ((hA.set (.inl (by rw [List.length_append];omega))).set (.inl (by simp)))).mono fun b hb=> ?_
    have:=hb.1;rw [List.length_append] at this;omega
  ·have c0:(e=0)=False:=eq_false h0
   have eZ2:PLift (Z=(X,0,e)):=⟨by rw [es'.down,if_neg h0]⟩
   clear h0 es';refine am ?_;rw [hT.down,eZ2.down];refine ⟨by simp,fun c y hc hy=>zb hy,qv,Fq,fun _=> .inl,rfl,hh.down.grow⟩
 have d0:((x.pc:Int)=0)=False:=eq_false (by omega);have obj:x.obj∈X.H.cs:=by
  rcases hx'.down with e|e|e
  ·exact absurd e.1 p0
  ·exact e.2.1
  ·exact e.2.2.1
 obtain ⟨z0,z1,z2,z3⟩:=zpB hok'.down.1 hrd'.down.wa obj;have z2':=zU z2;clear z2 z3
 by_cases p1:x.pc=1
 ·have d1:((x.pc:Int)=1)=True:=eq_true (by omega)
  have eZ2:PLift (Z=(X.sh w { x with pc:=2,N:=(X.H.a x.obj%256:Nat),M:=unM (X.H.a x.obj) },2,0)):=⟨by
   rw [<-eZ'.down];unfold zB;rw [ex'.down,if_neg p0,if_pos p1]⟩
  have za:=zrJ hok'.down.1 hrd'.down.wa obj;have AT:=fun g=>zik (m:=M++g) (hrd'.down.app) (a:=x.obj)
  have zat:PLift (∀r,atR X.H x.obj r->r= .tup [.agg [.int .i64 (X.H.a x.obj%256:Nat),.int .u64 (unM (X.H.a x.obj):Nat)],.int .i64 0]):=⟨fun r hr=>by
   rcases hr with ⟨_,e⟩|⟨hn,_⟩
   ·rw [e,za]
   ·exact absurd hok'.down.1 hn⟩
  have AT':=zU AT;clear p0 p1 za AT obj;refine fn rfl ?_;refine (AT'.down _).mono ?_;rintro r _ ⟨hr,⟨g,rfl⟩⟩;rw [zat.down r hr];clear hr r;refine am ?_;refine into ?_;exact hand.down _ _ _ { x with pc:=2,N:=(X.H.a x.obj%256:Nat),M:=unM (X.H.a x.obj) } 2 rfl (by rw [eZ2.down]) (by rw [eZ2.down]) (by rw [eZ2.down])
 have d1:((x.pc:Int)=1)=False:=eq_false (by omega);obtain ⟨a1,a2,a3,a4,a5,a6,a7,a8,a9⟩:=ze3 hx'.down p0 p1
 by_cases p2:x.pc=2
 ·have d2:((x.pc:Int)=2)=True:=eq_true (by omega)
  have eZ2:PLift (Z=(X.sh w (zbF X.H x).1,(zbF X.H x).2,0)):=⟨by
   rw [<-eZ'.down];unfold zB zbF;rw [ex'.down,if_neg p0,if_neg p1,if_pos p2];cases zdF x.M x.N.toNat x.f.toNat with
   |none=>rfl
   |some g=>
    dsimp only
    split<;>rfl⟩
  have FS:=fun g=>zwn (M:=M++g) (c1:= .int .i64 X.H.us.N) (c2:=uw) (c3:=sv) (c4:=slM X bm cm em) (c5:=qv) (c6:=slH X bh ch eh) (hrd'.down.a.app) a4 a5 z2'.down a6 a7 z1 (hok'.down.1.1.na).2 ⟨rfl,c2,c3,rfl,c4,rfl⟩
  have FS':=zU FS;clear p0 p1 p2 FS obj a1 a2 a3 a4 a5 a6 a7 a8 a9;refine fn rfl ?_;refine (FS'.down _).mono ?_;rintro _ _ ⟨rfl,⟨g,rfl⟩⟩;refine am ?_;refine into ?_;exact hand.down _ _ _ (zbF X.H x).1 (zbF X.H x).2 rfl (by rw [eZ2.down]) (by rw [eZ2.down]) (by rw [eZ2.down])
 have d2:((x.pc:Int)=2)=False:=eq_false (by omega);obtain ⟨b1,b2,b3,b4⟩:x.pc≠2/\x.f<x.N/\x.M.testBit x.f.toNat=true/\x.to∈X.H.cs:=by
  rcases a9 with a9|a9
  ·exact absurd a9.1 p2
  ·exact a9
 obtain ⟨t1,t2⟩:=zdt hok'.down.1 hrd'.down.wa b4;have t3:x.to/2/64<X.nm:=by rw [hok'.down.2.2.2.1];exact t2
 have fl:x.f<=1000:=by have:=z2'.down.2.1;omega
 have q1:=zAQ (a:=x.to);have w1:=un' (a:=x.to/2/64) (by omega);have j1:=fun (k':Option Nat) (o:Nat) (own:Bool)=> @zaQ X.nm (x.to/2/64) (zz X.mw) own k' o t3
 have jx:= @zaL bm 0 X.nm cm (x.to/2/64) 1 em .u64 t3;have BH:=fun g=>ztd (m:=M++g) (x:=x) a6 fl
 have BH':=zU BH;have hmr:Rd M (slM X bm cm em) 1 X.nm (zz X.mw):=by
  refine .inl ?_;have:=Sl.mk (cap:=cm) (z:=1) (ex:=em) hm;rw [List.length_map,List.length_range] at this;exact this
 have BL:=fun g=>zmH (M:=M++g) (c0:=aw) (c1:= .int .i64 X.H.us.N) (c2:=uw) (c3:=sv) (c5:=qv) (c6:=slH X bh ch eh) (hmr.app) hwk.down t1 t3 ⟨c1,rfl,c2,c3,c4,rfl⟩
 have BL':=zU BL;clear BH BL hmr
 by_cases p3:x.pc=3
 ·have d3:((x.pc:Int)=3)=True:=eq_true (by omega)
  have eZ2:PLift (Z=(X.sh w (if bit X.mw (x.to/2)=true then behind x else { x with pc:=4,seen:=X.mw (x.to/2/64) }),3,0)):=⟨by
   rw [<-eZ'.down];unfold zB;rw [ex'.down,if_neg p0,if_neg p1,if_neg p2,if_pos p3]
   split<;>rfl⟩
  clear p0 p1 p2 p3 obj a1 a2 a3 a4 a5 a6 a7 a8 a9 b1 b2 b3 b4;refine fn rfl ?_;refine (BL'.down _).mono ?_;rintro _ _ ⟨rfl,⟨g,rfl⟩⟩;cases hb:bit X.mw (x.to/2) with
  |true=>
   rw [hb,if_pos rfl] at eZ2;clear hb;refine am ?_;refine (BH'.down _).mono ?_;rintro _ _ ⟨rfl,⟨g5,rfl⟩⟩;refine am ?_;refine into ?_;exact hand.down _ _ _ (behind x) 3 rfl (by rw [eZ2.down]) (by rw [eZ2.down]) (by rw [eZ2.down])
  |false=>
   rw [hb,if_neg (by decide)] at eZ2;clear hb;refine am ?_;refine into ?_;exact hand.down _ _ _ { x with pc:=4,seen:=X.mw (x.to/2/64) } 3 rfl (by rw [eZ2.down]) (by rw [eZ2.down]) (by rw [eZ2.down])
 have d3:((x.pc:Int)=3)=False:=eq_false (by omega)
 by_cases p4:x.pc=4
 ·have d4:((x.pc:Int)=4)=True:=eq_true (by omega)
  have es:Z=if X.mw (x.to/2/64)=x.seen then ({ X with mw:=zbi X.mw (x.to/2) true,hs:=X.hs.set w { x with pc:=5,seen:=0 } },4,0) else (X.sh w { x with pc:=3,seen:=0 },5,0):=by
   rw [<-eZ'.down];unfold zB;rw [ex'.down,if_neg p0,if_neg p1,if_neg p2,if_neg p3,if_pos p4]
  clear p0 p1 p2 p3 p4 obj a1 a2 a3 a4 a5 a6 a7 a8 a9 b1 b2 b3 b4
  by_cases he:X.mw (x.to/2/64)=x.seen
  ·have e:((X.mw (x.to/2/64):Int)=(x.seen:Int))=True:=eq_true (by omega)
   have eZ2:PLift (Z=({ X with mw:=zbi X.mw (x.to/2) true,hs:=X.hs.set w { x with pc:=5,seen:=0 } },4,0)):=⟨by rw [es,if_pos he]⟩
   have hb2:=hb'.down;rw [eZ2.down] at hb2;have hb2':=zU hb2;have RM:=fun g=>zk1 (M:=M++g) (cap:=cm) (ex:=em) (c0:=aw) (c1:= .int .i64 X.H.us.N) (c2:=uw) (c3:=sv) (c5:=qv) (c6:=slH X bh ch eh) (a:=x.to) (zb hm) hwk.down t1 t3 ⟨c1,rfl,c2,c3,c4,rfl⟩
   have RM':=zU RM;clear he es hb2 RM;refine fn rfl ?_;refine (RM'.down _).mono ?_;rintro _ M' ⟨rfl,r1,r2,r3⟩;have s0:=r3 M.length _ (by omega) (by rw [zM];rfl);have s1:=r3 (M.length+1) _ (by omega) (by rw [zh];rfl);have s2:=r3 (M.length+2) _ (by omega) (by rw [zh];rfl);have s3:=r3 bh _ (Ne.symm hl.2.2) (zb hd);have u1:(M.length+2=M.length)=False:=eq_false (by omega);have u2:(M.length+2=M.length+1)=False:=eq_false (by omega);have u3:(M.length=M.length+2)=False:=eq_false (by omega);have u4:(M.length=bh)=False:=eq_false (by omega);have u5:(M.length+2=bh)=False:=eq_false (by omega);have u6:(M.length=M.length+1)=False:=eq_false (by omega);have g3:= @set_set;have r1':=zU r1;have r2':=zU r2;have r3':=zU r3;clear r1 r2 r3;refine am ?_;refine into ?_;have k9: ∀A B D E,∀c y,c≠bm->c≠bh->M[c]? =some y->((((M'.set M.length A).set (M.length+2) B).set bh D).set (M.length+1) E)[c]? =some y:=fun A B D E c y h1 h2 hy=>by
    have:=(List.getElem?_eq_some_iff.1 hy).1;exact zi (by omega) (zi (Ne.symm h2) (zi (by omega) (zi (by omega) (r3'.down c y h1 (zb hy)))))
   rw [hT.down,eZ2.down];have ml:=r2'.down;rw [List.length_append] at ml;refine ⟨by rw [List.length_set,List.length_set,List.length_set,List.length_set];omega,fun c y hc hy=>k9 _ _ _ _ c y (by omega) (by omega) hy,qv,Fq,fun _=> .inl,rfl,?_⟩;have h:=hh.down;have el:(X.hs.set w { x with pc:=5,seen:=0 }).length=X.hs.length:=List.length_set;refine h.upd rfl (k9 _ _ _ _) ?_ ?_ (h.q.to fun c y hc hy=>k9 _ _ _ _ c y (fun e=>h.f.2.2.1 (e▸hc)) (fun e=>h.f.2.2.2 (e▸hc)) hy) ⟨h.f.2.2.1,h.f.2.2.2,fun b hb=>h.fl b (.inr hb)⟩ h.c.2.2.2 h.b.2.2.2 hb2'.down
   ·exact zi (by omega) (zi (Ne.symm hl.2.2) (zi (by omega) (zi (by omega) r1'.down)))
   ·refine Eq.trans (zi (by omega) (zZ (zi (by omega) (zi (by omega) s3)))) ?_
    show some (Blk.cells true _)=some (Blk.cells true (zG (X.hs.set w { x with pc:=5,seen:=0 }).length fun i=>zt (hat (X.hs.set w { x with pc:=5,seen:=0 }) i)));rw [el,<-zft hw];rfl
  ·have e:((X.mw (x.to/2/64):Int)=(x.seen:Int))=False:=eq_false (by omega)
   have eZ2:PLift (Z=(X.sh w { x with pc:=3,seen:=0 },5,0)):=⟨by rw [es,if_neg he]⟩
   clear he es;refine fn rfl ?_;refine into ?_;exact hand.down _ _ _ { x with pc:=3,seen:=0 } 5 rfl (by rw [eZ2.down]) (by rw [eZ2.down]) (by rw [eZ2.down])
 have d4:((x.pc:Int)=4)=False:=eq_false (by omega);have es:Z=({ X with qs:=if (zaE X.qs w x.to).2=0 then (zaE X.qs w x.to).1 else X.qs,hs:=X.hs.set w (behind x) },1,0):=by
  rw [<-eZ'.down];unfold zB;rw [ex'.down,if_neg p0,if_neg p1,if_neg p2,if_neg p3,if_neg p4]
 have es':=zU es;obtain ⟨vs,hqr⟩:=hq'.down;have hqr':=zU hqr;clear p0 p1 p2 p3 p4 es obj a1 a2 a3 a4 a5 a6 a7 a8 a9 b1 b2 b3 b4 hqr;refine fn rfl ?_;have hr:Nus (M++[Blk.cells true [[aw,V.int IntKind.i64 X.H.us.N,uw,sv,slM X bm cm em,qv,slH X bh ch eh]],Blk.cells true [[V.nils,Q.i64 0,V.nils,V.nils,V.nils,V.nils,V.nils]],Blk.cells true [zt x],Blk.cells true [[V.int .u64 (x.to:Int)]]]) (.slice (M.length+3) 0 1 1 true 1) [x.to]:=by
  refine Nus.of ?_;exact Sl.mk (els:=[[.int .u64 (x.to:Nat)]]) (own:=true) (by rw [zh];rfl)
 refine (zmE (w:=(w:Int)) hqr'.down.app (by omega) hr).mono ?_;clear hr;rintro _ _ ⟨v',qs',e,rfl,⟨g,rfl,vc,vb,hQ⟩,ep⟩;have hQ':=zU hQ;have vcc:=zae vc;rw [ep] at es';clear hQ ep
 by_cases h0:e=0
 ·subst h0
  have eZ2:PLift (Z=({ X with qs:=qs',hs:=X.hs.set w (behind x) },1,0)):=⟨by rw [es'.down,if_pos rfl]⟩
  have hb2:=hb'.down;rw [eZ2.down] at hb2;have hb2':=zU hb2;clear hb2 es';refine am ?_;refine into ?_;refine (BH'.down _).mono ?_;rintro _ _ ⟨rfl,⟨g5,rfl⟩⟩;refine am ?_;refine into ?_;rw [hT.down,eZ2.down];refine ⟨by rw [List.length_set,List.length_set,List.length_append];omega,fun c y hc hy=>zmI c y (by omega) hy,v',(fun b=>M.length<=b),fun _=> .inr,rfl,?_⟩;have h:=hh.down;have el:(X.hs.set w (behind x)).length=X.hs.length:=List.length_set;refine h.upd rfl (fun c y _ h3 hy=>zmI c y h3 hy) (zmI _ _ hl.2.2 hm) ?_ ?_ ⟨by omega,by omega,fun b hb=>by omega⟩ vc vb hb2'.down
  ·refine Eq.trans (zi (by omega) (zZ (zb hd))) ?_
   show some (Blk.cells true _)=some (Blk.cells true (zG (X.hs.set w (behind x)).length fun i=>zt (hat (X.hs.set w (behind x)) i)));rw [el,<-zft hw]
  ·have hA: ∀x1 x2 x3 x4 G,AtM (List.length (M++[Blk.cells true [[aw,V.int IntKind.i64 X.H.us.N,uw,sv,slM X bm cm em,qv,slH X bh ch eh]],Blk.cells true [[V.nils,Q.i64 0,V.nils,V.nils,V.nils,V.nils,V.nils]],Blk.cells true [zt x],Blk.cells true [[V.int .u64 (x.to:Int)]]])) g (M++x1::x2::x3::x4::(g++G)):=fun x1 x2 x3 x4 G=>(AtM.left (A:=M) (.drop (.drop (.drop (.drop (AtM.hereA (g:=g))))))).cst (by simp)
   refine (hQ'.down.loc (((hA _ _ _ _ _).set (.inl (by rw [List.length_append];omega))).set (.inl (by simp)))).mono fun b hb=> ?_
   have:=hb.1;rw [List.length_append] at this;omega
 ·have c0:(e=0)=False:=eq_false h0
  have eZ2:PLift (Z=(X.sh w (behind x),1,0)):=⟨by rw [es'.down,if_neg h0];rfl⟩
  clear h0 es';refine am ?_;refine into ?_;refine (BH'.down _).mono ?_;rintro _ _ ⟨rfl,⟨g5,rfl⟩⟩;refine am ?_;refine into ?_;exact hand.down _ _ _ (behind x) 1 rfl (by rw [eZ2.down]) (by rw [eZ2.down]) (by rw [eZ2.down])
def zBb (m:Mem) (c:V) (l:List Nat) (p:Nat->Bool):Prop:= ∀g x,x∈l->CV S c [.int .u64 (x:Nat)] (m++g) (fun r m'=>r= .bool (p x)/\Grow (m++g) m')
def zcp (p:Nat->Bool) (l:List Nat):List Nat:=l.filter fun x=> !p x
theorem zu9 {l:List Nat}:zH l=(List.range l.length).map fun i=>[V.int .u64 (nx l i:Nat)]:=by
 refine List.ext_getElem (by simp) fun i h1 h2=> ?_
 have h:i<l.length:=by simpa using h1
 simp [nx,List.getD_eq_getElem?_getD,h]
theorem zz8 {len:Nat}{g:Mem}{v:V}{z:Nat}{els:List (List V)}(h:Gw len g v z els):(v= .nils/\els=[])\/ ∃P R,g=P++ .cells true els::R/\v= .slice (len+P.length) 0 els.length els.length false z:=by
 rcases h with h|⟨j,rfl,hj⟩
 ·exact .inl h
 ·obtain ⟨hb,e⟩:=List.getElem?_eq_some_iff.1 hj
  refine .inr ⟨g.take j,g.drop (j+1),?_,?_⟩
  ·rw [<-e,List.getElem_cons_drop,List.take_append_drop]
  ·rw [List.length_take,Nat.min_eq_left (by omega)]
theorem zpI {p:Nat->Bool}{l:List Nat}{j:Nat}(h:j<l.length):zcp p (l.take (j+1))=zcp p (l.take j)++if p (nx l j)=true then [] else [nx l j]:=by
 unfold zcp;rw [List.take_add_one,zh9 h,List.filter_append]
 congr 1
 by_cases e:p (nx l j)=true
 ·rw [if_pos e];simp [e]
 ·rw [if_neg e];simp [e]
theorem zpJ {m g0:Mem}{v c:V}{l:List Nat}{p:Nat->Bool}(hv:Gw m.length g0 v 1 (zH l)) (hl:l.length<4611686018427387904) (hc:zBb m c l p):C S zce [v,c] (m++g0) (fun r m'=> ∃g,m'=m++g/\Ps m.length g (fun M=>Sl M r 1 (zH (zcp p l)))):=by
 have hc':=zU hc;have hv':=zU hv;have A0:Rd (m++g0) v 1 l.length (fun i=>[.int .u64 (nx l i:Nat)]):= .inl (by have:=hv.ps.on (M:=m++g0);rwa [zu9] at this);obtain ⟨Q,hQ⟩: ∃Q:V->Mem->Prop,Q=fun r m'=> ∃g,m'=m++g/\Ps m.length g (fun M=>Sl M r 1 (zH (zcp p l))):=⟨_,rfl⟩
 rw [<-hQ];have hQ':=zU hQ;clear hc hv hQ;refine fn rfl ?_;refine (zjh (arg:=fun i=> .int .u64 (nx l i:Nat)) (p:=fun i=>p (nx l i)) A0 (fun i hi=>rfl) hl (fun g i hi=>by rw [List.append_assoc];exact hc'.down _ _ (za4 hi))).mono ?_;rintro _ _ ⟨⟨g1,rfl⟩,⟨rfl,hn⟩|⟨i,hi,rfl,hp,hj⟩⟩
 ·have e:zcp p l=l:=List.filter_eq_self.2 fun x hx=>by obtain ⟨i,hi,rfl⟩:=zd4 hx;rw [hn i hi];rfl
  have done:PLift (Q v (m++(g0++g1))):=⟨by rw [hQ'.down];exact ⟨_,rfl,by rw [e];exact Ps.to hv'.down.ps⟩⟩
  clear hn e;refine am ?_;exact done.down
 rcases zz8 hv'.down with ⟨rfl,he⟩|⟨P,R,rfl,rfl⟩
 ·have:l=[]:=by simpa using he
  subst this;exact absurd hi (Nat.not_lt_zero _)
 obtain ⟨cap,ecap⟩: ∃cap,cap=l.length:=⟨_,rfl⟩
 rw [show (zH l).length=l.length by simp];rw [show V.slice (m.length+P.length) 0 l.length l.length false 1=V.slice (m.length+P.length) 0 l.length cap false 1 by rw [ecap]];have hlc:l.length<=cap:=by omega
 clear ecap;have c0:((i:Int)= -1)=False:=eq_false (by omega);have w0:IntKind.i64.wrap ((i:Int)+1)=((i+1:Nat):Int):=(wrap_i64 (by omega) (by omega)).trans (by omega);have hp':=zU hp;have hj':=zU hj;clear hp hj A0;refine am ?_
 let I:=fun (d:Nat) (fr:Frame) (M:Mem)=> ∃(j:Nat) (t:List Nat) (R:Mem),d+j=l.length/\M=m++(P++ .cells true (zH t)::R)/\t.length=l.length/\t.take (zcp p (l.take j)).length=zcp p (l.take j)/\t.drop j=l.drop j/\(zcp p (l.take j)).length<j/\Has fr [(0,.slice (m.length+P.length) 0 l.length cap false 1),(1,c),(5,.int .i64 ((zcp p (l.take j)).length:Nat)),(6,.int .i64 (j:Nat))]
 refine zO I ?_ (l.length-(i+1)) ?_
 ·rintro d fr _ ⟨j,t,R,hd,rfl,htl,htt,htd,hlt,F⟩
  have htt':=zU htt;have htd':=zU htd;have htl':=zU htl;obtain ⟨n,en⟩: ∃n,(zcp p (l.take j)).length=n:=⟨_,rfl⟩
  have en':=zU en;rw [en] at F hlt;clear htt htd htl en;cases d with
  |zero=>
   have ej:j=l.length:=by omega
   subst ej;have c1:((l.length:Int)<(l.length:Int))=False:=eq_false (by omega);have on: ∀{α β:Type}{f:α->β},Option.map f none=none:=rfl;have os: ∀{α β:Type}{f:α->β}{x:α},Option.map f (some x)=some (f x):=rfl;have sv1:zaz (.slice (m.length+P.length) 0 l.length cap false 1) (some (.int .i64 n)) none none=some (.slice (m.length+P.length) n (l.length-n) (cap-n) false 1):=by
    have e1:n<=l.length:=by omega
    simp [zaz,bound,e1]
   have sv2:zaz (.slice (m.length+P.length) 0 l.length cap false 1) none (some (.int .i64 n)) none=some (.slice (m.length+P.length) 0 n cap false 1):=by
    have e1:n<=cap:=by omega
    simp [zaz,bound,e1]
   have cl:zfu (m++(P++ .cells true (zH t)::R)) [.int .u64 0] (.slice (m.length+P.length) n (l.length-n) (cap-n) false 1)=some (undef,m++(P++ .cells true (over (zH t) n (List.replicate (l.length-n) [.int .u64 0]))::R)):=by
    have e1:n+(l.length-n)<=t.length:=by rw [htl'.down];omega
    have e2:(m++(P++ .cells true (zH t)::R))[m.length+P.length]? =some (.cells true (zH t)):=by rw [zh,zM];rfl
    simp only [zfu,e2,List.length_cons,List.length_nil,ne_eq,not_true_eq_false,if_false,List.length_map,if_pos e1];rw [zgo,zhD];rfl
   have zk:zOk (.slice (m.length+P.length) 0 l.length cap false 1) 1=true:=by simp [zOk]
   have done:PLift (Q (.slice (m.length+P.length) 0 n cap false 1) (m++(P++ .cells true (over (zH t) n (List.replicate (l.length-n) [.int .u64 0]))::R))):=by
    refine ⟨?_⟩;rw [hQ'.down];refine ⟨_,rfl,fun A hA=>⟨?_,by simp [zOk]⟩⟩;have e2:=hA.blk rfl rfl;have e3:zcp p (l.take l.length)=zcp p l:=by rw [List.take_length]
    simp only [elems,e2];rw [if_pos (by unfold over;simp only [List.length_append,List.length_take,List.length_map,List.length_replicate,List.length_drop,htl'.down];omega)];unfold over;rw [List.drop_zero,List.take_append_of_le_length (by simp only [List.length_take,List.length_map,htl'.down];omega),List.take_take,Nat.min_self,<-List.map_take];have:=htt'.down;rw [en'.down,e3] at this;rw [this]
   refine into ?_;exact done.down
  |succ d=>
   have hjl:j<l.length:=by omega
   have htx:t[j]? =some (nx l j):=by
    have:=congrArg (fun z:List Nat=>z[0]?) htd'.down
    simpa [List.getElem?_drop,zh9 hjl] using this
   have hus:=zpI (p:=p) hjl;have hxm:=za4 hjl;obtain ⟨x,exq⟩: ∃x,nx l j=x:=⟨_,rfl⟩
   rw [exq] at htx hus hxm;have ex':=zU exq;have c1:((j:Int)<(l.length:Int))=True:=eq_true (by omega);have w1:IntKind.i64.wrap ((j:Int)+1)=((j+1:Nat):Int):=(wrap_i64 (by omega) (by omega)).trans (by omega);have w2:IntKind.i64.wrap ((n:Int)+1)=((n+1:Nat):Int):=(wrap_i64 (by omega) (by omega)).trans (by omega);have ix: ∀k:Nat,k<l.length->zak 1 (.slice (m.length+P.length) 0 l.length cap false 1) (.int .i64 (k:Nat))=some (.ptr (m.length+P.length) k 0):=fun k hk=>by
    simp only [zak,Int.toNat_natCast,Nat.zero_add];rw [if_pos ⟨by omega,by omega,trivial⟩]
   have ix1:=ix j hjl;have ix2:=ix n (by omega);have lb:zgY (some (.cells true (zH t))) none j 0=some (.int .u64 (x:Nat)):=by
    rw [zdV,List.getElem?_map,htx];rfl
   have sb:zcd (some (.cells true (zH t))) 1 n 0 (.int .u64 (x:Nat))=some (.cells true (zH (t.set n x))):=by
    obtain ⟨y,hy⟩: ∃y,t[n]? =some y:=⟨_,List.getElem?_eq_getElem (by rw [htl'.down];omega)⟩
    simp only [zcd,List.getElem?_map,hy,Option.map_some];rw [if_pos ⟨rfl,by simp,rfl⟩,show zH (t.set n x)=(zH t).set n [.int .u64 (x:Nat)] from List.map_set];rfl
   have Cx:=fun g=>hc'.down g x hxm
   have Cx':=zU Cx;have hus':=zU hus;clear ix hus hxm Cx exq htx;refine into ?_;refine zgR (Cx'.down _) ?_;rintro _ _ ⟨rfl,⟨g2,rfl⟩⟩;simp only [List.append_assoc,List.cons_append,List.nil_append];cases hp:p x with
   |true=>
    have e1:zcp p (l.take (j+1))=zcp p (l.take j):=by rw [hus'.down,if_pos hp,List.append_nil]
    have e2:(zcp p (l.take (j+1))).length=n:=by rw [e1];exact en'.down
    have e1':=zU e1;clear e1;refine am ?_;refine into ?_;refine ⟨d,by omega,j+1,t,_,by omega,rfl,htl'.down,?_,?_,by omega,zg⟩
    ·rw [e1'.down];exact htt'.down
    ·have:=congrArg (List.drop 1) htd'.down
     simpa [List.drop_drop] using this
   |false=>
    have e1:zcp p (l.take (j+1))=zcp p (l.take j)++[x]:=by rw [hus'.down,if_neg (by rw [hp];decide)]
    have e2:(zcp p (l.take (j+1))).length=n+1:=by rw [e1,List.length_append,en'.down];rfl
    have e1':=zU e1;clear e1;refine am ?_;refine into ?_;refine ⟨d,by omega,j+1,t.set n x,_,by omega,rfl,by rw [List.length_set];exact htl'.down,?_,?_,by omega,zg⟩
    ·obtain ⟨y,hy⟩: ∃y,t[n]? =some y:=⟨_,List.getElem?_eq_getElem (by rw [htl'.down];omega)⟩
     rw [e2,List.take_set,e1'.down];have a2:t.take (n+1)=t.take n++[y]:=by
      obtain ⟨a3,e3⟩:=List.getElem?_eq_some_iff.1 hy;rw [List.take_succ_eq_append_getElem a3,e3]
     have h3:=htt'.down;have h4:=en'.down;rw [h4] at h3;rw [a2,h3,List.set_append_right _ _ (by omega),h4]
     simp
    ·rw [List.drop_set,if_pos (by omega)]
     have:=congrArg (List.drop 1) htd'.down
     simpa [List.drop_drop] using this
 ·have hus:=zpI (p:=p) hi
  have hall:zcp p (l.take i)=l.take i:=List.filter_eq_self.2 fun x hx=>by
   obtain ⟨k,hk,e⟩:=List.getElem_of_mem hx;have hk':k<i:=by simp at hk;omega
   have:=hj'.down k hk';rw [show nx l k=x by unfold nx;rw [List.getD_eq_getElem?_getD,List.getElem?_eq_getElem (by omega)];rw [<-e,List.getElem_take];rfl] at this;rw [this];rfl
  rw [if_pos hp'.down,List.append_nil,hall] at hus;have e2:(zcp p (l.take (i+1))).length=i:=by rw [hus,List.length_take];omega
  have hus':=zU hus;clear hus;refine ⟨i+1,l,R++g1,by omega,rfl,rfl,?_,rfl,by omega,zg⟩;rw [e2,hus'.down]
def zm0 (hs:List zY):Nat->Nat
 |0=>0
 |k+1=>zm0 hs k+if (hat hs k).pc=0 then 0 else 1
theorem zrN {hs:List zY}{k:Nat}:zm0 hs (k+1)=zm0 hs k+if (hat hs k).pc=0 then 0 else 1:=rfl
theorem zxw {hs:List zY}: ∀k,zm0 hs k<=k
 |0=>Nat.le_refl _
 |k+1=>by
  have:=zxw (hs:=hs) k;unfold zm0
  split<;>omega
theorem zk2 {hs:List zY}: ∀k,0<zm0 hs k↔ ∃i,i<k/\(hat hs i).pc≠0
 |0=>⟨fun h=>absurd h (Nat.not_lt_zero _),fun ⟨i,h,_⟩=>absurd h (Nat.not_lt_zero _)⟩
 |k+1=>by
  have ih:=zk2 (hs:=hs) k;unfold zm0;constructor
  ·intro h
   by_cases e:(hat hs k).pc=0
   ·rw [if_pos e] at h
    obtain ⟨i,hi,hp⟩:=ih.1 (by omega);exact ⟨i,by omega,hp⟩
   ·exact ⟨k,by omega,e⟩
  ·rintro ⟨i,hi,hp⟩
   by_cases e:i=k
   ·subst e
    rw [if_neg hp];omega
   ·have:=ih.2 ⟨i,by omega,hp⟩
    omega
def zel (X:MiA):Bool:=decide (0<X.qs.flatten.length+zm0 X.hs X.hs.length)
theorem zpK {M:Mem}{P:Nat}{own:Bool} {c0 c1 c2 c3 c4 qv hv:V}{vs:Nat->V}{X:MiA}(hP:M[P]? =some (.cells own [[c0,c1,c2,c3,c4,qv,hv]])) (hq:zdw M qv vs X.qs) (hd:Rd M hv 7 X.hs.length (fun i=>zt (hat X.hs i))) (hg:gOk X.qs) (ld:X.hs.length*56<=140737488355328):C S zdc [.ptr P 0 0] M (fun r m'=>r= .bool (zel X)/\Grow M m'):=by
 obtain ⟨g0,g1,g2⟩:=zjj hg;have A6:=hd.ar.2.1;have hq':=zU hq;have hd':=zU hd;have hg':=zU hg;obtain ⟨B,eB⟩: ∃B,zel X=B:=⟨_,rfl⟩
 have eB':=zU eB;rw [eB];obtain ⟨n,en⟩: ∃n,X.qs.flatten.length=n:=⟨_,rfl⟩
 have en':=zU en;clear hq hd hg eB en g2;refine fn rfl ?_;refine (zwc hq'.down (by omega)).mono ?_;rintro _ _ ⟨⟨_,rfl⟩|⟨hn,_⟩,⟨g,rfl⟩⟩
 case inr=>exact absurd hg'.down hn
 rw [en'.down];have hp2:=zb (g:=g) hP
 by_cases h0:0<n
 ·have c1:((0:Int)<(n:Int))=True:=eq_true (by omega)
  have:PLift (B=true):=⟨by rw [<-eB'.down];exact decide_eq_true (by rw [en'.down];omega)⟩
  rw [this.down];clear h0;refine am ?_;exact ⟨_,rfl⟩
 ·have c1:((0:Int)<(n:Int))=False:=eq_false (by omega)
  have h0':PLift (n=0):=⟨by omega⟩
  clear h0;refine am ?_;refine (zek (arg:=fun i=> .agg (zt (hat X.hs i))) (p:=fun i=> !decide ((hat X.hs i).pc=0)) hd'.down.app (fun i hi=>rfl) (by omega) (fun g2 i hi=> ?_)).mono ?_
  ·rw [ziO]
   dsimp only
   by_cases e:(hat X.hs i).pc=0
   ·have c1:(((hat X.hs i).pc:Int)=0)=True:=eq_true (by omega)
    have e':decide ((hat X.hs i).pc=0)=true:=decide_eq_true e;rw [e'];clear e hp2;refine fn rfl ?_;exact ⟨[.cells true [zt (hat X.hs i)]],by simp⟩
   ·have c1:(((hat X.hs i).pc:Int)=0)=False:=eq_false (by omega)
    have e':decide ((hat X.hs i).pc=0)=false:=decide_eq_false e;rw [e'];clear e hp2;refine fn rfl ?_;exact ⟨[.cells true [zt (hat X.hs i)]],by simp⟩
  ·rintro _ _ ⟨⟨g2,rfl⟩,⟨rfl,i,hi,hp⟩|⟨rfl,hno⟩⟩
   ·have:PLift (B=true):=⟨by
     rw [<-eB'.down];have:=(zk2 (hs:=X.hs) X.hs.length).2 ⟨i,hi,by simpa using hp⟩;exact decide_eq_true (by omega)⟩
    rw [this.down];clear hp;refine am ?_;exact ⟨_,rfl⟩
   ·have:PLift (B=false):=⟨by
     rw [<-eB'.down];refine decide_eq_false fun hh=> ?_
     have:=en'.down;have:=h0'.down;obtain ⟨i,hi,hp⟩:=(zk2 (hs:=X.hs) X.hs.length).1 (by omega);have:=hno i hi;rw [decide_eq_false hp] at this;cases this⟩
    rw [this.down];clear hno;refine am ?_;exact ⟨_,rfl⟩
theorem zwp {M:Mem} {c0 c1 c2 c3 c4 qv hv:V}{vs:Nat->V}{X:MiA}(hq:zdw M qv vs X.qs) (hd:Rd M hv 7 X.hs.length (fun i=>zt (hat X.hs i))) (hg:gOk X.qs) (ld:X.hs.length*56<=140737488355328) (cc:c0.isCell=true/\c1.isCell=true/\c2.isCell=true/\c3.isCell=true/\c4.isCell=true):C S zkq [.agg [c0,c1,c2,c3,c4,qv,hv]] M (fun r m'=>r= .bool (zel X)/\Grow M m'):=by
 obtain ⟨g0,g1,g2⟩:=zjj hg;obtain ⟨d0,d1,d2,d3,d4⟩:=cc;have A5:=hq.s.ar.2.1;have A6:=hd.ar.2.1;have hq':=zU hq;have hd':=zU hd;have hg':=zU hg;obtain ⟨B,eB⟩: ∃B,zel X=B:=⟨_,rfl⟩
 have eB':=zU eB;rw [eB];obtain ⟨n,en⟩: ∃n,X.qs.flatten.length=n:=⟨_,rfl⟩
 have en':=zU en;have hn:n<=16384:=by
  have:=hg.2.2.1;omega
 clear hq hd hg eB en g2;refine fn rfl ?_;refine (zuT hq'.down.app (by omega)).mono ?_;rintro _ _ ⟨⟨_,rfl⟩|⟨hn,_⟩,⟨g,rfl⟩⟩
 case inr=>exact absurd hg'.down hn
 rw [en'.down];have A6:=(hd'.down.app (g:=[.cells true [[c0,c1,c2,c3,c4,qv,hv]]])).ar;refine am ?_;refine range (α:=Nat) X.hs.length (fun c=>[(3,.int .i64 ((n+c:Nat):Int)),(14,hv)]) (fun k c M2=>c=zm0 X.hs k/\ ∃g,M2=M++ .cells true [[c0,c1,c2,c3,c4,qv,hv]]::g) 0 ⟨rfl,_,rfl⟩ ?_ ?_
 ·rintro j c fr _ hj F ⟨hc,g2,rfl⟩
  have A7:=(hd'.down.app (g:= .cells true [[c0,c1,c2,c3,c4,qv,hv]]::g2)).ar;have ix:=A7.2.2.2.1 .i64 j hj;have ld:=A7.2.2.2.2 j 0 (some 7) hj;have zk:=A7.2.2.1;have hcl:=zxw (hs:=X.hs) j;have hc':=zU hc
  by_cases e:(hat X.hs j).pc=0
  ·have c1:(((hat X.hs j).pc:Int)=0)=True:=eq_true (by omega)
   have e2:PLift (c=zm0 X.hs (j+1)):=⟨by rw [zrN,if_pos e];exact hc⟩
   clear e A6 A7 hc;refine am ?_;exact ⟨c,zg,e2.down,_,rfl⟩
  ·have c1:(((hat X.hs j).pc:Int)=0)=False:=eq_false (by omega)
   have e2:PLift (c+1=zm0 X.hs (j+1)):=⟨by rw [zrN,if_neg e,hc]⟩
   have w:IntKind.i64.wrap (((n+c:Nat):Int)+1)=((n+(c+1):Nat):Int):=(wrap_i64 (by omega) (by omega)).trans (by omega);clear e A6 A7 hc;refine am ?_;exact ⟨c+1,zg,e2.down,_,rfl⟩
 ·rintro c fr _ F ⟨hc,g2,rfl⟩
  have hc':=zU hc
  by_cases e:0<n+c
  ·have c1:((0:Int)<((n+c:Nat):Int))=True:=eq_true (by omega)
   have:PLift (B=true):=⟨by rw [<-eB'.down];exact decide_eq_true (by rw [en'.down,<-hc];exact e)⟩
   rw [this.down];clear e hc;refine am ?_;exact ⟨_,rfl⟩
  ·have c1:((0:Int)<((n+c:Nat):Int))=False:=eq_false (by omega)
   have:PLift (B=false):=⟨by rw [<-eB'.down];exact decide_eq_false (by rw [en'.down,<-hc];exact e)⟩
   rw [this.down];clear e hc;refine am ?_;exact ⟨_,rfl⟩
def zxx (X:MiA) (r:V):Prop:=(X.ok/\r= .tup [.bool (!zel X),.int .i64 0])\/(¬ X.ok/\r= .tup [.bool false,.int .i64 2])
theorem zwq {m:Mem} {aw uw sv mv qv hv:V}{va vm vs:Nat->V}{X:MiA}(h:zdP m aw uw sv mv qv hv va vm vs X):C S zkm [.agg (miV X aw uw sv mv qv hv)] m (fun r m'=>zxx X r/\Grow m m'):=by
 have A1:=h.h.a.ar.2.1;have A2:=h.h.u.ar.2.1;have A3:=h.h.s.s.ar.2.1;have A4:=h.k.ar.2.1;have A5:=h.q.s.ar.2.1;have A6:=h.d.ar.2.1;have hh:=zU h;have ld:=h.ld;clear h;refine fn rfl ?_;refine (zfs hh.down.app).mono ?_;rintro _ _ ⟨⟨hk,rfl⟩|⟨hk,rfl⟩,⟨g1,rfl⟩⟩
 case inr=>
  have hk':=zU hk;clear hk;refine am ?_;exact ⟨.inr ⟨hk'.down,rfl⟩,_,rfl⟩
 have hk':=zU hk;clear hk;refine am ?_;have hP: ∀R:Mem,(m++ .cells true [miV X aw uw sv mv qv hv]::(g1++[R.headD .dead]))[m.length+(g1.length+1)]? =some (R.headD .dead):=fun R=>by rw [zh,zaR,zM];rfl
 refine (zpK (X:=X) (c0:=aw) (c1:= .int .i64 X.H.us.N) (c2:=uw) (c3:=sv) (c4:=mv) (own:=true) (hP [.cells true [miV X aw uw sv mv qv hv]]) hh.down.q.app hh.down.d.app hk'.down.2.1 ld).mono ?_;rintro _ _ ⟨rfl,⟨g2,rfl⟩⟩;refine am ?_;exact ⟨.inl ⟨hk'.down,rfl⟩,_,rfl⟩
def zBi:zrA:=⟨0,0,fun _=>0⟩
def zMi:MiA:=⟨⟨0,fun _=>0,zBi,0,fun _=>⟨0,0,0,zBi,zBi,false⟩⟩,0,fun _=>0,[],[]⟩
theorem zte {m:Mem}:zdP m .nils .nils .nils .nils .nils .nils (fun _=> .nils) (fun _=> .nils) (fun _=> .nils) zMi:=by
 have r: ∀z f,Rd m .nils z 0 f:=fun z f=> .inl ⟨rfl,rfl⟩
 have no: ∀{P:Nat->Prop}(i:Nat),i<0->P i:=fun i h=>absurd h (Nat.not_lt_zero _)
 exact ⟨⟨r _ _,r _ _,⟨r _ _,no⟩,no,no,by decide,by decide,by decide,by trivial⟩,r _ _,⟨r _ _,no⟩,r _ _,no,by decide,by decide,no,by decide,by decide,rfl,rfl,rfl,rfl,rfl,rfl⟩
def MiQ (m:Mem) (Z:MiA) (l:List V) (m':Mem):Prop:= ∃aw uw sv mv qv hv g,l=miV Z aw uw sv mv qv hv/\m'=m++g/\Ps m.length g (fun M=> ∃va vm vs,zdP M aw uw sv mv qv hv va vm vs Z)
theorem MiQ.grow {m m':Mem}{Z:MiA}{l:List V}(h:MiQ m Z l m'):Grow m m':=by
 obtain ⟨_,_,_,_,_,_,g,_,e,_⟩:=h;exact ⟨g,e⟩
theorem MiO.to {lo:Nat}{M M2:Mem}{aw uw sv qv:V}{bm bh cm ch:Nat}{em eh:Bool}{Fh Fq:Nat->Prop}{X:MiA}(h:MiO lo M aw uw sv qv bm bh cm ch em eh Fh Fq X) (k: ∀(c:Nat) (y:Blk),lo<=c->M[c]? =some y->M2[c]? =some y):MiO lo M2 aw uw sv qv bm bh cm ch em eh Fh Fq X:=⟨h.h.to fun c x hc hx=>k c x (h.fl c (.inl hc)) hx,h.q.to fun c x hc hx=>k c x (h.fl c (.inr hc)) hx,k _ _ h.l.1 h.m,k _ _ h.l.2.1 h.d,h.l,h.f,h.fl,h.c,h.b,h.w⟩
theorem MiO.res {lo:Nat}{m M M2:Mem}{aw uw sv qv:V}{bm bh cm ch:Nat}{em eh:Bool}{Fh Fq:Nat->Prop}{X:MiA}(h:MiO lo M aw uw sv qv bm bh cm ch em eh Fh Fq X) (hl:m.length<=lo) (k1: ∀(c:Nat) (y:Blk),lo<=c->M[c]? =some y->M2[c]? =some y) (k2:m.length<=M2.length) (k3: ∀(c:Nat) (y:Blk),m[c]? =some y->M2[c]? =some y):MiQ m X (miV X aw uw sv (slM X bm cm em) qv (slH X bh ch eh)) M2:=by
 have e:M2=m++M2.drop m.length:=by
  have:M2.take m.length=m:=List.ext_getElem? fun i=>by
   by_cases hi:i<m.length
   ·rw [List.getElem?_take_of_lt hi,k3 i _ (List.getElem?_eq_getElem hi),List.getElem?_eq_getElem hi]
   ·rw [List.getElem?_eq_none (by rw [List.length_take];omega),List.getElem?_eq_none (by omega)]
  conv=>lhs;rw [<-List.take_append_drop m.length M2,this]
 refine ⟨_,_,_,_,_,_,_,rfl,e,fun M3 hM3=> ?_⟩;have go: ∀c y,lo<=c->M[c]? =some y->M3[c]? =some y:=fun c y hc hy=>hM3.of c y (by omega) (by rw [<-e];exact k1 c y hc hy)
 obtain ⟨va,vm,p1⟩:=h.h M3 fun c y hc hy=>go c y (h.fl c (.inl hc)) hy
 obtain ⟨vs,p2⟩:=h.q M3 fun c y hc hy=>go c y (h.fl c (.inr hc)) hy
 have p3:=Sl.mk (cap:=cm) (z:=1) (ex:=em) (go bm _ h.l.1 h.m);have p4:=Sl.mk (cap:=ch) (z:=7) (ex:=eh) (go bh _ h.l.2.1 h.d);rw [List.length_map,List.length_range] at p3 p4;exact ⟨va,vm,vs,p1,.inl p3,p2,.inl p4,h.w.wk,h.w.lk,h.w.lq,h.w.ll,h.w.ld,h.w.ls,h.b.1,h.b.2.1,h.b.2.2.1,p3.beq',h.b.2.2.2,p4.beq'⟩
theorem zpL {M:Mem}{P n bh ch:Nat}{own eh:Bool} {c0 c1 c2 c3 c4 c5 wv:V}{k:Nat}{ws:Nat->Int}(hP:M[P]? =some (.cells own [[c0,c1,c2,c3,c4,c5,.slice bh 0 n ch eh 7]])) (hw:Rd M wv 1 k (fun i=>[.int .i64 (ws i)])) (hk:k<4611686018427387904):C S zda [.ptr P 0 0,wv] M (fun r m'=>(((∀i,i<k->0<=ws i/\ws i<(n:Int))/\r= .int .i64 0)\/(¬ (∀i,i<k->0<=ws i/\ws i<(n:Int))/\r= .int .i64 11))/\Grow M m'):=by
 have A:=hw.ar.2.1;have hw':=zU hw;obtain ⟨Q,hQ⟩: ∃Q:V->Prop,Q=fun r=>((∀i,i<k->0<=ws i/\ws i<(n:Int))/\r= .int .i64 0)\/(¬ (∀i,i<k->0<=ws i/\ws i<(n:Int))/\r= .int .i64 11):=⟨_,rfl⟩
 have hQ':=zU hQ;have hc: ∀r m',(((∀i,i<k->0<=ws i/\ws i<(n:Int))/\r=V.int .i64 0)\/(¬ (∀i,i<k->0<=ws i/\ws i<(n:Int))/\r= .int .i64 11))/\Grow M m'↔Q r/\Grow M m':=fun r m'=>by rw [hQ]
 simp only [hc];clear hw hQ hc;refine fn rfl ?_;refine (zqy (arg:=fun i=> .int .i64 (ws i)) (p:=fun i=> !decide (0<=ws i/\ws i<(n:Int))) hw'.down.app (fun i hi=>rfl) hk (fun g i hi=> ?_)).mono ?_
 ·rw [ziO]
  dsimp only;have hP2:(M++ .cells true [[.ptr P 0 0]]::g)[P]? =some (.cells own [[c0,c1,c2,c3,c4,c5,.slice bh 0 n ch eh 7]]):=zb hP
  by_cases a1:ws i<0
  ·have e1:(ws i<0)=True:=eq_true a1
   have e2:decide (0<=ws i/\ws i<(n:Int))=false:=decide_eq_false (by omega);rw [e2];clear a1;refine fn rfl ?_;exact ⟨[],(List.append_nil _).symm⟩
  ·have e1:(ws i<0)=False:=eq_false a1
   by_cases a2:ws i<(n:Int)
   ·have e2:decide (0<=ws i/\ws i<(n:Int))=true:=decide_eq_true (by omega)
    have e3:((n:Int)<=ws i)=False:=eq_false (by omega);rw [e2];clear a1 a2;refine fn rfl ?_;exact ⟨[],(List.append_nil _).symm⟩
   ·have e2:decide (0<=ws i/\ws i<(n:Int))=false:=decide_eq_false (by omega)
    have e3:((n:Int)<=ws i)=True:=eq_true (by omega);rw [e2];clear a1 a2;refine fn rfl ?_;exact ⟨[],(List.append_nil _).symm⟩
 rintro _ _ ⟨⟨g8,rfl⟩,⟨rfl,i,hi,hp⟩|⟨rfl,hno⟩⟩
 ·have:PLift (Q (.int .i64 11)):=⟨by
   rw [hQ'.down];exact .inr ⟨fun h=>(by rw [decide_eq_true (h i hi)] at hp;cases hp),rfl⟩⟩
  clear hp;refine am ?_;exact ⟨this.down,_,rfl⟩
 ·have:PLift (Q (.int .i64 0)):=⟨by
   rw [hQ'.down];exact .inl ⟨fun i hi=>by have:=hno i hi;simpa using this,rfl⟩⟩
  clear hno;refine am ?_;exact ⟨this.down,_,rfl⟩
def zBX (X:MiA) (w:Int) (Z:MiA×Nat×Int):Prop:=(¬ X.ok/\Z=(zMi,0,2))\/(X.ok/\¬ (0<=w/\w<(X.hs.length:Int))/\Z=(X,0,11))\/(X.ok/\0<=w/\w<(X.hs.length:Int)/\Z=zB X w.toNat)
def zz9 (m:Mem) (X:MiA) (w:Int) (r:V) (m':Mem):Prop:= ∃Z l,zBX X w Z/\r= .tup [.agg l,.int .u8 (Z.2.1:Nat),.int .i64 Z.2.2]/\MiQ m Z.1 l m'
theorem zyy {m:Mem}{X:MiA}{w:Int}{g:Mem}(h:¬ X.ok):zz9 m X w (.tup [.agg [.nils,.int .i64 0,.nils,.nils,.nils,.nils,.nils],.int .u8 0,.int .i64 2]) (m++g):=⟨_,_,.inl ⟨h,rfl⟩,rfl,_,_,_,_,_,_,g,rfl,rfl,fun _ _=>⟨_,_,_,zte⟩⟩
theorem zpM {m:Mem} {aw uw sv mv qv hv:V}{va vm vs:Nat->V}{X:MiA}(h:zdP m aw uw sv mv qv hv va vm vs X){w:Int}:C S zgs [.agg (miV X aw uw sv mv qv hv),.int .i64 w] m (zz9 m X w):=by
 have A1:=h.h.a.ar.2.1;have A2:=h.h.u.ar.2.1;have A3:=h.h.s.s.ar.2.1;have A4:=h.k.ar.2.1;have A5:=h.q.s.ar.2.1;have A6:=h.d.ar.2.1;have hh:=zU h;have ld:=h.ld;obtain ⟨T,hT⟩: ∃T:V->Mem->Prop,T=zz9 m X w:=⟨_,rfl⟩
 rw [<-hT];have hT':=zU hT;clear h hT;refine fn rfl ?_;refine (zmG hh.down.app).mono ?_;rintro _ M0 ⟨hg,⟨hk,P,aw',uw',sv',qv',bm,bh,cm,ch,em,eh,Fh,Fq,rfl,hM⟩|⟨hk,rfl⟩⟩
 case inr=>
  obtain ⟨g,rfl⟩:=hg;have t:PLift (∀g,T (.tup [.agg [.nils,.int .i64 0,.nils,.nils,.nils,.nils,.nils],.int .u8 0,.int .i64 2]) (m++g)):=⟨fun g=>by rw [hT'.down];exact zyy hk⟩
  clear hk;refine am ?_;exact t.down _
 have hg':=zU hg;have hk':=zU hk;have z0:M0[m.length+1]? =some (.cells true [[.nils,.int .i64 0,.nils,.nils,.nils,.nils,.nils]]):=by
  obtain ⟨g,rfl⟩:=hg;rw [List.append_assoc,zh];rfl
 have l0:m.length+2<=M0.length:=by have:=hg.len;rw [List.length_append] at this;exact this
 have hM':=zU hM;have pM:=hM.p;obtain ⟨c1,c2,c3,c4⟩:=hM.o.c;clear hg hk hM;have gs:= @zx;refine am ?_;refine (zpL (k:=1) (ws:=fun _=>w) (zb pM) (.inl (Sl.mk (cap:=1) (ex:=true) (own:=true) (els:=[[.int .i64 w]]) (by rw [zM];rfl))) (by decide)).mono ?_;rintro _ _ ⟨⟨ht,rfl⟩|⟨ht,rfl⟩,⟨g,rfl⟩⟩
 case inr=>
  have t:PLift (∀M1 Y,M0++ .cells true [[.int .i64 w]]::g=M1->T (.tup [.agg (miV X aw' uw' sv' (slM X bm cm em) qv' (slH X bh ch eh)),.int .u8 0,.int .i64 11]) (M1.set (m.length+1) Y)):=⟨fun M1 Y e=>by
   rw [hT'.down];subst e;refine ⟨(X,0,11),_,.inr (.inl ⟨hk'.down,fun e=>ht fun _ _=>e,rfl⟩),rfl,hM'.down.o.res (by simp) (fun c y hc hy=> ?_) ?_ (fun c y hy=> ?_)⟩
   ·exact zi (by simp at hc;omega) (zb hy)
   ·rw [List.length_set,List.length_append];omega
   ·have:=(List.getElem?_eq_some_iff.1 hy).1
    exact zi (by omega) (zb (hg'.down.get (zb hy)))⟩
  clear ht;obtain ⟨M1,e1⟩: ∃M1,M0++ .cells true [[.int .i64 w]]::g=M1:=⟨_,rfl⟩
  have z1:M1[m.length+1]? =some (.cells true [[.nils,.int .i64 0,.nils,.nils,.nils,.nils,.nils]]):=by rw [<-e1];exact zb z0
  have p1:M1[P]? =some (.cells true [miV X aw' uw' sv' (slM X bm cm em) qv' (slH X bh ch eh)]):=by rw [<-e1];exact zb pM
  have s1: ∀Y,(M1.set (m.length+1) Y)[m.length+1]? =some Y:=fun Y=>zx (by rw [z1];rfl)
  have t1:=zU (fun Y=>t.down M1 Y e1);clear z0 pM l0;refine am ?_;exact t1.down _
 obtain ⟨w1,w2⟩:=ht 0 (by omega);obtain ⟨k,rfl⟩: ∃k:Nat,w=(k:Int):=⟨w.toNat,by omega⟩
 have wk:k<X.hs.length:=by omega
 clear ht w1 w2;refine am ?_;have hM2:ze2 (List.length (m++[.cells true [miV X aw uw sv mv qv hv],.cells true [[.nils,.int .i64 0,.nils,.nils,.nils,.nils,.nils]]])) (M0++ .cells true [[.int .i64 k]]::g) P aw' uw' sv' qv' bm bh cm ch em eh Fh Fq X:=⟨hM'.down.o.grow,zb hM'.down.p,hM'.down.n⟩
 refine (zpH hM2 hk'.down wk).mono ?_;rintro _ M1 ⟨rfl,l1,k0,qv2,Fq2,_,hM3⟩;have k1: ∀(c:Nat) (y:Blk),c<List.length (m++[.cells true [miV X aw uw sv mv qv hv],.cells true [[.nils,.int .i64 0,.nils,.nils,.nils,.nils,.nils]]])->(M0++ .cells true [[.int .i64 k]]::g)[c]? =some y->M1[c]? =some y:=fun c y hc hy=>k0 c y (by have:=hM2.n.2.2.2.2;have:=hM2.o.l;omega) hy
 clear k0;have z1:M1[m.length+1]? =some (.cells true [[.nils,.int .i64 0,.nils,.nils,.nils,.nils,.nils]]):=k1 _ _ (by simp) (zb z0);have pM3:=hM3.p;obtain ⟨d1,d2,d3,d4⟩:=hM3.o.c;have s1: ∀Y,(M1.set (m.length+1) Y)[m.length+1]? =some Y:=fun Y=>zx (by rw [z1];rfl)
 have t:PLift (∀Y,T (.tup [.agg (miV (zB X k).1 aw' uw' sv' (slM (zB X k).1 bm cm em) qv2 (slH (zB X k).1 bh ch eh)),.int .u8 ((zB X k).2.1:Nat),.int .i64 (zB X k).2.2]) (M1.set (m.length+1) Y)):=⟨fun Y=>by
  rw [hT'.down];refine ⟨zB X k,_,.inr (.inr ⟨hk'.down,by omega,by omega,by rw [Int.toNat_natCast]⟩),rfl,hM3.o.res (by simp) (fun c y hc hy=> ?_) ?_ (fun c y hy=> ?_)⟩
  ·exact zi (by simp at hc;omega) hy
  ·rw [List.length_set];rw [List.length_append] at l1;omega
  ·have:=(List.getElem?_eq_some_iff.1 hy).1
   exact zi (by omega) (k1 _ _ (by rw [List.length_append];omega) (zb (hg'.down.get (zb hy))))⟩
 clear hM2 hM3 l1 k1;refine am ?_;exact t.down _
end Go.AM.G
