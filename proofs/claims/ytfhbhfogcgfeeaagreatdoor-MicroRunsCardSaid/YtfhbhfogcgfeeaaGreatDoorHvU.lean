import Derived.Test.YtfhbhfogcgfeeaaGreatDoorHvQ
import Derived.Test.YtfhbhfogcgfeeaaGreatDoorHvT
set_option linter.unusedVariables false
set_option linter.unusedSimpArgs false
set_option maxRecDepth 100000
namespace Go.AM.G
open Go Go.AM
def zaY (s:MiA×Nat×Nat) (ws:List Nat) (most:Nat):Nat->MiA×Nat×Nat
 |0=>s
 |k+1=>if (zaY s ws most k).2.1=most then zaY s ws most k else zaG (zaY s ws most k) (nx ws k)
theorem zrV {s:MiA×Nat×Nat}{ws:List Nat}{most k:Nat}(h:(zaY s ws most k).2.1=most): ∀j,zaY s ws most (k+j)=zaY s ws most k
 |0=>rfl
 |j+1=>by
  have ih:=zrV h j;show (if (zaY s ws most (k+j)).2.1=most then zaY s ws most (k+j) else zaG (zaY s ws most (k+j)) (nx ws (k+j)))=_;rw [ih,if_pos h]
theorem MiO.keep {lo:Nat}{M M2:Mem}{aw uw sv qv:V}{bm bh cm ch:Nat}{em eh:Bool}{Fh Fq:Nat->Prop}{X:MiA}(h:MiO lo M aw uw sv qv bm bh cm ch em eh Fh Fq X) (k: ∀(c:Nat) (y:Blk),(c=bm\/c=bh\/Fh c\/Fq c)->M[c]? =some y->M2[c]? =some y):MiO lo M2 aw uw sv qv bm bh cm ch em eh Fh Fq X:=
 ⟨h.h.to fun c y hc hy=>k c y (.inr (.inr (.inl hc))) hy,h.q.to fun c y hc hy=>k c y (.inr (.inr (.inr hc))) hy,k _ _ (.inl rfl) h.m,k _ _ (.inr (.inl rfl)) h.d,h.l,h.f,h.fl,h.c,h.b,h.w⟩
def zxA (lo:Nat) (M:Mem) (aw uw sv:V) (bm bh cm ch:Nat) (em eh:Bool) (Fh Fq:Nat->Prop) (N:Int) (n nh:Nat) (Z:MiA×Nat×Nat) (r:V) (M':Mem):Prop:=M.length<=M'.length/\(∀c y,(c≠bm/\c≠bh)->M[c]? =some y->M'[c]? =some y)/\ ∃qv' Fq',(∀b,Fq' b->Fq b\/M.length<=b)/\r= .tup [.agg [aw,.int .i64 N,uw,sv,.slice bm 0 n cm em 1,qv',.slice bh 0 nh ch eh 7],.int .i64 (Z.2.1:Nat),.int .i64 (Z.2.2:Nat)]/\MiO lo M' aw uw sv qv' bm bh cm ch em eh Fh Fq' Z.1
theorem zxB {X:MiA}{s:MiA×Nat×Nat}(h:Rok X s) (wa:w64 X.H.na X.H.a){ws:List Nat}(hw: ∀w,w∈ws->w<X.hs.length){most:Nat}: ∀k,k<=ws.length->Rok X (zaY s ws most k)
 |0,_=>h
 |k+1,hk=>by
  have ih:=zxB h wa hw (most:=most) k (by omega);unfold zaY
  split
  ·exact ih
  ·exact (ih.try_ wa (hw _ (za4 (by omega)))).1
set_option maxHeartbeats 1000000 in
theorem zmK {lo:Nat}{M:Mem} {aw uw sv qv wv:V}{bm bh cm ch:Nat}{em eh:Bool}{Fh Fq:Nat->Prop}{X:MiA}{ws:List Nat}{most:Nat}(h:MiO lo M aw uw sv qv bm bh cm ch em eh Fh Fq X) (hfl: ∀b,Fq b->b<M.length) (hfh: ∀b,Fh b->b<M.length) (hok:X.ok) (hlo:lo<=M.length) (wc:wv.isCell=true) (hwl:ws.length<4611686018427387904) (hb: ∀w,w∈ws->w<X.hs.length)
  (hr: ∀M':Mem,(∀c y,(c≠bm/\c≠bh)->M[c]? =some y->M'[c]? =some y)->Rd M' wv 1 ws.length (fun i=>[.int .i64 (nx ws i:Nat)])) (wa:w64 X.H.na X.H.a):
  C S zfA [.agg (miV X aw uw sv (slM X bm cm em) qv (slH X bh ch eh)),wv,.int .i64 (most:Nat)] M (zxA lo M aw uw sv bm bh cm ch em eh Fh Fq X.H.us.N X.nm X.hs.length (zaY (X,0,0) ws most ws.length)):=by
 have hh:=zU h;obtain ⟨c1,c2,c3,c4⟩:=h.c;have hR0:PLift (Rok X (X,0,0)):=⟨⟨hok,h.w.wk,rfl,rfl,rfl,Nat.le_refl _,by show 0+mu X<=mu X;omega⟩⟩
 have lbm:=(List.getElem?_eq_some_iff.1 h.m).1;have lbh:=(List.getElem?_eq_some_iff.1 h.d).1;have hl:=h.l;have hr':=zU hr;have hb':=zU hb;have wa':=zU wa;have hok':=zU hok;have hfl':=zU hfl;have hfh':=zU hfh;obtain ⟨T,hT⟩: ∃T,zxA lo M aw uw sv bm bh cm ch em eh Fh Fq X.H.us.N X.nm X.hs.length (zaY (X,0,0) ws most ws.length)=T:=⟨_,rfl⟩
 rw [hT];have hT':=zU hT;have h1:0<=lo:=Nat.zero_le _;clear h hr hb wa hok hT hfl hfh;refine fn rfl ?_;obtain ⟨M0,eM0⟩: ∃M0,M++[Blk.cells true [miV X aw uw sv (slM X bm cm em) qv (slH X bh ch eh)],.cells true [[.nils,.int .i64 0,.nils,.nils,.nils,.nils,.nils]]]=M0:=⟨_,rfl⟩
 have k00:PLift (∀c y,M[c]? =some y->M0[c]? =some y):=⟨fun c y hy=>by rw [<-eM0];exact zb hy⟩
 have p0:M0[M.length]? =some (.cells true [miV X aw uw sv (slM X bm cm em) qv (slH X bh ch eh)]):=by rw [<-eM0,zM];rfl
 have p1:M0[M.length+1]? =some (.cells true [[.nils,.int .i64 0,.nils,.nils,.nils,.nils,.nils]]):=by rw [<-eM0,zh];rfl
 have lM0:M.length+2<=M0.length:=by rw [<-eM0];simp
 have o0:PLift (MiO lo M0 aw uw sv qv bm bh cm ch em eh Fh Fq X):=⟨by rw [<-eM0];exact hh.down.grow⟩
 have rd0:PLift (∀M':Mem,(∀c y,c<M.length->c≠bm->c≠bh->M0[c]? =some y->M'[c]? =some y)->Rd M' wv 1 ws.length (fun i=>[.int .i64 (nx ws i:Nat)])):=⟨fun M' h=>hr'.down M' fun c y hc hy=>h c y (List.getElem?_eq_some_iff.1 hy).1 hc.1 hc.2 (k00.down c y hy)⟩
 have B0:=(rd0.down M0 fun c y _ _ _ hy=>hy).ar.1;rw [eM0];clear eM0
 let I:=fun (k:Nat) (s:MiA×Nat×Nat) (M1:Mem)=>s=zaY (X,0,0) ws most k/\M0.length<=M1.length/\(∀c y,c<M.length->c≠bm->c≠bh->M0[c]? =some y->M1[c]? =some y)/\M1[M.length+1]? =some (.cells true [[.nils,.int .i64 0,.nils,.nils,.nils,.nils,.nils]])/\ ∃qv1 Fq1,M1[M.length]? =some (.cells true [[aw,.int .i64 X.H.us.N,uw,sv,.slice bm 0 X.nm cm em 1,qv1,.slice bh 0 X.hs.length ch eh 7]])/\qv1.isCell=true/\(∀b,Fq1 b->b<M.length->Fq b)/\¬ Fq1 M.length/\¬ Fq1 (M.length+1)/\MiO lo M1 aw uw sv qv1 bm bh cm ch em eh Fh Fq1 s.1
 have start:I 0 (X,0,0) M0:=⟨rfl,Nat.le_refl _,fun c y _ _ _ hy=>hy,p1,qv,Fq,p0,c4,fun b h _=>h,fun e=>by have:=hfl'.down _ e;omega,fun e=>by have:=hfl'.down _ e;omega,o0.down⟩
 have key: ∀(fr:Frame) (M1:Mem) (s:MiA×Nat×Nat),Has fr [(3,.ptr M.length 0 0),(9,.int .i64 (s.2.1:Nat)),(10,.int .i64 (s.2.2:Nat)),(6,.ptr (M.length+1) 0 0)]->I ws.length s M1->W S zhW fr M1 (zkc [.cell 6 (some 7),.t 7,.t 8] T):=by
  rintro fr M1 s F ⟨es,l1,k1,z1,qv1,Fq1,pM,qc,hf,nf,nf1,hO⟩;have n1:(M.length=M.length+1)=False:=eq_false (by omega);have g1:= @zx;have g2:= @zaX;have t:PLift (∀Y,T (.tup [.agg [aw,.int .i64 X.H.us.N,uw,sv,.slice bm 0 X.nm cm em 1,qv1,.slice bh 0 X.hs.length ch eh 7],.int .i64 (s.2.1:Nat),.int .i64 (s.2.2:Nat)]) (M1.set (M.length+1) Y)):=⟨fun Y=>by
   rw [<-hT'.down,<-es];refine ⟨by rw [List.length_set];omega,fun c y hc hy=> ?_,qv1,Fq1,fun b hb=> ?_,rfl,hO.keep fun c y hc hy=>zi ?_ hy⟩
   ·have:=(List.getElem?_eq_some_iff.1 hy).1
    exact zi (by omega) (k1 c y this hc.1 hc.2 (k00.down c y hy))
   ·by_cases e:b<M.length
    ·exact .inl (hf b hb e)
    ·exact .inr (by omega)
   ·intro e
    subst e;rcases hc with hc|hc|hc|hc
    ·omega
    ·omega
    ·have:=hfh'.down _ hc;omega
    ·exact nf1 hc⟩
  clear es l1 k1 hf nf nf1 hO;refine into ?_;exact t.down _
 have key':=zU key;have start':=zU start;clear key start p0 p1;refine am ?_;refine range (α:=MiA×Nat×Nat) ws.length (fun s=>[(16,wv),(3,.ptr M.length 0 0),(9,.int .i64 (s.2.1:Nat)),(10,.int .i64 (s.2.2:Nat)),(2,.int .i64 (most:Nat)),(6,.ptr (M.length+1) 0 0)]) I (X,0,0) start'.down ?_ ?_
 ·rintro k s fr M1 hk F ⟨es,l1,k1,z1,qv1,Fq1,pM,qc,hf,nf,nf1,hO⟩
  have B:=(rd0.down M1 k1).ar;have hR:=zxB hR0.down wa'.down hb'.down (most:=most) k (by omega);rw [<-es] at hR;have hlt:=hR.lt hok'.down;have hle:=hR.le;have ln:=hO.l
  by_cases e0:s.2.1=most
  ·have d0:((s.2.1:Int)=(most:Int))=True:=eq_true (by omega)
   have fin:I ws.length s M1:=by
    refine ⟨?_,l1,k1,z1,qv1,Fq1,pM,qc,hf,nf,nf1,hO⟩;have:=zrV (s:=(X,0,0)) (ws:=ws) (most:=most) (k:=k) (by rw [<-es];exact e0) (ws.length-k);rw [show k+(ws.length-k)=ws.length by omega] at this;rw [this];exact es
   have fin':=zU fin;clear e0 fin es l1 k1 z1 pM hf nf nf1 hO hR;refine am ?_;exact key'.down _ _ s zg fin'.down
  ·have d0:((s.2.1:Int)=(most:Int))=False:=eq_false (by omega)
   have nxt:zaY (X,0,0) ws most (k+1)=zaG s (nx ws k):=by unfold zaY;rw [<-es,if_neg e0]
   have hw:nx ws k<s.1.hs.length:=by rw [hR.el];exact hb'.down _ (za4 hk)
   have ST:=zwo hO hR.ok (by omega) hw;have eN:s.1.H.us.N=X.H.us.N:=by rw [hR.eH]
   have en:=hR.en;have el:=hR.el;rw [eN,en,el] at ST;obtain ⟨Z,eZ⟩: ∃Z,zB s.1 (nx ws k)=Z:=⟨_,rfl⟩
   have er:=fun (h:Z.2.2≠0)=>zrP (X:=s.1) (w:=nx ws k) (by rw [eZ];exact h)
   rw [eZ] at ST er;have nxt':PLift (zaY (X,0,0) ws most (k+1)=if Z.2.2=0 then (Z.1,s.2.1+1,s.2.2+if Z.2.1=5 then 1 else 0) else s):=⟨by rw [nxt];unfold zaG;rw [eZ]⟩
   have er':=zU er;have ST':=zU ST;have k1':=zU k1;have nf':=zU nf;have nf1':=zU nf1;have hf':=zU hf;have l1':=zU l1;have hO1':=zU hO;have pcells:(V.agg (miV s.1 aw uw sv (slM s.1 bm cm em) qv1 (slH s.1 bh ch eh)))= .agg [aw,.int .i64 X.H.us.N,uw,sv,.slice bm 0 X.nm cm em 1,qv1,.slice bh 0 X.hs.length ch eh 7]:=by
    show V.agg [aw,.int .i64 s.1.H.us.N,uw,sv,.slice bm 0 s.1.nm cm em 1,qv1,.slice bh 0 s.1.hs.length ch eh 7]=_;rw [eN,en,el]
   rw [pcells] at ST';have w1:IntKind.i64.wrap ((s.2.1:Int)+1)=((s.2.1+1:Nat):Int):=by rw [wrap_i64]<;>omega
   have w2:IntKind.i64.wrap ((s.2.2:Int)+1)=((s.2.2+1:Nat):Int):=by rw [wrap_i64]<;>omega
   clear e0 es l1 k1 hf nf nf1 hO hR nxt eZ ST er pcells eN en el hw;refine am ?_;refine ST'.down.mono ?_;rintro _ M2 ⟨l2,k2,qv2,Fq2,hf2,rfl,hO2⟩;have pM2:=k2 M.length _ (by omega) pM;have z2:=k2 (M.length+1) _ (by omega) z1;have lM2:M.length+1<M2.length:=(List.getElem?_eq_some_iff.1 z2).1;obtain ⟨_,_,_,c5⟩:=hO2.c;have nf2:PLift (¬ Fq2 M.length/\¬ Fq2 (M.length+1)/\ ∀b,Fq2 b->b<M.length->Fq b):=⟨by
    have:=l1'.down;refine ⟨fun e=> ?_,fun e=> ?_,fun b e hb=> ?_⟩
    ·rcases hf2 _ e with e|e
     ·exact nf'.down e
     ·omega
    ·rcases hf2 _ e with e|e
     ·exact nf1'.down e
     ·omega
    ·rcases hf2 _ e with e|e
     ·exact hf'.down b e hb
     ·omega⟩
   have hO2':=zU hO2;have k2':=zU k2;have l2':=zU l2;have g1:= @zx;have g2:= @zaX;clear hf2 hO2 k2 l2 pM z1
   by_cases e1:Z.2.2=0
   ·have d1:(Z.2.2=0)=True:=eq_true e1
    have fin:PLift (∀(j:Nat) g,(j=s.2.2+if Z.2.1=5 then 1 else 0)->I (k+1) (Z.1,s.2.1+1,j) ((M2++g).set M.length (.cells true [[aw,.int .i64 X.H.us.N,uw,sv,.slice bm 0 X.nm cm em 1,qv2,.slice bh 0 X.hs.length ch eh 7]]))):=⟨fun j g hj=>by
     have q1:=l1'.down;have q2:=l2'.down;refine ⟨by rw [nxt'.down,if_pos e1,hj],by rw [List.length_set,List.length_append];omega,fun c y h1 h2 h3 hy=>zi (by omega) (zb (k2'.down c y ⟨h2,h3⟩ (k1'.down c y h1 h2 h3 hy))),zi (by omega) (zb z2),qv2,Fq2,zZ (zb pM2),c5,nf2.down.2.2,nf2.down.1,nf2.down.2.1,hO2'.down.keep fun c y hc hy=>zi (fun e=> ?_) (zb hy)⟩;subst e;rcases hc with hc|hc|hc|hc
     ·omega
     ·omega
     ·have:=hfh'.down _ hc;omega
     ·exact nf2.down.1 hc⟩
    by_cases e5:Z.2.1=5
    ·have d5:((Z.2.1:Int)=5)=True:=eq_true (by omega)
     have fin':=zU (fun g=>fin.down (s.2.2+1) g (by rw [if_pos e5]));clear e1 e5 fin;refine am ?_;exact ⟨(Z.1,s.2.1+1,s.2.2+1),zg,fin'.down _⟩
    ·have d5:((Z.2.1:Int)=5)=False:=eq_false (by omega)
     have fin':=zU (fun g=>fin.down s.2.2 g (by rw [if_neg e5];rfl));clear e1 e5 fin;refine am ?_;exact ⟨(Z.1,s.2.1+1,s.2.2),zg,fin'.down _⟩
   ·have d1:(Z.2.2=0)=False:=eq_false e1
    have fin:PLift (∀g,I (k+1) s (M2++g)):=⟨fun g=>by
     have q1:=l1'.down;have q2:=l2'.down;have eZ1:=er'.down e1;have hO3:=hO2'.down;rw [eZ1] at hO3;have hO1:=hO1'.down;refine ⟨by rw [nxt'.down,if_neg e1],by rw [List.length_append];omega,fun c y h1 h2 h3 hy=>zb (k2'.down c y ⟨h2,h3⟩ (k1'.down c y h1 h2 h3 hy)),zb z2,qv1,Fq1,zb pM2,qc,hf'.down,nf'.down,nf1'.down,MiO.grow ⟨?_,?_,hO3.m,hO3.d,hO1.l,hO1.f,hO1.fl,hO1.c,hO1.b,hO1.w⟩⟩
     ·exact hO1.h.to fun c y hc hy=>k2'.down c y ⟨fun e=>hO1.f.1 (e▸hc),fun e=>hO1.f.2.1 (e▸hc)⟩ hy
     ·exact hO1.q.to fun c y hc hy=>k2'.down c y ⟨fun e=>hO1.f.2.2.1 (e▸hc),fun e=>hO1.f.2.2.2 (e▸hc)⟩ hy⟩
    clear e1;refine am ?_;exact ⟨s,zg,fin.down _⟩
 ·rintro s fr M1 F hI
  have hI':=zU hI;clear hI;refine am ?_;exact key'.down _ _ s zg hI'.down
theorem zpS {s:MiA×Nat×Nat}{ws:List Nat}{most:Nat}(h:s.2.1=0): ∀k,k<=most->zaY s ws most k=trK s ws k/\(trK s ws k).2.1<=k
 |0,_=>⟨rfl,by show s.2.1<=0;omega⟩
 |k+1,hk=>by
  obtain ⟨a,b⟩:=zpS h (ws:=ws) (most:=most) k (by omega);constructor
  ·show (if (zaY s ws most k).2.1=most then zaY s ws most k else zaG (zaY s ws most k) (nx ws k))=zaG (trK s ws k) (nx ws k)
   rw [a,if_neg (by omega)]
  ·show (zaG (trK s ws k) (nx ws k)).2.1<=k+1
   unfold zaG
   split
   ·show (trK s ws k).2.1+1<=k+1;omega
   ·omega
theorem zve {s:MiA×Nat×Nat}{ws:List Nat}(h:s.2.1=0): ∀k,k<=ws.length->((∀i,i<k->(zB s.1 (nx ws i)).2.2≠0)/\zaY s ws 1 k=s)\/(∃i,i<k/\(∀j,j<i->(zB s.1 (nx ws j)).2.2≠0)/\(zB s.1 (nx ws i)).2.2=0/\zaY s ws 1 k=zaG s (nx ws i))
 |0,_=> .inl ⟨fun i hi=>absurd hi (Nat.not_lt_zero _),rfl⟩
 |k+1,hk=>by
  rcases zve (ws:=ws) h k (by omega) with ⟨a,b⟩|⟨i,hi,a,b,c⟩
  ·have e:zaY s ws 1 (k+1)=zaG s (nx ws k):=by
    show (if (zaY s ws 1 k).2.1=1 then zaY s ws 1 k else zaG (zaY s ws 1 k) (nx ws k))=_;rw [b,if_neg (show ¬ s.2.1=1 by omega)]
   by_cases h0:(zB s.1 (nx ws k)).2.2=0
   ·exact .inr ⟨k,by omega,a,h0,e⟩
   ·refine .inl ⟨fun j hj=> ?_,by rw [e];unfold zaG;rw [if_neg h0]⟩
    by_cases ej:j=k
    ·rw [ej];exact h0
    ·exact a j (by omega)
  ·refine .inr ⟨i,by omega,a,b,?_⟩
   show (if (zaY s ws 1 k).2.1=1 then zaY s ws 1 k else zaG (zaY s ws 1 k) (nx ws k))=_;rw [c,if_pos (by unfold zaG;rw [if_pos b];show s.2.1+1=1;omega)]
theorem zwu {s:MiA×Nat×Nat}{ws:List Nat}(h:s.2.1=0):zaY s ws 1 ws.length=zcq s ws:=by
 unfold zcq;rcases zve (ws:=ws) h ws.length (Nat.le_refl _) with ⟨a,b⟩|⟨i,hi,a,b,c⟩
 ·have:ws.find? (fun w=>decide ((zB s.1 w).2.2=0))=none:=by
   rw [List.find?_eq_none];intro w hw;obtain ⟨i,hi,rfl⟩:=zd4 hw
   simpa using a i hi
  rw [this,b]
 ·have:ws.find? (fun w=>decide ((zB s.1 w).2.2=0))=some (nx ws i):=by
   rw [List.find?_eq_some_iff_getElem];refine ⟨decide_eq_true b,i,hi,?_,fun j hj=> ?_⟩
   ·unfold nx;rw [List.getD_eq_getElem?_getD,List.getElem?_eq_getElem hi];rfl
   ·have:=a j hj
    unfold nx at this;rw [List.getD_eq_getElem?_getD,List.getElem?_eq_getElem (by omega)] at this
    simpa using this
  rw [this,c]
theorem zvf {X:MiA}{a b n l:Nat}{w:Nat}:zaG (X,n+a,l+b) w=((zaG (X,a,b) w).1,n+(zaG (X,a,b) w).2.1,l+(zaG (X,a,b) w).2.2):=by
 unfold zaG;dsimp only
 split
 ·split<;>rfl
 ·rfl
theorem ztj {X:MiA}{n l:Nat}{ws:List Nat}: ∀k,trK (X,n,l) ws k=((trK (X,0,0) ws k).1,n+(trK (X,0,0) ws k).2.1,l+(trK (X,0,0) ws k).2.2)
 |0=>rfl
 |k+1=>by
  show zaG (trK (X,n,l) ws k) (nx ws k)=_;rw [ztj k,zvf];rfl
theorem zwv {X:MiA}{n l:Nat}{ws:List Nat}:zcq (X,n,l) ws=((zcq (X,0,0) ws).1,n+(zcq (X,0,0) ws).2.1,l+(zcq (X,0,0) ws).2.2):=by
 unfold zcq;dsimp only;cases ws.find? fun w=>decide ((zB X w).2.2=0) with
 |none=>rfl
 |some w=>exact zvf (a:=0) (b:=0)
theorem zvg {X:MiA}{n l:Nat}{ws:List Nat}(h:(trK (X,0,0) ws ws.length).2.1=0): ∀k,k<=ws.length->trK (X,n,l) ws k=(X,n,l):=by
 have mono: ∀j,∀k,(trK (X,0,0) ws k).2.1<=(trK (X,0,0) ws (k+j)).2.1:=by
  intro j
  induction j with
  |zero=>intro k;exact Nat.le_refl _
  |succ j ih=>
   intro k;refine Nat.le_trans (ih k) ?_;show _<=(zaG (trK (X,0,0) ws (k+j)) (nx ws (k+j))).2.1;unfold zaG
   split
   ·exact Nat.le_succ _
   ·exact Nat.le_refl _
 intro k
 induction k with
 |zero=>intro _;rfl
 |succ k ih=>
  intro hk;have ih:=ih (by omega);have m1:=mono (ws.length-(k+1)) (k+1);rw [show k+1+(ws.length-(k+1))=ws.length by omega,h] at m1;have e:(trK (X,n,l) ws (k+1)).2.1=n:=by rw [ztj];show n+_=n;omega
  have e:(zaG (trK (X,n,l) ws k) (nx ws k)).2.1=n:=e;show zaG (trK (X,n,l) ws k) (nx ws k)=_;rw [ih] at e ⊢;exact zrS e
theorem zww {X:MiA}{n l:Nat}{ws all:List Nat}:zcr (X,n,l) ws all=if (zaY (X,0,0) ws ws.length ws.length).2.1=0 then ((zaY (X,0,0) all 1 all.length).1,n+(zaY (X,0,0) all 1 all.length).2.1,l+(zaY (X,0,0) all 1 all.length).2.2) else ((zaY (X,0,0) ws ws.length ws.length).1,n+(zaY (X,0,0) ws ws.length ws.length).2.1,l+(zaY (X,0,0) ws ws.length ws.length).2.2):=by
 rw [(zpS (s:=(X,0,0)) rfl ws.length (Nat.le_refl _)).1,zwu rfl];unfold zcr
 by_cases h:(trK (X,0,0) ws ws.length).2.1=0
 ·rw [if_pos h,zvg h _ (Nat.le_refl _),if_neg (Nat.lt_irrefl _),zwv]
 ·rw [if_neg h,ztj,if_pos (by show n<n+_;omega)]
theorem MiO.again {lo:Nat}{M M2:Mem} {aw uw sv qv qv2:V}{bm bh cm ch:Nat}{em eh:Bool}{Fh Fq Fh2 Fq2:Nat->Prop}{X:MiA}(h:MiO lo M aw uw sv qv bm bh cm ch em eh Fh Fq X) (h2:MiO lo M2 aw uw sv qv2 bm bh cm ch em eh Fh2 Fq2 X) (k: ∀c y,(c≠bm/\c≠bh)->M[c]? =some y->M2[c]? =some y):MiO lo M2 aw uw sv qv bm bh cm ch em eh Fh Fq X:=
 ⟨h.h.to fun c y hc hy=>k c y ⟨fun e=>h.f.1 (e▸hc),fun e=>h.f.2.1 (e▸hc)⟩ hy,h.q.to fun c y hc hy=>k c y ⟨fun e=>h.f.2.2.1 (e▸hc),fun e=>h.f.2.2.2 (e▸hc)⟩ hy,h2.m,h2.d,h.l,h.f,h.fl,h.c,h.b,h.w⟩
set_option maxHeartbeats 1000000 in
theorem zyD {m:Mem} {aw uw sv mv qv hv wv:V}{va vm vs:Nat->V}{X:MiA}{ws:List Int}(h:zdP m aw uw sv mv qv hv va vm vs X) (hw:Rd m wv 1 ws.length (fun i=>[.int .i64 (nxI ws i)])) (hl:ws.length<2305843009213693952) (hf:ends X ws):C S zlX [.agg (miV X aw uw sv mv qv hv),wv] m (zAW m X ws):=by
 have A1:=h.h.a.ar.2.1;have A2:=h.h.u.ar.2.1;have A3:=h.h.s.s.ar.2.1;have A4:=h.k.ar.2.1;have A5:=h.q.s.ar.2.1;have A6:=h.d.ar.2.1;have A7:=hw.ar.2.1;have hh:=zU h;have hw':=zU hw;have hf':=zU hf;have wa':PLift (w64 X.H.na X.H.a):=⟨h.h.wa⟩
 obtain ⟨T,hT⟩: ∃T:V->Mem->Prop,T=zAW m X ws:=⟨_,rfl⟩
 rw [<-hT];have hT':=zU hT;clear h hT hw hf;refine fn rfl ?_;refine (zu7 hh.down.app).mono ?_;rintro _ _ ⟨⟨hk,rfl⟩|⟨hk,rfl⟩,⟨g1,rfl⟩⟩
 case inr=>
  have t:PLift (∀g,T (.tup [.agg [.nils,.int .i64 0,.nils,.nils,.nils,.nils,.nils],.int .i64 0,.int .i64 0,.int .i64 2]) (m++g)):=⟨fun g=>by rw [hT'.down];exact ⟨(zMi,0,0),2,_,.inl ⟨hk,rfl,rfl⟩,rfl,_,_,_,_,_,_,g,rfl,rfl,fun _ _=>⟨_,_,_,zte⟩⟩⟩
  clear hk;refine am ?_;exact t.down _
 have hk':=zU hk;clear hk;refine am ?_;refine (zwk hh.down.app).mono ?_;rintro _ M0 ⟨aw',uw',sv',mv',qv',hv',rfl,hF⟩;obtain ⟨bm,bh,cm,ch,em,eh,Fh,Fq,rfl,rfl,hO⟩:=hF.own hh.down.b (zpF hk'.down).1 (zpF hk'.down).2.1;have hg:Grow (m++ .cells true [miV X aw uw sv mv qv hv]:: .cells true [[.nils,.int .i64 0,.nils,.nils,.nils,.nils,.nils]]::g1) M0:=by
  obtain ⟨b1,b2,g1,g2,g3,g4,_,_,rfl,_⟩:=hF;exact ⟨_,rfl⟩
 have z0:M0[m.length]? =some (.cells true [miV X aw uw sv mv qv hv]):=hg.get (by rw [zM];rfl);have z1:M0[m.length+1]? =some (.cells true [[.nils,.int .i64 0,.nils,.nils,.nils,.nils,.nils]]):=hg.get (by rw [zh];rfl);obtain ⟨c1,c2,c3,c4⟩:=hO.c;have hO':=zU hO;have hg':=zU hg;obtain ⟨lo,hlo⟩: ∃lo,lo=List.length (m++ .cells true [miV X aw uw sv mv qv hv]:: .cells true [[.nils,.int .i64 0,.nils,.nils,.nils,.nils,.nils]]::g1)+2:=⟨_,rfl⟩
 rw [<-hlo] at hO';have l0:m.length+2<=lo:=by rw [hlo,List.length_append];simp
 clear hF hO hg hlo;have l1:lo<=M0.length:=by
  have:=(List.getElem?_eq_some_iff.1 hO'.down.m).1;have:=hO'.down.l.1;omega
 obtain ⟨M1,eM1⟩: ∃M1,M0.set m.length (.cells true [miV X aw' uw' sv' (slM X bm cm em) qv' (slH X bh ch eh)])=M1:=⟨_,rfl⟩
 have p1:M1[m.length]? =some (.cells true [miV X aw' uw' sv' (slM X bm cm em) qv' (slH X bh ch eh)]):=by rw [<-eM1];exact zZ z0
 have y1:M1[m.length+1]? =some (.cells true [[.nils,.int .i64 0,.nils,.nils,.nils,.nils,.nils]]):=by rw [<-eM1];exact zi (by omega) z1
 have k1:PLift (∀(c:Nat) (y:Blk),m[c]? =some y->M1[c]? =some y):=⟨fun c y hy=>by
  have:=(List.getElem?_eq_some_iff.1 hy).1;rw [<-eM1];exact zi (by omega) (hg'.down.get (zb hy))⟩
 have O1:PLift (MiO lo M1 aw' uw' sv' qv' bm bh cm ch em eh Fh Fq X):=⟨by rw [<-eM1];exact hO'.down.to fun c y hc hy=>zi (by omega) hy⟩
 have lM1:lo<=M1.length:=by rw [<-eM1,List.length_set];exact l1
 have lb:=hO'.down.l;have lbm:=(List.getElem?_eq_some_iff.1 O1.down.m).1;have lbh:=(List.getElem?_eq_some_iff.1 O1.down.d).1;have h4:X.hs.length<=4:=by
  have:=hk'.down.2.2.1;have:=hk'.down.2.1.2.1;omega
 have res:PLift (∀(Z:MiA×Nat×Nat) (e:Int) (M:Mem) (qv1:V) (Fh1 Fq1:Nat->Prop) Y,zAV X ws Z e->MiO lo M aw' uw' sv' qv1 bm bh cm ch em eh Fh1 Fq1 Z.1->(∀c y,c<m.length->M1[c]? =some y->M[c]? =some y)->lo<=M.length->T (.tup [.agg (miV Z.1 aw' uw' sv' (slM Z.1 bm cm em) qv1 (slH Z.1 bh ch eh)),.int .i64 (Z.2.1:Nat),.int .i64 (Z.2.2:Nat),.int .i64 e]) (M.set (m.length+1) Y)):=⟨fun Z e M qv1 Fh1 Fq1 Y hZ hM hk hl=>by
  rw [hT'.down];refine ⟨Z,e,_,hZ,rfl,hM.res (by omega) (fun c y hc hy=>zi (by omega) hy) (by rw [List.length_set];omega) (fun c y hy=> ?_)⟩;have:=(List.getElem?_eq_some_iff.1 hy).1;exact zi (by omega) (hk c y this (k1.down c y hy))⟩
 clear z1 hg' hO';have pb:= @zds;refine am ?_;clear z0 eM1 l1;refine range (α:=V) X.hs.length (fun v=>[(8,v),(2,.ptr m.length 0 0),(1,wv),(4,.ptr (m.length+1) 0 0)]) (fun k v M=> ∃g',M=M1++g'/\Gw M1.length g' v 1 (zm1 (List.range k))) .nils ⟨[],by simp only [List.append_nil],.inl ⟨rfl,rfl⟩⟩ ?_ ?_
 ·rintro k v fr _ hk F ⟨g',rfl,hG⟩
  have vc:=hG.cell;obtain ⟨els,he⟩: ∃els,zm1 (List.range k)=els:=⟨_,rfl⟩
  have hle:els.length=k:=by rw [<-he];simp
  have he2:PLift (zm1 (List.range (k+1))=els++[[.int .i64 (k:Nat)]]):=⟨by rw [<-he,List.range_succ,zm1,List.map_append];rfl⟩
  rw [he] at hG;obtain ⟨g2,l1,_,hp⟩:=Gw.push (A:=M1) (zero:=[.int .i64 0]) (bytes:=8) hG.cast rfl (by simp [roomy];omega);have l1':=zU l1;clear hG l1 he;refine am ?_;refine ⟨.slice (M1.length+(g'.length+1)) 0 (els.length+1) (els.length+1) false 1,zg,_,rfl,?_⟩;rw [he2.down];refine .inr ⟨g'.length+1,(by rw [List.length_append];rfl),?_⟩;rw [<-l1'.down,zh];rfl
 rintro av fr _ F ⟨g',rfl,hG⟩;have ac:=hG.cell;have hA:PLift (Gw M1.length g' av 1 (zm1 (List.range X.hs.length))):=⟨hG⟩
 obtain ⟨M2,eM2⟩: ∃M2,M1++g'=M2:=⟨_,rfl⟩
 have k2:PLift (∀(c:Nat) (y:Blk),M1[c]? =some y->M2[c]? =some y):=⟨fun c y hy=>by rw [<-eM2];exact zb hy⟩
 have p2:=k2.down _ _ p1;have y2:=k2.down _ _ y1;have O2:PLift (MiO lo M2 aw' uw' sv' qv' bm bh cm ch em eh Fh Fq X):=⟨by rw [<-eM2];exact O1.down.grow⟩
 have lM2:M1.length<=M2.length:=by rw [<-eM2,List.length_append];omega
 have hw2:PLift (∀M:Mem,(∀(c:Nat) (y:Blk),c<m.length->M1[c]? =some y->M[c]? =some y)->Rd M wv 1 ws.length (fun i=>[.int .i64 (nxI ws i)])):=⟨fun M hM=>zmC hw'.down fun c y _ hy=>hM c y (List.getElem?_eq_some_iff.1 hy).1 (k1.down c y hy)⟩
 have hav:PLift (∀M:Mem,(∀(c:Nat) (y:Blk),(c≠m.length/\c≠bm/\c≠bh)->M2[c]? =some y->M[c]? =some y)->Rd M av 1 (List.range X.hs.length).length (fun i=>[.int .i64 (nx (List.range X.hs.length) i:Nat)])):=⟨fun M hM=>by
  have e:zm1 (List.range X.hs.length)=(List.range (List.range X.hs.length).length).map fun i=>[V.int .i64 (nx (List.range X.hs.length) i:Nat)]:=by
   refine List.ext_getElem (by simp) fun i h1 h2=> ?_
   have h:i<X.hs.length:=by simpa using h1
   simp [nx,List.getD_eq_getElem?_getD,h]
  rcases hA.down with ⟨rfl,e2⟩|⟨j,rfl,hj⟩
  ·have hn:X.hs.length=0:=by have:=congrArg List.length e2;simpa using this
   rw [hn];exact .inl ⟨rfl,rfl⟩
  ·have hb:=hM (M1.length+j) _ (by omega) (by rw [<-eM2,zh];exact hj)
   refine .inl ?_;rw [<-e];exact Sl.mk hb⟩
 have B:=(hw2.down M2 fun c y _ hy=>k2.down c y hy).ar;rw [eM2];clear eM2 hG;refine am ?_;refine range (α:=Unit) ws.length (fun _=>[(34,wv),(8,av),(2,.ptr m.length 0 0),(1,wv),(4,.ptr (m.length+1) 0 0)]) (fun k _ M=>M=M2/\ ∀i,i<k->0<=nxI ws i/\nxI ws i<(X.hs.length:Int)) () ⟨rfl,fun i h=>absurd h (Nat.not_lt_zero _)⟩ ?_ ?_
 ·rintro k _ fr M hk F ⟨eM,hs⟩
  rw [eM];clear eM M;have hs':=zU hs;have bad:¬ (0<=nxI ws k/\nxI ws k<(X.hs.length:Int))->PLift (∀Y,T (.tup [.agg (miV X aw' uw' sv' (slM X bm cm em) qv' (slH X bh ch eh)),.int .i64 0,.int .i64 0,.int .i64 11]) (M2.set (m.length+1) Y)):=fun hn=>⟨fun Y=>res.down (X,0,0) 11 M2 qv' Fh Fq Y (.inr (.inl ⟨hk'.down,fun e=>hn (e k hk),rfl,rfl⟩)) O2.down (fun c y _ hy=>k2.down c y hy) (by omega)⟩
  have s1: ∀Y,(M2.set (m.length+1) Y)[m.length+1]? =some Y:=fun Y=>zx (by rw [y2];rfl)
  clear hs
  by_cases a1:nxI ws k<0
  ·have e1:(nxI ws k<0)=True:=eq_true a1
   have b':=bad (by omega);clear a1 bad;refine am ?_;exact b'.down _
  have e1:(nxI ws k<0)=False:=eq_false a1
  by_cases a2:(X.hs.length:Int)<=nxI ws k
  ·have e2:((X.hs.length:Int)<=nxI ws k)=True:=eq_true a2
   have b':=bad (by omega);clear a1 a2 bad;refine am ?_;exact b'.down _
  have e2:((X.hs.length:Int)<=nxI ws k)=False:=eq_false a2;have nxt:PLift (∀i,i<k+1->0<=nxI ws i/\nxI ws i<(X.hs.length:Int)):=⟨fun i hi=>by
   by_cases ei:i=k
   ·subst ei;omega
   ·exact hs'.down i (by omega)⟩
  clear a1 a2 bad;refine am ?_;exact ⟨(),zg,rfl,nxt.down⟩
 rintro _ fr M F ⟨eM,ht⟩;rw [eM];clear eM M;have ht':PLift (zyB X.hs.length ws):=⟨ht⟩
 clear ht;obtain ⟨f,Zf,hrun⟩:=hf'.down hk'.down ht'.down;obtain ⟨WL,eWL⟩: ∃WL,wlA X.hs.length ws=WL:=⟨_,rfl⟩
 obtain ⟨AL,eAL⟩: ∃AL,List.range X.hs.length=AL:=⟨_,rfl⟩
 have lWL:WL.length<=ws.length+4:=by
  rw [<-eWL];unfold wlA
  split
  ·simp;omega
  ·simp
 have bAL: ∀w,w∈AL->w<X.hs.length:=by
  rw [<-eAL];intro w hw;exact List.mem_range.1 hw
 have bWL: ∀w,w∈WL->w<X.hs.length:=by rw [<-eWL];exact zAc ht'.down
 have lAL:AL.length<=4:=by rw [<-eAL];simp;omega
 rw [eAL] at hav;have hrun':PLift (zbk f (X,0,0) WL AL=some Zf):=⟨by rw [<-eWL,<-eAL];exact hrun⟩
 have eWL':=zU eWL;have eAL':=zU eAL;have bWL':=zU bWL;have bAL':=zU bAL;clear hrun eWL eAL bWL bAL;have key: ∀(fr:Frame) (wv:V),Has fr [(1,wv),(2,.ptr m.length 0 0),(8,av),(4,.ptr (m.length+1) 0 0)]->wv.isCell=true->(∀M:Mem,(∀(c:Nat) (y:Blk),(c≠m.length/\c≠bm/\c≠bh)->M2[c]? =some y->M[c]? =some y)->Rd M wv 1 WL.length (fun i=>[.int .i64 (nx WL i:Nat)]))->W S zkO fr M2 (zkc [.cell 4 (some 7),.t 5,.t 6,.t 7] T):=by
  clear F A7 B hw' fr hw2;intro fr wv F A7 hRd;have hRd':=zU hRd;clear hRd;have Mw:PLift (Rok X (X,0,0)):=⟨hk'.down,hh.down.wk,rfl,rfl,rfl,Nat.le_refl _,by show 0+mu X<=mu X;omega⟩
  refine into ?_
  let I:=fun (d:Nat) (fr:Frame) (M:Mem)=> ∃(s:MiA×Nat×Nat) (qv1:V) (Fq1:Nat->Prop),Rok X s/\zbk d s WL AL=some Zf/\M[m.length]? =some (.cells true [[aw',.int .i64 X.H.us.N,uw',sv',.slice bm 0 X.nm cm em 1,qv1,.slice bh 0 X.hs.length ch eh 7]])/\MiO lo M aw' uw' sv' qv1 bm bh cm ch em eh Fh Fq1 s.1/\M2.length<=M.length/\(∀(c:Nat) (y:Blk),(c≠m.length/\c≠bm/\c≠bh)->M2[c]? =some y->M[c]? =some y)/\Has fr [(1,wv),(2,.ptr m.length 0 0),(8,av),(4,.ptr (m.length+1) 0 0),(12,.int .i64 (s.2.1:Nat)),(13,.int .i64 (s.2.2:Nat))]
  refine zO I ?_ f ⟨(X,0,0),qv',Fq,Mw.down,hrun'.down,p2,O2.down,Nat.le_refl _,fun c y _ hy=>hy,zg⟩;rintro d fr M ⟨s,qv1,Fq1,hs,hr,pM,hO,l1,kp,F⟩;have kp':=zU kp;have l1':=zU l1;have hs':=zU hs;have hr':=zU hr;have hO':=zU hO;obtain ⟨_,_,_,c5⟩:=hO.c;obtain ⟨vs1,hq1⟩:=hO.q.at;have eN:s.1.H.us.N=X.H.us.N:=by rw [hs.eH]
  have en:=hs.en;have el:=hs.el;have hd1:Rd M (slH s.1 bh ch eh) 7 s.1.hs.length (fun i=>zt (hat s.1.hs i)):= .inl (by have:=Sl.mk (cap:=ch) (z:=7) (ex:=eh) hO.d;rw [List.length_map,List.length_range] at this;exact this);have BU:=zU (zwp (X:=s.1) (c0:=aw') (c1:= .int .i64 X.H.us.N) (c2:=uw') (c3:=sv') (c4:= .slice bm 0 X.nm cm em 1) hq1 hd1 hs.ok.2.1 hO.w.ld ⟨c1,rfl,c2,c3,rfl⟩);rw [show slH s.1 bh ch eh= .slice bh 0 X.hs.length ch eh 7 by show V.slice bh 0 s.1.hs.length ch eh 7=_;rw [el]] at BU;have pcells:PLift (∀q,V.agg (miV s.1 aw' uw' sv' (slM s.1 bm cm em) q (slH s.1 bh ch eh))= .agg [aw',.int .i64 X.H.us.N,uw',sv',.slice bm 0 X.nm cm em 1,q,.slice bh 0 X.hs.length ch eh 7]):=⟨fun q=>by
   show V.agg [aw',.int .i64 s.1.H.us.N,uw',sv',.slice bm 0 s.1.nm cm em 1,q,.slice bh 0 s.1.hs.length ch eh 7]=_;rw [eN,en,el]⟩
  clear hs hr hO l1 kp hq1 hd1 eN en el;refine into ?_;refine BU.down.mono ?_;rintro _ _ ⟨rfl,g3,rfl⟩;obtain ⟨M3,eM3⟩: ∃M3,M++g3=M3:=⟨_,rfl⟩
  have k3: ∀(c:Nat) (y:Blk),M[c]? =some y->M3[c]? =some y:=fun c y hy=>by rw [<-eM3];exact zb hy
  have O3:=zU ((hO'.down.keep fun c y _ hy=>k3 c y hy).small);have kp3:PLift (∀(c:Nat) (y:Blk),(c≠m.length/\c≠bm/\c≠bh)->M2[c]? =some y->M3[c]? =some y):=⟨fun c y hc hy=>k3 c y (kp'.down c y hc hy)⟩
  have l3:M2.length<=M3.length:=by rw [<-eM3,List.length_append];have:=l1'.down;omega
  have p3:=k3 _ _ pM;have y3:M3[m.length+1]? =some (.cells true [[.nils,.int .i64 0,.nils,.nils,.nils,.nils,.nils]]):=kp3.down _ _ (by omega) y2;clear k3 pM kp' l1' hO' BU p1 y1 p2;rw [eM3];clear eM3 g3 M;cases hbz:zel s.1 with
  |false=>
   have eZ:s=Zf:=by
    have:=hr'.down;cases d with
    |zero=>unfold zbk at this;rw [if_neg (by rw [hbz];decide)] at this;exact Option.some.inj this
    |succ d=>unfold zbk at this;rw [if_neg (by rw [hbz];decide)] at this;exact Option.some.inj this
   have t:PLift (∀Y,T (.tup [.agg [aw',.int .i64 X.H.us.N,uw',sv',.slice bm 0 X.nm cm em 1,qv1,.slice bh 0 X.hs.length ch eh 7],.int .i64 (s.2.1:Nat),.int .i64 (s.2.2:Nat),.int .i64 0]) (M3.set (m.length+1) Y)):=⟨fun Y=>by
    have:=res.down s 0 M3 qv1 _ _ Y (.inr (.inr ⟨hk'.down,ht'.down,⟨f,by rw [eWL'.down,eAL'.down,eZ];exact hrun'.down⟩,rfl⟩)) O3.down (fun c y hc hy=>kp3.down c y (by omega) (k2.down c y hy)) (by omega);rw [pcells.down] at this;exact this⟩
   have s1: ∀Y,(M3.set (m.length+1) Y)[m.length+1]? =some Y:=fun Y=>zx (by rw [y3];rfl)
   clear hbz eZ;refine am ?_;exact t.down _
  |true=>
   cases d with
   |zero=>have:=hr'.down;unfold zbk at this;rw [if_pos hbz] at this;cases this
   |succ d=>
    have hr2:PLift (zbk d (zcr s WL AL) WL AL=some Zf):=⟨by have:=hr'.down;unfold zbk at this;rw [if_pos hbz] at this;exact this⟩
    have RA:PLift (zcr s WL AL=if (zaY (s.1,0,0) WL WL.length WL.length).2.1=0 then ((zaY (s.1,0,0) AL 1 AL.length).1,s.2.1+(zaY (s.1,0,0) AL 1 AL.length).2.1,s.2.2+(zaY (s.1,0,0) AL 1 AL.length).2.2) else ((zaY (s.1,0,0) WL WL.length WL.length).1,s.2.1+(zaY (s.1,0,0) WL WL.length WL.length).2.1,s.2.2+(zaY (s.1,0,0) WL WL.length WL.length).2.2)):=⟨zww (X:=s.1) (n:=s.2.1) (l:=s.2.2)⟩
    have RO:PLift (Rok X (zcr s WL AL)):=⟨(hs'.down.round wa'.down bWL'.down bAL'.down).1⟩
    have r3:=(hRd'.down M3 kp3.down).ar;have B1:=r3.1;have was:w64 s.1.H.na s.1.H.a:=by rw [hs'.down.eH];exact wa'.down
    have R1:=zmK (most:=WL.length) (ws:=WL) (wv:=wv) O3.down (fun b h=>h.2) (fun b h=>h.2) hs'.down.ok (by omega) A7 (by omega) (fun w hw=>by rw [hs'.down.el];exact bWL'.down w hw) (fun M' h=>hRd'.down M' fun c y hc hy=>h c y hc.2 (kp3.down c y hc hy)) was;rw [pcells.down,hs'.down.eH,hs'.down.en,hs'.down.el] at R1;have R1':=zU R1;have was':=zU was;obtain ⟨Z1,eZ1⟩: ∃Z1,zaY (s.1,0,0) WL WL.length WL.length=Z1:=⟨_,rfl⟩
    rw [eZ1] at R1' RA;have hz1:Z1.2.1=0->Z1=(s.1,0,0):=fun h=>by
     have e:=(zpS (s:=(s.1,0,0)) (ws:=WL) rfl WL.length (Nat.le_refl _)).1;rw [eZ1] at e;rw [e] at h ⊢;exact zvg h _ (Nat.le_refl _)
    have hz1':=zU hz1;clear r3 was R1 hbz hz1 eZ1;have step:PLift (∀(Z:MiA×Nat×Nat) (M5:Mem) (qv5:V) (Fq5:Nat->Prop),zcr s WL AL=(Z.1,s.2.1+Z.2.1,s.2.2+Z.2.2)->MiO lo M5 aw' uw' sv' qv5 bm bh cm ch em eh (fun b=>Fh b/\b<M3.length) Fq5 Z.1->M3.length<=M5.length->(∀(c:Nat) (y:Blk),(c≠bm/\c≠bh)->c<M3.length->M3[c]? =some y->M5[c]? =some y)-> ∀fr',Has fr' [(1,wv),(2,.ptr m.length 0 0),(8,av),(4,.ptr (m.length+1) 0 0),(12,.int .i64 ((s.2.1+Z.2.1:Nat):Int)),(13,.int .i64 ((s.2.2+Z.2.2:Nat):Int))]->I d fr' (M5.set m.length (.cells true [[aw',.int .i64 X.H.us.N,uw',sv',.slice bm 0 X.nm cm em 1,qv5,.slice bh 0 X.hs.length ch eh 7]]))):=⟨fun Z M5 qv5 Fq5 eR hO5 l5 k5 fr' F'=>by
     have hR:=RO.down;have hr:=hr2.down;rw [eR] at hR hr;have p5:=k5 m.length _ (by omega) (by omega) p3;refine ⟨(Z.1,s.2.1+Z.2.1,s.2.2+Z.2.2),qv5,Fq5,hR,hr,zZ p5,?_,by rw [List.length_set];omega,fun c y hc hy=> ?_,F'⟩
     ·have h:=hO5.keep (M2:=M5.set m.length (.cells true [[aw',.int .i64 X.H.us.N,uw',sv',.slice bm 0 X.nm cm em 1,qv5,.slice bh 0 X.hs.length ch eh 7]])) fun c y hc hy=>zi (fun e=>by
       subst e;rcases hc with hc|hc|hc|hc
       ·omega
       ·omega
       ·have:=hO5.fl _ (.inl hc);omega
       ·have:=hO5.fl _ (.inr hc);omega) hy
      exact ⟨h.h.mono fun b hb=>hb.1,h.q,h.m,h.d,h.l,⟨fun e=>O2.down.f.1 e,fun e=>O2.down.f.2.1 e,h.f.2.2.1,h.f.2.2.2⟩,fun b hb=>hb.elim (fun hb=>O2.down.fl b (.inl hb)) (fun hb=>h.fl b (.inr hb)),h.c,h.b,h.w⟩
     ·have:=(List.getElem?_eq_some_iff.1 hy).1
      exact zi (Ne.symm hc.1) (k5 c y hc.2 (by omega) (kp3.down c y hc hy))⟩
    refine am ?_;refine R1'.down.mono ?_;rintro _ M4 ⟨l4,k4,qv4,Fq4,hf4,rfl,hO4⟩;have p4:=k4 _ _ (by omega) p3;have lt4:m.length<M4.length:=(List.getElem?_eq_some_iff.1 p4).1;obtain ⟨_,_,_,c6⟩:=hO4.c;have hlt:=RO.down.lt hk'.down;have hle:=RO.down.le;have nT:(M4.length=m.length)=False:=eq_false (by omega);have nT2:(m.length=M4.length)=False:=eq_false (by omega);have g1:= @zx;have g2:= @zaX;have g3:= @set_set;have hO4':=zU hO4;have k4':=zU k4;have l4':=zU l4
    by_cases e0:Z1.2.1=0
    ·have d0:((Z1.2.1:Int)=0)=True:=eq_true (by omega)
     have ez:=hz1'.down e0;have RA2:=RA.down;rw [if_pos e0] at RA2;have O4:MiO lo M4 aw' uw' sv' qv1 bm bh cm ch em eh (fun b=>Fh b/\b<M3.length) (fun b=>Fq1 b/\b<M3.length) s.1:=O3.down.again (by rw [ez] at hO4;exact hO4) k4;have O4g:=fun G:Mem=>(O4.grow (g:=G))
     have R2:=fun G:Mem=>zmK (most:=1) (ws:=AL) (wv:=av) (M:=M4++G) (O4.grow (g:=G)) (fun b h=>by rw [List.length_append];have:=h.2;omega) (fun b h=>by rw [List.length_append];have:=h.2;omega) hs'.down.ok (by rw [List.length_append];omega) ac (by omega) (fun w hw=>by rw [hs'.down.el];exact bAL'.down w hw) (fun M' h=>hav.down M' fun c y hc hy=>h c y hc.2 (zb (k4 c y hc.2 (kp3.down c y hc hy)))) was'.down
     simp only [pcells.down,hs'.down.eH,hs'.down.en,hs'.down.el] at R2;obtain ⟨Z2,eZ2⟩: ∃Z2,zaY (s.1,0,0) AL 1 AL.length=Z2:=⟨_,rfl⟩
     rw [eZ2] at R2 RA2;rw [RA2] at hlt hle;dsimp only at hlt hle;have w1:IntKind.i64.wrap ((s.2.1:Int)+(Z2.2.1:Int))=((s.2.1+Z2.2.1:Nat):Int):=by rw [wrap_i64]<;>omega
     have w2:IntKind.i64.wrap ((s.2.2:Int)+(Z2.2.2:Int))=((s.2.2+Z2.2.2:Nat):Int):=by rw [wrap_i64]<;>omega
     have R2':=zU R2;have RA2':=zU RA2;have hP4:=fun G:Mem=>zb (g:=G) p4
     clear e0 ez RA2 O4 O4g R2 hf4 hO4 k4 l4 eZ2;refine am ?_;refine (R2'.down _).mono ?_;rintro _ M5 ⟨l5,k5,qv5,Fq5,hf5,rfl,hO5⟩;have p5:=k5 m.length _ (by omega) (zb p4);have q5:=k5 M4.length _ (by have:=l4'.down;omega) (by rw [zM];rfl);have nF:¬ Fq5 M4.length:=fun e=>by
      rcases hf5 _ e with e|e
      ·have:=e.2;have:=l4'.down;omega
      ·rw [List.length_append,List.length_cons] at e;omega
     have ST:=zU (fun Y=>step.down Z2 (M5.set M4.length Y) qv5 Fq5 RA2'.down (hO5.keep fun c y hc hy=>zi (fun e=>by
      subst e;rcases hc with hc|hc|hc|hc
      ·have:=l4'.down;omega
      ·have:=l4'.down;omega
      ·have:=hc.2;have:=l4'.down;omega
      ·exact nF hc) hy) (by rw [List.length_set];have:=l4'.down;rw [List.length_append] at l5;omega) (fun c y hc hlt hy=>zi (by have:=l4'.down;omega) (k5 c y hc (zb (k4'.down c y hc hy)))))
     obtain ⟨_,_,_,c7⟩:=hO5.c;clear hf5 hO5 k5 l5 nF;refine am ?_;refine into ?_;exact ⟨d,Nat.lt_succ_self d,ST.down _ _ zg⟩
    ·have d0:((Z1.2.1:Int)=0)=False:=eq_false (by omega)
     have RA2:=RA.down;rw [if_neg e0] at RA2;rw [RA2] at hlt hle;dsimp only at hlt hle;have w1:IntKind.i64.wrap ((s.2.1:Int)+(Z1.2.1:Int))=((s.2.1+Z1.2.1:Nat):Int):=by rw [wrap_i64]<;>omega
     have w2:IntKind.i64.wrap ((s.2.2:Int)+(Z1.2.2:Int))=((s.2.2+Z1.2.2:Nat):Int):=by rw [wrap_i64]<;>omega
     have ST:=zU (fun G=>step.down Z1 (M4++G) qv4 Fq4 RA2 hO4.grow (by rw [List.length_append];omega) (fun c y hc _ hy=>zb (k4 c y hc hy)));clear e0 RA2 hf4 hO4 k4 l4;refine am ?_;refine into ?_;exact ⟨d,Nat.lt_succ_self d,ST.down _ _ zg⟩
 by_cases e0:ws=[]
 ·have c0:((ws.length:Int)=0)=True:=eq_true (by rw [e0];rfl)
  have e1:WL=AL:=by rw [<-eWL'.down,<-eAL'.down];unfold wlA;rw [if_pos e0]
  have key':=zU (fun fr F=>key fr av F ac fun M hM=>by rw [e1];exact hav.down M hM);clear key e0 e1;refine am ?_;exact key'.down _ zg
 ·have c0:((ws.length:Int)=0)=False:=eq_false (by have:=List.length_pos_iff.2 e0;omega)
  have hwv: ∀M:Mem,(∀(c:Nat) (y:Blk),(c≠m.length/\c≠bm/\c≠bh)->M2[c]? =some y->M[c]? =some y)->Rd M wv 1 WL.length (fun i=>[.int .i64 (nx WL i:Nat)]):=fun M hM=>zBd (eWL'.down▸rfl) e0 ht'.down (hw2.down M fun c y hc hy=>hM c y (by omega) (k2.down c y hy))
  have key':=zU (fun fr F=>key fr wv F A7 hwv);clear key e0 hwv;refine am ?_;exact key'.down _ zg
theorem zvh {ws all:List Nat}: ∀f f' s Z Z',zbk f s ws all=some Z->zbk f' s ws all=some Z'->Z=Z'
 |0,f',s,Z,Z',h,h'=>by
  unfold zbk at h
  by_cases b:zel s.1=true
  ·rw [if_pos b] at h;cases h
  ·rw [if_neg b] at h
   cases f' with
   |zero=>unfold zbk at h';rw [if_neg b] at h';exact (Option.some.inj h).symm.trans (Option.some.inj h')
   |succ f'=>unfold zbk at h';rw [if_neg b] at h';exact (Option.some.inj h).symm.trans (Option.some.inj h')
 |f+1,f',s,Z,Z',h,h'=>by
  unfold zbk at h
  by_cases b:zel s.1=true
  ·rw [if_pos b] at h
   cases f' with
   |zero=>unfold zbk at h';rw [if_pos b] at h';cases h'
   |succ f'=>unfold zbk at h';rw [if_pos b] at h';exact zvh f f' _ Z Z' h h'
  ·rw [if_neg b] at h
   cases f' with
   |zero=>unfold zbk at h';rw [if_neg b] at h';exact (Option.some.inj h).symm.trans (Option.some.inj h')
   |succ f'=>unfold zbk at h';rw [if_neg b] at h';exact (Option.some.inj h).symm.trans (Option.some.inj h')
theorem zAd {X:MiA}{ws:List Int}{Z Z':MiA×Nat×Nat}{e e':Int}(h:zAV X ws Z e) (h':zAV X ws Z' e'):Z=Z'/\e=e':=by
 rcases h with ⟨a,rfl,rfl⟩|⟨a,b,rfl,rfl⟩|⟨a,b,⟨f,c⟩,rfl⟩<;>rcases h' with ⟨a',rfl,rfl⟩|⟨a',b',rfl,rfl⟩|⟨a',b',⟨f',c'⟩,rfl⟩<;>first|exact ⟨rfl,rfl⟩|exact absurd a a'|exact absurd a' a|exact absurd b b'|exact absurd b' b|exact ⟨zvh _ _ _ _ _ c c',rfl⟩
theorem zyE {H:zm}{c:Int}{rs:List Nat}{Z Z':MiA}{e e':Int}(h:zmJ H c rs Z e) (h':zmJ H c rs Z' e'):Z=Z'/\e=e':=by
 rcases h with ⟨a,rfl,rfl⟩|⟨a,b,rfl,rfl⟩|⟨a,b,d,rfl,rfl⟩|⟨a,b,d1,d2,k,rfl,rfl⟩|⟨a,b,d1,d2,k,rfl,rfl⟩<;>rcases h' with ⟨a',rfl,rfl⟩|⟨a',b',rfl,rfl⟩|⟨a',b',d',rfl,rfl⟩|⟨a',b',d1',d2',k',rfl,rfl⟩|⟨a',b',d1',d2',k',rfl,rfl⟩<;>first|exact ⟨rfl,rfl⟩|exact absurd a a'|exact absurd a' a|exact absurd b b'|exact absurd b' b|exact absurd ⟨d1,d2⟩ d'|exact absurd ⟨d1',d2'⟩ d|exact absurd k k'|exact absurd k' k
theorem zpT {m:Mem} {aw uw sv mv qv hv wv ha hu hs rv:V} {va vm vs va' vm':Nat->V}{X:MiA}{ws:List Int}{H:zm}{c:Int}{rs:List Nat}(h:zdP m aw uw sv mv qv hv va vm vs X) (hw:Rd m wv 1 ws.length (fun i=>[.int .i64 (nxI ws i)])) (hl:ws.length<2305843009213693952) (hH:zbQ m ha hu hs va' vm' H) (bb:V.beq ha ha=true/\V.beq hu hu=true/\V.beq hs hs=true) (ls:H.ns*96<=140737488355328) (hr:Nus m rv rs) (hrl:rs.length<4611686018427387904):
  C Stl zfa [.agg (miV X aw uw sv mv qv hv),wv,.agg (zy H ha hu hs),.int .i64 c,rv] m (fun r _=>r= .bool true):=by
 obtain ⟨A1,A2,A3,A4,A5,A6⟩:=h.cells;have hc1:=hH.a.ar.2.1;have hc2:=hH.u.ar.2.1;have hc3:=hH.s.s.ar.2.1;have wc:=hw.ar.2.1;have rc:=hr.ar.2.1;have hh:=zU h;have hw':=zU hw;have hH':=zU hH;have hr':=zU hr;have hend:=zU (zAX h.h.wa h.wk ws);clear h hw hH hr;refine fn rfl ?_;refine (toL (zrU hh.down.app (Rd.app hw'.down) hl hend.down)).mono ?_;rintro _ _ ⟨Z,e,l,hZ,rfl,aw2,uw2,sv2,mv2,qv2,hv2,G1,rfl,rfl,p2⟩;obtain ⟨_,_,_,_,q2⟩:=p2.ex;obtain ⟨C1,C2,C3,C4,C5,C6⟩:=q2.cells;have r2:PLift (∀R,MiX (m++ .cells true [miV X aw uw sv mv qv hv]:: .cells true [zy H ha hu hs]::(G1++R)) aw2 uw2 sv2 mv2 qv2 hv2 Z.1):=⟨fun R=>p2.on⟩
 have hZ':=zU hZ;clear p2 q2 hZ;refine am ?_;refine (toL (zyD hh.down.app (Rd.app hw'.down) hl hend.down)).mono ?_;rintro _ _ ⟨Z2,e2,l,hZ2,rfl,aw3,uw3,sv3,mv3,qv3,hv3,G2,rfl,rfl,p3⟩;obtain ⟨rfl,rfl⟩:=zAd hZ'.down hZ2;obtain ⟨_,_,_,_,q3⟩:=p3.ex;obtain ⟨D1,D2,D3,D4,D5,D6⟩:=q3.cells;have r3:PLift (∀R,MiX (m++ .cells true [miV X aw uw sv mv qv hv]:: .cells true [zy H ha hu hs]::(G1++ .cells true [miV Z.1 aw2 uw2 sv2 mv2 qv2 hv2]::(G2++R))) aw3 uw3 sv3 mv3 qv3 hv3 Z.1):=⟨fun R=>p3.on⟩
 clear p3 q3 hZ2 hZ';refine am ?_;refine (toL (zpR hH'.down.app bb ls (Rd.app hr'.down) hrl)).mono ?_;rintro _ _ ⟨Y,e3,l,hY,rfl,aw4,uw4,sv4,mv4,qv4,hv4,G3,rfl,rfl,p4⟩;obtain ⟨_,_,_,_,q4⟩:=p4.ex;obtain ⟨E1,E2,E3,E4,E5,E6⟩:=q4.cells;have r4:PLift (∀R,MiX (m++ .cells true [miV X aw uw sv mv qv hv]:: .cells true [zy H ha hu hs]::(G1++ .cells true [miV Z.1 aw2 uw2 sv2 mv2 qv2 hv2]::(G2++ .cells true [miV Z.1 aw3 uw3 sv3 mv3 qv3 hv3]::(G3++R)))) aw4 uw4 sv4 mv4 qv4 hv4 Y):=⟨fun R=>p4.on⟩
 have hY':=zU hY;clear p4 q4 hY;refine am ?_;refine (toL (zwt hH'.down.app bb ls (Rd.app hr'.down) hrl)).mono ?_;rintro _ _ ⟨Y2,e4,l,hY2,rfl,aw5,uw5,sv5,mv5,qv5,hv5,G4,rfl,rfl,p5⟩;obtain ⟨rfl,rfl⟩:=zyE hY'.down hY2;obtain ⟨_,_,_,_,q5⟩:=p5.ex;obtain ⟨F1,F2,F3,F4,F5,F6⟩:=q5.cells;have r5:PLift (∀R,MiX (m++ .cells true [miV X aw uw sv mv qv hv]:: .cells true [zy H ha hu hs]::(G1++ .cells true [miV Z.1 aw2 uw2 sv2 mv2 qv2 hv2]::(G2++ .cells true [miV Z.1 aw3 uw3 sv3 mv3 qv3 hv3]::(G3++ .cells true [miV Y aw4 uw4 sv4 mv4 qv4 hv4]::(G4++R))))) aw5 uw5 sv5 mv5 qv5 hv5 Y):=⟨fun R=>p5.on⟩
 clear p5 q5 hY2 hY';refine am ?_;refine zvM.mono ?_;rintro _ _ ⟨rfl,rfl⟩;refine am ?_;obtain ⟨_,_,_,k2⟩:=r2.down (.cells true [miV Z.1 aw2 uw2 sv2 mv2 qv2 hv2]::(G2++ .cells true [miV Z.1 aw3 uw3 sv3 mv3 qv3 hv3]::(G3++ .cells true [miV Y aw4 uw4 sv4 mv4 qv4 hv4]::(G4++[.cells true [miV Y aw5 uw5 sv5 mv5 qv5 hv5]]))));obtain ⟨_,_,_,k3⟩:=r3.down (.cells true [miV Z.1 aw3 uw3 sv3 mv3 qv3 hv3]::(G3++ .cells true [miV Y aw4 uw4 sv4 mv4 qv4 hv4]::(G4++[.cells true [miV Y aw5 uw5 sv5 mv5 qv5 hv5]])));refine (toL (zpE k2 k3)).mono ?_;rintro _ _ ⟨rfl,G5,rfl⟩;clear k2 k3;refine am ?_;obtain ⟨_,_,_,k2⟩:=r4.down (.cells true [miV Y aw4 uw4 sv4 mv4 qv4 hv4]::(G4++ .cells true [miV Y aw5 uw5 sv5 mv5 qv5 hv5]::G5));obtain ⟨_,_,_,k3⟩:=r5.down (.cells true [miV Y aw5 uw5 sv5 mv5 qv5 hv5]::G5);refine (toL (zpE k2 k3)).mono ?_;rintro _ _ ⟨rfl,G6,rfl⟩;exact zg
end Go.AM.G
