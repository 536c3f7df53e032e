import Derived.Test.YtfhbhfogcgfeeaaGreatDoorHwC
set_option linter.unusedVariables false
set_option linter.unusedSimpArgs false
set_option maxRecDepth 100000
namespace Go.AM.G
open Go Go.AM
def Dn (X:MiA) (a f:Nat):Prop:=(unM (X.H.a a)).testBit f=true->X.H.a (a+1+f)≠0->bit X.mw (X.H.a (a+1+f)/2)=true
def zBv (X:MiA) (a:Nat):Prop:=a∈X.qs.flatten\/(∃i,i<X.hs.length/\(hat X.hs i).pc=5/\(hat X.hs i).to=a)\/(∃i,i<X.hs.length/\(hat X.hs i).pc≠0/\(hat X.hs i).obj=a/\ ∀f:Nat,(f:Int)<(hat X.hs i).f->Dn X a f)\/ ∀f,f<X.H.a a%256->Dn X a f
structure Clo (R:Nat->Prop) (rs:List Nat) (X:MiA):Prop where
 once:Once X
 lnk: ∀i,i<X.hs.length->3<=(hat X.hs i).pc->(hat X.hs i).to=X.H.a ((hat X.hs i).obj+1+(hat X.hs i).f.toNat)
 ms: ∀a,a∈X.H.cs->bit X.mw (a/2)=true->R a
 ob: ∀i,i<X.hs.length->(hat X.hs i).pc≠0->R (hat X.hs i).obj
 rt: ∀r,r∈rs->r≠0->bit X.mw (r/2)=true
 pend: ∀a,a∈X.H.cs->bit X.mw (a/2)=true->zBv X a
section
variable {R:Nat->Prop}{rs:List Nat}{X:MiA}
theorem Clo.step (h:Clo R rs X){w:Nat}(hw:w<X.hs.length){x:zT}{qs:List (List Nat)}{mw:Nat->Nat}(o:Once { X with mw:=mw,qs:=qs,hs:=X.hs.set w x })
  (up: ∀p,bit X.mw p=true->bit mw p=true) (hl:3<=x.pc->x.to=X.H.a (x.obj+1+x.f.toNat)) (ho:x.pc≠0->R x.obj)
  (new: ∀a,a∈X.H.cs->bit mw (a/2)=true->bit X.mw (a/2)=true\/(R a/\x.pc=5/\x.to=a))
  (hq: ∀a,a∈X.qs.flatten->a∈qs.flatten\/(x.pc=1/\x.obj=a/\x.f=0))
  (h5:(hat X.hs w).pc=5->(hat X.hs w).to∈qs.flatten)
  (hp:(hat X.hs w).pc≠0->(∀f:Nat,(f:Int)<(hat X.hs w).f->Dn { X with mw:=mw,qs:=qs,hs:=X.hs.set w x } (hat X.hs w).obj f)->(x.pc≠0/\x.obj=(hat X.hs w).obj/\ ∀f:Nat,(f:Int)<x.f->Dn { X with mw:=mw,qs:=qs,hs:=X.hs.set w x } (hat X.hs w).obj f)\/ ∀f,f<X.H.a (hat X.hs w).obj%256->Dn { X with mw:=mw,qs:=qs,hs:=X.hs.set w x } (hat X.hs w).obj f):
  Clo R rs { X with mw:=mw,qs:=qs,hs:=X.hs.set w x }:=by
 obtain ⟨Y,eY⟩: ∃Y:MiA,Y={ X with mw:=mw,qs:=qs,hs:=X.hs.set w x }:=⟨_,rfl⟩
 rw [<-eY] at o hp ⊢;have eH:Y.H=X.H:=by rw [eY]
 have em:Y.mw=mw:=by rw [eY]
 have eq:Y.qs=qs:=by rw [eY]
 have eh:Y.hs=X.hs.set w x:=by rw [eY]
 have el:Y.hs.length=X.hs.length:=by rw [eh,List.length_set]
 have at_: ∀i,hat Y.hs i=if i=w then x else hat X.hs i:=fun i=>by rw [eh];exact ziB hw
 have dn: ∀a f,Dn X a f->Dn Y a f:=fun a f d h1 h2=>by rw [eH] at h1 h2 ⊢; rw [em];exact up _ (d h1 h2)
 clear eY;refine ⟨o,fun i hi hp=> ?_,fun a ha hb=> ?_,fun i hi hp=> ?_,fun r hr h0=>by rw [em];exact up _ (h.rt r hr h0),fun a ha hb=> ?_⟩
 ·rw [at_] at hp ⊢
  rw [eH]
  by_cases e:i=w
  ·rw [if_pos e] at hp ⊢; exact hl hp
  ·rw [if_neg e] at hp ⊢; exact h.lnk i (by omega) hp
 ·rw [eH] at ha
  rw [em] at hb;rcases new a ha hb with hb|hb
  ·exact h.ms a ha hb
  ·exact hb.1
 ·rw [at_] at hp ⊢
  by_cases e:i=w
  ·rw [if_pos e] at hp ⊢; exact ho hp
  ·rw [if_neg e] at hp ⊢; exact h.ob i (by omega) hp
 ·rw [eH] at ha
  rw [em] at hb;rcases new a ha hb with hb|⟨_,h1,h2⟩
  case inr=>exact .inr (.inl ⟨w,by omega,by rw [at_,if_pos rfl];exact h1,by rw [at_,if_pos rfl];exact h2⟩)
  rcases h.pend a ha hb with h1|⟨i,h1,h2,h3⟩|⟨i,h1,h2,h3,h4⟩|h1
  ·rcases hq a h1 with h1|⟨h1,h2,h3⟩
   ·exact .inl (by rw [eq];exact h1)
   ·exact .inr (.inr (.inl ⟨w,by omega,by rw [at_,if_pos rfl,h1];decide,by rw [at_,if_pos rfl];exact h2,fun f hf=>by rw [at_,if_pos rfl,h3] at hf;omega⟩))
  ·by_cases e:i=w
   ·subst e
    exact .inl (by rw [eq,<-h3];exact h5 h2)
   ·exact .inr (.inl ⟨i,by omega,by rw [at_,if_neg e];exact h2,by rw [at_,if_neg e];exact h3⟩)
  ·by_cases e:i=w
   ·subst e
    rcases hp h2 (fun f hf=>dn _ _ (by rw [h3];exact h4 f hf)) with ⟨k1,k2,k3⟩|k
    ·exact .inr (.inr (.inl ⟨i,by omega,by rw [at_,if_pos rfl];exact k1,by rw [at_,if_pos rfl,k2];exact h3,fun f hf=>by rw [at_,if_pos rfl] at hf;rw [<-h3];exact k3 f hf⟩))
    ·exact .inr (.inr (.inr fun f hf=>by rw [eH] at hf;rw [<-h3] at hf ⊢; exact k f hf))
   ·exact .inr (.inr (.inl ⟨i,by omega,by rw [at_,if_neg e];exact h2,by rw [at_,if_neg e];exact h3,fun f hf=>by rw [at_,if_neg e] at hf;exact dn _ _ (h4 f hf)⟩))
  ·exact .inr (.inr (.inr fun f hf=>dn _ _ (h1 f (by rw [eH] at hf;exact hf))))
theorem zsp (h:X.ok) (c:Clo R rs X) (wa:w64 X.H.na X.H.a) (wk:w64 X.nm X.mw) (hR: ∀a f,R a->f<X.H.a a%256->(unM (X.H.a a)).testBit f=true->X.H.a (a+1+f)≠0->R (X.H.a (a+1+f))){w:Nat}(hw:w<X.hs.length) (e0:(zm X w).2.2=0):Clo R rs (zm X w).1:=by
 have hx:=h.2.2.2.2.2.2.2 w hw;have hq:=h.2.1;have hRt:=h.1;have hwq:w<X.qs.length:=by have:=h.2.2.1;omega
 have on:=(zpC h c.once wa wk hw e0).once;obtain ⟨x,ex⟩: ∃x,hat X.hs w=x:=⟨_,rfl⟩
 have lk:=c.lnk w hw;have ob:=c.ob w hw;have same: ∀x',zm X w=(X.sh w x',(zm X w).2)->x.pc≠5->(3<=x'.pc->x'.to=X.H.a (x'.obj+1+x'.f.toNat))->(x'.pc≠0->R x'.obj)->(x.pc≠0->(∀f:Nat,(f:Int)<x.f->Dn (X.sh w x') x.obj f)->(x'.pc≠0/\x'.obj=x.obj/\ ∀f:Nat,(f:Int)<x'.f->Dn (X.sh w x') x.obj f)\/ ∀f,f<X.H.a x.obj%256->Dn (X.sh w x') x.obj f)->Clo R rs (zm X w).1:=fun x' e p5 h1 h2 h3=>by
  rw [e] at on ⊢;exact c.step hw (x:=x') (qs:=X.qs) (mw:=X.mw) on (fun _ h=>h) h1 h2 (fun a ha hb=> .inl hb) (fun a ha=> .inl ha) (fun e=>by rw [ex] at e;exact absurd e p5) (by rw [ex];exact h3)
 rw [ex] at hx lk ob
 by_cases p0:x.pc=0
 ·have hst:zm X w=if (zav X.qs w).2.2.2=0 then ({ X with qs:=(zav X.qs w).1,hs:=X.hs.set w ⟨1,(zav X.qs w).2.1,0,0,0,0,0⟩ },1,0) else (X,0,(zav X.qs w).2.2.2):=by
   conv=>lhs;unfold zm
   rw [ex,if_pos p0]
  rcases zkw hq hwq with ⟨e,g,gl,A,B,p1,p2⟩|⟨e,_⟩
  ·rw [if_pos e] at hst
   rw [hst] at on ⊢;have ha:=p1.mem_iff.2 List.mem_cons_self;refine c.step hw (x:=⟨1,(zav X.qs w).2.1,0,0,0,0,0⟩) (qs:=(zav X.qs w).1) (mw:=X.mw) on (fun _ h=>h) (fun h=>by have:3<=1:=h;omega) (fun _=>c.ms _ (h.2.2.2.2.2.2.1 _ ha) (c.once.q _ ha)) (fun a ha hb=> .inl hb) (fun a ha=> ?_) (fun e=>by rw [ex] at e;omega) (fun e=>by rw [ex] at e;exact absurd p0 e);rcases List.mem_cons.1 (p1.mem_iff.1 ha) with e|e
   ·exact .inr ⟨rfl,e.symm,rfl⟩
   ·exact .inl (p2.mem_iff.2 e)
  ·rw [hst,if_neg (by rw [e];decide)] at e0
   rw [e] at e0;cases e0
 have ob:=ob p0
 by_cases p1:x.pc=1
 ·have hf:x.f=0:=by
   rcases hx with hx|⟨_,_,e⟩|hx
   ·omega
   ·rw [e]
   ·omega
  refine same { x with pc:=2,N:=(X.H.a x.obj%256:Nat),M:=unM (X.H.a x.obj) } ?_ (by omega) (fun h=>by have:3<=2:=h;omega) (fun _=>ob) (fun _ hd=> .inl ⟨(by show 2≠0;decide),rfl,fun f hf'=>hd f hf'⟩)
  conv=>lhs;unfold zm
  unfold zm;rw [ex,if_neg p0,if_pos p1]
 obtain ⟨a1,a2,a3,a4,a5,a6,a7,a8,a9⟩:=zd3 hx p0 p1
 by_cases p2:x.pc=2
 ·cases hn:zfd x.M x.N.toNat x.f.toNat with
  |none=>
   have hno:=zjF hn;refine same hand0 ?_ (by omega) (fun h=>by have:3<=0:=h;omega) (fun h=>absurd rfl h) (fun _ hd=> .inr fun f hf=> ?_)
   ·conv=>lhs;unfold zm
    unfold zm;rw [ex,if_neg p0,if_neg p1,if_pos p2,hn]
   ·by_cases e:(f:Int)<x.f
    ·exact hd f e
    ·intro h1 _
     have h1:(unM (X.H.a x.obj)).testBit f=true:=h1;have:=hno f (by omega) (by omega);rw [a5,h1] at this;cases this
  |some g=>
   obtain ⟨n1,n2,n3,n4⟩:=zd0 hn;have low: ∀(Y:MiA),Y.H=X.H->(∀f:Nat,(f:Int)<x.f->Dn Y x.obj f)-> ∀f:Nat,f<g->Dn Y x.obj f:=fun Y eY hd f hf=>by
    by_cases e:(f:Int)<x.f
    ·exact hd f e
    ·intro h1 _
     rw [eY] at h1;have:=n4 f (by omega) hf;rw [a5,h1] at this;cases this
   by_cases hz:X.H.a (x.obj+1+g)=0
   ·refine same { x with f:=(g:Int)+1 } ?_ (by omega) (fun h=>by have h:3<=x.pc:=h;omega) (fun _=>ob) (fun _ hd=> .inl ⟨p0,rfl,fun f hf=> ?_⟩)
    ·conv=>lhs;unfold zm
     unfold zm;rw [ex,if_neg p0,if_neg p1,if_pos p2,hn];dsimp only;rw [if_pos hz]
    ·have hf:(f:Int)<(g:Int)+1:=hf
     by_cases e:f<g
     ·exact low _ rfl hd f e
     ·intro _ h2
      have:f=g:=by omega
      subst this;exact absurd hz h2
   ·refine same { x with pc:=3,f:=(g:Int),to:=X.H.a (x.obj+1+g) } ?_ (by omega) (fun _=>rfl) (fun _=>ob) (fun _ hd=> .inl ⟨(by show 3≠0;decide),rfl,fun f hf=> ?_⟩)
    ·conv=>lhs;unfold zm
     unfold zm;rw [ex,if_neg p0,if_neg p1,if_pos p2,hn];dsimp only;rw [if_neg hz]
    ·have hf:(f:Int)<(g:Int):=hf
     exact low _ rfl hd f (by omega)
 obtain ⟨b1,b2,b3,b4⟩:x.pc≠2/\x.f<x.N/\x.M.testBit x.f.toNat=true/\x.to∈X.H.cs:=by
  rcases a9 with a9|a9
  ·exact absurd a9.1 p2
  ·exact a9
 have lk:=lk (by omega);have passed: ∀(Y:MiA),Y.H=X.H->bit Y.mw (x.to/2)=true->(∀f:Nat,(f:Int)<x.f->Dn Y x.obj f)-> ∀f:Nat,(f:Int)<x.f+1->Dn Y x.obj f:=fun Y eY hb hd f hf=>by
  by_cases e:(f:Int)<x.f
  ·exact hd f e
  ·have:f=x.f.toNat:=by omega
   subst this;intro _ _;rw [eY,<-lk];exact hb
 by_cases p3:x.pc=3
 ·by_cases hb:bit X.mw (x.to/2)=true
  ·refine same (behind x) ?_ (by omega) (fun h=>by have:3<=2:=h;omega) (fun _=>ob) (fun _ hd=> .inl ⟨(by show 2≠0;decide),rfl,fun f hf=>passed _ rfl hb hd f hf⟩)
   conv=>lhs;unfold zm
   unfold zm;rw [ex,if_neg p0,if_neg p1,if_neg p2,if_pos p3,if_pos hb]
  ·refine same { x with pc:=4,seen:=X.mw (x.to/2/64) } ?_ (by omega) (fun _=>lk) (fun _=>ob) (fun _ hd=> .inl ⟨(by show 4≠0;decide),rfl,fun f hf=>hd f hf⟩)
   conv=>lhs;unfold zm
   unfold zm;rw [ex,if_neg p0,if_neg p1,if_neg p2,if_pos p3,if_neg hb]
 by_cases p4:x.pc=4
 ·by_cases hb:X.mw (x.to/2/64)=x.seen
  ·have hst:zm X w=({ X with mw:=za7 X.mw (x.to/2) true,hs:=X.hs.set w { x with pc:=5,seen:=0 } },4,0):=by
    unfold zm;rw [ex,if_neg p0,if_neg p1,if_neg p2,if_neg p3,if_pos p4,if_pos hb]
   have hp':x.to/2<64*X.nm:=by have:=(zcR hRt wa b4).2;rw [h.2.2.2.1];omega
   have hev:=zfJ hRt.1 b4;rw [hst] at on ⊢;refine c.step hw (x:={ x with pc:=5,seen:=0 }) (qs:=X.qs) (mw:=za7 X.mw (x.to/2) true) on (fun p hp=>zlb wk hp' hp) (fun _=>lk) (fun _=>ob) (fun a ha hba=> ?_) (fun a ha=> .inl ha) (fun e=>by rw [ex] at e;omega) (by rw [ex];exact fun _ hd=> .inl ⟨(by show 5≠0;decide),rfl,fun f hf=>hd f hf⟩);rw [za9 wk hp'] at hba
   by_cases e:a/2=x.to/2
   ·have:=zfJ hRt.1 ha
    have ea:a=x.to:=by omega
    subst ea;refine .inr ⟨?_,rfl,rfl⟩;rw [lk];refine hR x.obj x.f.toNat ob (by omega) (by rw [<-a5];exact b3) ?_;rw [<-lk];exact (zk5 hRt wa b4).1
   ·rw [if_neg e] at hba
    exact .inl hba
  ·refine same { x with pc:=3,seen:=0 } ?_ (by omega) (fun _=>lk) (fun _=>ob) (fun _ hd=> .inl ⟨(by show 3≠0;decide),rfl,fun f hf=>hd f hf⟩)
   conv=>lhs;unfold zm
   unfold zm;rw [ex,if_neg p0,if_neg p1,if_neg p2,if_neg p3,if_pos p4,if_neg hb]
 have p5:x.pc=5:=by omega
 obtain ⟨u1,u2⟩:=c.once.push w hw (by rw [ex];exact p5);rw [ex] at u1 u2;have eqs:=((zpC h c.once wa wk hw e0).same (by unfold zm;rw [ex,if_neg p0,if_neg p1,if_neg p2,if_neg p3,if_neg p4];show 1≠4;decide)).2.2 (by rw [ex];exact p5);rw [ex] at eqs;have hst:(zm X w).1={ X with qs:=X.qs.set w (qat X.qs w++[x.to]),hs:=X.hs.set w (behind x) }:=by
  have e2:(zm X w).1={ X with qs:=if (zaT X.qs w x.to).2=0 then (zaT X.qs w x.to).1 else X.qs,hs:=X.hs.set w (behind x) }:=by
   conv=>lhs;unfold zm
   rw [ex,if_neg p0,if_neg p1,if_neg p2,if_neg p3,if_neg p4]
  have e3:=eqs.2;rw [e2] at e3 ⊢;have e3:(if (zaT X.qs w x.to).2=0 then (zaT X.qs w x.to).1 else X.qs)=X.qs.set w (qat X.qs w++[x.to]):=e3;rw [e3]
 rw [hst] at on ⊢;obtain ⟨A,B,f1,f2⟩:=flat_set (l:=qat X.qs w++[x.to]) hwq;refine c.step hw (x:=behind x) (qs:=X.qs.set w (qat X.qs w++[x.to])) (mw:=X.mw) on (fun _ h=>h) (fun h=>by have:3<=2:=h;omega) (fun _=>ob) (fun a ha hb=> .inl hb) (fun a ha=> .inl ?_) (fun _=> ?_) (by rw [ex];exact fun _ hd=> .inl ⟨(by show 2≠0;decide),rfl,fun f hf=>passed _ rfl u1 hd f hf⟩)
 ·rw [f1] at ha
  rw [f2];simp only [List.mem_append] at ha ⊢;rcases ha with ha|ha|ha
  ·exact .inl ha
  ·exact .inr (.inl (.inl ha))
  ·exact .inr (.inr ha)
 ·rw [ex,f2]
  simp
structure Frn (R:Nat->Prop) (rs:List Nat) (X:MiA) (s:MiA×Nat×Nat):Prop where
 o:Rok X s
 c:Clo R rs s.1
theorem Frn.try_ {s:MiA×Nat×Nat}(h:Frn R rs X s) (wa:w64 X.H.na X.H.a) (hR: ∀a f,R a->f<X.H.a a%256->(unM (X.H.a a)).testBit f=true->X.H.a (a+1+f)≠0->R (X.H.a (a+1+f))){w:Nat}(hw:w<X.hs.length):Frn R rs X (zdc s w):=by
 refine ⟨(h.o.try_ wa hw).1,?_⟩;unfold zdc
 split
 ·rename_i e0
  exact zsp h.o.ok h.c (by rw [h.o.eH];exact wa) h.o.wk (by rw [h.o.eH];exact hR) (by rw [h.o.el];exact hw) e0
 ·exact h.c
theorem Frn.tr {s:MiA×Nat×Nat}(h:Frn R rs X s) (wa:w64 X.H.na X.H.a) (hR: ∀a f,R a->f<X.H.a a%256->(unM (X.H.a a)).testBit f=true->X.H.a (a+1+f)≠0->R (X.H.a (a+1+f))){ws:List Nat}(hw: ∀w,w∈ws->w<X.hs.length): ∀k,k<=ws.length->Frn R rs X (trK s ws k)
 |0,_=>h
 |k+1,hk=>(Frn.tr h wa hR hw k (by omega)).try_ wa hR (hw _ (zaH (l:=ws) (i:=k) (by omega)))
theorem Frn.round {s:MiA×Nat×Nat}(h:Frn R rs X s) (wa:w64 X.H.na X.H.a) (hR: ∀a f,R a->f<X.H.a a%256->(unM (X.H.a a)).testBit f=true->X.H.a (a+1+f)≠0->R (X.H.a (a+1+f))){ws all:List Nat}(hw: ∀w,w∈ws->w<X.hs.length) (ha: ∀w,w∈all->w<X.hs.length):Frn R rs X (zd4 s ws all):=by
 have h1:=h.tr wa hR hw ws.length (Nat.le_refl _);unfold zd4
 split
 ·exact h1
 ·unfold zfg
  split
  ·rename_i w e
   exact h1.try_ wa hR (ha _ (List.mem_of_find?_eq_some e))
  ·exact h1
theorem Frn.run (wa:w64 X.H.na X.H.a) (hR: ∀a f,R a->f<X.H.a a%256->(unM (X.H.a a)).testBit f=true->X.H.a (a+1+f)≠0->R (X.H.a (a+1+f))){ws all:List Nat}(hw: ∀w,w∈ws->w<X.hs.length) (ha: ∀w,w∈all->w<X.hs.length){Z:MiA×Nat×Nat}: ∀f s,Frn R rs X s->zdd f s ws all=some Z->Frn R rs X Z/\zdS Z.1=false
 |0,s,h,e=>by
  unfold zdd at e
  by_cases b:zdS s.1=true
  ·rw [if_pos b] at e;cases e
  ·rw [if_neg b] at e;cases e;exact ⟨h,by simpa using b⟩
 |f+1,s,h,e=>by
  unfold zdd at e
  by_cases b:zdS s.1=true
  ·rw [if_pos b] at e;exact Frn.run wa hR hw ha f _ (h.round wa hR hw ha) e
  ·rw [if_neg b] at e;cases e;exact ⟨h,by simpa using b⟩
theorem Clo.end_ (c:Clo R rs X) (hb:zdS X=false){a:Nat}(ha:a∈X.H.cs) (hm:bit X.mw (a/2)=true): ∀f,f<X.H.a a%256->Dn X a f:=by
 have hb:=of_decide_eq_false hb;have h0: ∀i,i<X.hs.length->(hat X.hs i).pc=0:=fun i hi=>by
  rcases Nat.eq_zero_or_pos (hat X.hs i).pc with h|h
  ·exact h
  ·have:=(zil (hs:=X.hs) X.hs.length).2 ⟨i,hi,by omega⟩
   omega
 rcases c.pend a ha hm with h1|⟨i,h1,h2,_⟩|⟨i,h1,h2,_⟩|h1
 ·have:=List.length_pos_of_mem h1;omega
 ·rw [h0 i h1] at h2;cases h2
 ·exact absurd (h0 i h1) h2
 ·exact h1
end
theorem zn2: ∀{l k:List Nat},l.Pairwise (· < ·)->k.Pairwise (· < ·)->(∀a,a∈l↔a∈k)->l=k
 | [],[],_,_,_=>rfl
 | [],b::k,_,_,h=>absurd ((h b).2 List.mem_cons_self) (by simp)
 |a::l,[],_,_,h=>absurd ((h a).1 List.mem_cons_self) (by simp)
 |a::l,b::k,hl,hk,h=>by
  obtain ⟨l1,l2⟩:=List.pairwise_cons.1 hl;obtain ⟨k1,k2⟩:=List.pairwise_cons.1 hk;have e:a=b:=by
   rcases List.mem_cons.1 ((h a).1 List.mem_cons_self) with e|h1
   ·exact e
   ·rcases List.mem_cons.1 ((h b).2 List.mem_cons_self) with e|h2
    ·exact e.symm
    ·have:=k1 a h1;have:=l1 b h2;omega
  subst e;rw [zn2 l2 k2 fun x=>⟨fun hx=> ?_,fun hx=> ?_⟩]
  ·rcases List.mem_cons.1 ((h x).1 (List.mem_cons_of_mem _ hx)) with e|h1
   ·have:=l1 x hx;omega
   ·exact h1
  ·rcases List.mem_cons.1 ((h x).2 (List.mem_cons_of_mem _ hx)) with e|h1
   ·have:=k1 x hx;omega
   ·exact h1
theorem zyT {X:MiA}{rs L:List Nat}(h:X.ok) (wa:w64 X.H.na X.H.a) (c:Clo (Rcb rs (zeT X.H.a [] [])) rs X) (hb:zdS X=false) (hr: ∀r,r∈rs->r≠0->r∈X.H.cs) (hL:L.Pairwise (· < ·)) (hm: ∀a,a∈L↔Rcb rs (zeT X.H.a [] []) a):zbh X=L:=by
 refine zn2 ((zjH h.1 wa).1.filter _) hL fun a=> ?_
 rw [hm];constructor
 ·intro ha
  obtain ⟨h1,h2⟩:=List.mem_filter.1 ha;exact c.ms a h1 h2
 ·intro ha
  have:a∈X.H.cs/\bit X.mw (a/2)=true:=by
   induction ha with
   |root h1 h2=>exact ⟨hr _ h1 h2,c.rt _ h1 h2⟩
   |step _ h2 h3 ih=>
    rcases h2 with ⟨f,hf,h4,rfl⟩|⟨i,hi,_⟩
    ·exact ⟨(zk5 h.1 wa ih.1).2.2.2 f hf h4 h3,c.end_ hb ih.1 ih.2 f hf h4 h3⟩
    ·exact absurd hi (Nat.not_lt_zero _)
  exact List.mem_filter.2 this
theorem zx5 {X:MiA}{rs:List Nat}{R:Nat->Prop}(h:Mkg X X) (wa:w64 X.H.na X.H.a) (h0: ∀i,i<X.hs.length->hat X.hs i=hand0) (hm: ∀i,bit X.mw i=false) (hr: ∀r,r∈rs->r≠0->r∈X.H.cs) (hR: ∀r,r∈rs->r≠0->R r):Clo R rs (zfj X rs rs.length):=by
 have key: ∀k,k<=rs.length->(∀a,a∈X.H.cs->bit (zfj X rs k).mw (a/2)=true->a∈(zfj X rs k).qs.flatten/\R a)/\ ∀i,i<k->nx rs i≠0->bit (zfj X rs k).mw (nx rs i/2)=true:=by
  intro k
  induction k with
  |zero=>intro _;exact ⟨fun a _ hb=>(by rw [show (zfj X rs 0).mw=X.mw from rfl,hm] at hb;cases hb),fun i hi=>absurd hi (Nat.not_lt_zero _)⟩
  |succ k ih=>
   intro hk;obtain ⟨i1,i2⟩:=ih (by omega);have m:=h.add wa hr k (by omega);obtain ⟨Y,eY⟩: ∃Y,zfj X rs k=Y:=⟨_,rfl⟩
   obtain ⟨r,er⟩: ∃r,nx rs k=r:=⟨_,rfl⟩
   have rin:r∈rs:=by rw [<-er];exact zaH (by omega)
   have eS:zfj X rs (k+1)=zjJ Y r:=by rw [<-eY,<-er];rfl
   rw [eY] at i1 i2 m;rw [eS]
   by_cases cnd:r≠0/\bit Y.mw (r/2)=false
   ·have e1:zjJ Y r={ Y with mw:=za7 Y.mw (r/2) true,qs:=Y.qs.set 0 (qat Y.qs 0++[r]) }:=by unfold zjJ;rw [if_pos cnd]
    rw [e1];have rc:=hr r rin cnd.1;have pl:=(zcR h.ok.1 wa rc).2;have hp':r/2<64*Y.nm:=by rw [m.en,h.ok.2.2.2.1];omega
    have hl:0<Y.qs.length:=m.ok.2.1.1;obtain ⟨A,B,f1,f2⟩:=flat_set (l:=qat Y.qs 0++[r]) hl;have hin: ∀a,a∈(Y.qs.set 0 (qat Y.qs 0++[r])).flatten↔a∈Y.qs.flatten\/a=r:=fun a=>by
     rw [f1,f2];simp only [List.mem_append,List.mem_singleton];constructor
     ·rintro (h|(h|h)|h)
      ·exact .inl (.inl h)
      ·exact .inl (.inr (.inl h))
      ·exact .inr h
      ·exact .inl (.inr (.inr h))
     ·rintro ((h|h|h)|h)
      ·exact .inl h
      ·exact .inr (.inl (.inl h))
      ·exact .inr (.inr h)
      ·exact .inr (.inl (.inr h))
    refine ⟨fun a ha hb=> ?_,fun i hi h0=> ?_⟩
    ·have hb:bit (za7 Y.mw (r/2) true) (a/2)=true:=hb
     show a∈(Y.qs.set 0 (qat Y.qs 0++[r])).flatten/\R a;rw [za9 m.wk hp'] at hb
     by_cases e:a/2=r/2
     ·have h1:=zfJ h.ok.1.1 ha
      have h2:=zfJ h.ok.1.1 rc;have:a=r:=by omega
      subst this;exact ⟨(hin _).2 (.inr rfl),hR _ rin cnd.1⟩
     ·rw [if_neg e] at hb
      obtain ⟨q1,q2⟩:=i1 a ha hb;exact ⟨(hin _).2 (.inl q1),q2⟩
    ·show bit (za7 Y.mw (r/2) true) (nx rs i/2)=true
     by_cases e:i=k
     ·subst e
      rw [er,za9 m.wk hp',if_pos rfl]
     ·exact zlb m.wk hp' (i2 i (by omega) h0)
   ·have e1:zjJ Y r=Y:=by unfold zjJ;rw [if_neg cnd]
    rw [e1];refine ⟨i1,fun i hi h0=> ?_⟩
    by_cases e:i=k
    ·subst e
     rw [er] at h0 ⊢
     by_cases hb:bit Y.mw (r/2)=true
     ·exact hb
     ·exact absurd ⟨h0,by simpa using hb⟩ cnd
    ·exact i2 i (by omega) h0
 obtain ⟨i1,i2⟩:=key rs.length (Nat.le_refl _);have m:=h.add wa hr rs.length (Nat.le_refl _);have hh: ∀i,i<(zfj X rs rs.length).hs.length->hat (zfj X rs rs.length).hs i=hand0:=by rw [m.eh];exact h0
 refine ⟨(zso h wa h0 hr).1,fun i hi hp=> ?_,fun a ha hb=>(i1 a (by rwa [m.eH] at ha) hb).2,fun i hi hp=> ?_,fun r hr h0=> ?_,fun a ha hb=> .inl (i1 a (by rwa [m.eH] at ha) hb).1⟩
 ·rw [hh i hi] at hp;have:3<=0:=hp;omega
 ·rw [hh i hi] at hp;exact absurd rfl hp
 ·obtain ⟨i,hi,rfl⟩:=zeA hr
  exact i2 i hi h0
end Go.AM.G
namespace Go.AM.G
open Go Go.AM
structure ClI (m:Mem) (H:zl) (n B9:Nat) (vL:V) (L:List Nat) (M:Mem) (X:MiA) (aw uw sv mv qv hv:V):Prop where
 keep: ∀(c:Nat) (y:Blk),m[c]? =some y->M[c]? =some y
 ok:X.ok
 wk:w64 X.nm X.mw
 eH:X.H=H
 en:X.hs.length=n
 b9:M[B9]? =some (.cells true [miV X aw uw sv mv qv hv])
 mi:Loc (fun b=>b≠B9) M (fun M=>MiX M aw uw sv mv qv hv X)
 nu:Loc (fun b=>b≠B9) M (fun M=>Nus M vL L)
theorem ClI.app {m:Mem}{H:zl}{n B9:Nat}{vL:V}{L:List Nat}{M G:Mem}{X:MiA} {aw uw sv mv qv hv:V}(h:ClI m H n B9 vL L M X aw uw sv mv qv hv):ClI m H n B9 vL L (M++G) X aw uw sv mv qv hv:=
 ⟨fun c y hy=>zb (h.keep c y hy),h.ok,h.wk,h.eH,h.en,zb h.b9,h.mi.app,h.nu.app⟩
theorem ClI.next {m:Mem}{H:zl}{n B9:Nat}{vL:V}{L:List Nat}{M G G2:Mem}{X Y:MiA} {aw uw sv mv qv hv aw' uw' sv' mv' qv' hv':V}(h:ClI m H n B9 vL L M X aw uw sv mv qv hv) (lm:m.length<=B9) (ok:Y.ok) (wk:w64 Y.nm Y.mw) (eH:Y.H=H) (en:Y.hs.length=n){lo:Nat}(hlo:M.length<=lo) (p:Ps lo G (fun M=> ∃va vm vs,zfi M aw' uw' sv' mv' qv' hv' va vm vs Y)) (at_:AtM lo G (M++G2)):ClI m H n B9 vL L ((M++G2).set B9 (.cells true [miV Y aw' uw' sv' mv' qv' hv'])) Y aw' uw' sv' mv' qv' hv':=by
 have h2:=h.app (G:=G2);have lB:=(List.getElem?_eq_some_iff.1 h.b9).1;refine ⟨fun c y hy=> ?_,ok,wk,eH,en,zaU h2.b9,?_,h2.nu.set fun e=>e rfl⟩
 ·have:=(List.getElem?_eq_some_iff.1 hy).1
  exact zx (by omega) (h2.keep c y hy)
 ·refine Loc.set ((p.loc at_).mono fun b hb e=> ?_) fun e=>e rfl
  have:=hb.1;omega
set_option maxHeartbeats 1000000 in
theorem zkD {m:Mem} {ha hu hs rv pv wv:V}{va' vm':Nat->V}{H:zl}{c:Int}{rs pk:List Nat}{ws:List Int}(hH:zcY m ha hu hs va' vm' H) (bb:V.beq ha ha=true/\V.beq hu hu=true/\V.beq hs hs=true) (ls:H.ns*96<=140737488355328) (hr:Nus m rv rs) (hrl:rs.length<=17592186044416) (hp:Rd m pv 1 pk.length (u8s pk)) (hpl:pk.length<4611686018427387904) (hpb: ∀i,i<pk.length->nx pk i<256) (hw:Rd m wv 1 ws.length (fun i=>[.int .i64 (nxI ws i)])) (hl:ws.length<2305843009213693952):
  C Stl zd8 [.agg (zB H ha hu hs),.int .i64 c,rv,pv,wv] m (fun r _=>r= .bool true):=by
 have hc1:=hH.a.ar.2.1;have hc2:=hH.u.ar.2.1;have hc3:=hH.s.s.ar.2.1;have rc:=hr.ar.2.1;have pc:=hp.ar.2.1;have wc:=hw.ar.2.1;have hH':=zU hH;have hp':=zU hp;have hw':=zU hw;have hpb':=zU hpb;have MK:=zU (fun G:Mem=>zn1 (hH.app (g:=G)) bb ls (Rd.app (g:=G) hr) (by omega) (c:=c));have RE:=zU (fun G:Mem=>zrq (hH.app (g:=G)) (tv:= .nils) rfl zxN rfl (by decide) (Rd.app (g:=G) hr) (by simpa using hrl));clear hH hr hp hpb hw;refine fn rfl ?_;refine zsX.mono ?_;rintro _ _ ⟨rfl,rfl⟩;refine am ?_;refine (toL (RE.down _)).mono ?_;rintro _ _ ⟨G0,rfl,hRe⟩;rcases hRe with ⟨_,rfl⟩|⟨_,_,_,rfl⟩|⟨hR,_,hmo,vL,L,rfl,hG,hLp,hLl,hLm⟩
 ·refine am ?_
  refine (toL (MK.down _)).mono ?_;rintro _ _ ⟨Z0,e0,l,hZ0,rfl,aw,uw,sv,mv,qv,hv,G1,rfl,rfl,p1⟩;obtain ⟨_,_,_,_,q1⟩:=p1.ex;obtain ⟨C1,C2,C3,C4,C5,C6⟩:=q1.cells;clear p1 q1 hZ0;refine am ?_;exact zh
 ·refine am ?_
  refine (toL (MK.down _)).mono ?_;rintro _ _ ⟨Z0,e0,l,hZ0,rfl,aw,uw,sv,mv,qv,hv,G1,rfl,rfl,p1⟩;obtain ⟨_,_,_,_,q1⟩:=p1.ex;obtain ⟨C1,C2,C3,C4,C5,C6⟩:=q1.cells;clear p1 q1 hZ0;refine am ?_;exact zh
 have vLc:=hG.cell;have hG':=zU hG;have hLp':=zU hLp;have hLm':=zU hLm;have hR':=zU hR;have hmo':=zU hmo;clear hG hLp hLm hR hmo;refine am ?_;refine (toL (MK.down _)).mono ?_;rintro _ _ ⟨Z0,e0,l,hZ0,rfl,aw,uw,sv,mv,qv,hv,G1,rfl,rfl,p1⟩;obtain ⟨_,_,_,_,q1⟩:=p1.ex;obtain ⟨C1,C2,C3,C4,C5,C6⟩:=q1.cells;have r1:=zU p1;have hZ0':=zU hZ0;clear p1 q1 hZ0
 by_cases e1:e0=0
 case neg=>
  have d0:(e0=0)=False:=eq_false e1;clear e1;refine am ?_;exact zh
 subst e1;obtain ⟨k1,k2,k3,k4,k5,k6,k7⟩:1<=c/\c<=4/\Z0.ok/\w64 Z0.nm Z0.mw/\Z0.H=H/\Z0.hs.length=c.toNat/\Clo (Rcb rs (zeT H.a [] [])) rs Z0:=by
  have mo:=zx4 hZ0'.down hH'.down.wa;rcases mo with h|⟨_,a1,a2,a3,a4,a5,a6,_⟩
  ·exact absurd rfl h.1
  ·refine ⟨a1,a2,a3,a4,a5,a6,?_⟩
   rcases hZ0'.down with ⟨_,_,e⟩|⟨_,_,_,e⟩|⟨_,_,_,_,e⟩|⟨_,_,_,_,_,_,e⟩|⟨b1,b2,b3,b4,b5,rfl,_⟩
   ·cases e
   ·cases e
   ·cases e
   ·cases e
   ·refine zx5 (zmo b1 b2 b3 b4) hH'.down.wa (fun i hi=> ?_) (fun i=> ?_) b5 fun r h1 h2=> .root h1 h2
    ·have hi:i<(List.replicate c.toNat hand0).length:=hi
     show hat (List.replicate c.toNat hand0) i=hand0;rw [zqL hi,List.getElem_replicate]
    ·show bit (fun _=>0) i=false
     unfold bit
     simp
 obtain ⟨n,rfl⟩: ∃n:Nat,c=(n:Int):=⟨c.toNat,by omega⟩
 rw [Int.toNat_natCast] at k6;have hwa:PLift (∀X:MiA,X.H=H->w64 X.H.na X.H.a):=⟨fun X e=>by rw [e];exact hH'.down.wa⟩
 have hRR:PLift (∀X:MiA,X.H=H-> ∀a f,Rcb rs (zeT H.a [] []) a->f<X.H.a a%256->(unM (X.H.a a)).testBit f=true->X.H.a (a+1+f)≠0->Rcb rs (zeT H.a [] []) (X.H.a (a+1+f))):=⟨fun X e a f h1 h2 h3 h4=>by rw [e] at h2 h3 h4 ⊢; exact .step h1 (.inl ⟨f,h2,h3,rfl⟩) h4⟩
 have ll:PLift (L.length<4611686018427387904):=⟨by omega⟩
 have B:=hp'.down.ar.1;have k3':=zU k3;have k4':=zU k4;have k5':=zU k5;have k6':=zU k6;have k7':=zU k7;clear k3 k4 k5 k6 k7;refine am ?_;obtain ⟨B9,e9⟩: ∃B9,m.length+(G0.length+G1.length+1)=B9:=⟨_,rfl⟩
 obtain ⟨M0,eM0⟩: ∃M0,m++Blk.cells true [zB H ha hu hs]::(G0++(G1++[.cells true [miV Z0 aw uw sv mv qv hv]]))=M0:=⟨_,rfl⟩
 have lm:m.length<B9:=by omega
 have o0:ClI m H n B9 vL L M0 Z0 aw uw sv mv qv hv:=by
  subst eM0;refine ⟨fun c y hy=>zb hy,k3'.down,k4'.down,k5'.down,k6'.down,by rw [<-e9,zi,zb9,zi,zaa];rfl,?_,?_⟩
  ·have h:=r1.down.loc (M:=m++Blk.cells true [zB H ha hu hs]::(G0++(G1++[.cells true [miV Z0 aw uw sv mv qv hv]]))) ((AtM.left (A:=m) (.drop (.left (A:=G0) .hereA))).cst (by simp))
   refine h.mono fun b hb e=> ?_
   have:=hb.2;rw [List.length_append] at this;simp at this;omega
  ·have h:=(hG'.down.ps.imp fun M h=>Nus.of h).loc (M:=m++Blk.cells true [zB H ha hu hs]::(G0++(G1++[.cells true [miV Z0 aw uw sv mv qv hv]]))) ((AtM.left (A:=m) (.drop .hereA)).cst (by simp))
   refine h.mono fun b hb e=> ?_
   have:=hb.2;rw [List.length_append] at this;simp at this;omega
 rw [e9,eM0];have o0':=zU o0;clear o0 r1 hG' eM0 e9;have key0: ∀(fr:Frame) (M:Mem) (X:MiA) (aw uw sv mv qv hv:V) (a b:Nat),Has fr [(13,.ptr B9 0 0),(11,vL),(20,.int .i64 (a:Nat)),(21,.int .i64 (b:Nat)),(22,.int .i64 0)]->ClI m H n B9 vL L M X aw uw sv mv qv hv->zbh X=L->zdS X=false->b<=a->W Stl zdL fr M (zln [.t 10] (fun r _=>r= .bool true)):=by
  intro fr M X aw uw sv mv qv hv a b F h hm hb hab;have b9:=h.b9;obtain ⟨_,_,_,hX⟩:=h.mi.at;obtain ⟨C1,C2,C3,C4,C5,C6⟩:=hX.cells;have MS:=zU (zkz hX);have DS:=zU (fun G:Mem=>znW (hX.app (g:=G)));have hnu:=zU h.nu;have hok:=zU h.ok;have hm':=zU hm;have c1:((b:Int)<=(a:Int))=True:=eq_true (by omega);clear h hX hm;refine into ?_;refine (toL MS.down).mono ?_;rintro _ _ hm;obtain ⟨vn,en,G4,ln,rfl,rfl,vc,hS,p2⟩:=hm.all;obtain ⟨rfl,rfl⟩:ln=L/\en=0:=by
   rcases hS with ⟨_,a,b⟩|⟨a,_⟩
   ·exact ⟨a.trans hm'.down,b⟩
   ·exact absurd hok.down a
  have p2':=zU p2;have b94:=zb (g:=G4) b9;clear hm hS p2;refine am ?_;refine (toL (DS.down _)).mono ?_;rintro _ _ ⟨hd,G5,rfl⟩;rcases hd with ⟨_,rfl⟩|⟨hd,_⟩
  case inr=>exact absurd hok.down hd
  rw [hb];clear b9 b94;refine am ?_;have q1:Rd (M++(G4++G5)) vn 1 ln.length (zG (nx ln)):=p2'.down.on;have q2:Nus (M++(G4++G5)) vL ln:=hnu.down.app.at;refine (toL (zsQ q1 q2 ll.down)).mono ?_;rintro _ _ ⟨rfl,rfl⟩;rw [decide_eq_true ⟨rfl,fun _ _=>rfl⟩];clear q1 q2;refine am ?_;exact zh
 have key0':=zU key0;clear key0;have done:PLift (∀(X:MiA) (ws:List Int) (f:Nat) (Z:MiA×Nat×Nat),X.ok->w64 X.nm X.mw->X.H=H->X.hs.length=n->Clo (Rcb rs (zeT H.a [] [])) rs X->zvI X.hs.length ws->zdd f (X,0,0) (wlA X.hs.length ws) (List.range X.hs.length)=some Z->Z.1.ok/\w64 Z.1.nm Z.1.mw/\Z.1.H=H/\Z.1.hs.length=n/\zbh Z.1=L/\zdS Z.1=false/\Z.2.2<=Z.2.1):=⟨fun X ws f Z ok wk eH en c hws hrun=>by
  have st:Frn (Rcb rs (zeT H.a [] [])) rs X (X,0,0):=⟨⟨ok,wk,rfl,rfl,rfl,Nat.le_refl _,by show 0+mu X<=mu X;omega⟩,c⟩
  obtain ⟨hZ,hb⟩:=Frn.run (hwa.down X eH) (hRR.down X eH) (zxr hws) (fun w hw=>List.mem_range.1 hw) f _ st hrun;have eZ:=hZ.o.eH.trans eH;refine ⟨hZ.o.ok,by have:=hZ.o.en;exact hZ.o.wk,eZ,hZ.o.el.trans en,?_,hb,hZ.o.le⟩;refine zyT hZ.o.ok (hwa.down _ eZ) (by rw [eZ];exact hZ.c) hb (fun r h1 h2=> ?_) hLp'.down (by rw [eZ];exact hLm'.down);rw [eZ];exact (hmo'.down r (List.mem_append_left _ h1)).resolve_left h2⟩
 have key1: ∀(fr:Frame) (M:Mem) (X:MiA) (aw uw sv mv qv hv:V),Has fr [(13,.ptr B9 0 0),(4,wv),(11,vL)]->ClI m H n B9 vL L M X aw uw sv mv qv hv->Clo (Rcb rs (zeT H.a [] [])) rs X->W Stl zdM fr M (zln [.t 10] (fun r _=>r= .bool true)):=by
  intro fr M X aw uw sv mv qv hv F h hc;have b9:=h.b9;have lB:=(List.getElem?_eq_some_iff.1 b9).1;obtain ⟨_,_,_,hX⟩:=h.mi.at;obtain ⟨C1,C2,C3,C4,C5,C6⟩:=hX.cells;have RU:=zU (zk9 (ws:=ws) hX (zlU hw'.down fun c y _ hy=>h.keep c y hy) hl (zuF hX.h.wa hX.wk ws));have h':=zU h;have hc':=zU hc;have g1:= @zL;have g3:= @set_set;clear h hc hX;refine into ?_;refine (toL RU.down).mono ?_;rintro _ _ ⟨Z,e,l,hZ,rfl,aw2,uw2,sv2,mv2,qv2,hv2,G2,rfl,rfl,p2⟩;obtain ⟨_,_,_,_,q2⟩:=p2.ex;obtain ⟨D1,D2,D3,D4,D5,D6⟩:=q2.cells;have p2':=zU p2;have b92:=zb (g:=G2) b9;clear p2 q2;rcases hZ with ⟨hk,_⟩|⟨_,hws,rfl,rfl⟩|⟨_,hws,⟨f,hrun⟩,rfl⟩
  ·exact absurd h'.down.ok hk
  ·have h2:=zU (h'.down.next (G:=G2) (G2:=G2) (by omega) h'.down.ok h'.down.wk h'.down.eH h'.down.en (Nat.le_refl _) p2'.down AtM.end)
   obtain ⟨_,_,_,hX2⟩:=h2.down.mi.at;have RU2:=zU (zk9 (wv:= .nils) (ws:=[]) hX2 (.inl ⟨rfl,rfl⟩) (by decide) (zuF hX2.h.wa hX2.wk []));have b93:=h2.down.b9;clear hws hX2;refine am ?_;refine (toL RU2.down).mono ?_;rintro _ _ ⟨Z,e,l,hZ,rfl,aw3,uw3,sv3,mv3,qv3,hv3,G3,rfl,rfl,p3⟩;obtain ⟨_,_,_,_,q3⟩:=p3.ex;obtain ⟨E1,E2,E3,E4,E5,E6⟩:=q3.cells;have p3':=zU p3;rcases hZ with ⟨hk,_⟩|⟨_,hws,_,_⟩|⟨_,hws,⟨f,hrun⟩,rfl⟩
   ·exact absurd h'.down.ok hk
   ·exact absurd (fun i hi=>absurd hi (Nat.not_lt_zero _)) hws
   obtain ⟨d1,d2,d3,d4,d5,d6,d7⟩:=done.down X [] f Z h'.down.ok h'.down.wk h'.down.eH h'.down.en hc'.down hws hrun;have h3:=zU (h2.down.next (G:=G3) (G2:=G3) (by omega) d1 d2 d3 d4 (Nat.le_refl _) p3'.down AtM.end);have fin:=zU (fun fr F=>key0'.down fr _ Z.1 aw3 uw3 sv3 mv3 qv3 hv3 Z.2.1 Z.2.2 F h3.down d5 d6 d7);have b94:=zb (g:=G3) b93;clear p3 q3 hws hrun d1 d2 d3 d4 d5 d6 d7 b92 b9 b93;refine am ?_;exact fin.down _ zh
  ·obtain ⟨d1,d2,d3,d4,d5,d6,d7⟩:=done.down X ws f Z h'.down.ok h'.down.wk h'.down.eH h'.down.en hc'.down hws hrun
   have h3:=zU (h'.down.next (G:=G2) (G2:=G2) (by omega) d1 d2 d3 d4 (Nat.le_refl _) p2'.down AtM.end);have fin:=zU (fun fr F=>key0'.down fr _ Z.1 aw2 uw2 sv2 mv2 qv2 hv2 Z.2.1 Z.2.2 F h3.down d5 d6 d7);clear hws hrun d1 d2 d3 d4 d5 d6 d7;refine am ?_;exact fin.down _ zh
 have key1':=zU key1;clear key1;refine range (α:=Unit) pk.length (fun _=>[(55,pv),(13,.ptr B9 0 0),(1,.int .i64 (n:Nat)),(4,wv),(11,vL)]) (fun _ _ M=> ∃X aw uw sv mv qv hv,ClI m H n B9 vL L M X aw uw sv mv qv hv/\Clo (Rcb rs (zeT H.a [] [])) rs X) () ⟨_,_,_,_,_,_,_,o0'.down,k7'.down⟩ ?_ ?_
 ·rintro k _ fr M hk F ⟨X,aw,uw,sv,mv,qv,hv,hI,hc⟩
  have hI':=zU hI;have hc':=zU hc;have pB:=(zlU (M':=M) hp'.down fun c y _ hy=>hI.keep c y hy).ar;have b9:=hI.b9;have lB:=(List.getElem?_eq_some_iff.1 b9).1;obtain ⟨_,_,_,hX⟩:=hI.mi.at;obtain ⟨C1,C2,C3,C4,C5,C6⟩:=hX.cells;have pX:=hpb'.down k hk;have hw:nx pk k%n<X.hs.length:=by rw [hI.en];exact Nat.mod_lt _ (by omega)
  obtain ⟨w,ew⟩: ∃w,nx pk k%n=w:=⟨_,rfl⟩
  rw [ew] at hw;have ST:=zU (fun G:Mem=>zjI (hX.app (g:=G)) (w:=(w:Nat)));have wa:=zU (hwa.down X hI.eH);have wr:IntKind.i64.wrap ((nx pk k:Nat):Int)=((nx pk k:Nat):Int):=wrap_i64 (by omega) (by omega);have tm:((nx pk k:Nat):Int).tmod (n:Int)=((w:Nat):Int):=by rw [<-ew];exact zx8
  have n0:((n:Int)=0)=False:=eq_false (by omega);have es:PLift (∀Z,zyj X w Z->Z=zm X w):=⟨fun Z h=>by
   rcases h with ⟨h,_⟩|⟨_,h,_⟩|⟨_,_,_,h⟩
   ·exact absurd hI'.down.ok h
   ·exact absurd ⟨by omega,by omega⟩ h
   ·rw [h,Int.toNat_natCast]⟩
  clear hI hc hX ew
  by_cases e80:k=80
  ·have d0:((k:Int)=80)=True:=eq_true (by omega)
   clear e80;refine am ?_;exact key1'.down _ _ X aw uw sv mv qv hv zh hI'.down hc'.down
  have d0:((k:Int)=80)=False:=eq_false (by omega);clear e80;refine am ?_;refine (toL (ST.down _)).mono ?_;rintro _ _ ⟨Z,l,hZ,rfl,aw2,uw2,sv2,mv2,qv2,hv2,G2,rfl,rfl,p2⟩;have eZ:=es.down Z hZ;obtain ⟨_,_,_,_,q2⟩:=p2.ex;obtain ⟨D1,D2,D3,D4,D5,D6⟩:=q2.cells;obtain ⟨s1,s2,s3,s4,s5⟩:=zkx hI'.down.ok wa.down hI'.down.wk hw;have cz:Clo (Rcb rs (zeT H.a [] [])) rs (zm X w).1:=by
   by_cases e0:(zm X w).2.2=0
   ·exact zsp hI'.down.ok hc'.down wa.down hI'.down.wk (hRR.down X hI'.down.eH) hw e0
   ·rw [zpz e0];exact hc'.down
  rw [<-eZ] at s1 s2 s3 s4 s5 cz;have nxt:=zU (fun x:Blk=>hI'.down.next (G:=G2) (G2:=x::G2) (by omega) s1 (by rw [s4];exact s2) (s3.trans hI'.down.eH) (s5.trans hI'.down.en) (by rw [List.length_append];omega) p2 ((AtM.left (A:=M) (.drop .here)).cst (by simp)));have cz':=zU cz;have g1:= @zL;clear hZ eZ p2 q2 s1 s2 s3 s4 s5 cz;refine am ?_;exact ⟨(),zh,Z.1,aw2,uw2,sv2,mv2,qv2,hv2,nxt.down _,cz'.down⟩
 ·rintro _ fr M F ⟨X,aw,uw,sv,mv,qv,hv,hI,hc⟩
  have hI':=zU hI;have hc':=zU hc;clear hI hc;refine am ?_;exact key1'.down _ _ X aw uw sv mv qv hv zh hI'.down hc'.down
end Go.AM.G
