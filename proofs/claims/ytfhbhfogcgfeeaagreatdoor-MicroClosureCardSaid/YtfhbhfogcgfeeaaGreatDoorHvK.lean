import Derived.Test.YtfhbhfogcgfeeaaGreatDoorHvG
set_option linter.unusedVariables false
set_option linter.unusedSimpArgs false
set_option maxRecDepth 100000
namespace Go.AM.G
open Go Go.AM
def zbh (X:MiA):List Nat:=X.H.cs.filter fun a=>bit X.mw (a/2)
def zmn (m:Mem) (X:MiA) (r:V) (m':Mem):Prop:=(X.ok/\ ∃g v,m'=m++g/\r= .tup [v,.int .i64 0]/\Ps m.length g (fun M=>Sl M v 1 (zD (zbh X))))\/(¬ X.ok/\r= .tup [.nils,.int .i64 2]/\Grow m m')
theorem zkz {m:Mem} {aw uw sv mv qv hv:V}{va vm vs:Nat->V}{X:MiA}(h:zfi m aw uw sv mv qv hv va vm vs X):C S zeU [.agg (miV X aw uw sv mv qv hv)] m (zmn m X):=by
 have A1:=h.h.a.ar.2.1;have A2:=h.h.u.ar.2.1;have A3:=h.h.s.s.ar.2.1;have A4:=h.k.ar.2.1;have A5:=h.q.s.ar.2.1;have A6:=h.d.ar.2.1;have hh:=zU h;obtain ⟨T,hT⟩: ∃T:V->Mem->Prop,T=zmn m X:=⟨_,rfl⟩
 rw [<-hT];have hT':=zU hT;clear h hT;refine fn rfl ?_;refine (zfK hh.down.app).mono ?_;rintro _ _ ⟨⟨hk,rfl⟩|⟨hk,rfl⟩,⟨g1,rfl⟩⟩
 case inr=>
  have t:PLift (∀g,T (.tup [.nils,.int .i64 2]) (m++g)):=⟨fun g=>by rw [hT'.down];exact .inr ⟨hk,rfl,_,rfl⟩⟩
  clear hk;refine am ?_;exact t.down _
 have hk':=zU hk;clear hk;refine am ?_;refine (zgY hh.down.h.app).mono ?_;rintro _ _ (⟨_,g2,v,rfl,rfl,hG⟩|⟨hn,_⟩)
 case inr=>exact absurd hk'.down.1 hn
 have vc:=hG.cell;have hG':=zU hG;clear hG;obtain ⟨hcs,hcl⟩:=zjH hk'.down.1 hh.down.h.wa;have hcl':=zU hcl;clear hcs hcl;refine am ?_;have tell:zyi (m++ .cells true [miV X aw uw sv mv qv hv]::(g1++[.cells true [[aw,.int .i64 X.H.us.N,uw,sv,mv,qv,hv]],.cells true [[.ptr (m.length+(g1.length+1)) 0 0]]])) (.fn zgf [] [.ptr (m.length+(g1.length+1+1)) 0 0]) X.H.cs (fun a=> !bit X.mw (a/2)):=fun g x hx=>by
  obtain ⟨hx1,hx2⟩:=zcR hk'.down.1 hh.down.h.wa hx;have hP: ∀G:Mem,(m++ .cells true [miV X aw uw sv mv qv hv]::(g1++ .cells true [[aw,.int .i64 X.H.us.N,uw,sv,mv,qv,hv]]::G))[m.length+(g1.length+1)]? =some (.cells true [[aw,.int .i64 X.H.us.N,uw,sv,mv,qv,hv]]):=fun G=>by rw [zi,zb9,zaa];rfl
  have hb:=fun G=>zjG (hP G) hh.down.k.app hh.down.wk (show x<18446744073709551616 by omega) (by rw [hk'.down.2.2.2.1];exact hx2)
  have hb':=zU hb;clear hP hb hx hx1 hx2 hcl' hG';rw [ziQ];dsimp only;refine fn rfl ?_;refine (hb'.down _).mono ?_;rintro _ _ ⟨rfl,rfl⟩;refine am ?_;exact ⟨[],by simp⟩
 have D:=znU hG'.down (by have:=hcl'.down;unfold zl.cs at this;omega) tell;simp only [List.append_assoc,List.cons_append,List.nil_append] at D;refine D.mono ?_;rintro r _ ⟨g3,rfl,hS⟩;obtain ⟨M9,hS9⟩:=hS.ex;have rc:=hS9.cell;have t:PLift (T (.tup [r,.int .i64 0]) (m++ .cells true [miV X aw uw sv mv qv hv]::(g1++ .cells true [[aw,.int .i64 X.H.us.N,uw,sv,mv,qv,hv]]:: .cells true [[.ptr (m.length+(g1.length+1)) 0 0]]::g3))):=⟨by
  rw [hT'.down];refine .inl ⟨hk'.down,_,r,rfl,rfl,?_⟩;have e:zbh X=zco (fun a=> !bit X.mw (a/2)) (zdW (obs X.H X.H.ns)):=by
   unfold zbh zco;simp only [Bool.not_not]
  rw [e];exact hS.to⟩
 clear hS hS9 tell D;refine am ?_;exact t.down
theorem zvD {X:MiA}{r r':V}(h:zuC X r) (h':zuC X r'):r=r':=by
 rcases h with ⟨a,e⟩|⟨a,e⟩<;>rcases h' with ⟨a',e'⟩|⟨a',e'⟩<;>first|exact e.trans e'.symm|exact absurd a a'|exact absurd a' a
theorem zx2 {P:Prop}{r r':V}(h:okE P r) (h':okE P r'):r=r':=by
 rcases h with ⟨a,e⟩|⟨a,e⟩<;>rcases h' with ⟨a',e'⟩|⟨a',e'⟩<;>first|exact e.trans e'.symm|exact absurd a a'|exact absurd a' a
def mkS (X:MiA) (l:List Nat) (e:Int):Prop:=(X.ok/\l=zbh X/\e=0)\/(¬ X.ok/\l=[]/\e=2)
theorem zmn.all {m:Mem}{X:MiA}{r:V}{m':Mem}(h:zmn m X r m'): ∃v e g l,m'=m++g/\r= .tup [v,.int .i64 e]/\v.isCell=true/\mkS X l e/\Ps m.length g (fun M=>Rd M v 1 l.length (zG (nx l))):=by
 rcases h with ⟨hk,g,v,rfl,rfl,hS⟩|⟨hk,rfl,g,rfl⟩
 ·obtain ⟨M,hM⟩:=hS.ex
  exact ⟨v,0,g,_,rfl,rfl,hM.cell,.inl ⟨hk,rfl,rfl⟩,hS.imp fun M h=> .inl (by rw [zsi] at h;exact h)⟩
 ·exact ⟨.nils,2,g,[],rfl,rfl,rfl,.inr ⟨hk,rfl,rfl⟩,fun M _=> .inl ⟨rfl,rfl⟩⟩
theorem zfi.cells {m:Mem} {aw uw sv mv qv hv:V}{va vm vs:Nat->V}{X:MiA}(h:zfi m aw uw sv mv qv hv va vm vs X):aw.isCell=true/\uw.isCell=true/\sv.isCell=true/\mv.isCell=true/\qv.isCell=true/\hv.isCell=true:=⟨h.h.a.ar.2.1,h.h.u.ar.2.1,h.h.s.s.ar.2.1,h.k.ar.2.1,h.q.s.ar.2.1,h.d.ar.2.1⟩
def MiX (M:Mem) (aw uw sv mv qv hv:V) (X:MiA):Prop:= ∃va vm vs,zfi M aw uw sv mv qv hv va vm vs X
def zbL (c:Int):List (List Nat):=List.replicate c.toNat []
theorem zej {c:Int}:(zbL c).flatten=[]:=by
 unfold zbL
 induction c.toNat with
 |zero=>rfl
 |succ n ih=>rw [List.replicate_succ,List.flatten_cons,ih];rfl
theorem zvE {c:Int}{i:Nat}:qat (zbL c) i=[]:=by
 unfold qat zbL;rw [List.getD_eq_getElem?_getD]
 by_cases h:i<c.toNat
 ·rw [List.getElem?_replicate_of_lt h];rfl
 ·rw [List.getElem?_eq_none (by simp;omega)];rfl
def zxn (m:Mem) (c:Int) (r:V) (m':Mem):Prop:=(1<=c/\c<=4/\ ∃g v,m'=m++g/\r= .tup [.agg [v],.int .i64 0]/\v.isCell=true/\V.beq v v=true/\Ps m.length g (fun M=>Qs M v (zbL c)))\/(¬ (1<=c/\c<=4)/\r= .tup [.agg [.nils],.int .i64 1]/\Grow m m')
theorem ztx {m:Mem}{c:Int}:C S zlq [.int .i64 c] m (zxn m c):=by
 obtain ⟨T,hT⟩: ∃T:V->Mem->Prop,T=zxn m c:=⟨_,rfl⟩
 rw [<-hT];have bad:¬ (1<=c/\c<=4)->PLift (∀g,T (.tup [.agg [.nils],.int .i64 1]) (m++g)):=fun h=>⟨fun g=>by rw [hT];exact .inr ⟨h,rfl,_,rfl⟩⟩
 by_cases a1:c<1
 ·have c1:(c<1)=True:=eq_true a1
  have b:=bad (by omega);clear a1 hT bad;refine fn rfl ?_;exact b.down _
 by_cases a2:4<c
 ·have c1:(c<1)=False:=eq_false a1
  have c2:(4<c)=True:=eq_true a2;have b:=bad (by omega);clear a1 a2 hT bad;refine fn rfl ?_;exact b.down _
 have c1:(c<1)=False:=eq_false a1;have c2:(4<c)=False:=eq_false a2;obtain ⟨n,rfl⟩: ∃n:Nat,c=(n:Int):=⟨c.toNat,by omega⟩
 have hz:((0:Int)<=(n:Int))=True:=eq_true (by omega);have hr:((n:Int)<=(n:Int))=True:=eq_true (by omega);have rm:roomy n 24=true:=by simp [roomy];omega
 have t:PLift (∀Y,T (.tup [.agg [.slice (m.length+1) 0 n n true 1],.int .i64 0]) (m++[Y,.cells true (List.replicate n [.nils])])):=⟨fun Y=>by
  rw [hT];refine .inl ⟨by omega,by omega,_,_,rfl,rfl,rfl,(by simp [V.beq]),fun M hM=>⟨fun _=> .nils,.inl ?_,fun i hi=> ?_⟩⟩
  ·have hb:M[m.length+1]? =some (.cells true (List.replicate n [V.nils])):=hM 1 _ rfl
   have:=Sl.mk (cap:=n) (z:=1) (ex:=true) hb;have e:(List.range (zbL (n:Int)).length).map (fun _=>[V.nils])=List.replicate n [V.nils]:=by simp [zbL,List.map_const']
   rw [e]
   simpa using this
  ·rw [zvE]
   exact .inl ⟨rfl,rfl⟩⟩
 clear a1 a2 bad hT;refine fn rfl ?_;exact t.down _
theorem zk8 {o:ObA}: ∀{l:List ObA},o∈l->o.cur=true->o.addr∈zdW l
 | [],h,_=>by cases h
 |x::l,h,hc=>by
  unfold zdW;rcases List.mem_cons.1 h with rfl|h
  ·rw [if_pos hc];exact List.mem_cons_self
  ·split
   ·exact List.mem_cons_of_mem _ (zk8 h hc)
   ·exact zk8 h hc
theorem zyQ {H:zl}{a:Nat}(h0:a≠0) (h:a∉H.cs):atV (obs H H.ns) a= .tup [.agg [.int .i64 0,.int .u64 0],.int .i64 10]:=by
 unfold atV;rw [if_neg h0];cases hf:fnd (obs H H.ns) a with
 |none=>rfl
 |some o=>
  refine absurd ?_ h;have h1:=List.mem_of_find?_eq_some hf;have h2:=List.find?_some hf;simp only [Bool.and_eq_true,beq_iff_eq] at h2;rw [<-h2.1];exact zk8 h1 h2.2
def zjJ (X:MiA) (r:Nat):MiA:=if r≠0/\bit X.mw (r/2)=false then { X with mw:=za7 X.mw (r/2) true,qs:=X.qs.set 0 (qat X.qs 0++[r]) } else X
def zfj (X:MiA) (rs:List Nat):Nat->MiA
 |0=>X
 |k+1=>zjJ (zfj X rs k) (nx rs k)
def zxo (X:MiA):Prop:= ∀a,a∈X.qs.flatten->bit X.mw (a/2)=true
structure Mkg (X Y:MiA):Prop where
 ok:Y.ok
 q:zxo Y
 wk:w64 Y.nm Y.mw
 eH:Y.H=X.H
 en:Y.nm=X.nm
 eh:Y.hs=X.hs
theorem zsj {X:MiA}(h:X.ok) (hq:zxo X) (wa:w64 X.H.na X.H.a){r:Nat}(h0:r≠0) (hb:bit X.mw (r/2)=false) (hr:r∈X.H.cs):(zaT X.qs 0 r).2=0:=by
 have k:=h.2.1;have hn:r∉X.qs.flatten:=fun e=>by have:=hq r e;rw [hb] at this;cases this
 have hl:=zgb k.2.2.2.1 h.2.2.2.2.2.2.1;have hc:=(zjH h.1 wa).2;have:=k.1;unfold zaT;rw [if_neg (fun e=>e k),if_neg (fun e=>e (by omega)),if_neg h0,if_neg hn,if_neg (by omega)]
theorem Mkg.one {X Y:MiA}(h:Mkg X Y) (wa:w64 Y.H.na Y.H.a){r:Nat}(hr:r≠0->r∈Y.H.cs):Mkg X (zjJ Y r):=by
 unfold zjJ
 split
 case isFalse=>exact h
 rename_i hc
 obtain ⟨h0,hb⟩:=hc;have hr:=hr h0;have hp:=zsj h.ok h.q wa h0 hb hr;have hl:0<Y.qs.length:=h.ok.2.1.1;obtain ⟨_,p2,p3,p4,p5⟩:=zik h.ok.2.1 (w:=0) hl hp;obtain ⟨pl1,pl2⟩:=zcR h.ok.1 wa hr;have hn:=h.ok.2.2.2.1;have hm:=zpx h.ok.1 wa h.wk hn h.ok.2.2.2.2.2.1 hr;have o1:=zyh h.ok hm;have o2:=zxj o1 p4 (by simp) fun a ha=>by
  rcases (p5 a).1 ha with rfl|ha
  ·exact hr
  ·exact h.ok.2.2.2.2.2.2.1 a ha
 refine ⟨o2,fun a ha=> ?_,zhS h.wk,h.eH,h.en,h.eh⟩;show bit (za7 Y.mw (r/2) true) (a/2)=true;have ha':=(p5 a).1 ha;rw [za9 h.wk (by rw [hn];omega)]
 by_cases e:a/2=r/2
 ·rw [if_pos e]
 ·rw [if_neg e]
  rcases ha' with rfl|ha'
  ·exact absurd rfl e
  ·exact h.q a ha'
theorem Mkg.add {X:MiA}(h:Mkg X X) (wa:w64 X.H.na X.H.a){rs:List Nat}(hr: ∀r,r∈rs->r≠0->r∈X.H.cs): ∀k,k<=rs.length->Mkg X (zfj X rs k)
 |0,_=>h
 |k+1,hk=>by
  have ih:=Mkg.add h wa hr k (by omega);exact ih.one (by rw [ih.eH];exact wa) (by rw [ih.eH];exact hr _ (zaH (by omega)))
def zg2 (H:zl) (c:Int):MiA:=⟨H,nwm H.na,fun _=>0,zbL c,List.replicate c.toNat hand0⟩
theorem zmo {H:zl}{c:Int}(hR:H.right) (hs:H.swept) (h1:1<=c) (h4:c<=4):Mkg (zg2 H c) (zg2 H c):=by
 have hl:(zbL c).length=c.toNat:=by simp [zbL]
 refine ⟨⟨hR,⟨?_,?_,?_,?_,?_⟩,?_,rfl,hs,?_,?_,?_⟩,?_,fun _ _=>by show (0:Nat)<_;decide,rfl,rfl,rfl⟩
 ·show 1<=(zbL c).length;omega
 ·show (zbL c).length<=4;omega
 ·show (zbL c).flatten.length<=_;rw [zej];decide
 ·show (zbL c).flatten.Nodup;rw [zej];exact List.nodup_nil
 ·show 0∉(zbL c).flatten;rw [zej];simp
 ·show (List.replicate c.toNat hand0).length=(zbL c).length;rw [hl];simp
 ·intro i hi hb
  have:bit (fun _=>0) i=true:=hb;unfold bit at this;simp at this
 ·intro a ha
  have:a∈(zbL c).flatten:=ha;rw [zej] at this;cases this
 ·intro i hi
  refine .inl ?_;have:hat (List.replicate c.toNat hand0) i=hand0:=by
   unfold hat;rw [List.getD_eq_getElem?_getD]
   by_cases h:i<c.toNat
   ·rw [List.getElem?_replicate_of_lt h];rfl
   ·rw [List.getElem?_eq_none (by simp;omega)];rfl
  show (hat (List.replicate c.toNat hand0) i).pc=0/\hat (List.replicate c.toNat hand0) i=hand0;rw [this];exact ⟨rfl,rfl⟩
 ·intro a ha
  have:a∈(zbL c).flatten:=ha;rw [zej] at this;cases this
def zdc (s:MiA×Nat×Nat) (w:Nat):MiA×Nat×Nat:=if (zm s.1 w).2.2=0 then ((zm s.1 w).1,s.2.1+1,s.2.2+if (zm s.1 w).2.1=5 then 1 else 0) else s
theorem zpz {X:MiA}{w:Nat}(h:(zm X w).2.2≠0):(zm X w).1=X:=by
 unfold zm at h ⊢
 (repeat' split)<;>first|rfl|(exfalso;revert h;simp_all;done)|skip
 all_goals first|rfl|(simp_all;done)|skip
structure Ry (lo:Nat) (M:Mem) (P T:Nat) (aw uw sv qv:V) (bm bh cm ch:Nat) (em eh:Bool) (Fh Fq:Nat->Prop) (s:MiA×Nat×Nat):Prop where
 k:zgy lo M P aw uw sv qv bm bh cm ch em eh Fh Fq s.1
 t:M[T]? =some (.cells true [[.int .i64 (s.2.1:Nat),.int .i64 (s.2.2:Nat)]])
 n:T≠P/\T≠bm/\T≠bh/\¬ Fh T/\¬ Fq T
theorem zgy.to {lo:Nat}{M M2:Mem}{P:Nat}{aw uw sv qv:V}{bm bh cm ch:Nat}{em eh:Bool}{Fh Fq:Nat->Prop}{X:MiA}(h:zgy lo M P aw uw sv qv bm bh cm ch em eh Fh Fq X) (k: ∀(c:Nat) (y:Blk),(c=P\/c=bm\/c=bh\/Fh c\/Fq c)->M[c]? =some y->M2[c]? =some y):zgy lo M2 P aw uw sv qv bm bh cm ch em eh Fh Fq X:=
 ⟨⟨h.o.h.to fun c y hc hy=>k c y (.inr (.inr (.inr (.inl hc)))) hy,h.o.q.to fun c y hc hy=>k c y (.inr (.inr (.inr (.inr hc)))) hy,k _ _ (.inr (.inl rfl)) h.o.m,k _ _ (.inr (.inr (.inl rfl))) h.o.d,h.o.l,h.o.f,h.o.fl,h.o.c,h.o.b,h.o.w⟩,k _ _ (.inl rfl) h.p,h.n⟩
theorem zsk {lo:Nat}{M:Mem}{P T:Nat}{aw uw sv qv:V}{bm bh cm ch:Nat}{em eh:Bool}{Fh Fq:Nat->Prop}{s:MiA×Nat×Nat}(h:Ry lo M P T aw uw sv qv bm bh cm ch em eh Fh Fq s) (hok:s.1.ok){w:Nat}(hw:w<s.1.hs.length) (hn:s.2.1<4611686018427387904) (hl:s.2.2<=s.2.1):
  C S zbZ [.ptr T 0 0,.ptr P 0 0,.int .i64 (w:Nat)] M (fun r M'=>r= .bool (decide ((zm s.1 w).2.2=0))/\M.length<=M'.length/\(∀(c:Nat) (y:Blk),(c≠P/\c≠bm/\c≠bh/\c≠T)->M[c]? =some y->M'[c]? =some y)/\ ∃qv' Fq',Ry lo M' P T aw uw sv qv' bm bh cm ch em eh Fh Fq' (zdc s w)):=by
 obtain ⟨X,a,b⟩:=s;have hk:=h.k;have ht:=h.t;have lT:=(List.getElem?_eq_some_iff.1 ht).1;have hh:=zU h;have hok':=zU hok;dsimp only at hk ht hok hw hn hl;have w1:IntKind.i64.wrap ((a:Int)+1)=((a+1:Nat):Int):=by rw [wrap_i64]<;>omega
 have w2:IntKind.i64.wrap ((b:Int)+1)=((b+1:Nat):Int):=by rw [wrap_i64]<;>omega
 obtain ⟨Q,hQ⟩: ∃Q:V->Mem->Prop,Q=fun r M'=>r= .bool (decide ((zm X w).2.2=0))/\M.length<=M'.length/\(∀(c:Nat) (y:Blk),(c≠P/\c≠bm/\c≠bh/\c≠T)->M[c]? =some y->M'[c]? =some y)/\ ∃qv' Fq',Ry lo M' P T aw uw sv qv' bm bh cm ch em eh Fh Fq' (zdc (X,a,b) w):=⟨_,rfl⟩
 show C S zbZ _ M (fun r M'=>r= .bool (decide ((zm X w).2.2=0))/\M.length<=M'.length/\(∀(c:Nat) (y:Blk),(c≠P/\c≠bm/\c≠bh/\c≠T)->M[c]? =some y->M'[c]? =some y)/\ ∃qv' Fq',Ry lo M' P T aw uw sv qv' bm bh cm ch em eh Fh Fq' (zdc (X,a,b) w));rw [<-hQ];have hQ':=zU hQ;obtain ⟨Z,eZ⟩: ∃Z,zm X w=Z:=⟨_,rfl⟩
 have SM:=znS hk hok hw;rw [eZ] at SM;have eZ':=zU eZ;have SM':=zU SM;clear h hok hk SM hQ eZ;refine fn rfl ?_;refine SM'.down.mono ?_;rintro _ M1 ⟨rfl,l1,k1,qv',Fq',hf,hM⟩;have tT:=k1 T _ ⟨hh.down.n.1,hh.down.n.2.1,hh.down.n.2.2.1⟩ ht;have nT:¬ Fq' T:=fun e=>by
  rcases hf T e with e|e
  ·exact hh.down.n.2.2.2.2 e
  ·omega
 have hM':=zU hM;have k1':=zU k1;have l1':=zU l1;have nT':=zU nT;clear hf hM k1 l1 nT
 by_cases e0:Z.2.2=0
 ·have c0:(Z.2.2=0)=True:=eq_true e0
  have s1: ∀Y,(M1.set T Y)[T]? =some Y:=fun Y=>zL (by rw [tT];rfl)
  have s2:= @set_set;have fin:PLift (∀k:Nat,(k=b+if Z.2.1=5 then 1 else 0)->Q (.bool true) (M1.set T (.cells true [[.int .i64 ((a+1:Nat):Int),.int .i64 (k:Nat)]]))):=⟨fun k hk=>by
   rw [hQ'.down];have et:zdc (X,a,b) w=(Z.1,a+1,k):=by
    unfold zdc;rw [eZ'.down,if_pos e0,hk]
   refine ⟨by rw [eZ'.down,decide_eq_true e0],by rw [List.length_set];exact l1'.down,fun c y hc hy=>zx (Ne.symm hc.2.2.2) (k1'.down c y ⟨hc.1,hc.2.1,hc.2.2.1⟩ hy),qv',Fq',?_⟩;rw [et];obtain ⟨n1,n2,n3,n4,n5⟩:=hh.down.n;refine ⟨hM'.down.to fun c y hc hy=>zx (fun e=> ?_) hy,zaU tT,n1,n2,n3,n4,nT'.down⟩;subst e;rcases hc with hc|hc|hc|hc|hc
   ·exact n1 hc
   ·exact n2 hc
   ·exact n3 hc
   ·exact n4 hc
   ·exact nT'.down hc⟩
  by_cases e5:Z.2.1=5
  ·have c5:((Z.2.1:Int)=5)=True:=eq_true (by omega)
   have fin':=zU (fin.down (b+1) (by rw [if_pos e5]));clear e0 e5 fin;refine am ?_;exact fin'.down
  ·have c5:((Z.2.1:Int)=5)=False:=eq_false (by omega)
   have fin':=zU (fin.down b (by rw [if_neg e5];rfl));clear e0 e5 fin;refine am ?_;exact fin'.down
 ·have c0:(Z.2.2=0)=False:=eq_false e0
  have fin:PLift (Q (.bool false) M1):=⟨by
   rw [hQ'.down];have et:zdc (X,a,b) w=(X,a,b):=by
    unfold zdc;rw [eZ'.down,if_neg e0]
   have e1:Z.1=X:=by rw [<-eZ'.down];exact zpz (by rw [eZ'.down];exact e0)
   refine ⟨by rw [eZ'.down,decide_eq_false e0],l1'.down,fun c y hc hy=>k1'.down c y ⟨hc.1,hc.2.1,hc.2.2.1⟩ hy,qv',Fq',?_⟩;rw [et];have hM:=hM'.down;rw [e1] at hM;obtain ⟨n1,n2,n3,n4,n5⟩:=hh.down.n;exact ⟨hM,tT,n1,n2,n3,n4,nT'.down⟩⟩
  clear e0;refine am ?_;exact fin.down
def zff (f:Nat->Bool):Nat->Nat
 |0=>0
 |k+1=>zff f k+if f k=true then 0 else 1
theorem zsl {f:Nat->Bool}: ∀n,zff f n<=n
 |0=>Nat.le_refl _
 |n+1=>by have:=zsl (f:=f) n;unfold zff;split<;>omega
theorem znY {f g:Nat->Bool}: ∀n,(∀i,i<n->f i=g i)->zff f n=zff g n
 |0,_=>rfl
 |n+1,h=>by unfold zff;rw [znY n fun i hi=>h i (by omega),h n (by omega)]
theorem zpA {f g:Nat->Bool}{p:Nat}(h: ∀i,i≠p->g i=f i) (h0:f p=false) (h1:g p=true): ∀n,p<n->zff g n+1=zff f n
 |0,hp=>absurd hp (Nat.not_lt_zero _)
 |n+1,hp=>by
  unfold zff
  by_cases e:n=p
  ·subst e
   rw [znY n fun i hi=>h i (by omega),h0,h1];rfl
  ·have:=zpA h h0 h1 n (by omega)
   rw [h n e];omega
def hmu (mw:Nat->Nat) (x:zT):Nat:=
 if x.pc=0 then 0 else if x.pc=1 then 3000 else if x.pc=2 then 8*(x.N-x.f).toNat+11 else if x.pc=3 then 8*(x.N-x.f).toNat+9
 else if x.pc=4 then (if x.seen.testBit (x.to/2%64)=true then 8*(x.N-x.f).toNat+4010 else if mw (x.to/2/64)=x.seen then 8*(x.N-x.f).toNat+7 else 8*(x.N-x.f).toNat+10)
 else 8*(x.N-x.f).toNat+4005
def hsum (mw:Nat->Nat) (l:List zT):Nat:=(l.map (hmu mw)).sum
def mu (X:MiA):Nat:=5000*zff (bit X.mw) (64*X.nm)+4000*X.qs.flatten.length+hsum X.mw X.hs
theorem zkA {mw:Nat->Nat}{l:List zT}{w:Nat}{x:zT}(hw:w<l.length):hsum mw (l.set w x)+hmu mw (hat l w)=hsum mw l+hmu mw x:=by
 unfold hsum hat;rw [List.getD_eq_getElem?_getD,List.getElem?_eq_getElem hw]
 induction l generalizing w with
 |nil=>exact absurd hw (Nat.not_lt_zero _)
 |cons a l ih=>
  cases w with
  |zero=>simp;omega
  |succ w=>
   have:=ih (w:=w) (by simpa using hw);simp at this ⊢;omega
theorem zuD {mw mw':Nat->Nat}(k:Nat): ∀l:List zT,(∀x,x∈l->hmu mw' x<=hmu mw x+k)->hsum mw' l<=hsum mw l+k*l.length
 | [],_=>Nat.zero_le _
 |a::l,h=>by
  have h1:=zuD k l fun x hx=>h x (List.mem_cons_of_mem _ hx)
  have h2:=h a List.mem_cons_self;unfold hsum at h1 ⊢;simp only [List.map_cons,List.sum_cons,List.length_cons,Nat.mul_add];omega
theorem zyR (mw mw':Nat->Nat) (x:zT):hmu mw' x<=hmu mw x+3:=by
 unfold hmu
 repeat' split
 all_goals omega
theorem zyS {H:zl}{mw:Nat->Nat}{x:zT}(h:zd1 H x):hmu mw x<=8*255+4010:=by
 rcases h with h|h|⟨a1,a2,a3,a4,a5,a6,a7,_⟩
 ·unfold hmu;rw [if_pos h.1];omega
 ·unfold hmu;rw [if_neg (by omega),if_pos h.1];omega
 ·have:x.N<=255:=by rw [a4];omega
  unfold hmu
  repeat' split
  all_goals omega
theorem zx3 {l:List zT}{x:zT}(h:x∈l): ∃i,i<l.length/\hat l i=x:=by
 obtain ⟨i,hi,rfl⟩:=List.getElem_of_mem h;exact ⟨i,hi,by unfold hat;rw [List.getD_eq_getElem?_getD,List.getElem?_eq_getElem hi];rfl⟩
theorem zuE {mw:Nat->Nat}{k:Nat}: ∀l:List zT,(∀x,x∈l->hmu mw x<=k)->hsum mw l<=k*l.length
 | [],_=>Nat.le_refl _
 |a::l,h=>by
  have h1:=zuE (mw:=mw) (k:=k) l fun x hx=>h x (List.mem_cons_of_mem _ hx)
  have h2:=h a List.mem_cons_self;unfold hsum at h1 ⊢;simp only [List.map_cons,List.sum_cons,List.length_cons,Nat.mul_add];omega
theorem zy9 {X:MiA}(h:X.ok):mu X<2305843009213693952:=by
 have h1:=zsl (f:=bit X.mw) (64*X.nm);have h2:=h.2.1.2.2.1;have h3:X.nm<=129:=by
  have:=h.2.2.2.1;have:=h.1.1.1;unfold nwm at *;omega
 have h4:=zuE (mw:=X.mw) X.hs fun x hx=>by
  obtain ⟨i,hi,e⟩:=zx3 hx;have:=zyS (mw:=X.mw) (h.2.2.2.2.2.2.2 i hi)
  rwa [e] at this
 have h5:=h.2.1.2.1;have h6:=h.2.2.1;unfold mu;omega
theorem znZ {X:MiA}{w:Nat}{x:zT}(hw:w<X.hs.length) (h:hmu X.mw x<hmu X.mw (hat X.hs w)):mu (X.sh w x)<mu X:=by
 have:=zkA (mw:=X.mw) (x:=x) hw;show 5000*zff (bit X.mw) (64*X.nm)+4000*X.qs.flatten.length+hsum X.mw (X.hs.set w x)<_;unfold mu;omega
theorem zxp {X:MiA}(h:X.ok) (wa:w64 X.H.na X.H.a) (wk:w64 X.nm X.mw){w:Nat}(hw:w<X.hs.length) (e0:(zm X w).2.2=0):mu (zm X w).1<mu X:=by
 have hx:=h.2.2.2.2.2.2.2 w hw;have hq:=h.2.1;have hR:=h.1;have hwq:w<X.qs.length:=by have:=h.2.2.1;omega
 unfold zm at e0 ⊢;obtain ⟨x,ex⟩: ∃x,hat X.hs w=x:=⟨_,rfl⟩
 rw [ex] at hx e0 ⊢
 by_cases p0:x.pc=0
 ·rw [if_pos p0] at e0 ⊢
  rcases zkw hq hwq with ⟨e,g,gl,A,B,p1,p2⟩|⟨e,_⟩
  ·rw [if_pos e]
   have l1:=p1.length_eq;have l2:=p2.length_eq;rw [List.length_cons] at l1;have:=zkA (mw:=X.mw) (x:=⟨1,(zav X.qs w).2.1,0,0,0,0,0⟩) hw;rw [ex,show hmu X.mw x=0 by unfold hmu;rw [if_pos p0],show hmu X.mw ⟨1,(zav X.qs w).2.1,0,0,0,0,0⟩=3000 from rfl] at this;show 5000*zff (bit X.mw) (64*X.nm)+4000*(zav X.qs w).1.flatten.length+hsum X.mw (X.hs.set w ⟨1,(zav X.qs w).2.1,0,0,0,0,0⟩)<_;unfold mu;omega
  ·rw [if_neg (by rw [e];decide),e] at e0
   cases e0
 rw [if_neg p0] at e0 ⊢
 by_cases p1:x.pc=1
 ·rw [if_pos p1]
  refine znZ hw ?_;rw [ex];rcases hx with hx|⟨_,ho,e⟩|hx
  ·exact absurd hx.1 p0
  ·have hf:x.f=0:=by rw [e]
   rw [show hmu X.mw x=3000 by unfold hmu;rw [if_neg p0,if_pos p1]];show 8*(((X.H.a x.obj%256:Nat):Int)-x.f).toNat+11<3000;omega
  ·omega
 rw [if_neg p1] at e0 ⊢;obtain ⟨a1,a2,a3,a4,a5,a6,a7,a8,a9⟩:=zd3 hx p0 p1
 by_cases p2:x.pc=2
 ·have hm:hmu X.mw x=8*(x.N-x.f).toNat+11:=by unfold hmu;rw [if_neg p0,if_neg p1,if_pos p2]
  rw [if_pos p2] at e0 ⊢;cases hn:zfd x.M x.N.toNat x.f.toNat with
  |none=>
   refine znZ hw ?_;rw [ex,hm];show 0<_;omega
  |some g=>
   obtain ⟨n1,n2,n3,n4⟩:=zd0 hn;dsimp only
   by_cases hz:X.H.a (x.obj+1+g)=0
   ·rw [if_pos hz]
    refine znZ hw ?_;rw [ex,hm];unfold hmu;rw [if_neg p0,if_neg p1,if_pos p2];dsimp only;omega
   ·rw [if_neg hz]
    refine znZ hw ?_;rw [ex,hm];show 8*(x.N-(g:Int)).toNat+9<_;omega
 rw [if_neg p2] at e0 ⊢;obtain ⟨b1,b2,b3,b4⟩:x.pc≠2/\x.f<x.N/\x.M.testBit x.f.toNat=true/\x.to∈X.H.cs:=by
  rcases a9 with a9|a9
  ·exact absurd a9.1 p2
  ·exact a9
 have hbh:hmu X.mw (behind x)=8*(x.N-(x.f+1)).toNat+11:=rfl
 by_cases p3:x.pc=3
 ·have hm:hmu X.mw x=8*(x.N-x.f).toNat+9:=by unfold hmu;rw [if_neg p0,if_neg p1,if_neg p2,if_pos p3]
  rw [if_pos p3] at e0 ⊢
  by_cases hb:bit X.mw (x.to/2)=true
  ·rw [if_pos hb]
   refine znZ hw ?_;rw [ex,hm,hbh];omega
  ·rw [if_neg hb]
   refine znZ hw ?_;rw [ex,hm];show (if (X.mw (x.to/2/64)).testBit (x.to/2%64)=true then _ else if X.mw (x.to/2/64)=X.mw (x.to/2/64) then 8*(x.N-x.f).toNat+7 else _)<_;rw [if_neg (show ¬ (X.mw (x.to/2/64)).testBit (x.to/2%64)=true from hb),if_pos rfl];omega
 rw [if_neg p3] at e0 ⊢
 by_cases p4:x.pc=4
 ·have hm:hmu X.mw x=(if x.seen.testBit (x.to/2%64)=true then 8*(x.N-x.f).toNat+4010 else if X.mw (x.to/2/64)=x.seen then 8*(x.N-x.f).toNat+7 else 8*(x.N-x.f).toNat+10):=by unfold hmu;rw [if_neg p0,if_neg p1,if_neg p2,if_neg p3,if_pos p4]
  rw [if_pos p4] at e0 ⊢
  by_cases hb:X.mw (x.to/2/64)=x.seen
  ·rw [if_pos hb]
   have hp:=(zcR hR wa b4).2;have hp':x.to/2<64*X.nm:=by rw [h.2.2.2.1];omega
   have hs:=fun i=>za9 (k:=i) (b:=true) wk hp'
   have hset:=zkA (mw:=za7 X.mw (x.to/2) true) (x:={ x with pc:=5,seen:=0 }) hw;rw [ex,show hmu (za7 X.mw (x.to/2) true) { x with pc:=5,seen:=0 }=8*(x.N-x.f).toNat+4005 from rfl] at hset;have hl:=h.2.1.2.1;have hl2:=h.2.2.1;show 5000*zff (bit (za7 X.mw (x.to/2) true)) (64*X.nm)+4000*X.qs.flatten.length+hsum (za7 X.mw (x.to/2) true) (X.hs.set w { x with pc:=5,seen:=0 })<_
   by_cases hsb:x.seen.testBit (x.to/2%64)=true
   ·have hbit:bit X.mw (x.to/2)=true:=by unfold bit;rw [hb];exact hsb
    have hmw:za7 X.mw (x.to/2) true=X.mw:=by
     funext i
     unfold za7 up
     by_cases ei:i=x.to/2/64
     ·subst ei
      simp only [if_true];apply Nat.eq_of_testBit_eq;intro j;rw [Nat.testBit_or,Nat.testBit_two_pow]
      by_cases ej:x.to/2%64=j
      ·subst ej
       rw [hb,hsb];simp
      ·simp [ej]
     ·simp [ei]
    rw [hmw] at hset ⊢;rw [hm,if_pos hsb] at hset;unfold mu;omega
   ·have hbit:bit X.mw (x.to/2)=false:=by unfold bit;rw [hb];simpa using hsb
    have hfr:=zpA (f:=bit X.mw) (g:=bit (za7 X.mw (x.to/2) true)) (p:=x.to/2) (fun i hi=>by rw [hs,if_neg hi]) hbit (by rw [hs,if_pos rfl]) (64*X.nm) hp';have hup:=zuD (mw:=X.mw) (mw':=za7 X.mw (x.to/2) true) 3 X.hs fun y _=>zyR _ _ y
    have hge:8*(x.N-x.f).toNat<=hmu (za7 X.mw (x.to/2) true) x:=by
     unfold hmu;rw [if_neg p0,if_neg p1,if_neg p2,if_neg p3,if_pos p4]
     repeat' split
     all_goals omega
    unfold mu;omega
  ·rw [if_neg hb]
   refine znZ hw ?_;rw [ex,hm,if_neg hb];show 8*(x.N-x.f).toNat+9<_
   split<;>omega
 have hm:hmu X.mw x=8*(x.N-x.f).toNat+4005:=by unfold hmu;rw [if_neg p0,if_neg p1,if_neg p2,if_neg p3,if_neg p4]
 rw [if_neg p4];have hset:=zkA (mw:=X.mw) (x:=behind x) hw;rw [ex,hm,hbh] at hset
 by_cases he:(zaT X.qs w x.to).2=0
 ·obtain ⟨q1,q2,q3,q4,q5⟩:=zik hq hwq he
  rw [if_pos he,q1];obtain ⟨A,B,e1,e2⟩:=flat_set (l:=qat X.qs w++[x.to]) hwq;have l1:=congrArg List.length e1;have l2:=congrArg List.length e2;simp only [List.length_append,List.length_cons,List.length_nil] at l1 l2;show 5000*zff (bit X.mw) (64*X.nm)+4000*(X.qs.set w (qat X.qs w++[x.to])).flatten.length+hsum X.mw (X.hs.set w (behind x))<_;unfold mu;omega
 ·rw [if_neg he]
  show 5000*zff (bit X.mw) (64*X.nm)+4000*X.qs.flatten.length+hsum X.mw (X.hs.set w (behind x))<_;unfold mu;omega
theorem zn0 {X:MiA}{w:Nat}(hp:(hat X.hs w).pc≠0):(zm X w).2.2=0:=by
 unfold zm;rw [if_neg hp]
 repeat' split
 all_goals rfl
theorem zvF {X:MiA}(h:X.ok) (hb:zdS X=true): ∃w,w<X.hs.length/\(zm X w).2.2=0:=by
 have hb:=of_decide_eq_true hb
 by_cases hc:0<zxl X.hs X.hs.length
 ·obtain ⟨i,hi,hp⟩:=(zil X.hs.length).1 hc
  exact ⟨i,hi,zn0 hp⟩
 ·have hq:=h.2.1
  have h0:0<X.hs.length:=by have:=hq.1;have:=h.2.2.1;omega
  by_cases hp:(hat X.hs 0).pc=0
  ·refine ⟨0,h0,?_⟩
   unfold zm;rw [if_pos hp];rcases zkw hq hq.1 with ⟨e,_⟩|⟨e,_,_,e2⟩
   ·rw [if_pos e]
   ·rw [e2] at hb
    simp at hb;omega
  ·exact ⟨0,h0,zn0 hp⟩
end Go.AM.G
