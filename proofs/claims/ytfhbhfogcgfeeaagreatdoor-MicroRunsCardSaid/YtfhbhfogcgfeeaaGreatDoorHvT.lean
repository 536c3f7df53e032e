import Derived.Test.YtfhbhfogcgfeeaaGreatDoorHvP
set_option linter.unusedVariables false
set_option linter.unusedSimpArgs false
set_option maxRecDepth 100000
namespace Go.AM.G
open Go Go.AM
theorem zwt {m:Mem}{aw uw sv rv:V}{va vm:Nat->V}{H:zm}{rs:List Nat}(h:zbQ m aw uw sv va vm H) (bb:V.beq aw aw=true/\V.beq uw uw=true/\V.beq sv sv=true) (ls:H.ns*96<=140737488355328) (hr:Nus m rv rs) (hl:rs.length<4611686018427387904){c:Int}:C S zkn [.agg (zy H aw uw sv),.int .i64 c,rv] m (zvc m H c rs):=by
 have A1:=h.a.ar.2.1;have A2:=h.u.ar.2.1;have A3:=h.s.s.ar.2.1;have A4:=hr.ar.2.1;obtain ⟨b1,b2,b3⟩:=bb;have hh:=zU h;have hr':=zU hr;obtain ⟨T,hT⟩: ∃T:V->Mem->Prop,T=zvc m H c rs:=⟨_,rfl⟩
 rw [<-hT];have hT':=zU hT;have bad:PLift (∀e g,zmJ H c rs zMi e->T (.tup [.agg [.nils,.int .i64 0,.nils,.nils,.nils,.nils,.nils],.int .i64 e]) (m++g)):=⟨fun e g hm=>by rw [hT];exact zrR hm⟩
 clear h hr hT;refine fn rfl ?_;refine (zeZ hh.down.app).mono ?_;rintro _ _ ⟨⟨hk,rfl⟩|⟨hk,rfl⟩,⟨g1,rfl⟩⟩
 case inr=>
  have t:=zU (fun g=>bad.down 2 g (.inl ⟨hk,rfl,rfl⟩));clear hk;refine am ?_;exact t.down _
 have hk':=zU hk;have A5:=hh.down.s.s.ar.1;clear hk;refine am ?_;refine range (α:=Unit) H.ns (fun _=>[(24,sv),(3,.ptr m.length 0 0),(1,.int .i64 c),(2,rv),(6,.ptr (m.length+1) 0 0),(7,.int .i64 0)]) (fun k _ M=>(∃g,M=m++ .cells true [zy H aw uw sv]:: .cells true [[.nils,.int .i64 0,.nils,.nils,.nils,.nils,.nils]]::(g1++g))/\ ∀i,i<k->(H.sp i).swept=true) () ⟨⟨[],by simp⟩,fun i h=>absurd h (Nat.not_lt_zero _)⟩ ?_ ?_
 ·rintro k _ fr _ hk F ⟨⟨g,rfl⟩,hs⟩
  have hs':=zU hs;have B:=(hh.down.s.s.app (g:= .cells true [zy H aw uw sv]:: .cells true [[.nils,.int .i64 0,.nils,.nils,.nils,.nils,.nils]]::(g1++g))).ar;have hsp:=(hh.down.s.e k hk)
  have e1:=hsp.a.ar.2.1;have e2:=hsp.k.ar.2.1;clear hs hsp;cases hsw:(H.sp k).swept with
  |true=>
   refine am ?_;refine ⟨(),zg,⟨_,rfl⟩,fun i hi=> ?_⟩
   by_cases e:i=k
   ·subst e;exact hsw
   ·exact hs'.down i (by omega)
  |false=>
   have t:=zU (fun g=>bad.down 5 g (.inr (.inl ⟨hk'.down,(fun (e:H.swept)=>by have:=e k hk;rw [hsw] at this;cases this),rfl,rfl⟩)));refine am ?_;exact t.down _
 rintro _ fr _ F ⟨⟨g2,rfl⟩,hs⟩;have hs':PLift H.swept:=⟨hs⟩
 clear hs;refine am ?_;refine zth.mono ?_;rintro _ _ hg;rcases hg with ⟨c1,c4,g3,qv,rfl,rfl,qc,qb,hq⟩|⟨hc,rfl,g3,rfl⟩
 case inr=>
  have t:=zU (fun g=>bad.down 1 g (.inr (.inr (.inl ⟨hk'.down,hs'.down,hc,rfl,rfl⟩))));clear hc;refine am ?_;exact t.down _
 have hq':=zU hq;clear hq;have B:=hr'.down.ar.1;refine am ?_;refine range (α:=Unit) rs.length (fun _=>[(44,rv),(3,.ptr m.length 0 0),(10,.ptr (m.length+(g1.length+(g2.length+g3.length)+1+1)) 0 0),(1,.int .i64 c),(2,rv),(6,.ptr (m.length+1) 0 0),(7,.int .i64 0)]) (fun k _ M=>(∃g,M=m++ .cells true [zy H aw uw sv]:: .cells true [[.nils,.int .i64 0,.nils,.nils,.nils,.nils,.nils]]::(g1++(g2++(g3++ .cells true [[qv]]::g))))/\ ∀i,i<k->nx rs i≠0->nx rs i∈H.cs) () ⟨⟨[],rfl⟩,fun i h=>absurd h (Nat.not_lt_zero _)⟩ ?_ ?_
 ·rintro k _ fr _ hk F ⟨⟨g,rfl⟩,he⟩
  have B:=(hr'.down.app (g:= .cells true [zy H aw uw sv]:: .cells true [[.nils,.int .i64 0,.nils,.nils,.nils,.nils,.nils]]::(g1++(g2++(g3++ .cells true [[qv]]::g))))).ar;obtain ⟨x,exq⟩: ∃x,nx rs k=x:=⟨_,rfl⟩
  have exq':=zU exq;have he':=zU he;have at':=zU (zik (m:=m++ .cells true [zy H aw uw sv]:: .cells true [[.nils,.int .i64 0,.nils,.nils,.nils,.nils,.nils]]::(g1++(g2++(g3++ .cells true [[qv]]::g)))) (a:=nx rs k) hh.down.app);clear he exq;refine am ?_;refine at'.down.mono ?_;rintro r _ ⟨hr,⟨g',rfl⟩⟩
  by_cases x0:x=0
  ·have d1:((nx rs k:Int)=0)=True:=eq_true (by have:=exq'.down;omega)
   have e1:PLift (r= .tup [.agg [.int .i64 0,.int .u64 0],.int .i64 7]):=⟨by
    rcases hr with ⟨_,hr⟩|⟨hn,_⟩
    ·rw [hr,exq'.down,x0];rfl
    ·exact absurd hk'.down hn⟩
   have nxt:PLift (∀i,i<k+1->nx rs i≠0->nx rs i∈H.cs):=⟨fun i hi h0=>by
    by_cases ei:i=k
    ·subst ei;rw [exq'.down] at h0;exact absurd x0 h0
    ·exact he'.down i (by omega) h0⟩
   clear x0 hr;rw [e1.down];refine am ?_;exact ⟨(),zg,⟨_,rfl⟩,nxt.down⟩
  ·have d1:((nx rs k:Int)=0)=False:=eq_false (by have:=exq'.down;omega)
   have x0':=zU x0;clear x0
   by_cases hx:x∈H.cs
   ·have e1:PLift (r= .tup [.agg [.int .i64 (H.a x%256:Nat),.int .u64 (unM (H.a x):Nat)],.int .i64 0]):=⟨by
     rcases hr with ⟨_,hr⟩|⟨hn,_⟩
     ·rw [hr,exq'.down,zrJ hk'.down hh.down.wa hx]
     ·exact absurd hk'.down hn⟩
    have nxt:PLift (∀i,i<k+1->nx rs i≠0->nx rs i∈H.cs):=⟨by
     intro i hi h0
     by_cases ei:i=k
     ·rw [ei,exq'.down];exact hx
     ·exact he'.down i (by omega) h0⟩
    clear hr hx;rw [e1.down];refine am ?_;exact ⟨(),zg,⟨_,rfl⟩,nxt.down⟩
   ·have e1:PLift (r= .tup [.agg [.int .i64 0,.int .u64 0],.int .i64 10]):=⟨by
     rcases hr with ⟨_,hr⟩|⟨hn,_⟩
     ·rw [hr,exq'.down,zAa x0'.down hx]
     ·exact absurd hk'.down hn⟩
    have t:=zU (fun g=>bad.down 10 g (.inr (.inr (.inr (.inl ⟨hk'.down,hs'.down,c1,c4,fun hh=>hx (by have:=hh _ (za4 hk) (by rw [exq'.down];exact x0'.down);rwa [exq'.down] at this),rfl,rfl⟩)))));clear hr hx;rw [e1.down];refine am ?_;exact t.down _
 rintro _ fr _ F ⟨⟨g,rfl⟩,hall⟩;have hall':=zU hall;clear hall;obtain ⟨n,rfl⟩: ∃n:Nat,c=(n:Int):=⟨c.toNat,by omega⟩
 have rm1:roomy (nwm H.na) 8=true:=by
  have:=hk'.down.1.na;unfold nwm;simp [roomy];omega
 have rm2:roomy n 56=true:=by simp [roomy];omega
 have hz1:((0:Int)<=((nwm H.na:Nat):Int))=True:=eq_true (by omega);have hz2:((0:Int)<=(n:Int))=True:=eq_true (by omega);have hr1:((nwm H.na:Int)<=(nwm H.na:Int))=True:=eq_true (by omega);have hr2:((n:Int)<=(n:Int))=True:=eq_true (by omega);have w1:IntKind.i64.wrap ((H.na:Int)+127)=((H.na+127:Nat):Int):=by have:=hh.down.la;rw [wrap_i64]<;>omega
 have qd:((H.na+127:Nat):Int).tdiv 128=((nwm H.na:Nat):Int):=zgZ (b:=128);have w3:=wn (a:=nwm H.na) (by have:=hk'.down.1.na;unfold nwm;omega);have A6:=hh.down.a.ar.1;obtain ⟨L,eL⟩: ∃L,m++ .cells true [zy H aw uw sv]:: .cells true [[.nils,.int .i64 0,.nils,.nils,.nils,.nils,.nils]]::(g1++(g2++(g3++ .cells true [[qv]]::g)))=L:=⟨_,rfl⟩
 have z0:L[m.length]? =some (.cells true [zy H aw uw sv]):=by rw [<-eL,zM];rfl
 have z1:L[m.length+1]? =some (.cells true [[.nils,.int .i64 0,.nils,.nils,.nils,.nils,.nils]]):=by rw [<-eL,zh];rfl
 have z2:L[m.length+(g1.length+(g2.length+g3.length)+1+1)]? =some (.cells true [[qv]]):=by
  rw [<-eL,zh,zaR,zaR,zh,zh,zM];rfl
 have hL:PLift (zbQ L aw uw sv va vm H):=⟨by rw [<-eL];exact hh.down.app⟩
 have kL:PLift (∀(c:Nat) (y:Blk),m[c]? =some y->L[c]? =some y):=⟨fun c y hy=>by rw [<-eL];exact zb hy⟩
 have qL:PLift (Loc (fun b=>m.length+2<=b/\b<L.length) L (fun M=>Qs M qv (za5 n))):=⟨fun M' h'=>hq'.down M' fun j x hj=>by
  refine h' _ _ ⟨by simp;omega,?_⟩ ?_
  ·have:=(List.getElem?_eq_some_iff.1 hj).1
   rw [<-eL]
   simp
   omega
  ·rw [<-eL]
   rw [List.length_append,List.length_cons,List.length_cons,List.length_append,Nat.add_assoc,zh];rw [show g1.length+g2.length+1+1+j=(g1.length+(g2.length+j))+1+1 by omega,zaR,zaR,zh,zh];exact zb hj⟩
 have lL:m.length+2<L.length:=by rw [<-eL];simp;omega
 refine am ?_;refine (zmF hL.down.app ls b2 b3).mono ?_;rintro _ _ ⟨_,rfl,G,aw',uw',sv',rfl,rfl,f1,f2,f3,d1,d2,d3,va',vm',hP⟩;have hP':=zU hP;clear hP;refine am ?_;obtain ⟨M0,eM0⟩: ∃M0,L++ .cells true (List.replicate (nwm H.na) [V.int .u64 0]):: .cells true (List.replicate n [V.int .u8 0,.int .u64 0,.int .i64 0,.int .u64 0,.int .i64 0,.int .u64 0,.int .u64 0]):: .cells true [[aw',.int .i64 H.us.N,uw',sv',.slice L.length 0 (nwm H.na) (nwm H.na) true 1,qv,.slice (L.length+1) 0 n n true 7]]::G=M0:=⟨_,rfl⟩
 have hX:=zti (H:=H) (c:=(n:Int)) hk'.down hs'.down c1 c4;have eh:(zcz H (n:Int)).hs.length=n:=by unfold zcz;simp
 have en:(zcz H (n:Int)).nm=nwm H.na:=rfl;have mill:ze2 (m.length+2) M0 (L.length+2) aw' uw' sv' qv L.length (L.length+1) (nwm H.na) n true true (fun b=>L.length+3<=b/\b<L.length+3+G.length) (fun b=>m.length+2<=b/\b<L.length) (zcz H n):=by
  subst eM0;refine ⟨⟨?_,qL.down.app,?_,?_,⟨by omega,by omega,by omega⟩,⟨by omega,by omega,by omega,by omega⟩,fun b hb=>by omega,⟨f1,f2,f3,qc⟩,⟨d1,d2,d3,qb⟩,zyw hX.ok hX.wk⟩,?_,by omega,by omega,by omega,by omega,by omega⟩
  ·have h:=hP'.down.loc (M:=L++ .cells true (List.replicate (nwm H.na) [V.int .u64 0]):: .cells true (List.replicate n [V.int .u8 0,.int .u64 0,.int .i64 0,.int .u64 0,.int .i64 0,.int .u64 0,.int .u64 0]):: .cells true [[aw',.int .i64 H.us.N,uw',sv',.slice L.length 0 (nwm H.na) (nwm H.na) true 1,qv,.slice (L.length+1) 0 n n true 7]]::G) ((AtM.left (A:=L) (.drop (.drop (.drop .here)))).cst (by simp))
   rw [List.length_append] at h;exact h.imp fun M h=>⟨va',vm',h⟩
  ·rw [zM]
   show some (Blk.cells true _)=_;unfold zcz;simp [zG,List.map_const']
  ·rw [zh]
   show some (Blk.cells true _)=some (Blk.cells true (zG (zcz H (n:Int)).hs.length fun i=>zt (hat (zcz H (n:Int)).hs i)));rw [eh];have:(zG n fun i=>zt (hat (zcz H (n:Int)).hs i))=zG n fun _=>zt hand0:=List.map_congr_left fun i hi=>by
    have hi:=List.mem_range.1 hi;unfold zcz hat;simp [hi]
   rw [this];simp [zG,List.map_const',zt,hand0]
  ·rw [zh]
   show some (Blk.cells true _)=some (Blk.cells true [[aw',.int .i64 H.us.N,uw',sv',.slice L.length 0 (nwm H.na) (nwm H.na) true 1,qv,.slice (L.length+1) 0 (zcz H (n:Int)).hs.length n true 7]]);rw [eh]
 have kM:PLift (∀(c:Nat) (y:Blk),L[c]? =some y->M0[c]? =some y):=⟨fun c y hy=>by rw [<-eM0];exact zb hy⟩
 have lM:L.length+3<=M0.length:=by rw [<-eM0];simp
 have mill':=zU mill;have hX':=zU hX;have rd:PLift (∀M:Mem,(∀(c:Nat) (y:Blk),m[c]? =some y->M[c]? =some y)->Nus M rv rs):=⟨fun M h=>zmC hr'.down fun c y _ hy=>h c y hy⟩
 rw [eM0];clear mill hX eh en eM0;refine range (α:=Unit) rs.length (fun _=>[(16,.ptr (L.length+2) 0 0),(78,rv),(6,.ptr (m.length+1) 0 0),(7,.int .i64 0)]) (fun k _ M=>M0.length<=M.length/\(∀(c:Nat) (y:Blk),(c≠L.length+2/\c≠L.length/\c≠L.length+1)->M0[c]? =some y->M[c]? =some y)/\ ∃qv1 Fq1,ze2 (m.length+2) M (L.length+2) aw' uw' sv' qv1 L.length (L.length+1) (nwm H.na) n true true (fun b=>L.length+3<=b/\b<L.length+3+G.length) Fq1 (zk3 (zcz H n) rs k)) () ⟨Nat.le_refl _,fun c y _ hy=>hy,qv,_,mill'.down⟩ ?_ ?_
 ·rintro k _ fr M hk F ⟨l0,kp,qv1,Fq1,hM⟩
  have kp':=zU kp;have l0':=zU l0;have r1:=rd.down M fun c y hy=>kp c y (by have:=(List.getElem?_eq_some_iff.1 hy).1;omega) (kM.down c y (kL.down c y hy))
  have B:=r1.ar;have MK:=hX'.down.add hh.down.wa (rs:=rs) (fun r hr h0=>by obtain ⟨i,hi,rfl⟩:=zd4 hr;exact hall'.down i hi h0) k (by omega);obtain ⟨Y,eY⟩: ∃Y,zk3 (zcz H n) rs k=Y:=⟨_,rfl⟩
  have eS:zk3 (zcz H n) rs (k+1)=zim Y (nx rs k):=by rw [<-eY];rfl
  rw [eY] at MK hM;have eS':=zU eS;have MK':=zU MK;have hM':=zU hM;have hin:=zU (hall'.down k hk);clear eS eY MK hM kp l0 r1
  by_cases x0:nx rs k=0
  ·have d1:((nx rs k:Int)=0)=True:=eq_true (by omega)
   have e2:PLift (zim Y (nx rs k)=Y):=⟨by unfold zim;rw [if_neg (fun h=>h.1 x0)]⟩
   clear x0;refine am ?_;refine ⟨(),zg,l0'.down,kp'.down,qv1,Fq1,?_⟩;rw [eS'.down,e2.down];exact hM'.down
  ·have d1:((nx rs k:Int)=0)=False:=eq_false (by omega)
   have x0':=zU x0;have hx:=hin.down x0;obtain ⟨p1,p2⟩:=zdt hk'.down hh.down.wa hx;have hx':=zU hx;have wa:PLift (w64 Y.H.na Y.H.a):=⟨by rw [MK'.down.eH];exact hh.down.wa⟩
   have pn:nx rs k/2/64<Y.nm:=by rw [MK'.down.en];exact p2
   have hm:=hM'.down.o.m;have hP:=hM'.down.p;obtain ⟨o1,o2,o3,o4⟩:=hM'.down.o.c;have hmr:Rd M (slM Y L.length (nwm H.na) true) 1 Y.nm (zz Y.mw):= .inl (by have:=Sl.mk (cap:=nwm H.na) (z:=1) (ex:=true) hm;rw [List.length_map,List.length_range] at this;exact this);have BL:=zU (zmH (c0:=aw') (c1:= .int .i64 Y.H.us.N) (c2:=uw') (c3:=sv') (c5:=qv1) (c6:=slH Y (L.length+1) n true) hmr MK'.down.wk (a:=nx rs k) p1 pn ⟨o1,rfl,o2,o3,o4,rfl⟩);have MS:=zU (fun g=>zk1 (M:=M++g) (cap:=nwm H.na) (ex:=true) (c0:=aw') (c1:= .int .i64 Y.H.us.N) (c2:=uw') (c3:=sv') (c5:=qv1) (c6:=slH Y (L.length+1) n true) (zb hm) MK'.down.wk (a:=nx rs k) p1 pn ⟨o1,rfl,o2,o3,o4,rfl⟩);have lM0:=(List.getElem?_eq_some_iff.1 hP).1;clear x0 hx p1 p2 pn hm hmr;refine am ?_;refine BL.down.mono ?_;rintro _ _ ⟨rfl,gb,rfl⟩;have hP1:=zb (g:=gb) hP;cases hb:bit Y.mw (nx rs k/2) with
   |true=>
    have e2:PLift (zim Y (nx rs k)=Y):=⟨by unfold zim;rw [if_neg (fun h=>by rw [hb] at h;cases h.2)]⟩
    refine am ?_;refine ⟨(),zg,?_,fun c y hc hy=>zb (kp'.down c y hc hy),qv1,Fq1,?_⟩
    ·have:=l0'.down;rw [List.length_append];omega
    rw [eS'.down,e2.down];exact ⟨hM'.down.o.grow,zb hM'.down.p,hM'.down.n⟩
   |false=>
    have e2:PLift (zim Y (nx rs k)={ Y with mw:=zbi Y.mw (nx rs k/2) true,qs:=Y.qs.set 0 (qat Y.qs 0++[nx rs k]) }):=⟨by unfold zim;rw [if_pos ⟨x0'.down,hb⟩]⟩
    refine am ?_;refine (MS.down gb).mono ?_;rintro _ W ⟨rfl,wm,wl,wk⟩;have h:=hM'.down;have wP:=wk (L.length+2) _ (by omega) hP1;obtain ⟨Vm,eV⟩: ∃Vm,W.set (L.length+2) (.cells true [[aw',.int .i64 Y.H.us.N,uw',sv',slM Y L.length (nwm H.na) true,qv1,slH Y (L.length+1) n true]])=Vm:=⟨_,rfl⟩
    have vP:Vm[L.length+2]? =some (.cells true [[aw',.int .i64 Y.H.us.N,uw',sv',slM Y L.length (nwm H.na) true,qv1,slH Y (L.length+1) n true]]):=by rw [<-eV];exact zx (by rw [wP];rfl)
    have vm:Vm[L.length]? =some (.cells true (zG Y.nm (zz (zbi Y.mw (nx rs k/2) true)))):=by rw [<-eV];exact zi (by omega) wm
    have vk: ∀(c:Nat) (y:Blk),c≠L.length->c≠L.length+2->M[c]? =some y->Vm[c]? =some y:=fun c y hc hc2 hy=>by rw [<-eV];exact zi (Ne.symm hc2) (wk c y hc (zb hy))
    have vl:M.length<=Vm.length:=by rw [<-eV,List.length_set];rw [List.length_append] at wl;omega
    have vq:=h.o.q.to (M':=Vm) fun c y hc hy=>vk c y (fun e=>h.o.f.2.2.1 (e▸hc)) (fun e=>h.n.2.2.2.1 (e▸hc)) hy
    have hq4:=MK'.down.ok.2.1;obtain ⟨vs,vqr⟩:=vq.at;have no:PLift ((zaE Y.qs 0 (nx rs k)).2=0):=⟨zpN MK'.down.ok MK'.down.q wa.down x0'.down hb (by rw [MK'.down.eH];exact hx'.down)⟩
    have pk:PLift (zaE Y.qs (0:Int) (nx rs k)=(Y.qs.set 0 (qat Y.qs 0++[nx rs k]),0)):=⟨(zil hq4 (w:=0) (by have:=hq4.1;omega) no.down).1⟩
    have PU:=zU (zmE (w:=0) (a:=nx rs k) (rv:= .slice Vm.length 0 1 1 true 1) (vqr.app (g:=[.cells true [[.int .u64 (nx rs k:Nat)]]])) (by have:=hq4.2.1;omega) (Nus.of (Sl.mk (els:=[[.int .u64 (nx rs k:Nat)]]) (own:=true) (by rw [zM];rfl))));have nxt:PLift (∀(M':Mem) v',v'.isCell=true->V.beq v' v'=true->Loc (fun b=>Vm.length<=b) M' (fun M=>Qs M v' (Y.qs.set 0 (qat Y.qs 0++[nx rs k])))->M'[L.length+2]? =some (.cells true [[aw',.int .i64 Y.H.us.N,uw',sv',slM Y L.length (nwm H.na) true,v',slH Y (L.length+1) n true]])->Vm.length<=M'.length->(∀c y,c≠L.length+2->Vm[c]? =some y->M'[c]? =some y)->M0.length<=M'.length/\(∀(c:Nat) (y:Blk),(c≠L.length+2/\c≠L.length/\c≠L.length+1)->M0[c]? =some y->M'[c]? =some y)/\ ∃qv1 Fq1,ze2 (m.length+2) M' (L.length+2) aw' uw' sv' qv1 L.length (L.length+1) (nwm H.na) n true true (fun b=>L.length+3<=b/\b<L.length+3+G.length) Fq1 (zk3 (zcz H n) rs (k+1))):=⟨fun M' v' vc vb q1 q2 q3 q4=>by
     have l0:=l0'.down;refine ⟨by omega,fun c y hc hy=>q4 c y hc.1 (vk c y hc.2.1 hc.1 (kp'.down c y hc hy)),v',(fun b=>Vm.length<=b),?_⟩;rw [eS'.down,e2.down];have MK2:=MK'.down.one wa.down (r:=nx rs k) (fun _=>by rw [MK'.down.eH];exact hx'.down);have ob:=zyw MK2.ok MK2.wk;rw [e2.down] at ob;exact h.upd (X':={ Y with mw:=zbi Y.mw (nx rs k/2) true,qs:=Y.qs.set 0 (qat Y.qs 0++[nx rs k]) }) rfl (fun c y h1 h2 _ hy=>q4 c y h1 (vk c y h2 h1 hy)) q2 (q4 _ _ (by omega) vm) (q4 _ _ (by omega) (vk _ _ (by omega) (by omega) h.o.d)) q1 ⟨by omega,by omega,by omega,fun b hb=>by omega⟩ vc vb ob⟩
    have lV:L.length+2<Vm.length:=(List.getElem?_eq_some_iff.1 vP).1;clear vm vk vq vqr hq4 h wk wm hP1 hP;refine am ?_;refine PU.down.mono ?_;rintro _ _ ⟨v',qs',e,rfl,⟨gp,rfl,vc,vb,hQ⟩,ep⟩;rw [pk.down] at ep;obtain ⟨rfl,rfl⟩:=Prod.mk.inj ep;have hQ':=zU hQ;have vcc:=zae vc;clear hQ ep;refine am ?_;have fin:=nxt.down (((Vm++ .cells true [[.int .u64 (nx rs k:Nat)]]::gp)).set (L.length+2) (.cells true [[aw',.int .i64 Y.H.us.N,uw',sv',slM Y L.length (nwm H.na) true,v',slH Y (L.length+1) n true]])) v' vc vb ?_ (zx (by rw [zb vP];rfl)) (by rw [List.length_set,List.length_append];omega) (fun c y hc hy=>zi (Ne.symm hc) (zb hy))
    ·exact ⟨(),zg,fin⟩
    ·have hA:AtM (List.length (Vm++[Blk.cells true [[V.int .u64 (nx rs k:Int)]]])) gp (Vm++ .cells true [[.int .u64 (nx rs k:Nat)]]::gp):=(AtM.left (A:=Vm) (.drop (AtM.here (g:=gp)))).cst (by simp)
     refine (hQ'.down.loc (hA.set (.inl (by rw [List.length_append];omega)))).mono fun b hb=> ?_
     have:=hb.1;rw [List.length_append] at this;omega
 ·rintro _ fr M F ⟨l0,kp,qv1,Fq1,hM⟩
  have y1:=kp (m.length+1) _ (by omega) (kM.down _ _ z1);have s1: ∀Y,(M.set (m.length+1) Y)[m.length+1]? =some Y:=fun Y=>zx (by rw [y1];rfl)
  obtain ⟨e1,e2,e3,e4⟩:=hM.o.c;have hP:=hM.p;obtain ⟨Z,eZ⟩: ∃Z,zk3 (zcz H n) rs rs.length=Z:=⟨_,rfl⟩
  have hm:zmJ H n rs Z 0:= .inr (.inr (.inr (.inr ⟨hk'.down,hs'.down,c1,c4,fun r hr h0=>by obtain ⟨i,hi,rfl⟩:=zd4 hr;exact hall'.down i hi h0,eZ.symm,rfl⟩)));rw [eZ] at hM hP;have t:PLift (∀Y,T (.tup [.agg (miV Z aw' uw' sv' (slM Z L.length (nwm H.na) true) qv1 (slH Z (L.length+1) n true)),.int .i64 0]) (M.set (m.length+1) Y)):=⟨fun Y=>by
   rw [hT'.down];refine ⟨Z,0,_,hm,rfl,hM.o.res (by omega) (fun c y hc hy=>zi (by omega) hy) (by rw [List.length_set];omega) (fun c y hy=> ?_)⟩;have:=(List.getElem?_eq_some_iff.1 hy).1;exact zi (by omega) (kp c y (by omega) (kM.down c y (kL.down c y hy)))⟩
  clear hM kp hm eZ;refine am ?_;exact t.down _
end Go.AM.G
