import Derived.Test.YtfhbhfogcgfeeaaGreatDoorHvK
set_option linter.unusedVariables false
set_option linter.unusedSimpArgs false
set_option maxRecDepth 100000
namespace Go.AM.G
open Go Go.AM
theorem zkB {m:Mem}{aw uw sv:V}{va vm:Nat->V}{H:zl}(h:zcY m aw uw sv va vm H):C S zgN [.agg (zB H aw uw sv)] m (fun r m'=>okE H.right r/\Grow m m'):=by
 have A:=h.a.ar.2.1;have B:=h.u.ar.2.1;have D:=h.s.s.ar.2.1;have hh:=zU h;clear h;refine fn rfl ?_;refine (zkW hh.down.app).mono ?_;rintro _ _ (⟨hr,rfl,g,ov,rfl,hG⟩|⟨hr,rfl,⟨g,rfl⟩⟩)
 ·have hr':=zU hr
  clear hr hG;refine am ?_;exact ⟨.inl ⟨hr'.down,rfl⟩,_,rfl⟩
 ·have hr':=zU hr
  clear hr;refine am ?_;exact ⟨.inr ⟨hr'.down,rfl⟩,_,rfl⟩
def zsm (H:zl) (c:Int) (rs:List Nat) (Z:MiA) (e:Int):Prop:=(¬ H.right/\Z=zMi/\e=2)\/(H.right/\¬ H.swept/\Z=zMi/\e=5)\/(H.right/\H.swept/\¬ (1<=c/\c<=4)/\Z=zMi/\e=1)\/(H.right/\H.swept/\1<=c/\c<=4/\¬ (∀r,r∈rs->r≠0->r∈H.cs)/\Z=zMi/\e=10)\/(H.right/\H.swept/\1<=c/\c<=4/\(∀r,r∈rs->r≠0->r∈H.cs)/\Z=zfj (zg2 H c) rs rs.length/\e=0)
def zxq (m:Mem) (H:zl) (c:Int) (rs:List Nat) (r:V) (m':Mem):Prop:= ∃Z e l,zsm H c rs Z e/\r= .tup [.agg l,.int .i64 e]/\MiQ m Z l m'
theorem zvG {m:Mem}{H:zl}{c:Int}{rs:List Nat}{e:Int}{g:Mem}(h:zsm H c rs zMi e):zxq m H c rs (.tup [.agg [.nils,.int .i64 0,.nils,.nils,.nils,.nils,.nils],.int .i64 e]) (m++g):=⟨zMi,e,_,h,rfl,_,_,_,_,_,_,g,rfl,rfl,fun _ _=>⟨_,_,_,ztw⟩⟩
theorem zn1 {m:Mem}{aw uw sv rv:V}{va vm:Nat->V}{H:zl}{rs:List Nat}(h:zcY m aw uw sv va vm H) (bb:V.beq aw aw=true/\V.beq uw uw=true/\V.beq sv sv=true) (ls:H.ns*96<=140737488355328) (hr:Nus m rv rs) (hl:rs.length<4611686018427387904){c:Int}:C S zgK [.agg (zB H aw uw sv),.int .i64 c,rv] m (zxq m H c rs):=by
 have A1:=h.a.ar.2.1;have A2:=h.u.ar.2.1;have A3:=h.s.s.ar.2.1;have A4:=hr.ar.2.1;obtain ⟨b1,b2,b3⟩:=bb;have hh:=zU h;have hr':=zU hr;obtain ⟨T,hT⟩: ∃T:V->Mem->Prop,T=zxq m H c rs:=⟨_,rfl⟩
 rw [<-hT];have hT':=zU hT;have bad:PLift (∀e g,zsm H c rs zMi e->T (.tup [.agg [.nils,.int .i64 0,.nils,.nils,.nils,.nils,.nils],.int .i64 e]) (m++g)):=⟨fun e g hm=>by rw [hT];exact zvG hm⟩
 clear h hr hT;refine fn rfl ?_;refine (zkB hh.down.app).mono ?_;rintro _ _ ⟨⟨hk,rfl⟩|⟨hk,rfl⟩,⟨g1,rfl⟩⟩
 case inr=>
  have t:=zU (fun g=>bad.down 2 g (.inl ⟨hk,rfl,rfl⟩));clear hk;refine am ?_;exact t.down _
 have hk':=zU hk;clear hk;refine am ?_;refine (znP hh.down.app).mono ?_;rintro _ _ ⟨⟨hs,rfl⟩|⟨hs,rfl⟩,⟨g2,rfl⟩⟩
 case inr=>
  have t:=zU (fun g=>bad.down 5 g (.inr (.inl ⟨hk'.down,hs,rfl,rfl⟩)));clear hs;refine am ?_;exact t.down _
 have hs':=zU hs;clear hs;refine am ?_;refine ztx.mono ?_;rintro _ _ hg;rcases hg with ⟨c1,c4,g3,qv,rfl,rfl,qc,qb,hq⟩|⟨hc,rfl,g3,rfl⟩
 case inr=>
  have t:=zU (fun g=>bad.down 1 g (.inr (.inr (.inl ⟨hk'.down,hs'.down,hc,rfl,rfl⟩))));have B:=hr'.down.ar.1;clear hc;refine am ?_;refine range (α:=Unit) rs.length (fun _=>[(10,.int .i64 1),(31,rv),(6,.ptr (m.length+1) 0 0)]) (fun _ _ M=>M=m++ .cells true [zB H aw uw sv]:: .cells true [[.nils,.int .i64 0,.nils,.nils,.nils,.nils,.nils]]::(g1++(g2++(g3++[.cells true [[.nils]]])))) () rfl ?_ ?_
  ·rintro k _ fr _ hk F rfl
   have B:=(hr'.down.app (g:= .cells true [zB H aw uw sv]:: .cells true [[.nils,.int .i64 0,.nils,.nils,.nils,.nils,.nils]]::(g1++(g2++(g3++[.cells true [[.nils]]]))))).ar;refine am ?_;exact ⟨(),zh,rfl⟩
  ·rintro _ fr _ F rfl
   refine am ?_;exact t.down _
 have hq':=zU hq;clear hq;have B:=hr'.down.ar.1;refine am ?_;refine range (α:=Int) rs.length (fun e=>[(10,.int .i64 e),(31,rv),(3,.ptr m.length 0 0),(9,.ptr (m.length+(g1.length+(g2.length+g3.length)+1+1)) 0 0),(1,.int .i64 c),(2,rv),(6,.ptr (m.length+1) 0 0),(7,.int .i64 0)]) (fun k e M=>(∃g,M=m++ .cells true [zB H aw uw sv]:: .cells true [[.nils,.int .i64 0,.nils,.nils,.nils,.nils,.nils]]::(g1++(g2++(g3++ .cells true [[qv]]::g))))/\((e=0/\ ∀i,i<k->nx rs i≠0->nx rs i∈H.cs)\/(e=10/\ ∃i,i<k/\nx rs i≠0/\nx rs i∉H.cs))) 0 ⟨⟨[],rfl⟩,.inl ⟨rfl,fun i h=>absurd h (Nat.not_lt_zero _)⟩⟩ ?_ ?_
 ·rintro k e fr _ hk F ⟨⟨g,rfl⟩,he⟩
  have B:=(hr'.down.app (g:= .cells true [zB H aw uw sv]:: .cells true [[.nils,.int .i64 0,.nils,.nils,.nils,.nils,.nils]]::(g1++(g2++(g3++ .cells true [[qv]]::g))))).ar;obtain ⟨x,exq⟩: ∃x,nx rs k=x:=⟨_,rfl⟩
  have exq':=zU exq;have he':=zU he
  by_cases e0:e=0
  ·by_cases x0:x=0
   ·have d0:(e=0)=True:=eq_true e0
    have d1:((nx rs k:Int)=0)=True:=eq_true (by omega);have nxt:PLift ((e=0/\ ∀i,i<k+1->nx rs i≠0->nx rs i∈H.cs)\/(e=10/\ ∃i,i<k+1/\nx rs i≠0/\nx rs i∉H.cs)):=⟨by
     rcases he with ⟨h1,h2⟩|⟨h1,_⟩
     ·refine .inl ⟨h1,fun i hi h0=> ?_⟩
      by_cases ei:i=k
      ·subst ei;omega
      ·exact h2 i (by omega) h0
     ·omega⟩
    clear e0 x0 he exq;refine am ?_;exact ⟨e,zh,⟨_,rfl⟩,nxt.down⟩
   ·have d0:(e=0)=True:=eq_true e0
    have d1:((nx rs k:Int)=0)=False:=eq_false (by omega);have x0':=zU x0;have at':=zU (zqy (m:=m++ .cells true [zB H aw uw sv]:: .cells true [[.nils,.int .i64 0,.nils,.nils,.nils,.nils,.nils]]::(g1++(g2++(g3++ .cells true [[qv]]::g)))) (a:=nx rs k) hh.down.app);clear e0 x0 he exq;refine am ?_;refine at'.down.mono ?_;rintro r _ ⟨hr,⟨g',rfl⟩⟩
    by_cases hx:x∈H.cs
    ·have e1:PLift (r= .tup [.agg [.int .i64 (H.a x%256:Nat),.int .u64 (unM (H.a x):Nat)],.int .i64 0]):=⟨by
      rcases hr with ⟨_,hr⟩|⟨hn,_⟩
      ·rw [hr,exq'.down,zxi hk'.down hh.down.wa hx]
      ·exact absurd hk'.down hn⟩
     have nxt:PLift (∀i,i<k+1->nx rs i≠0->nx rs i∈H.cs):=⟨by
      intro i hi h0
      by_cases ei:i=k
      ·rw [ei,exq'.down];exact hx
      ·rcases he'.down with ⟨_,h2⟩|⟨h1,_⟩
       ·exact h2 i (by omega) h0
       ·have:=of_eq_true d0
        omega⟩
     clear hr hx;rw [e1.down];refine am ?_;exact ⟨0,zh,⟨_,rfl⟩,.inl ⟨rfl,nxt.down⟩⟩
    ·have e1:PLift (r= .tup [.agg [.int .i64 0,.int .u64 0],.int .i64 10]):=⟨by
      rcases hr with ⟨_,hr⟩|⟨hn,_⟩
      ·rw [hr,exq'.down,zyQ x0'.down hx]
      ·exact absurd hk'.down hn⟩
     have nxt:PLift (∃i,i<k+1/\nx rs i≠0/\nx rs i∉H.cs):=⟨k,by omega,by rw [exq'.down];exact x0'.down,by rw [exq'.down];exact hx⟩
     clear hr hx;rw [e1.down];refine am ?_;exact ⟨10,zh,⟨_,rfl⟩,.inr ⟨rfl,nxt.down⟩⟩
  ·have d0:(e=0)=False:=eq_false e0
   have nxt:PLift ((e=0/\ ∀i,i<k+1->nx rs i≠0->nx rs i∈H.cs)\/(e=10/\ ∃i,i<k+1/\nx rs i≠0/\nx rs i∉H.cs)):=⟨by
    rcases he with ⟨h1,_⟩|⟨h1,i,h2,h3⟩
    ·exact absurd h1 e0
    ·exact .inr ⟨h1,i,by omega,h3⟩⟩
   clear e0 he exq;refine am ?_;exact ⟨e,zh,⟨_,rfl⟩,nxt.down⟩
 rintro e fr _ F ⟨⟨g,rfl⟩,he⟩;rcases he with ⟨rfl,hall⟩|⟨rfl,i,hi,h0,hn⟩
 case inr=>
  have t:=zU (fun g=>bad.down 10 g (.inr (.inr (.inr (.inl ⟨hk'.down,hs'.down,c1,c4,fun hh=>hn (hh _ (zaH hi) h0),rfl,rfl⟩)))));clear h0 hn;refine am ?_;exact t.down _
 have hall':=zU hall;clear hall;obtain ⟨n,rfl⟩: ∃n:Nat,c=(n:Int):=⟨c.toNat,by omega⟩
 have rm1:roomy (nwm H.na) 8=true:=by
  have:=hk'.down.1.na;unfold nwm;simp [roomy];omega
 have rm2:roomy n 56=true:=by simp [roomy];omega
 have hz1:((0:Int)<=((nwm H.na:Nat):Int))=True:=eq_true (by omega);have hz2:((0:Int)<=(n:Int))=True:=eq_true (by omega);have hr1:((nwm H.na:Int)<=(nwm H.na:Int))=True:=eq_true (by omega);have hr2:((n:Int)<=(n:Int))=True:=eq_true (by omega);obtain ⟨L,eL⟩: ∃L,m++ .cells true [zB H aw uw sv]:: .cells true [[.nils,.int .i64 0,.nils,.nils,.nils,.nils,.nils]]::(g1++(g2++(g3++ .cells true [[qv]]::g)))=L:=⟨_,rfl⟩
 have z0:L[m.length]? =some (.cells true [zB H aw uw sv]):=by rw [<-eL,zaa];rfl
 have z1:L[m.length+1]? =some (.cells true [[.nils,.int .i64 0,.nils,.nils,.nils,.nils,.nils]]):=by rw [<-eL,zi];rfl
 have z2:L[m.length+(g1.length+(g2.length+g3.length)+1+1)]? =some (.cells true [[qv]]):=by
  rw [<-eL,zi,zb9,zb9,zi,zi,zaa];rfl
 have hL:PLift (zcY L aw uw sv va vm H):=⟨by rw [<-eL];exact hh.down.app⟩
 have kL:PLift (∀(c:Nat) (y:Blk),m[c]? =some y->L[c]? =some y):=⟨fun c y hy=>by rw [<-eL];exact zb hy⟩
 have qL:PLift (Loc (fun b=>m.length+2<=b/\b<L.length) L (fun M=>Qs M qv (zbL n))):=⟨fun M' h'=>hq'.down M' fun j x hj=>by
  refine h' _ _ ⟨by simp;omega,?_⟩ ?_
  ·have:=(List.getElem?_eq_some_iff.1 hj).1
   rw [<-eL]
   simp
   omega
  ·rw [<-eL]
   rw [List.length_append,List.length_cons,List.length_cons,List.length_append,Nat.add_assoc,zi];rw [show g1.length+g2.length+1+1+j=(g1.length+(g2.length+j))+1+1 by omega,zb9,zb9,zi,zi];exact zb hj⟩
 have lL:m.length+2<L.length:=by rw [<-eL];simp;omega
 refine am ?_;refine (zpv hL.down.app hk'.down.1 b3).mono ?_;rintro _ _ ⟨_,rfl,G,aw',uw',sv',rfl,rfl,f1,f2,f3,d1,d2,d3,va',vm',hP⟩;have hP':=zU hP;clear hP;refine am ?_;refine (znQ hL.down.app).mono ?_;rintro _ _ ⟨rfl,G',rfl⟩;refine am ?_;obtain ⟨M0,eM0⟩: ∃M0,L++ .cells true (List.replicate (nwm H.na) [V.int .u64 0]):: .cells true (List.replicate n [V.int .u8 0,.int .u64 0,.int .i64 0,.int .u64 0,.int .i64 0,.int .u64 0,.int .u64 0]):: .cells true [[aw',.int .i64 H.us.N,uw',sv',.slice L.length 0 (nwm H.na) (nwm H.na) true 1,qv,.slice (L.length+1) 0 n n true 7]]::(G++G')=M0:=⟨_,rfl⟩
 have hX:=zmo (H:=H) (c:=(n:Int)) hk'.down hs'.down c1 c4;have eh:(zg2 H (n:Int)).hs.length=n:=by unfold zg2;simp
 have en:(zg2 H (n:Int)).nm=nwm H.na:=rfl;have mill:zgy (m.length+2) M0 (L.length+2) aw' uw' sv' qv L.length (L.length+1) (nwm H.na) n true true (fun b=>L.length+3<=b/\b<L.length+3+G.length) (fun b=>m.length+2<=b/\b<L.length) (zg2 H n):=by
  subst eM0;refine ⟨⟨?_,qL.down.app,?_,?_,⟨by omega,by omega,by omega⟩,⟨by omega,by omega,by omega,by omega⟩,fun b hb=>by omega,⟨f1,f2,f3,qc⟩,⟨d1,d2,d3,qb⟩,zyP hX.ok hX.wk⟩,?_,by omega,by omega,by omega,by omega,by omega⟩
  ·have h:=hP'.down.loc (M:=L++ .cells true (List.replicate (nwm H.na) [V.int .u64 0]):: .cells true (List.replicate n [V.int .u8 0,.int .u64 0,.int .i64 0,.int .u64 0,.int .i64 0,.int .u64 0,.int .u64 0]):: .cells true [[aw',.int .i64 H.us.N,uw',sv',.slice L.length 0 (nwm H.na) (nwm H.na) true 1,qv,.slice (L.length+1) 0 n n true 7]]::(G++G')) ((AtM.left (A:=L) (.drop (.drop (.drop .hereA)))).cst (by simp))
   rw [List.length_append] at h;exact h.imp fun M h=>⟨va',vm',h⟩
  ·rw [zaa]
   show some (Blk.cells true _)=_;unfold zg2;simp [zJ,List.map_const']
  ·rw [zi]
   show some (Blk.cells true _)=some (Blk.cells true (zJ (zg2 H (n:Int)).hs.length fun i=>zH (hat (zg2 H (n:Int)).hs i)));rw [eh];have:(zJ n fun i=>zH (hat (zg2 H (n:Int)).hs i))=zJ n fun _=>zH hand0:=List.map_congr_left fun i hi=>by
    have hi:=List.mem_range.1 hi;unfold zg2 hat;simp [hi]
   rw [this];simp [zJ,List.map_const',zH,hand0]
  ·rw [zi]
   show some (Blk.cells true _)=some (Blk.cells true [[aw',.int .i64 H.us.N,uw',sv',.slice L.length 0 (nwm H.na) (nwm H.na) true 1,qv,.slice (L.length+1) 0 (zg2 H (n:Int)).hs.length n true 7]]);rw [eh]
 have kM:PLift (∀(c:Nat) (y:Blk),L[c]? =some y->M0[c]? =some y):=⟨fun c y hy=>by rw [<-eM0];exact zb hy⟩
 have lM:L.length+3<=M0.length:=by rw [<-eM0];simp
 have mill':=zU mill;have hX':=zU hX;have rd:PLift (∀M:Mem,(∀(c:Nat) (y:Blk),m[c]? =some y->M[c]? =some y)->Nus M rv rs):=⟨fun M h=>zlU hr'.down fun c y _ hy=>h c y hy⟩
 rw [eM0];clear mill hX eh en eM0;refine range (α:=Unit) rs.length (fun _=>[(13,.ptr (L.length+2) 0 0),(65,rv),(6,.ptr (m.length+1) 0 0),(7,.int .i64 0)]) (fun k _ M=>M0.length<=M.length/\(∀(c:Nat) (y:Blk),(c≠L.length+2/\c≠L.length/\c≠L.length+1)->M0[c]? =some y->M[c]? =some y)/\ ∃qv1 Fq1,zgy (m.length+2) M (L.length+2) aw' uw' sv' qv1 L.length (L.length+1) (nwm H.na) n true true (fun b=>L.length+3<=b/\b<L.length+3+G.length) Fq1 (zfj (zg2 H n) rs k)) () ⟨Nat.le_refl _,fun c y _ hy=>hy,qv,_,mill'.down⟩ ?_ ?_
 ·rintro k _ fr M hk F ⟨l0,kp,qv1,Fq1,hM⟩
  have kp':=zU kp;have l0':=zU l0;have r1:=rd.down M fun c y hy=>kp c y (by have:=(List.getElem?_eq_some_iff.1 hy).1;omega) (kM.down c y (kL.down c y hy))
  have B:=r1.ar;have MK:=hX'.down.add hh.down.wa (rs:=rs) (fun r hr h0=>by obtain ⟨i,hi,rfl⟩:=zeA hr;exact hall'.down i hi h0) k (by omega);obtain ⟨Y,eY⟩: ∃Y,zfj (zg2 H n) rs k=Y:=⟨_,rfl⟩
  have eS:zfj (zg2 H n) rs (k+1)=zjJ Y (nx rs k):=by rw [<-eY];rfl
  rw [eY] at MK hM;have eS':=zU eS;have MK':=zU MK;have hM':=zU hM;have hin:=zU (hall'.down k hk);clear eS eY MK hM kp l0 r1
  by_cases x0:nx rs k=0
  ·have d1:((nx rs k:Int)=0)=True:=eq_true (by omega)
   have e2:PLift (zjJ Y (nx rs k)=Y):=⟨by unfold zjJ;rw [if_neg (fun h=>h.1 x0)]⟩
   clear x0;refine am ?_;refine ⟨(),zh,l0'.down,kp'.down,qv1,Fq1,?_⟩;rw [eS'.down,e2.down];exact hM'.down
  ·have d1:((nx rs k:Int)=0)=False:=eq_false (by omega)
   have x0':=zU x0;have hx:=hin.down x0;obtain ⟨p1,p2⟩:=zcR hk'.down hh.down.wa hx;have hx':=zU hx;have wa:PLift (w64 Y.H.na Y.H.a):=⟨by rw [MK'.down.eH];exact hh.down.wa⟩
   have pn:nx rs k/2/64<Y.nm:=by rw [MK'.down.en];exact p2
   have hm:=hM'.down.o.m;have hP:=hM'.down.p;have BL:=zU (zjG hP (.inl (by have:=Sl.mk (cap:=nwm H.na) (z:=1) (ex:=true) hm;rw [List.length_map,List.length_range] at this;exact this)) MK'.down.wk (a:=nx rs k) (by omega) pn);have MS:=zU (znO hP hm MK'.down.wk (a:=nx rs k) (by omega) pn);clear x0 hx p1 p2 pn hm;refine am ?_;refine BL.down.mono ?_;rintro _ M1 ⟨rfl,rfl⟩;cases hb:bit Y.mw (nx rs k/2) with
   |true=>
    have e2:PLift (zjJ Y (nx rs k)=Y):=⟨by unfold zjJ;rw [if_neg (fun h=>by rw [hb] at h;cases h.2)]⟩
    refine am ?_;refine ⟨(),zh,l0'.down,kp'.down,qv1,Fq1,?_⟩;rw [eS'.down,e2.down];exact hM'.down
   |false=>
    have e2:PLift (zjJ Y (nx rs k)={ Y with mw:=za7 Y.mw (nx rs k/2) true,qs:=Y.qs.set 0 (qat Y.qs 0++[nx rs k]) }):=⟨by unfold zjJ;rw [if_pos ⟨x0'.down,hb⟩]⟩
    refine am ?_;refine MS.down.mono ?_;rintro _ W eW;have h:=hM'.down;have wP:=zx (x:=Blk.cells true (zJ Y.nm (zG (za7 Y.mw (nx rs k/2) true)))) (show L.length≠L.length+2 by omega) hP;have wm:=zaU (x:=Blk.cells true (zJ Y.nm (zG (za7 Y.mw (nx rs k/2) true)))) h.o.m;rw [<-eW] at wP wm;have wk: ∀(c:Nat) (y:Blk),c≠L.length->M1[c]? =some y->W[c]? =some y:=fun c y hc hy=>by rw [eW];exact zx (Ne.symm hc) hy
    have wl:M1.length=W.length:=by rw [eW,List.length_set]
    have wq:=h.o.q.to (M':=W) fun c y hc hy=>wk c y (fun e=>h.o.f.2.2.1 (e▸hc)) hy
    obtain ⟨o1,o2,o3,o4⟩:=h.o.c;have hq4:=MK'.down.ok.2.1;have PU:=znR (w:=0) (a:=nx rs k) wP wq.at (by have:=hq4.2.1;omega) ⟨o1,rfl,o2,o3,rfl,rfl⟩;have PU':=zU PU;have no:PLift ((zaT Y.qs 0 (nx rs k)).2=0):=⟨zsj MK'.down.ok MK'.down.q wa.down x0'.down hb (by rw [MK'.down.eH];exact hx'.down)⟩
    have pk:PLift (zaT Y.qs (0:Int) (nx rs k)=(Y.qs.set 0 (qat Y.qs 0++[nx rs k]),0)):=⟨(zik hq4 (w:=0) (by have:=hq4.1;omega) no.down).1⟩
    have nxt:PLift (∀(M':Mem) v',v'.isCell=true->V.beq v' v'=true->Loc (fun b=>W.length<=b) M' (fun M=>Qs M v' (zaT Y.qs 0 (nx rs k)).1)->M'[L.length+2]? =some (.cells true [[aw',.int .i64 Y.H.us.N,uw',sv',slM Y L.length (nwm H.na) true,v',slH Y (L.length+1) n true]])->W.length<=M'.length->(∀c y,c≠L.length+2->W[c]? =some y->M'[c]? =some y)->M0.length<=M'.length/\(∀(c:Nat) (y:Blk),(c≠L.length+2/\c≠L.length/\c≠L.length+1)->M0[c]? =some y->M'[c]? =some y)/\ ∃qv1 Fq1,zgy (m.length+2) M' (L.length+2) aw' uw' sv' qv1 L.length (L.length+1) (nwm H.na) n true true (fun b=>L.length+3<=b/\b<L.length+3+G.length) Fq1 (zfj (zg2 H n) rs (k+1))):=⟨fun M' v' vc vb q1 q2 q3 q4=>by
     have l0:=l0'.down;refine ⟨by omega,fun c y hc hy=>q4 c y hc.1 (wk c y hc.2.1 (kp'.down c y hc hy)),v',(fun b=>W.length<=b),?_⟩;rw [eS'.down,e2.down];rw [pk.down] at q1;have MK2:=MK'.down.one wa.down (r:=nx rs k) (fun _=>by rw [MK'.down.eH];exact hx'.down);have ob:=zyP MK2.ok MK2.wk;rw [e2.down] at ob;exact h.upd (X':={ Y with mw:=za7 Y.mw (nx rs k/2) true,qs:=Y.qs.set 0 (qat Y.qs 0++[nx rs k]) }) rfl (fun c y h1 h2 _ hy=>q4 c y h1 (wk c y h2 hy)) q2 (q4 _ _ (by omega) wm) (q4 _ _ (by omega) (wk _ _ (by omega) h.o.d)) q1 ⟨by omega,by omega,by omega,fun b hb=>by omega⟩ vc vb ob⟩
    clear PU wP wm wk wq o1 o2 o3 o4 hq4 h eW hP;refine am ?_;refine PU'.down.mono ?_;rintro _ M' (⟨he,_⟩|⟨_,v',vc,vb,q1,q2,q3,q4⟩)
    ·exact absurd no.down he
    have fin:=zU (nxt.down M' v' vc vb q1 q2 q3 q4);clear q1 q2 q3 q4 vc vb;refine am ?_;exact ⟨(),zh,fin.down⟩
 ·rintro _ fr M F ⟨l0,kp,qv1,Fq1,hM⟩
  have y1:=kp (m.length+1) _ (by omega) (kM.down _ _ z1);have s1: ∀Y,(M.set (m.length+1) Y)[m.length+1]? =some Y:=fun Y=>zL (by rw [y1];rfl)
  obtain ⟨e1,e2,e3,e4⟩:=hM.o.c;have hP:=hM.p;obtain ⟨Z,eZ⟩: ∃Z,zfj (zg2 H n) rs rs.length=Z:=⟨_,rfl⟩
  have hm:zsm H n rs Z 0:= .inr (.inr (.inr (.inr ⟨hk'.down,hs'.down,c1,c4,fun r hr h0=>by obtain ⟨i,hi,rfl⟩:=zeA hr;exact hall'.down i hi h0,eZ.symm,rfl⟩)));rw [eZ] at hM hP;have t:PLift (∀Y,T (.tup [.agg (miV Z aw' uw' sv' (slM Z L.length (nwm H.na) true) qv1 (slH Z (L.length+1) n true)),.int .i64 0]) (M.set (m.length+1) Y)):=⟨fun Y=>by
   rw [hT'.down];refine ⟨Z,0,_,hm,rfl,hM.o.res (by omega) (fun c y hc hy=>zx (by omega) hy) (by rw [List.length_set];omega) (fun c y hy=> ?_)⟩;have:=(List.getElem?_eq_some_iff.1 hy).1;exact zx (by omega) (kp c y (by omega) (kM.down c y (kL.down c y hy)))⟩
  clear hM kp hm eZ;refine am ?_;exact t.down _
end Go.AM.G
