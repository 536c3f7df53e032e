import Derived.Test.YtfhbhfogcgfeeaaGreatDoorHuQ
set_option linter.unusedVariables false
set_option linter.unusedSimpArgs false
set_option maxRecDepth 100000
namespace Go.AM.G
open Go Go.AM
theorem zu5 {m:Mem}{x:zW}{va vm:V}(ha:va.isCell=true) (hb:vm.isCell=true):C S zg4 [.agg (zQ x va vm)] m (fun r m'=>r= .bool (!x.swept)/\Grow m m'):=by
 refine fn rfl ?_;exact ⟨_,rfl⟩
theorem zpC {m:Mem}{aw uw sv:V}{va vm:Nat->V}{H:zm}(h:zbQ m aw uw sv va vm H):C S zfz [.agg (zy H aw uw sv)] m (fun r m'=>okB H.swept r/\Grow m m'):=by
 have A:=h.a.ar.2.1;have B:=h.u.ar.2.1;have D:=h.s.s.ar.2.1;have hh:=zU h;obtain ⟨Q,eQ⟩: ∃Q,H.swept=Q:=⟨_,rfl⟩
 have hQ:PLift (Q↔ ∀i,i<H.ns->(H.sp i).swept=true):=⟨by rw [<-eQ];rfl⟩
 have ls:=h.ls;rw [eQ];clear h eQ;refine fn rfl ?_;refine (zpq (arg:=fun i=> .agg (zQ (H.sp i) (va i) (vm i))) (p:=fun i=> !(H.sp i).swept) hh.down.s.s.app (fun i hi=>rfl) (by omega) (fun g i hi=> ?_)).mono ?_
 ·rw [ziO]
  have:=hh.down.s.e i hi;exact zu5 this.a.ar.2.1 this.k.ar.2.1
 rintro _ _ ⟨⟨g,rfl⟩,⟨rfl,i,hi,hp⟩|⟨rfl,hn⟩⟩
 ·have no:PLift (¬ Q):=⟨fun e=>by
   have:=hQ.down.1 e i hi;simp [this] at hp⟩
  clear hp;refine am ?_;exact ⟨.inr ⟨no.down,rfl⟩,_,rfl⟩
 ·have y:PLift Q:=⟨hQ.down.2 fun i hi=>by
   have:=hn i hi
   simpa using this⟩
  clear hn;refine am ?_;exact ⟨.inl ⟨y.down,rfl⟩,_,rfl⟩
theorem zpD {m:Mem}{aw uw sv:V}{va vm:Nat->V}{H:zm}(h:zbQ m aw uw sv va vm H):C S zfy [.agg (zy H aw uw sv)] m (fun r m'=>r= .int .i64 (nwm H.na:Nat)/\Grow m m'):=by
 have A:=h.a.ar;have B:=h.u.ar.2.1;have D:=h.s.s.ar.2.1;have l:=h.la;have w1:IntKind.i64.wrap ((H.na:Int)+128)=((H.na+128:Nat):Int):=by rw [wrap_i64]<;>omega
 have w2:IntKind.i64.wrap (((H.na+128:Nat):Int)-1)=((H.na+127:Nat):Int):=by rw [wrap_i64]<;>omega
 have q:((H.na+127:Nat):Int).tdiv 128=((nwm H.na:Nat):Int):=zgZ (b:=128);have w3:=wn (a:=nwm H.na) (by unfold nwm;omega);clear h l;refine fn rfl ?_;exact ⟨_,rfl⟩
theorem zu6 {m:Mem}{w:Nat}:C S zdX [.int .u64 (w:Nat)] m (fun r m'=>r= .bool (decide (¬ w=0))/\Grow m m'):=by
 by_cases h:w=0
 ·have c:((w:Int)=0)=True:=eq_true (by omega)
  have d:decide (¬ w=0)=false:=by simp [h]
  rw [d];clear h d;refine fn rfl ?_;exact Grow.refl _
 ·have c:((w:Int)=0)=False:=eq_false (by omega)
  have d:decide (¬ w=0)=true:=by simp [h]
  rw [d];clear h d;refine fn rfl ?_;exact Grow.refl _
def clr (mk x:Nat->Nat) (cs:List Nat) (k:Nat):Prop:= ∀i,bit x i=(bit mk i&& !decide (∃j,j<k/\nx cs j/2=i))
theorem zwi {M:Mem}{P n:Nat}{own:Bool} {c0 c1 c2 c3 mv c5 c6 yv:V}{mk:Nat->Nat}{cs:List Nat}(hP:M[P]? =some (.cells own [[c0,c1,c2,c3,mv,c5,c6]])) (hm:Rd M mv 1 n (zz mk)) (hw:w64 n mk) (h0:0<n) (hn:n<1000000) (hy:Nus M yv cs) (hl:cs.length<1000000) (hc: ∀a,a∈cs->a<16384/\a/2/64<n/\a%2=0):
  C S zeI [.ptr P 0 0,yv] M (fun r m'=>okB (∀i,i<64*n->bit mk i=true->2*i∈cs) r/\Grow M m'):=by
 have A:=hm.ar.2.1;have B:=hy.ar.2.1;have hm':=zU hm;have hy':=zU hy;have hc':=zU hc;have ly:=hy.ar.1;obtain ⟨Q,eQ⟩: ∃Q,(∀i,i<64*n->bit mk i=true->2*i∈cs)=Q:=⟨_,rfl⟩
 have eQ':=zU eQ;rw [eQ];clear hm hy hc eQ;refine fn rfl ?_;refine (zcU (zfL.2 hm'.down) (by simp;omega)).mono ?_;rintro r _ ⟨g,rfl,hG⟩;obtain ⟨q1,q2⟩:=hG.gm;obtain ⟨b,eb,hb⟩:=q1.pos (by simpa using h0);have hrow:(M++g)[b]? =some (.cells true (zG n (zz mk))):=by
  rw [hb,zH,List.map_map];rfl
 have hMb:M.length<=b:=q2 b (by rw [eb];rfl);have el:((List.range n).map mk).length=n:=by simp
 rw [el] at eb;subst eb;have hg:Grow M (M++g):=⟨g,rfl⟩
 generalize M++g=M1 at hrow hg ⊢
 have hrow':=zU hrow;have hg':=zU hg;clear hG q1 q2 hb hrow hg el;refine am ?_;refine range (α:=Nat->Nat) cs.length (fun _=>[(16,yv),(5,.slice b 0 n n false 1)]) (fun k x M'=>Grow M M'/\M'[b]? =some (.cells true (zG n (zz x)))/\w64 n x/\clr mk x cs k) mk ⟨hg'.down,hrow'.down,hw,fun i=>by simp⟩ ?_ ?_
 ·rintro k x fr M' hk F ⟨hg,hr,hx,hbx⟩
  have C1:=(hy'.down.grow hg).ar;obtain ⟨p1,p2,p3⟩:=hc'.down _ (za4 hk);obtain ⟨a,ea⟩: ∃a,nx cs k=a:=⟨_,rfl⟩
  have ix0:=C1.2.2.2.1 .i64 k hk;have ld0:zaf M' none (atp yv k 0)=some (.int .u64 (nx cs k:Nat)):=C1.2.2.2.2 k 0 none hk;rw [ea] at p1 p2 p3 ld0;have i1:= @zaQ n (a/2/64) (zz x);have i2:= @zbS n (a/2/64) 1 (zz x);have ix:= @zaL b 0 n n (a/2/64) 1 false .i64 p2;have e1:= @zwK (x (a/2/64)) (2^(a/2%64));have e2:up (zz x) (a/2/64) [.int .u64 ((andNot (x (a/2/64)) (2^(a/2%64)):Nat):Int)]=zz (zbi x (a/2) false):=by
   rw [zne];rfl
  have hg':=zU hg;have hx':=zU hx;have hbx':=zU hbx;have PL:=ze1 (m:=M') (a:=a) (by omega);have PL':=zU PL;have ea':=zU ea;clear C1 hg hx hbx PL ea;refine am ?_;refine PL'.down.mono ?_;rintro _ M2 ⟨rfl,e3⟩;rw [e3];clear e3 M2;refine am ?_;refine ⟨zbi x (a/2) false,zg,Grow.set hg'.down hMb _,?_,zhJ hx'.down,fun i=> ?_⟩
  ·exact zZ hr
  ·rw [zeH (n:=n) hx'.down (by omega),hbx'.down]
   by_cases e:i=a/2
   ·rw [if_pos e]
    have: ∃j,j<k+1/\nx cs j/2=i:=⟨k,by omega,by rw [ea'.down];exact e.symm⟩
    rw [decide_eq_true this]
    simp
   ·rw [if_neg e]
    congr 2
    apply decide_eq_decide.2;constructor
    ·rintro ⟨j,h1,h2⟩
     exact ⟨j,by omega,h2⟩
    ·rintro ⟨j,h1,h2⟩
     by_cases ej:j=k
     ·subst ej;rw [ea'.down] at h2;exact absurd h2.symm e
     ·exact ⟨j,by omega,h2⟩
 ·rintro x fr M' F ⟨hg,hr,hx,hbx⟩
  have hrd:Rd M' (.slice b 0 n n false 1) 1 n (zz x):=by
   refine .inl ?_;have:=Sl.mk (cap:=n) (z:=1) (ex:=false) hr;rw [List.length_map,List.length_range] at this;exact this
  have hQ:PLift (Q↔ ∀i,i<n->x i=0):=⟨by
   rw [<-eQ'.down];have h0:w64 n (fun _=>0):=fun _ _=>(by decide:0<18446744073709551616)
   have:=zjH (n:=n) hx h0;rw [this];constructor
   ·intro h i hi
    rw [hbx];have hz:bit (fun _=>0) i=false:=by simp [bit]
    rw [hz]
    by_cases hb:bit mk i=true
    ·obtain ⟨j,hj,e⟩:=zd4 (h i hi hb)
     rw [decide_eq_true ⟨j,hj,by omega⟩]
     simp
    ·simp [Bool.not_eq_true _▸hb]
   ·intro h i hi hb
    have h2:=h i hi;have hz:bit (fun _=>0) i=false:=by simp [bit]
    rw [hbx,hb,hz] at h2;simp only [Bool.true_and,Bool.not_eq_false',decide_eq_true_eq] at h2;obtain ⟨j,hj,e⟩:=h2;have hm:=za4 hj;have:=(hc'.down _ hm).2.2;rw [show 2*i=nx cs j by omega];exact hm⟩
  have hrd':=zU hrd;have hg':=zU hg;clear hrd hg hbx hx;refine am ?_;refine (zgd (arg:=fun i=> .int .u64 (x i:Nat)) (p:=fun i=>decide (¬ x i=0)) hrd'.down (fun i hi=>rfl) (by omega) (fun g i hi=> ?_)).mono ?_
  ·rw [ziO]
   exact zu6
  rintro _ _ ⟨⟨g2,rfl⟩,⟨rfl,i,hi,hp⟩|⟨rfl,hno⟩⟩
  ·have no:PLift (¬ Q):=⟨fun e=>by
    have:=hQ.down.1 e i hi;simp [this] at hp⟩
   clear hp;refine am ?_;exact ⟨.inr ⟨no.down,rfl⟩,hg'.down.app⟩
  ·have y:PLift Q:=⟨hQ.down.2 fun i hi=>by
    have:=hno i hi
    simpa using this⟩
   clear hno;refine am ?_;exact ⟨.inl ⟨y.down,rfl⟩,hg'.down.app⟩
theorem zfs {m:Mem} {aw uw sv mv qv hv:V}{va vm vs:Nat->V}{X:MiA}(h:zdP m aw uw sv mv qv hv va vm vs X):C S zcH [.agg (miV X aw uw sv mv qv hv)] m (fun r m'=>okE X.ok r/\Grow m m'):=by
 have A1:=h.h.a.ar.2.1;have A2:=h.h.u.ar.2.1;have A3:=h.h.s.s.ar.2.1;have A4:=h.k.ar;have A5:=h.q.s.ar;have A6:=h.d.ar;have bm:=h.bm;have hh:=zU h;obtain ⟨Q,eQ⟩: ∃Q,X.ok=Q:=⟨_,rfl⟩
 have hQ:PLift (Q↔X.H.right/\gOk X.qs/\X.hs.length=X.qs.length/\X.nm=nwm X.H.na/\X.H.swept/\zgW X.H X.nm X.mw/\(∀a,a∈X.qs.flatten->a∈X.H.cs)/\ ∀i,i<X.hs.length->zco X.H (hat X.hs i)):=⟨by rw [<-eQ];rfl⟩
 have lq:=h.lq;have ld:=h.ld;have lk:=h.lk;rw [eQ];clear h eQ;refine fn rfl ?_;refine (zkW hh.down.h.app).mono ?_;rintro _ _ (⟨hR,g1,yv,rfl,rfl,hG⟩|⟨hR,rfl,⟨g1,rfl⟩⟩)
 case inr=>
  have no:PLift (¬ Q):=⟨fun e=>hR (hQ.down.1 e).1⟩
  clear hR;refine am ?_;exact ⟨.inr ⟨no.down,rfl⟩,_,rfl⟩
 have hR':=zU hR;have hG':=zU hG;have yc:=hG.cell;clear hR hG;refine am ?_;refine (zfq hh.down.q.app (by omega)).mono ?_;rintro _ _ ⟨⟨hg,rfl⟩|⟨hg,rfl⟩,⟨g2,rfl⟩⟩
 case inr=>
  have no:PLift (¬ Q):=⟨fun e=>hg (hQ.down.1 e).2.1⟩
  clear hg;refine am ?_;exact ⟨.inr ⟨no.down,rfl⟩,_,rfl⟩
 have hg':=zU hg;clear hg
 by_cases b1:X.hs.length=X.qs.length
 case neg=>
  have e1:((X.hs.length:Int)=(X.qs.length:Int))=False:=eq_false (by omega);have no:PLift (¬ Q):=⟨fun e=>b1 (hQ.down.1 e).2.2.1⟩
  clear b1;refine am ?_;exact ⟨.inr ⟨no.down,rfl⟩,_,rfl⟩
 have e1:((X.hs.length:Int)=(X.qs.length:Int))=True:=eq_true (by omega);have b1':=zU b1;clear b1;refine am ?_;refine (zpD hh.down.h.app).mono ?_;rintro _ _ ⟨rfl,⟨g3,rfl⟩⟩
 by_cases b2:X.nm=nwm X.H.na
 case neg=>
  have e2:((X.nm:Int)=((nwm X.H.na:Nat):Int))=False:=eq_false (by omega);have no:PLift (¬ Q):=⟨fun e=>b2 (hQ.down.1 e).2.2.2.1⟩
  clear b2;refine am ?_;exact ⟨.inr ⟨no.down,rfl⟩,_,rfl⟩
 have e2:((X.nm:Int)=((nwm X.H.na:Nat):Int))=True:=eq_true (by omega);have b2':=zU b2;clear b2;refine am ?_;refine (zpC hh.down.h.app).mono ?_;rintro _ _ ⟨⟨hs,rfl⟩|⟨hs,rfl⟩,⟨g4,rfl⟩⟩
 case inr=>
  have no:PLift (¬ Q):=⟨fun e=>hs (hQ.down.1 e).2.2.2.2.1⟩
  clear hs;refine am ?_;exact ⟨.inr ⟨no.down,rfl⟩,_,rfl⟩
 have hs':=zU hs;clear hs;refine am ?_;have key: ∃P M0,m.length+(g1.length+(g2.length+(g3.length+g4.length))+1)=P/\m++Blk.cells true [miV X aw uw sv mv qv hv]::(g1++(g2++(g3++(g4++[Blk.cells true [miV X aw uw sv mv qv hv],Blk.cells true [[V.ptr P 0 0]],Blk.cells true [[yv]]]))))=M0/\
   m.length+(g1.length+(g2.length+(g3.length+(g4.length+1)))+1)=P+1/\m.length+(g1.length+(g2.length+(g3.length+(g4.length+2)))+1)=P+2/\
   M0[m.length]? =some (.cells true [miV X aw uw sv mv qv hv])/\M0[P]? =some (.cells true [miV X aw uw sv mv qv hv])/\M0[P+1]? =some (.cells true [[.ptr P 0 0]])/\M0[P+2]? =some (.cells true [[yv]])/\Grow m M0/\Nus M0 yv X.H.cs:=by
  refine ⟨_,_,rfl,rfl,by omega,by omega,by rw [zM];rfl,?_,?_,?_,⟨_,rfl⟩,?_⟩
  ·rw [zh,zaR,zh,zh,zh,zM];rfl
  ·rw [show m.length+(g1.length+(g2.length+(g3.length+g4.length))+1)+1=m.length+(g1.length+(g2.length+(g3.length+(g4.length+1)))+1) by omega,zh,zaR,zh,zh,zh,zh];rfl
  ·rw [show m.length+(g1.length+(g2.length+(g3.length+g4.length))+1)+2=m.length+(g1.length+(g2.length+(g3.length+(g4.length+2)))+1) by omega,zh,zaR,zh,zh,zh,zh];rfl
  ·refine Nus.of ?_
   exact hG'.down.ps.on
 obtain ⟨P,M0,eP,eM,eP1,eP2,k00,k0,k1,k2,k3,k4⟩:=key;have k3':=zU k3;have k4':=zU k4;obtain ⟨cs,ecs⟩: ∃cs,X.H.cs=cs:=⟨_,rfl⟩
 have ecs':=zU ecs;obtain ⟨hcs,hcl⟩:=zlF hR'.down hh.down.h.wa;have hcs':=zU hcs;have hfl:X.qs.flatten.length<=16384:=hg'.down.2.2.1;have hql:X.qs.length<=4:=hg'.down.2.1;clear hG' k3 k4 ecs hcs;refine am ?_;clear eM eP eP1 eP2;refine (zlW (vs:=vs) (ls:=qat X.qs) (hh.down.q.s.grow k3'.down) (fun i hi=>(hh.down.q.e i hi).grow k3'.down) (by omega) (by rw [znk];omega)).mono ?_;rintro qc _ ⟨g5,rfl,hC⟩;rw [znk] at hC;have hCs:Nus (M0++g5) qc X.qs.flatten:=by
  refine Nus.of ?_;exact hC.ps.on (by exact AtM.end)
 have qcc:=hC.cell;have hCs':=zU hCs;have u00:=zb (g:=g5) k00;have u0:=zb (g:=g5) k0;have u1:=zb (g:=g5) k1;have u2:=zb (g:=g5) k2;have pos:=(zuW hR'.down.1)
 have hna:=hR'.down.1.na;have MK:=zwi (n:=X.nm) (mk:=X.mw) u0 (hh.down.k.grow k3'.down).app hh.down.wk (by have:=b2'.down;unfold nwm at this;omega) (by have:=b2'.down;unfold nwm at this;omega) (k4'.down.app) (by omega) (fun a ha=>by
  obtain ⟨p1,p2⟩:=zdt hR'.down hh.down.h.wa ha;exact ⟨p1,by rw [b2'.down];exact p2,zxt hR'.down.1 ha⟩)
 have MK':=zU MK;clear hC hCs MK pos;refine am ?_;refine MK'.down.mono ?_;rintro _ _ ⟨⟨hm,rfl⟩|⟨hm,rfl⟩,⟨g6,rfl⟩⟩
 case inr=>
  have no:PLift (¬ Q):=⟨fun e=>hm (hQ.down.1 e).2.2.2.2.2.1⟩
  have hg:=k3'.down;clear hm MK';have hg2:=zU ((hg.app (g:=g5)).app (g:=g6));clear hg;refine am ?_;exact ⟨.inr ⟨no.down,rfl⟩,by have:=hg2.down;simpa only [List.append_assoc] using this⟩
 have hm':=zU hm;have t1:=zb (g:=g6) u1;have t2:=zb (g:=g6) u2;have t0:=zb (g:=g6) u0;have t00:=zb (g:=g6) u00;have hy2:Nus (M0++g5++g6) yv X.H.cs:=(k4'.down.app).app;have hg2:Grow m (M0++g5++g6):=(k3'.down.app).app;have hCs2:Nus (M0++g5++g6) qc X.qs.flatten:=hCs'.down.app;clear hm MK' hCs' u00 u0 u1 u2 k00 k0 k1 k2
 generalize M0++g5++g6=M1 at t00 t0 t1 t2 hy2 hg2 hCs2 ⊢
 have hy2':=zU hy2;have hg2':=zU hg2;have hCs2':=zU hCs2;clear hy2 hg2 hCs2;refine am ?_;refine (zgd (arg:=fun i=> .int .u64 (nx X.qs.flatten i:Nat)) (p:=fun i=> !decide (nx X.qs.flatten i∈X.H.cs)) hCs2'.down (fun i hi=>rfl) (by omega) (fun g i hi=> ?_)).mono ?_
 ·rw [ziO]
  have t2':=zb (g:=g) t2;have hl:X.H.cs.length<1000000:=by omega
  have Y:=zU (zad (a:=nx X.qs.flatten i) (hy2'.down.app (g:=g)) hcs'.down hl);dsimp only
  generalize decide (nx X.qs.flatten i∈X.H.cs)=D at Y ⊢
  clear hCs2' t00 t0 t1 t2;refine fn rfl ?_;refine Y.down.mono ?_;rintro _ _ ⟨rfl,⟨g7,rfl⟩⟩;refine am ?_;exact ⟨g7,by simp⟩
 rintro _ _ ⟨⟨g7,rfl⟩,⟨rfl,i,hi,hp⟩|⟨rfl,hno⟩⟩
 ·have no:PLift (¬ Q):=⟨fun e=>by
   have:=(hQ.down.1 e).2.2.2.2.2.2.1 _ (za4 hi);simp [this] at hp⟩
  clear hp;refine am ?_;exact ⟨.inr ⟨no.down,rfl⟩,hg2'.down.app⟩
 have hq':PLift (∀a,a∈X.qs.flatten->a∈X.H.cs):=⟨fun a ha=>by
  obtain ⟨i,hi,e⟩:=zd4 ha;have:=hno i hi;rw [e] at this
  simpa using this⟩
 have s00:=zb (g:=g7) t00;have s0:=zb (g:=g7) t0;have s1:=zb (g:=g7) t1;have s2:=zb (g:=g7) t2;have hy3:Nus (M1++g7) yv X.H.cs:=hy2'.down.app;have hg3:Grow m (M1++g7):=hg2'.down.app;clear hno hCs2' t00 t0 t1 t2 hy2' hg2'
 generalize M1++g7=M2 at s00 s0 s1 s2 hy3 hg3 ⊢
 have hy3':=zU hy3;have hg3':=zU hg3;have A7:=(hh.down.d.grow hg3).ar;clear hy3 hg3;refine am ?_;have dec: ∀P:Prop,Nonempty (Decidable P):=fun P=>⟨Classical.propDecidable P⟩
 have hc7: ∀i,Nonempty (Decidable (zco X.H (hat X.hs i))):=fun i=>dec _
 refine (zek (arg:=fun i=> .agg (zt (hat X.hs i))) (p:=fun i=> !(@decide (zco X.H (hat X.hs i)) (Classical.propDecidable _))) (hh.down.d.grow hg3'.down) (fun i hi=>rfl) (by omega) (fun g i hi=> ?_)).mono ?_
 ·rw [ziO]
  have hpr:zbQ M2 aw uw sv va vm X.H:=by
   obtain ⟨g0,e0⟩:=hg3'.down;rw [e0];exact hh.down.h.app
  have hpr':=zU hpr;dsimp only;obtain ⟨D,eD⟩: ∃D,@decide (zco X.H (hat X.hs i)) (Classical.propDecidable _)=D:=⟨_,rfl⟩
  have eD':=zU eD;rw [eD];clear hpr A7 s00 eD hc7 dec;refine fn rfl ?_;refine (zyu (own:=true) (x:=hat X.hs i) hpr'.down.app hR'.down (zb s0) hy3'.down.app).mono ?_;rintro _ _ ⟨⟨ho,rfl⟩|⟨ho,rfl⟩,⟨g8,rfl⟩⟩
  ·have:PLift (D=true):=⟨by rw [<-eD'.down];exact @decide_eq_true _ (Classical.propDecidable _) ho⟩
   clear ho;refine am ?_;rw [this.down];exact ⟨rfl,.cells true [zt (hat X.hs i)]::g8,by simp⟩
  ·have:PLift (D=false):=⟨by rw [<-eD'.down];exact @decide_eq_false _ (Classical.propDecidable _) ho⟩
   clear ho;refine am ?_;rw [this.down];exact ⟨rfl,.cells true [zt (hat X.hs i)]::g8,by simp⟩
 rintro _ _ ⟨⟨g8,rfl⟩,⟨rfl,i,hi,hp⟩|⟨rfl,hno⟩⟩
 ·have no:PLift (¬ Q):=⟨fun e=>by
   have h2:=(hQ.down.1 e).2.2.2.2.2.2.2 i hi;rw [@decide_eq_true _ (Classical.propDecidable _) h2] at hp;cases hp⟩
  clear hp hc7 dec;refine am ?_;exact ⟨.inr ⟨no.down,rfl⟩,hg3'.down.app⟩
 ·have y:PLift Q:=⟨hQ.down.2 ⟨hR'.down,hg'.down,b1'.down,b2'.down,hs'.down,hm'.down,hq'.down,fun i hi=>by
   have h2:=hno i hi;rw [Bool.not_eq_false'] at h2;exact @of_decide_eq_true _ (Classical.propDecidable _) h2⟩⟩
  clear hno hc7 dec;refine am ?_;exact ⟨.inl ⟨y.down,rfl⟩,hg3'.down.app⟩
theorem zqC {m:Mem}{aw uw sv:V}{va vm:Nat->V}{H:zm}{a:Nat}(h:zbQ m aw uw sv va vm H):C S zkG [.agg (zy H aw uw sv),.int .u64 (a:Nat)] m (fun r m'=>((H.right/\r=zcb (obs H H.ns) a)\/(¬ H.right/\r= .tup [.agg zOb,.int .i64 2]))/\Grow m m'):=by
 have A:=h.a.ar;have B:=h.u.ar;have D:=h.s.s.ar;refine fn rfl ?_;refine (zeZ h.app).mono ?_;rintro _ _ ⟨⟨hr,rfl⟩|⟨hr,rfl⟩,⟨g,rfl⟩⟩
 case inr=>
  have hr':=zU hr;clear hr;refine am ?_;exact ⟨.inr hr'.down,_,rfl⟩
 obtain ⟨l,el⟩: ∃l,obs H H.ns=l:=⟨_,rfl⟩
 have hol:=zdK hr.1;rw [el] at hol;have hr':=zU hr;obtain ⟨R,hR⟩: ∃R:V->Prop,R=fun r=>(H.right/\r=zcb (obs H H.ns) a)\/(¬ H.right/\r= .tup [.agg zOb,.int .i64 2]):=⟨_,rfl⟩
 have hR':PLift (R (zcb l a)):=⟨by rw [hR];exact .inl ⟨hr'.down,by rw [el]⟩⟩
 have hR2:=zU hR;clear hR;have el':=zU el;clear el hr
 by_cases h0:a=0
 ·have e1:zcb l a= .tup [.agg zOb,.int .i64 7]:=if_pos h0
  rw [e1,hR2.down] at hR';subst h0;clear e1;have c1:((0:Nat):Int)=0:=rfl;refine am ?_;exact ⟨hR'.down,_,rfl⟩
 ·have c1:((a:Int)=0)=False:=eq_false (by omega)
  have h0':=zU h0;clear h0;refine am ?_;refine (zpf h.app hr'.down.1).mono ?_;rintro _ _ ⟨ov,g2,rfl,⟨hk,rfl,hG⟩|⟨hk,rfl⟩⟩
  case inr=>exact absurd hr'.down.2.1 hk
  rw [el'.down] at hG;have oc:=hG.cell;have hO:=hG.obs (G:=[]);rw [List.append_nil] at hO;have hO':=zU hO;clear hk hG hO;refine am ?_;refine (zjf (l:=l) (by simpa only [List.append_assoc,List.cons_append,List.nil_append,List.append_nil] using hO'.down) (by omega)).mono ?_;rintro _ _ ⟨rfl,⟨g3,rfl⟩⟩;cases hf:fnd l a with
  |some o=>
   have f1:zkU (some o)= .tup [.agg (obV o),.bool true]:=rfl;have e2:zcb l a= .tup [.agg (obV o),.int .i64 0]:=by unfold zcb;rw [if_neg h0'.down,hf]
   rw [e2,hR2.down] at hR';clear e2;refine am ?_;exact ⟨hR'.down,_,rfl⟩
  |none=>
   have f1:zkU none= .tup [.agg zOb,.bool false]:=rfl;have e2:zcb l a= .tup [.agg zOb,.int .i64 10]:=by unfold zcb;rw [if_neg h0'.down,hf]
   rw [e2,hR2.down] at hR';clear e2;refine am ?_;exact ⟨hR'.down,_,rfl⟩
theorem zik {m:Mem}{aw uw sv:V}{va vm:Nat->V}{H:zm}{a:Nat}(h:zbQ m aw uw sv va vm H):C S zeJ [.agg (zy H aw uw sv),.int .u64 (a:Nat)] m (fun r m'=>atR H a r/\Grow m m'):=by
 have A:=h.a.ar;have B:=h.u.ar;have D:=h.s.s.ar;refine fn rfl ?_;refine (zqC h.app).mono ?_;obtain ⟨R,hR⟩: ∃R:V->Prop,R=atR H a:=⟨_,rfl⟩
 rw [<-hR];rintro _ _ ⟨⟨hr,rfl⟩|⟨hr,rfl⟩,⟨g,rfl⟩⟩
 case inr=>
  have hR':PLift (R (.tup [.agg [.int .i64 0,.int .u64 0],.int .i64 2])):=⟨by rw [hR];exact .inr ⟨hr,rfl⟩⟩
  clear hr hR;refine am ?_;exact ⟨hR'.down,_,rfl⟩
 have hR':PLift (R (atV (obs H H.ns) a)):=⟨by rw [hR];exact .inl ⟨hr,rfl⟩⟩
 clear hr hR;obtain ⟨l,el⟩: ∃l,obs H H.ns=l:=⟨_,rfl⟩
 rw [el] at hR' ⊢;clear el
 by_cases h0:a=0
 ·have e1:zcb l a= .tup [.agg zOb,.int .i64 7]:=if_pos h0
  have e2:atV l a= .tup [.agg [.int .i64 0,.int .u64 0],.int .i64 7]:=if_pos h0;rw [e2] at hR';clear h0 e2;refine am ?_;exact ⟨hR'.down,_,rfl⟩
 ·cases hf:fnd l a with
  |some o=>
   have e1:zcb l a= .tup [.agg (obV o),.int .i64 0]:=by unfold zcb;rw [if_neg h0,hf]
   have e2:atV l a= .tup [.agg [.int .i64 (o.w%256:Nat),.int .u64 (unM o.w:Nat)],.int .i64 0]:=by unfold atV;rw [if_neg h0,hf]
   rw [e2] at hR';clear h0 e2;refine am ?_;exact ⟨hR'.down,_,rfl⟩
  |none=>
   have e1:zcb l a= .tup [.agg zOb,.int .i64 10]:=by unfold zcb;rw [if_neg h0,hf]
   have e2:atV l a= .tup [.agg [.int .i64 0,.int .u64 0],.int .i64 10]:=by unfold atV;rw [if_neg h0,hf]
   rw [e2] at hR';clear h0 e2;refine am ?_;exact ⟨hR'.down,_,rfl⟩
set_option maxHeartbeats 2000000 in
theorem zwj {M:Mem} {aw uw sv c4 c5 c6 yv:V}{va vm:Nat->V}{H:zm}{x:zY}(h:zbQ M aw uw sv va vm H) (hR:H.right) (k4:c4.isCell=true) (k5:c5.isCell=true) (k6:c6.isCell=true) (hy:Nus M yv H.cs):C S zku [.agg (bxV H aw uw sv c4 c5 c6),yv,.agg (zt x)] M (fun r m'=>okB (zco H x) r/\Grow M m'):=by
 obtain ⟨hcs,hcl⟩:=zlF hR h.wa;have hat:=fun a ha=>zrJ hR h.wa (a:=a) ha
 have hcur:=fun a ha=>zpB hR h.wa (a:=a) ha
 obtain ⟨cs,ecs⟩: ∃cs,H.cs=cs:=⟨_,rfl⟩
 rw [ecs] at hcs hcl hat hcur hy;have A1:=h.a.ar.2.1;have A2:=h.u.ar.2.1;have A3:=h.s.s.ar.2.1;have A4:=hy.ar.2.1;obtain ⟨Q,eQ⟩: ∃Q,zco H x=Q:=⟨_,rfl⟩
 rw [eQ];obtain ⟨pc,obj,N,Mk,f,to,seen⟩:=x;have hQ:PLift (Q↔(pc=0/\(⟨pc,obj,N,Mk,f,to,seen⟩:zY)=hand0)\/(pc=1/\obj∈cs/\(⟨pc,obj,N,Mk,f,to,seen⟩:zY)=⟨1,obj,0,0,0,0,0⟩)\/
  (2<=pc/\pc<=5/\obj∈cs/\N=(H.a obj%256:Nat)/\Mk=unM (H.a obj)/\0<=f/\f<=N/\(seen=0\/pc=4)/\((pc=2/\to=0)\/(pc≠2/\f<N/\Mk.testBit f.toNat=true/\to∈cs)))):=⟨by rw [<-eQ,<-ecs];rfl⟩
 have hh:=zU h;have hy':=zU hy;have hR':=zU hR;have hat':=zU hat;have hcur':=zU hcur;clear eQ h hy hR hcs hat hcur ecs
 by_cases p0:pc=0
 ·subst p0
  refine fn rfl ?_;refine ⟨zlG ?_,_,rfl⟩;rw [hQ.down];simp [hand0]
 have d0:((pc:Int)=0)=False:=eq_false (by omega)
 by_cases p6:6<=pc
 ·have no:PLift (¬ Q):=⟨fun e=>by
   rcases hQ.down.1 e with e|e|e<;>omega⟩
  have d6:((6:Int)<=(pc:Int))=True:=eq_true (by omega);clear p0 p6;refine fn rfl ?_;exact ⟨.inr ⟨no.down,rfl⟩,_,rfl⟩
 have d6:((6:Int)<=(pc:Int))=False:=eq_false (by omega)
 by_cases ho:obj∈cs
 case neg=>
  have no:PLift (¬ Q):=⟨fun e=>by
   rcases hQ.down.1 e with e|e|e
   ·omega
   ·exact ho e.2.1
   ·exact ho e.2.2.1⟩
  have no2:=decide_eq_false ho;clear ho p0 p6;refine fn rfl ?_;refine (zfU hy'.down.app (by omega)).mono ?_;rw [no2];rintro _ _ ⟨rfl,rfl⟩;refine am ?_;exact ⟨.inr ⟨no.down,rfl⟩,_,rfl⟩
 have ho':=zU ho;have yes:=decide_eq_true ho;have hasO: ∀{T:V->Mem->Prop}{g:Mem},T (.bool true) (M++g)->C S zcV [yv,.int .u64 (obj:Nat)] (M++g) T:=fun hT=>(zfU hy'.down.app (by omega)).mono fun r m' ⟨h1,h2⟩=>by
  rw [h1,h2,yes];exact hT
 have hasO':=PLift.up @hasO;clear hasO yes
 by_cases p1:pc=1
 ·subst p1
  clear ho p0 p6;refine fn rfl ?_;refine hasO'.down ?_;refine am ?_;refine ⟨zlG ?_,_,rfl⟩;rw [hQ.down];simp [ho'.down]
 have d1:((pc:Int)=1)=False:=eq_false (by omega);have hp:2<=pc/\pc<=5:=by omega
 have hQ2:PLift (Q↔obj∈cs/\N=(H.a obj%256:Nat)/\Mk=unM (H.a obj)/\0<=f/\f<=N/\(seen=0\/pc=4)/\((pc=2/\to=0)\/(pc≠2/\f<N/\Mk.testBit f.toNat=true/\to∈cs))):=⟨by
  rw [hQ.down];constructor
  ·rintro (e|e|e)
   ·omega
   ·omega
   ·exact e.2.2
  ·intro e
   exact .inr (.inr ⟨by omega,by omega,e⟩)⟩
 obtain ⟨z0,z1,z2,z3⟩:=hcur'.down obj ho;have za:=hat'.down obj ho;have zs:zhs ((H.a obj%256:Nat):Int) (unM (H.a obj)):=⟨by omega,by have:=z2.2.1;omega,by rw [Int.toNat_natCast];exact z2.2.2⟩
 have zn:H.a obj%256<=48:=z2.2.1;have zs':=zU zs;obtain ⟨n,en⟩: ∃n,H.a obj%256=n:=⟨_,rfl⟩
 obtain ⟨w,ew⟩: ∃w,unM (H.a obj)=w:=⟨_,rfl⟩
 have zw:w<18446744073709551616:=ew▸zsU;have zat: ∀r,atR H obj r->r= .tup [.agg [.int .i64 (n:Nat),.int .u64 (w:Nat)],.int .i64 0]:=fun r hr=>by
  rcases hr with ⟨_,e⟩|⟨hn,_⟩
  ·rw [e,za,en,ew]
  ·exact absurd hR'.down hn
 have zat':=zU zat;rw [en,ew] at hQ2 zs';rw [en] at zn;clear hQ ho z0 z1 z2 z3 za zs zat en ew p0 p1 p6;have go: ∀{T:V->Mem->Prop}{g:Mem},(∀g2,T (.tup [.agg [.int .i64 (n:Nat),.int .u64 (w:Nat)],.int .i64 0]) (M++g++g2))->C S zeJ [.agg (zy H aw uw sv),.int .u64 (obj:Nat)] (M++g) T:=fun hT=>(zik hh.down.app).mono fun r m' ⟨h1,g2,h2⟩=>by
  rw [zat'.down r h1,h2];exact hT g2
 have go':=PLift.up @go;clear go;have bf:=Bool.false_and;have bg:=Bool.and_false
 by_cases b1:N=(n:Int)
 case neg=>
  have e1:(N=(n:Int))=False:=eq_false b1;have no:PLift (¬ Q):=⟨fun e=>b1 (hQ2.down.1 e).2.1⟩
  clear b1;refine fn rfl ?_;refine hasO'.down ?_;refine am ?_;refine go'.down fun g2=> ?_
  refine am ?_;exact ⟨.inr ⟨no.down,rfl⟩,_,rfl⟩
 by_cases b2:Mk=w
 case neg=>
  have e1:(N=(n:Int))=True:=eq_true b1;have e2:((Mk:Int)=(w:Int))=False:=eq_false (by omega);have no:PLift (¬ Q):=⟨fun e=>b2 (hQ2.down.1 e).2.2.1⟩
  clear b1 b2;refine fn rfl ?_;refine hasO'.down ?_;refine am ?_;refine go'.down fun g2=> ?_
  refine am ?_;exact ⟨.inr ⟨no.down,rfl⟩,_,rfl⟩
 subst b1 b2;have e1:(((n:Nat):Int)=(n:Int))=True:=eq_true rfl;have e2:((Mk:Int)=(Mk:Int))=True:=eq_true rfl
 by_cases b3:f<0
 ·have e3:(f<0)=True:=eq_true b3
  have no:PLift (¬ Q):=⟨fun e=>by have:=(hQ2.down.1 e).2.2.2.1;omega⟩
  clear b3;refine fn rfl ?_;refine hasO'.down ?_;refine am ?_;refine go'.down fun g2=> ?_
  refine am ?_;exact ⟨.inr ⟨no.down,rfl⟩,_,rfl⟩
 obtain ⟨k,rfl⟩: ∃k:Nat,f=k:=⟨f.toNat,by omega⟩
 have e3:((k:Int)<0)=False:=eq_false (by omega)
 by_cases b4:n<k
 ·have e4:((n:Int)<(k:Int))=True:=eq_true (by omega)
  have no:PLift (¬ Q):=⟨fun e=>by have:=(hQ2.down.1 e).2.2.2.2.1;omega⟩
  clear b3 b4;refine fn rfl ?_;refine hasO'.down ?_;refine am ?_;refine go'.down fun g2=> ?_
  refine am ?_;exact ⟨.inr ⟨no.down,rfl⟩,_,rfl⟩
 have e4:((n:Int)<(k:Int))=False:=eq_false (by omega)
 by_cases b5:seen=0\/pc=4
 case neg=>
  have e5:((seen:Int)=0)=False:=eq_false (by omega);have e6:((pc:Int)=4)=False:=eq_false (by omega);have no:PLift (¬ Q):=⟨fun e=>b5 (hQ2.down.1 e).2.2.2.2.2.1⟩
  clear b3 b4 b5 hp;refine fn rfl ?_;refine hasO'.down ?_;refine am ?_;refine go'.down fun g2=> ?_
  refine am ?_;exact ⟨.inr ⟨no.down,rfl⟩,_,rfl⟩
 have hQ3:PLift (Q↔(pc=2/\to=0)\/(pc≠2/\k<n/\Mk.testBit k=true/\to∈cs)):=⟨by
  rw [hQ2.down];constructor
  ·intro e
   rcases e.2.2.2.2.2.2 with h|⟨h1,h2,h3,h4⟩
   ·exact .inl h
   ·exact .inr ⟨h1,by omega,by rw [Int.toNat_natCast] at h3;exact h3,h4⟩
  ·intro e
   refine ⟨ho'.down,rfl,rfl,by omega,by omega,b5,?_⟩;rcases e with h|⟨h1,h2,h3,h4⟩
   ·exact .inl h
   ·exact .inr ⟨h1,by omega,by rw [Int.toNat_natCast];exact h3,h4⟩⟩
 have seenF: ∃v5 v6:Bool,(decide ((seen:Int)=0))=v5/\(decide ((pc:Int)=4))=v6/\(v5=true\/v6=true):=⟨_,_,rfl,rfl,by rcases b5 with h|h<;>simp [h]⟩
 clear hQ2
 by_cases p2:pc=2
 ·subst p2
  have s0:seen=0:=by omega
  subst s0
  by_cases b6:to=0
  ·have e6:((to:Int)=0)=True:=eq_true (by omega)
   have y:PLift Q:=⟨hQ3.down.2 (.inl ⟨rfl,b6⟩)⟩
   clear b3 b4 b5 b6 seenF;refine fn rfl ?_;refine hasO'.down ?_;refine am ?_;refine go'.down fun g2=> ?_
   refine am ?_;exact ⟨.inl ⟨y.down,rfl⟩,_,rfl⟩
  ·have e6:((to:Int)=0)=False:=eq_false (by omega)
   have no:PLift (¬ Q):=⟨fun e=>by
    rcases hQ3.down.1 e with h|h
    ·exact b6 h.2
    ·exact h.1 rfl⟩
   clear b3 b4 b5 b6 seenF;refine fn rfl ?_;refine hasO'.down ?_;refine am ?_;refine go'.down fun g2=> ?_
   refine am ?_;exact ⟨.inr ⟨no.down,rfl⟩,_,rfl⟩
 have d2:((pc:Int)=2)=False:=eq_false (by omega);have hQ4:PLift (Q↔k<n/\Mk.testBit k=true/\to∈cs):=⟨by
  rw [hQ3.down];constructor
  ·rintro (h|h)
   ·exact absurd h.1 p2
   ·exact h.2
  ·intro h
   exact .inr ⟨p2,h⟩⟩
 clear hQ3 seenF p2 hp;have tail: ∀{T:V->Mem->Prop}{g:Mem},k<n->(∀g2,T (.bool (Mk.testBit k)) (M++g++g2))->C S zdI [.agg [.int .i64 (n:Nat),.int .u64 (Mk:Nat)],.int .i64 (k:Nat)] (M++g) T:=fun hk hT=>(zdQ (f:=k) zw (by omega)).mono fun r m' ⟨h1,g2,h2⟩=>by
  rw [h1,h2];exact hT g2
 have tail':=PLift.up @tail;clear tail;have hs:(seen=0)\/(seen≠0/\pc=4):=by omega
 clear b5
 by_cases b7:k<n
 case neg=>
  have e7:((k:Int)<(n:Int))=False:=eq_false (by omega);have no:PLift (¬ Q):=⟨fun e=>b7 (hQ4.down.1 e).1⟩
  clear b3 b4 b7;rcases hs with sz|⟨sz,p4⟩
  ·have e5:((seen:Int)=0)=True:=eq_true (by omega)
   clear sz;refine fn rfl ?_;refine hasO'.down ?_;refine am ?_;refine go'.down fun g2=> ?_
   refine am ?_;exact ⟨.inr ⟨no.down,rfl⟩,_,rfl⟩
  ·have e5:((seen:Int)=0)=False:=eq_false (by omega)
   have e6:((pc:Int)=4)=True:=eq_true (by omega);clear sz p4;refine fn rfl ?_;refine hasO'.down ?_;refine am ?_;refine go'.down fun g2=> ?_
   refine am ?_;exact ⟨.inr ⟨no.down,rfl⟩,_,rfl⟩
 have e7:((k:Int)<(n:Int))=True:=eq_true (by omega);have b7':=zU b7;have fin:PLift (okB Q (.bool (Mk.testBit k&&decide (to∈cs)))):=⟨zlG (by rw [hQ4.down];simp [b7])⟩
 clear b3 b4 b7;cases hb:Mk.testBit k with
 |false=>
  rw [hb,Bool.false_and] at fin;rw [hb] at tail';clear hb;rcases hs with sz|⟨sz,p4⟩
  ·have e5:((seen:Int)=0)=True:=eq_true (by omega)
   clear sz;refine fn rfl ?_;refine hasO'.down ?_;refine am ?_;refine go'.down fun g2=> ?_
   refine am ?_;refine tail'.down b7'.down fun g3=> ?_
   refine am ?_;exact ⟨fin.down,_,rfl⟩
  ·have e5:((seen:Int)=0)=False:=eq_false (by omega)
   have e6:((pc:Int)=4)=True:=eq_true (by omega);clear sz p4;refine fn rfl ?_;refine hasO'.down ?_;refine am ?_;refine go'.down fun g2=> ?_
   refine am ?_;refine tail'.down b7'.down fun g3=> ?_
   refine am ?_;exact ⟨fin.down,_,rfl⟩
 |true=>
  rw [hb,Bool.true_and] at fin;rw [hb] at tail';clear hb;rcases hs with sz|⟨sz,p4⟩
  ·have e5:((seen:Int)=0)=True:=eq_true (by omega)
   clear sz;refine fn rfl ?_;refine hasO'.down ?_;refine am ?_;refine go'.down fun g2=> ?_
   refine am ?_;refine tail'.down b7'.down fun g3=> ?_
   refine am ?_;refine (zfU hy'.down.app (by omega)).mono ?_;rintro _ _ ⟨rfl,rfl⟩;refine am ?_;exact ⟨fin.down,_,rfl⟩
  ·have e5:((seen:Int)=0)=False:=eq_false (by omega)
   have e6:((pc:Int)=4)=True:=eq_true (by omega);clear sz p4;refine fn rfl ?_;refine hasO'.down ?_;refine am ?_;refine go'.down fun g2=> ?_
   refine am ?_;refine tail'.down b7'.down fun g3=> ?_
   refine am ?_;refine (zfU hy'.down.app (by omega)).mono ?_;rintro _ _ ⟨rfl,rfl⟩;refine am ?_;exact ⟨fin.down,_,rfl⟩
set_option maxHeartbeats 1000000 in
theorem zu7 {m:Mem} {aw uw sv mv qv hv:V}{va vm vs:Nat->V}{X:MiA}(h:zdP m aw uw sv mv qv hv va vm vs X):C S ziX [.agg (miV X aw uw sv mv qv hv)] m (fun r m'=>okE X.ok r/\Grow m m'):=by
 have A1:=h.h.a.ar;have A2:=h.h.u.ar.2.1;have A3:=h.h.s.s.ar;have A4:=h.k.ar;have A5:=h.q.s.ar;have A6:=h.d.ar;have hh:=zU h;obtain ⟨Q,eQ⟩: ∃Q,X.ok=Q:=⟨_,rfl⟩
 have hQ:PLift (Q↔X.H.right/\gOk X.qs/\X.hs.length=X.qs.length/\X.nm=nwm X.H.na/\X.H.swept/\zgW X.H X.nm X.mw/\(∀a,a∈X.qs.flatten->a∈X.H.cs)/\ ∀i,i<X.hs.length->zco X.H (hat X.hs i)):=⟨by rw [<-eQ];rfl⟩
 have lq:=h.lq;have ld:=h.ld;have lk:=h.lk;have la:=h.h.la;have ls:=h.h.ls;rw [eQ];clear h eQ;refine fn rfl ?_;refine (zlv hh.down.h.app).mono ?_;rintro _ _ (⟨hR,g1,yv,rfl,rfl,hG⟩|⟨hR,rfl,⟨g1,rfl⟩⟩)
 case inr=>
  have no:PLift (¬ Q):=⟨fun e=>hR (hQ.down.1 e).1⟩
  clear hR;refine am ?_;exact ⟨.inr ⟨no.down,rfl⟩,_,rfl⟩
 have hR':=zU hR;have hG':=zU hG;have yc:=hG.cell;clear hR hG;refine am ?_;refine (zew hh.down.q.app (by omega)).mono ?_;rintro _ _ ⟨⟨hg,rfl⟩|⟨hg,rfl⟩,⟨g2,rfl⟩⟩
 case inr=>
  have no:PLift (¬ Q):=⟨fun e=>hg (hQ.down.1 e).2.1⟩
  clear hg;refine am ?_;exact ⟨.inr ⟨no.down,rfl⟩,_,rfl⟩
 have hg':=zU hg;clear hg
 by_cases b1:X.hs.length=X.qs.length
 case neg=>
  have e1:((X.hs.length:Int)=(X.qs.length:Int))=False:=eq_false (by omega);have no:PLift (¬ Q):=⟨fun e=>b1 (hQ.down.1 e).2.2.1⟩
  clear b1;refine am ?_;exact ⟨.inr ⟨no.down,rfl⟩,_,rfl⟩
 have e1:((X.hs.length:Int)=(X.qs.length:Int))=True:=eq_true (by omega);have b1':=zU b1;have w1:IntKind.i64.wrap ((X.H.na:Int)+127)=((X.H.na+127:Nat):Int):=by rw [wrap_i64]<;>omega
 have q:((X.H.na+127:Nat):Int).tdiv 128=((nwm X.H.na:Nat):Int):=zgZ (b:=128);have w3:=wn (a:=nwm X.H.na) (by unfold nwm;omega);clear b1
 by_cases b2:X.nm=nwm X.H.na
 case neg=>
  have e2:((X.nm:Int)=((nwm X.H.na:Nat):Int))=False:=eq_false (by omega);have no:PLift (¬ Q):=⟨fun e=>b2 (hQ.down.1 e).2.2.2.1⟩
  clear b2;refine am ?_;exact ⟨.inr ⟨no.down,rfl⟩,_,rfl⟩
 have e2:((X.nm:Int)=((nwm X.H.na:Nat):Int))=True:=eq_true (by omega);have b2':=zU b2;clear b2;refine am ?_;have hN:Nus (m++Blk.cells true [miV X aw uw sv mv qv hv]::(g1++g2)) yv X.H.cs:=by
  refine Nus.of ?_;exact hG'.down.ps.on
 obtain ⟨hcs,hcl⟩:=zlF hR'.down hh.down.h.wa;have k0:(m++Blk.cells true [miV X aw uw sv mv qv hv]::(g1++g2))[m.length]? =some (.cells true [miV X aw uw sv mv qv hv]):=by simp
 have kg:Grow m (m++Blk.cells true [miV X aw uw sv mv qv hv]::(g1++g2)):=⟨_,rfl⟩
 generalize (m++Blk.cells true [miV X aw uw sv mv qv hv]::(g1++g2))=M0 at hN k0 kg ⊢
 have hN':=zU hN;have kg':=zU kg;have hfl:X.qs.flatten.length<=16384:=hg'.down.2.2.1;have hql:X.qs.length<=4:=hg'.down.2.1;have hcs':=zU hcs;have hb:=hh.down.wk;have hna:=hR'.down.1.na;clear hG' hN kg hcs;refine range (α:=Unit) X.H.ns (fun _=>[(54,sv),(1,.ptr m.length 0 0),(3,yv)]) (fun k _ M=>(∃g,M=M0++g)/\ ∀i,i<k->(X.H.sp i).swept=true) () ⟨⟨[],by simp⟩,fun i h=>absurd h (Nat.not_lt_zero _)⟩ ?_ ?_
 ·rintro k _ fr _ hk F ⟨⟨g,rfl⟩,hs⟩
  have hs':=zU hs;have B:=((hh.down.h.s.s.grow kg'.down).app (g:=g)).ar;have hsp:=(hh.down.h.s.e k hk)
  have c1:=hsp.a.ar.2.1;have c2:=hsp.k.ar.2.1;clear hs A1 A3 A4 A5 A6 hsp;cases hsw:(X.H.sp k).swept with
  |true=>
   refine am ?_;refine ⟨(),zg,⟨_,rfl⟩,fun i hi=> ?_⟩
   by_cases e:i=k
   ·subst e;exact hsw
   ·exact hs'.down i (by omega)
  |false=>
   have no:PLift (¬ Q):=⟨fun e=>by
    have:=(hQ.down.1 e).2.2.2.2.1 k hk;rw [hsw] at this;cases this⟩
   refine am ?_;exact ⟨.inr ⟨no.down,rfl⟩,kg'.down.app⟩
 rintro _ fr _ F ⟨⟨g3,rfl⟩,hs⟩;have hs':PLift X.H.swept:=⟨hs⟩
 have hN1:Nus (M0++g3) yv X.H.cs:=hN'.down.app;have kg1:Grow m (M0++g3):=kg'.down.app;have k1:=zb (g:=g3) k0;clear hs hN' kg' k0
 generalize M0++g3=M1 at hN1 kg1 k1 ⊢
 have hN1':=zU hN1;have kg1':=zU kg1;have lnm:X.nm<=129:=by have:=b2'.down;unfold nwm at this;omega
 clear hN1 kg1 A1 A3 A4 A5 A6;refine am ?_
 let I:=fun (d:Nat) (fr:Frame) (M:Mem)=> ∃i:Nat,i<=64*X.nm/\d=64*X.nm-i/\(∀j,j<i->bit X.mw j=true->2*j∈X.H.cs)/\Has fr [(1,.ptr m.length 0 0),(3,yv),(7,.int .i64 (i:Nat))]/\M=M1
 refine zO I ?_ (64*X.nm) ⟨0,Nat.zero_le _,rfl,fun j h=>absurd h (Nat.not_lt_zero _),zg,rfl⟩;rintro d fr M ⟨i,hi,rfl,hmk,F,eM⟩;rw [eM];clear eM M;have hmk':=zU hmk;clear hmk;have A4:=(hh.down.k.grow kg1'.down).ar;have w4:IntKind.i64.wrap (64*(X.nm:Int))=((64*X.nm:Nat):Int):=by rw [wrap_i64]<;>omega
 by_cases hlt:i<64*X.nm
 ·have c1:((i:Int)<((64*X.nm:Nat):Int))=True:=eq_true (by omega)
  have w5:IntKind.i64.wrap (2*(i:Int))=((2*i:Nat):Int):=by rw [wrap_i64]<;>omega
  have w6:=un' (a:=2*i) (by omega);have q1:=q64 (a:=i);have q2:=r64 (a:=i);have w7:=wn (a:=i/64) (by omega);have w8:=un' (a:=i%64) (by omega);have lt:i/64<X.nm:=by omega
  have w9:IntKind.i64.wrap ((i:Int)+1)=((i+1:Nat):Int):=by rw [wrap_i64]<;>omega
  have sr:=zmL (w:=X.mw (i/64)) (k:=i%64) (hb _ lt) (by omega);have t2:((X.mw (i/64) >>> (i%64):Nat):Int).tmod 2=((X.mw (i/64) >>> (i%64)%2:Nat):Int):=znM (b:=2);have bt:= @zk8 (X.mw (i/64)) (i%64);obtain ⟨B,eB⟩: ∃B,bit X.mw i=B:=⟨_,rfl⟩
  have eB2:(X.mw (i/64)).testBit (i%64)=B:=eB;rw [eB2] at bt;have eB':=zU eB;clear eB eB2;cases B with
  |false=>
   have bt2:(((X.mw (i/64) >>> (i%64)%2:Nat):Int)=1)=False:=eq_false (by simpa using bt);clear bt;refine into ?_;refine ⟨_,?_,i+1,by omega,rfl,fun j hj hbj=> ?_,zg,rfl⟩
   ·omega
   ·by_cases e:j=i
    ·subst e;rw [eB'.down] at hbj;cases hbj
    ·exact hmk'.down j (by omega) hbj
  |true=>
   have bt2:(((X.mw (i/64) >>> (i%64)%2:Nat):Int)=1)=True:=eq_true (by simpa using bt);clear bt;refine into ?_;refine (zfU hN1'.down (by omega)).mono ?_;rintro _ M ⟨rfl,e⟩;rw [e];clear e M
   by_cases hm:2*i∈X.H.cs
   ·rw [decide_eq_true hm]
    have hm':=zU hm;clear hm;refine am ?_;refine ⟨_,?_,i+1,by omega,rfl,fun j hj hbj=> ?_,zg,rfl⟩
    ·omega
    ·by_cases e:j=i
     ·subst e;exact hm'.down
     ·exact hmk'.down j (by omega) hbj
   ·have no:PLift (¬ Q):=⟨fun e=>hm ((hQ.down.1 e).2.2.2.2.2.1 i hlt eB'.down)⟩
    rw [decide_eq_false hm];clear hm;refine am ?_;exact ⟨.inr ⟨no.down,rfl⟩,kg1'.down⟩
 have c1:((i:Int)<((64*X.nm:Nat):Int))=False:=eq_false (by omega);have hm':PLift (zgW X.H X.nm X.mw):=⟨fun j hj=>hmk'.down j (by omega)⟩
 have A5:=(hh.down.q.s.grow kg1'.down).ar;clear hlt hmk';refine into ?_;refine range (α:=Unit) X.qs.length (fun _=>[(95,qv),(1,.ptr m.length 0 0),(3,yv)]) (fun k _ M=>M=M1/\ ∀i,i<k-> ∀a,a∈qat X.qs i->a∈X.H.cs) () ⟨rfl,fun i h=>absurd h (Nat.not_lt_zero _)⟩ ?_ ?_
 ·rintro k _ fr M hk F ⟨eM,hal⟩
  rw [eM];clear eM M;have hal':=zU hal;have hqk:=(hh.down.q.e k hk).grow kg1'.down;have B:=hqk.ar;have c2:=B.2.1;have hle:(qat X.qs k).length<=16384:=Nat.le_trans (zgV hk) hfl;clear hal hqk;refine am ?_;refine range (α:=Unit) (qat X.qs k).length (fun _=>[(95,qv),(96,.int .i64 (X.qs.length:Nat)),(97,.int .i64 (k:Nat)),(101,vs k),(1,.ptr m.length 0 0),(3,yv)]) (fun j _ M=>M=M1/\ ∀i,i<j->nx (qat X.qs k) i∈X.H.cs) () ⟨rfl,fun i h=>absurd h (Nat.not_lt_zero _)⟩ ?_ ?_
  ·rintro j _ fr M hj F ⟨eM,hj2⟩
   rw [eM];clear eM M;have hj2':=zU hj2;clear hj2;refine am ?_;refine (zfU hN1'.down (by omega)).mono ?_;rintro _ M ⟨rfl,e⟩;rw [e];clear e M
   by_cases hm:nx (qat X.qs k) j∈X.H.cs
   ·rw [decide_eq_true hm]
    have hm':=zU hm;clear hm;refine am ?_;refine ⟨(),zg,rfl,fun i hi=> ?_⟩
    by_cases e:i=j
    ·subst e;exact hm'.down
    ·exact hj2'.down i (by omega)
   ·have no:PLift (¬ Q):=⟨fun e=>hm ((hQ.down.1 e).2.2.2.2.2.2.1 _ (zd6.2 ⟨k,hk,za4 hj⟩))⟩
    rw [decide_eq_false hm];clear hm;refine am ?_;exact ⟨.inr ⟨no.down,rfl⟩,kg1'.down⟩
  ·rintro _ fr M F ⟨eM,hj2⟩
   rw [eM];clear eM M;have hj2':=zU hj2;clear hj2;refine am ?_;refine ⟨(),zg,rfl,fun i hi=> ?_⟩
   by_cases e:i=k
   ·subst e
    intro a ha;obtain ⟨j,hj,e⟩:=zd4 ha;rw [<-e];exact hj2'.down j hj
   ·exact hal'.down i (by omega)
 rintro _ fr M F ⟨eM,hal⟩;rw [eM];clear eM M;have hq':PLift (∀a,a∈X.qs.flatten->a∈X.H.cs):=⟨fun a ha=>by
  obtain ⟨i,hi,h⟩:=zd6.1 ha;exact hal i hi a h⟩
 have A6:=(hh.down.d.grow kg1'.down).ar;clear hal;refine am ?_;refine range (α:=Unit) X.hs.length (fun _=>[(114,hv),(1,.ptr m.length 0 0),(3,yv)]) (fun k _ M=>(∃g,M=M1++g)/\ ∀i,i<k->zco X.H (hat X.hs i)) () ⟨⟨[],by simp⟩,fun i h=>absurd h (Nat.not_lt_zero _)⟩ ?_ ?_
 ·rintro k _ fr _ hk F ⟨⟨g,rfl⟩,hal⟩
  have hal':=zU hal;have B:=((hh.down.d.grow kg1'.down).app (g:=g)).ar;have s1:=zb (g:=g) k1;have hpr:zbQ M1 aw uw sv va vm X.H:=by
   obtain ⟨g0,e0⟩:=kg1'.down;rw [e0];exact hh.down.h.app
  have hpr':=zU hpr;have mc:=A4.2.1;have qc:=A5.2.1;have hc:=A6.2.1;clear hal hpr A4 A5 A6;refine am ?_;refine (zwj (x:=hat X.hs k) hpr'.down.app hR'.down mc qc hc hN1'.down.app).mono ?_;rintro _ _ ⟨⟨ho,rfl⟩|⟨ho,rfl⟩,⟨g8,rfl⟩⟩
  ·have ho':=zU ho
   clear ho;refine am ?_;refine ⟨(),zg,⟨_,rfl⟩,fun i hi=> ?_⟩
   by_cases e:i=k
   ·subst e;exact ho'.down
   ·exact hal'.down i (by omega)
  ·have no:PLift (¬ Q):=⟨fun e=>ho ((hQ.down.1 e).2.2.2.2.2.2.2 k hk)⟩
   clear ho;refine am ?_;exact ⟨.inr ⟨no.down,rfl⟩,kg1'.down.app⟩
 ·rintro _ fr _ F ⟨⟨g,rfl⟩,hal⟩
  have y:PLift Q:=⟨hQ.down.2 ⟨hR'.down,hg'.down,b1'.down,b2'.down,hs'.down,hm'.down,hq'.down,hal⟩⟩
  clear hal;refine am ?_;exact ⟨.inl ⟨y.down,rfl⟩,kg1'.down.app⟩
end Go.AM.G
