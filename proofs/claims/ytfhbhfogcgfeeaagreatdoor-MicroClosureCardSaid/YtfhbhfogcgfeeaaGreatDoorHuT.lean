import Derived.Test.YtfhbhfogcgfeeaaGreatDoorHuQ
set_option linter.unusedVariables false
set_option linter.unusedSimpArgs false
set_option maxRecDepth 100000
namespace Go.AM.G
open Go Go.AM
theorem zsf {m:Mem}{x:zak}{va vm:V}(ha:va.isCell=true) (hb:vm.isCell=true):C S zg6 [.agg (zaS x va vm)] m (fun r m'=>r= .bool (!x.swept)/\Grow m m'):=by
 refine fn rfl ?_;exact ⟨_,rfl⟩
theorem znP {m:Mem}{aw uw sv:V}{va vm:Nat->V}{H:zl}(h:zcY m aw uw sv va vm H):C S zfS [.agg (zB H aw uw sv)] m (fun r m'=>okB H.swept r/\Grow m m'):=by
 have A:=h.a.ar.2.1;have B:=h.u.ar.2.1;have D:=h.s.s.ar.2.1;have hh:=zU h;obtain ⟨Q,eQ⟩: ∃Q,H.swept=Q:=⟨_,rfl⟩
 have hQ:PLift (Q↔ ∀i,i<H.ns->(H.sp i).swept=true):=⟨by rw [<-eQ];rfl⟩
 have ls:=h.ls;rw [eQ];clear h eQ;refine fn rfl ?_;refine (znH (arg:=fun i=> .agg (zaS (H.sp i) (va i) (vm i))) (p:=fun i=> !(H.sp i).swept) hh.down.s.s.app (fun i hi=>rfl) (by omega) (fun g i hi=> ?_)).mono ?_
 ·rw [ziQ]
  have:=hh.down.s.e i hi;exact zsf this.a.ar.2.1 this.k.ar.2.1
 rintro _ _ ⟨⟨g,rfl⟩,⟨rfl,i,hi,hp⟩|⟨rfl,hn⟩⟩
 ·have no:PLift (¬ Q):=⟨fun e=>by
   have:=hQ.down.1 e i hi;simp [this] at hp⟩
  clear hp;refine am ?_;exact ⟨.inr ⟨no.down,rfl⟩,_,rfl⟩
 ·have y:PLift Q:=⟨hQ.down.2 fun i hi=>by
   have:=hn i hi
   simpa using this⟩
  clear hn;refine am ?_;exact ⟨.inl ⟨y.down,rfl⟩,_,rfl⟩
theorem znQ {m:Mem}{aw uw sv:V}{va vm:Nat->V}{H:zl}(h:zcY m aw uw sv va vm H):C S zfR [.agg (zB H aw uw sv)] m (fun r m'=>r= .int .i64 (nwm H.na:Nat)/\Grow m m'):=by
 have A:=h.a.ar;have B:=h.u.ar.2.1;have D:=h.s.s.ar.2.1;have l:=h.la;have w1:IntKind.i64.wrap ((H.na:Int)+128)=((H.na+128:Nat):Int):=by rw [wrap_i64]<;>omega
 have w2:IntKind.i64.wrap (((H.na+128:Nat):Int)-1)=((H.na+127:Nat):Int):=by rw [wrap_i64]<;>omega
 have q:((H.na+127:Nat):Int).tdiv 128=((nwm H.na:Nat):Int):=zj0 (b:=128);have w3:=wn (a:=nwm H.na) (by unfold nwm;omega);clear h l;refine fn rfl ?_;exact ⟨_,rfl⟩
theorem zsg {m:Mem}{w:Nat}:C S zd9 [.int .u64 (w:Nat)] m (fun r m'=>r= .bool (decide (¬ w=0))/\Grow m m'):=by
 by_cases h:w=0
 ·have c:((w:Int)=0)=True:=eq_true (by omega)
  have d:decide (¬ w=0)=false:=by simp [h]
  rw [d];clear h d;refine fn rfl ?_;exact Grow.refl _
 ·have c:((w:Int)=0)=False:=eq_false (by omega)
  have d:decide (¬ w=0)=true:=by simp [h]
  rw [d];clear h d;refine fn rfl ?_;exact Grow.refl _
def clr (mk x:Nat->Nat) (cs:List Nat) (k:Nat):Prop:= ∀i,bit x i=(bit mk i&& !decide (∃j,j<k/\nx cs j/2=i))
theorem zts {M:Mem}{P n:Nat}{own:Bool} {c0 c1 c2 c3 mv c5 c6 yv:V}{mk:Nat->Nat}{cs:List Nat}(hP:M[P]? =some (.cells own [[c0,c1,c2,c3,mv,c5,c6]])) (hm:Rd M mv 1 n (zG mk)) (hw:w64 n mk) (h0:0<n) (hn:n<1000000) (hy:Nus M yv cs) (hl:cs.length<1000000) (hc: ∀a,a∈cs->a<16384/\a/2/64<n/\a%2=0):
  C S zeV [.ptr P 0 0,yv] M (fun r m'=>okB (∀i,i<64*n->bit mk i=true->2*i∈cs) r/\Grow M m'):=by
 have A:=hm.ar.2.1;have B:=hy.ar.2.1;have hm':=zU hm;have hy':=zU hy;have hc':=zU hc;have ly:=hy.ar.1;obtain ⟨Q,eQ⟩: ∃Q,(∀i,i<64*n->bit mk i=true->2*i∈cs)=Q:=⟨_,rfl⟩
 have eQ':=zU eQ;rw [eQ];clear hm hy hc eQ;refine fn rfl ?_;refine (zc1 (zk3.2 hm'.down) (by simp;omega)).mono ?_;rintro r _ ⟨g,rfl,hG⟩;obtain ⟨q1,q2⟩:=hG.gm;obtain ⟨b,eb,hb⟩:=q1.pos (by simpa using h0);have hrow:(M++g)[b]? =some (.cells true (zJ n (zG mk))):=by
  rw [hb,zD,List.map_map];rfl
 have hMb:M.length<=b:=q2 b (by rw [eb];rfl);have el:((List.range n).map mk).length=n:=by simp
 rw [el] at eb;subst eb;have hg:Grow M (M++g):=⟨g,rfl⟩
 generalize M++g=M1 at hrow hg ⊢
 have hrow':=zU hrow;have hg':=zU hg;clear hG q1 q2 hb hrow hg el;refine am ?_;refine range (α:=Nat->Nat) cs.length (fun _=>[(16,yv),(5,.slice b 0 n n false 1)]) (fun k x M'=>Grow M M'/\M'[b]? =some (.cells true (zJ n (zG x)))/\w64 n x/\clr mk x cs k) mk ⟨hg'.down,hrow'.down,hw,fun i=>by simp⟩ ?_ ?_
 ·rintro k x fr M' hk F ⟨hg,hr,hx,hbx⟩
  have C1:=(hy'.down.grow hg).ar;obtain ⟨p1,p2,p3⟩:=hc'.down _ (zaH hk);obtain ⟨a,ea⟩: ∃a,nx cs k=a:=⟨_,rfl⟩
  have ix0:=C1.2.2.2.1 .i64 k hk;have ld0:zaq M' none (atp yv k 0)=some (.int .u64 (nx cs k:Nat)):=C1.2.2.2.2 k 0 none hk;rw [ea] at p1 p2 p3 ld0;have i1:= @zcx n (a/2/64) (zG x);have i2:= @zdZ n (a/2/64) 1 (zG x);have ix:= @zcT b 0 n n (a/2/64) 1 false .i64 p2;have e1:= @ztN (x (a/2/64)) (2^(a/2%64));have e2:up (zG x) (a/2/64) [.int .u64 ((andNot (x (a/2/64)) (2^(a/2%64)):Nat):Int)]=zG (za7 x (a/2) false):=by
   rw [zpY];rfl
  have hg':=zU hg;have hx':=zU hx;have hbx':=zU hbx;have PL:=zfe (m:=M') (a:=a) (by omega);have PL':=zU PL;have ea':=zU ea;clear C1 hg hx hbx PL ea;refine am ?_;refine PL'.down.mono ?_;rintro _ M2 ⟨rfl,e3⟩;rw [e3];clear e3 M2;refine am ?_;refine ⟨za7 x (a/2) false,zh,Grow.set hg'.down hMb _,?_,zhS hx'.down,fun i=> ?_⟩
  ·exact zaU hr
  ·rw [za9 (n:=n) hx'.down (by omega),hbx'.down]
   by_cases e:i=a/2
   ·rw [if_pos e]
    have: ∃j,j<k+1/\nx cs j/2=i:=⟨k,by omega,by rw [ea'.down];exact e.symm⟩
    rw [decide_eq_true this]
    simp
   ·rw [if_neg e]
    congr 2
    apply decide_eq_decide.2;constructor
    ·rintro ⟨j,h1,h2⟩
     exact ⟨j,by omega,h2⟩
    ·rintro ⟨j,h1,h2⟩
     by_cases ej:j=k
     ·subst ej;rw [ea'.down] at h2;exact absurd h2.symm e
     ·exact ⟨j,by omega,h2⟩
 ·rintro x fr M' F ⟨hg,hr,hx,hbx⟩
  have hrd:Rd M' (.slice b 0 n n false 1) 1 n (zG x):=by
   refine .inl ?_;have:=Sl.mk (cap:=n) (z:=1) (ex:=false) hr;rw [List.length_map,List.length_range] at this;exact this
  have hQ:PLift (Q↔ ∀i,i<n->x i=0):=⟨by
   rw [<-eQ'.down];have h0:w64 n (fun _=>0):=fun _ _=>(by decide:0<18446744073709551616)
   have:=zjA (n:=n) hx h0;rw [this];constructor
   ·intro h i hi
    rw [hbx];have hz:bit (fun _=>0) i=false:=by simp [bit]
    rw [hz]
    by_cases hb:bit mk i=true
    ·obtain ⟨j,hj,e⟩:=zeA (h i hi hb)
     rw [decide_eq_true ⟨j,hj,by omega⟩]
     simp
    ·simp [Bool.not_eq_true _▸hb]
   ·intro h i hi hb
    have h2:=h i hi;have hz:bit (fun _=>0) i=false:=by simp [bit]
    rw [hbx,hb,hz] at h2;simp only [Bool.true_and,Bool.not_eq_false',decide_eq_true_eq] at h2;obtain ⟨j,hj,e⟩:=h2;have hm:=zaH hj;have:=(hc'.down _ hm).2.2;rw [show 2*i=nx cs j by omega];exact hm⟩
  have hrd':=zU hrd;have hg':=zU hg;clear hrd hg hbx hx;refine am ?_;refine (zgw (arg:=fun i=> .int .u64 (x i:Nat)) (p:=fun i=>decide (¬ x i=0)) hrd'.down (fun i hi=>rfl) (by omega) (fun g i hi=> ?_)).mono ?_
  ·rw [ziQ]
   exact zsg
  rintro _ _ ⟨⟨g2,rfl⟩,⟨rfl,i,hi,hp⟩|⟨rfl,hno⟩⟩
  ·have no:PLift (¬ Q):=⟨fun e=>by
    have:=hQ.down.1 e i hi;simp [this] at hp⟩
   clear hp;refine am ?_;exact ⟨.inr ⟨no.down,rfl⟩,hg'.down.app⟩
  ·have y:PLift Q:=⟨hQ.down.2 fun i hi=>by
    have:=hno i hi
    simpa using this⟩
   clear hno;refine am ?_;exact ⟨.inl ⟨y.down,rfl⟩,hg'.down.app⟩
theorem zfK {m:Mem} {aw uw sv mv qv hv:V}{va vm vs:Nat->V}{X:MiA}(h:zfi m aw uw sv mv qv hv va vm vs X):C S zcI [.agg (miV X aw uw sv mv qv hv)] m (fun r m'=>okE X.ok r/\Grow m m'):=by
 have A1:=h.h.a.ar.2.1;have A2:=h.h.u.ar.2.1;have A3:=h.h.s.s.ar.2.1;have A4:=h.k.ar;have A5:=h.q.s.ar;have A6:=h.d.ar;have bm:=h.bm;have hh:=zU h;obtain ⟨Q,eQ⟩: ∃Q,X.ok=Q:=⟨_,rfl⟩
 have hQ:PLift (Q↔X.H.right/\gOk X.qs/\X.hs.length=X.qs.length/\X.nm=nwm X.H.na/\X.H.swept/\zkv X.H X.nm X.mw/\(∀a,a∈X.qs.flatten->a∈X.H.cs)/\ ∀i,i<X.hs.length->zd1 X.H (hat X.hs i)):=⟨by rw [<-eQ];rfl⟩
 have lq:=h.lq;have ld:=h.ld;have lk:=h.lk;rw [eQ];clear h eQ;refine fn rfl ?_;refine (zgY hh.down.h.app).mono ?_;rintro _ _ (⟨hR,g1,yv,rfl,rfl,hG⟩|⟨hR,rfl,⟨g1,rfl⟩⟩)
 case inr=>
  have no:PLift (¬ Q):=⟨fun e=>hR (hQ.down.1 e).1⟩
  clear hR;refine am ?_;exact ⟨.inr ⟨no.down,rfl⟩,_,rfl⟩
 have hR':=zU hR;have hG':=zU hG;have yc:=hG.cell;clear hR hG;refine am ?_;refine (zfI hh.down.q.app (by omega)).mono ?_;rintro _ _ ⟨⟨hg,rfl⟩|⟨hg,rfl⟩,⟨g2,rfl⟩⟩
 case inr=>
  have no:PLift (¬ Q):=⟨fun e=>hg (hQ.down.1 e).2.1⟩
  clear hg;refine am ?_;exact ⟨.inr ⟨no.down,rfl⟩,_,rfl⟩
 have hg':=zU hg;clear hg
 by_cases b1:X.hs.length=X.qs.length
 case neg=>
  have e1:((X.hs.length:Int)=(X.qs.length:Int))=False:=eq_false (by omega);have no:PLift (¬ Q):=⟨fun e=>b1 (hQ.down.1 e).2.2.1⟩
  clear b1;refine am ?_;exact ⟨.inr ⟨no.down,rfl⟩,_,rfl⟩
 have e1:((X.hs.length:Int)=(X.qs.length:Int))=True:=eq_true (by omega);have b1':=zU b1;clear b1;refine am ?_;refine (znQ hh.down.h.app).mono ?_;rintro _ _ ⟨rfl,⟨g3,rfl⟩⟩
 by_cases b2:X.nm=nwm X.H.na
 case neg=>
  have e2:((X.nm:Int)=((nwm X.H.na:Nat):Int))=False:=eq_false (by omega);have no:PLift (¬ Q):=⟨fun e=>b2 (hQ.down.1 e).2.2.2.1⟩
  clear b2;refine am ?_;exact ⟨.inr ⟨no.down,rfl⟩,_,rfl⟩
 have e2:((X.nm:Int)=((nwm X.H.na:Nat):Int))=True:=eq_true (by omega);have b2':=zU b2;clear b2;refine am ?_;refine (znP hh.down.h.app).mono ?_;rintro _ _ ⟨⟨hs,rfl⟩|⟨hs,rfl⟩,⟨g4,rfl⟩⟩
 case inr=>
  have no:PLift (¬ Q):=⟨fun e=>hs (hQ.down.1 e).2.2.2.2.1⟩
  clear hs;refine am ?_;exact ⟨.inr ⟨no.down,rfl⟩,_,rfl⟩
 have hs':=zU hs;clear hs;refine am ?_;have key: ∃P M0,m.length+(g1.length+(g2.length+(g3.length+g4.length))+1)=P/\m++Blk.cells true [miV X aw uw sv mv qv hv]::(g1++(g2++(g3++(g4++[Blk.cells true [miV X aw uw sv mv qv hv],Blk.cells true [[V.ptr P 0 0]],Blk.cells true [[yv]]]))))=M0/\
   m.length+(g1.length+(g2.length+(g3.length+(g4.length+1)))+1)=P+1/\m.length+(g1.length+(g2.length+(g3.length+(g4.length+2)))+1)=P+2/\
   M0[m.length]? =some (.cells true [miV X aw uw sv mv qv hv])/\M0[P]? =some (.cells true [miV X aw uw sv mv qv hv])/\M0[P+1]? =some (.cells true [[.ptr P 0 0]])/\M0[P+2]? =some (.cells true [[yv]])/\Grow m M0/\Nus M0 yv X.H.cs:=by
  refine ⟨_,_,rfl,rfl,by omega,by omega,by rw [zaa];rfl,?_,?_,?_,⟨_,rfl⟩,?_⟩
  ·rw [zi,zb9,zi,zi,zi,zaa];rfl
  ·rw [show m.length+(g1.length+(g2.length+(g3.length+g4.length))+1)+1=m.length+(g1.length+(g2.length+(g3.length+(g4.length+1)))+1) by omega,zi,zb9,zi,zi,zi,zi];rfl
  ·rw [show m.length+(g1.length+(g2.length+(g3.length+g4.length))+1)+2=m.length+(g1.length+(g2.length+(g3.length+(g4.length+2)))+1) by omega,zi,zb9,zi,zi,zi,zi];rfl
  ·refine Nus.of ?_
   exact hG'.down.ps.on
 obtain ⟨P,M0,eP,eM,eP1,eP2,k00,k0,k1,k2,k3,k4⟩:=key;have k3':=zU k3;have k4':=zU k4;obtain ⟨cs,ecs⟩: ∃cs,X.H.cs=cs:=⟨_,rfl⟩
 have ecs':=zU ecs;obtain ⟨hcs,hcl⟩:=zjH hR'.down hh.down.h.wa;have hcs':=zU hcs;have hfl:X.qs.flatten.length<=16384:=hg'.down.2.2.1;have hql:X.qs.length<=4:=hg'.down.2.1;clear hG' k3 k4 ecs hcs;refine am ?_;clear eM eP eP1 eP2;refine (zhP (vs:=vs) (ls:=qat X.qs) (hh.down.q.s.grow k3'.down) (fun i hi=>(hh.down.q.e i hi).grow k3'.down) (by omega) (by rw [zmm];omega)).mono ?_;rintro qc _ ⟨g5,rfl,hC⟩;rw [zmm] at hC;have hCs:Nus (M0++g5) qc X.qs.flatten:=by
  refine Nus.of ?_;exact hC.ps.on (by exact AtM.end)
 have qcc:=hC.cell;have hCs':=zU hCs;have u00:=zb (g:=g5) k00;have u0:=zb (g:=g5) k0;have u1:=zb (g:=g5) k1;have u2:=zb (g:=g5) k2;have pos:=(zse hR'.down.1)
 have hna:=hR'.down.1.na;have MK:=zts (n:=X.nm) (mk:=X.mw) u0 (hh.down.k.grow k3'.down).app hh.down.wk (by have:=b2'.down;unfold nwm at this;omega) (by have:=b2'.down;unfold nwm at this;omega) (k4'.down.app) (by omega) (fun a ha=>by
  obtain ⟨p1,p2⟩:=zcR hR'.down hh.down.h.wa ha;exact ⟨p1,by rw [b2'.down];exact p2,zfJ hR'.down.1 ha⟩)
 have MK':=zU MK;clear hC hCs MK pos;refine am ?_;refine MK'.down.mono ?_;rintro _ _ ⟨⟨hm,rfl⟩|⟨hm,rfl⟩,⟨g6,rfl⟩⟩
 case inr=>
  have no:PLift (¬ Q):=⟨fun e=>hm (hQ.down.1 e).2.2.2.2.2.1⟩
  have hg:=k3'.down;clear hm MK';have hg2:=zU ((hg.app (g:=g5)).app (g:=g6));clear hg;refine am ?_;exact ⟨.inr ⟨no.down,rfl⟩,by have:=hg2.down;simpa only [List.append_assoc] using this⟩
 have hm':=zU hm;have t1:=zb (g:=g6) u1;have t2:=zb (g:=g6) u2;have t0:=zb (g:=g6) u0;have t00:=zb (g:=g6) u00;have hy2:Nus (M0++g5++g6) yv X.H.cs:=(k4'.down.app).app;have hg2:Grow m (M0++g5++g6):=(k3'.down.app).app;have hCs2:Nus (M0++g5++g6) qc X.qs.flatten:=hCs'.down.app;clear hm MK' hCs' u00 u0 u1 u2 k00 k0 k1 k2
 generalize M0++g5++g6=M1 at t00 t0 t1 t2 hy2 hg2 hCs2 ⊢
 have hy2':=zU hy2;have hg2':=zU hg2;have hCs2':=zU hCs2;clear hy2 hg2 hCs2;refine am ?_;refine (zgw (arg:=fun i=> .int .u64 (nx X.qs.flatten i:Nat)) (p:=fun i=> !decide (nx X.qs.flatten i∈X.H.cs)) hCs2'.down (fun i hi=>rfl) (by omega) (fun g i hi=> ?_)).mono ?_
 ·rw [ziQ]
  have t2':=zb (g:=g) t2;have hl:X.H.cs.length<1000000:=by omega
  have Y:=zU (zZ (a:=nx X.qs.flatten i) (hy2'.down.app (g:=g)) hcs'.down hl);dsimp only
  generalize decide (nx X.qs.flatten i∈X.H.cs)=D at Y ⊢
  clear hCs2' t00 t0 t1 t2;refine fn rfl ?_;refine Y.down.mono ?_;rintro _ _ ⟨rfl,⟨g7,rfl⟩⟩;refine am ?_;exact ⟨g7,by simp⟩
 rintro _ _ ⟨⟨g7,rfl⟩,⟨rfl,i,hi,hp⟩|⟨rfl,hno⟩⟩
 ·have no:PLift (¬ Q):=⟨fun e=>by
   have:=(hQ.down.1 e).2.2.2.2.2.2.1 _ (zaH hi);simp [this] at hp⟩
  clear hp;refine am ?_;exact ⟨.inr ⟨no.down,rfl⟩,hg2'.down.app⟩
 have hq':PLift (∀a,a∈X.qs.flatten->a∈X.H.cs):=⟨fun a ha=>by
  obtain ⟨i,hi,e⟩:=zeA ha;have:=hno i hi;rw [e] at this
  simpa using this⟩
 have s00:=zb (g:=g7) t00;have s0:=zb (g:=g7) t0;have s1:=zb (g:=g7) t1;have s2:=zb (g:=g7) t2;have hy3:Nus (M1++g7) yv X.H.cs:=hy2'.down.app;have hg3:Grow m (M1++g7):=hg2'.down.app;clear hno hCs2' t00 t0 t1 t2 hy2' hg2'
 generalize M1++g7=M2 at s00 s0 s1 s2 hy3 hg3 ⊢
 have hy3':=zU hy3;have hg3':=zU hg3;have A7:=(hh.down.d.grow hg3).ar;clear hy3 hg3;refine am ?_;have dec: ∀P:Prop,Nonempty (Decidable P):=fun P=>⟨Classical.propDecidable P⟩
 have hc7: ∀i,Nonempty (Decidable (zd1 X.H (hat X.hs i))):=fun i=>dec _
 refine (zeB (arg:=fun i=> .agg (zH (hat X.hs i))) (p:=fun i=> !(@decide (zd1 X.H (hat X.hs i)) (Classical.propDecidable _))) (hh.down.d.grow hg3'.down) (fun i hi=>rfl) (by omega) (fun g i hi=> ?_)).mono ?_
 ·rw [ziQ]
  have hpr:zcY M2 aw uw sv va vm X.H:=by
   obtain ⟨g0,e0⟩:=hg3'.down;rw [e0];exact hh.down.h.app
  have hpr':=zU hpr;dsimp only;obtain ⟨D,eD⟩: ∃D,@decide (zd1 X.H (hat X.hs i)) (Classical.propDecidable _)=D:=⟨_,rfl⟩
  have eD':=zU eD;rw [eD];clear hpr A7 s00 eD hc7 dec;refine fn rfl ?_;refine (zvy (own:=true) (x:=hat X.hs i) hpr'.down.app hR'.down (zb s0) hy3'.down.app).mono ?_;rintro _ _ ⟨⟨ho,rfl⟩|⟨ho,rfl⟩,⟨g8,rfl⟩⟩
  ·have:PLift (D=true):=⟨by rw [<-eD'.down];exact @decide_eq_true _ (Classical.propDecidable _) ho⟩
   clear ho;refine am ?_;rw [this.down];exact ⟨rfl,.cells true [zH (hat X.hs i)]::g8,by simp⟩
  ·have:PLift (D=false):=⟨by rw [<-eD'.down];exact @decide_eq_false _ (Classical.propDecidable _) ho⟩
   clear ho;refine am ?_;rw [this.down];exact ⟨rfl,.cells true [zH (hat X.hs i)]::g8,by simp⟩
 rintro _ _ ⟨⟨g8,rfl⟩,⟨rfl,i,hi,hp⟩|⟨rfl,hno⟩⟩
 ·have no:PLift (¬ Q):=⟨fun e=>by
   have h2:=(hQ.down.1 e).2.2.2.2.2.2.2 i hi;rw [@decide_eq_true _ (Classical.propDecidable _) h2] at hp;cases hp⟩
  clear hp hc7 dec;refine am ?_;exact ⟨.inr ⟨no.down,rfl⟩,hg3'.down.app⟩
 ·have y:PLift Q:=⟨hQ.down.2 ⟨hR'.down,hg'.down,b1'.down,b2'.down,hs'.down,hm'.down,hq'.down,fun i hi=>by
   have h2:=hno i hi;rw [Bool.not_eq_false'] at h2;exact @of_decide_eq_true _ (Classical.propDecidable _) h2⟩⟩
  clear hno hc7 dec;refine am ?_;exact ⟨.inl ⟨y.down,rfl⟩,hg3'.down.app⟩
end Go.AM.G
