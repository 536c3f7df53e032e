import Derived.Test.YtfhbhfogcgfeeaaGreatDoorHuJ
set_option linter.unusedVariables false
set_option linter.unusedSimpArgs false
set_option maxRecDepth 100000
namespace Go.AM.G
open Go Go.AM
theorem Loc.mono {F F':Nat->Prop}{M:Mem}{P:Mem->Prop}(h:Loc F M P) (k: ∀b,F b->F' b):Loc F' M P:=fun M' h'=>h M' fun b x hb hx=>h' b x (k b hb) hx
theorem AtM.of {m g M:Mem}(h:AtM m.length g M): ∀c y,m.length<=c->(m++g)[c]? =some y->M[c]? =some y:=fun c y hc hy=>by
 obtain ⟨j,rfl⟩: ∃j,c=m.length+j:=⟨c-m.length,by omega⟩
 rw [zh] at hy;exact h j y hy
theorem AtM.end {M g:Mem}:AtM M.length g (M++g):=by
 have:=AtM.left (A:=M) (AtM.here (g:=g))
 rwa [Nat.add_zero] at this
def SpR (m m':Mem) (v:V) (n:Nat) (sp:Nat->zW):Prop:= ∃g va vm,m'=m++g/\v.isCell=true/\V.beq v v=true/\Ps m.length g (fun M=>zh5 M v n sp va vm)
abbrev zSp:List V:=[.int .i64 0,.int .i64 0,.int .i64 0,.int .i64 0,.nils,.int .i64 0,.nils,.bool false]
theorem zs8 {m:Mem}{v:V}{n:Nat}{f:Nat->List V}(hv:Rd m v 8 n f) (hn:n<1000000000):C S zed [v] m (fun r m'=> ∃g,m'=m++g/\In m.length g r 8 (zG n f)):=by
 have hl:(zG n f).length=n:=by simp
 rcases hv with hv|⟨rfl,rfl⟩
 ·rcases hv.cases with ⟨rfl,he⟩|⟨b,i,len,cap,ex,rfl⟩
  ·clear he
   refine fn rfl ?_;exact ⟨[],by simp,.mk ⟨by rw [List.append_nil];exact hv,.inl rfl⟩⟩
  ·obtain ⟨v',m',a1,⟨g,rfl⟩,a3⟩:=zgj (zero:=zSp) (bytes:=96) hv rfl (by decide) (by rw [hl];omega)
   have a3':=zU a3;clear a3;refine fn rfl ?_;exact ⟨g,rfl,.mk a3'.down⟩
 ·refine fn rfl ?_
  exact ⟨.slice m.length 0 0 0 true 8,m++[.cells true []],by simp [zL,zcQ,zOk],[.cells true []],rfl,.mk ⟨Sl.mk (els:=[]) (own:=true) (by simp),.inr ⟨_,_,_,Nat.le_refl _,rfl,by simp⟩⟩⟩
theorem zAM {sp:Nat->zW}{va vm:Nat->V}{k:Nat}{a b:V}:up (fun i=>zQ (sp i) (va i) (vm i)) k (zQ (sp k) a b)=fun i=>zQ (sp i) (up va k a i) (up vm k b i):=by
 funext i
 by_cases e:i=k
 ·subst e;simp [zF]
 ·simp [zab e]
theorem zwe {m:Mem}{v:V}{n:Nat}{sp:Nat->zW}{va vm:Nat->V}(h:zh5 m v n sp va vm) (hn:n<1000000000) (hp: ∀i,i<n->0<(sp i).mr.n):C S zju [v] m (fun r m'=>SpR m m' r n sp):=by
 have hc:=h.s.ar.2.1;have hh:=zU h;have hp':=zU hp;clear h hp;refine fn rfl ?_;refine (zs8 hh.down.s hn).mono ?_;rintro r _ ⟨g0,rfl,hi⟩;have rc:=hi.cell;have rl:zg1 r=some (.int .i64 (n:Int)):=by have:=hi.len;simpa using this
 have rb:=(hi.ps.on (M:=m++g0) (by exact AtM.end)).beq';have rz:=(hi.ps.on (M:=m++g0) (by exact AtM.end)).2;rcases hi.cases with ⟨rfl,e⟩|⟨L0,R0,cap,ex,rfl,rfl⟩
 ·have e0:n=0:=by have:=congrArg List.length e;simpa using this
  subst e0;clear hi e;refine am ?_;refine range (α:=Unit) 0 (fun _=>[(0,.nils)]) (fun _ _ M=>M=m++g0) () rfl (fun k _ _ _ hk=>absurd hk (Nat.not_lt_zero _)) ?_;rintro _ fr _ F rfl;refine am ?_;exact ⟨g0,fun _=> .nils,fun _=> .nils,rfl,rfl,rfl,fun M _=>⟨.inl ⟨rfl,rfl⟩,fun i h=>absurd h (Nat.not_lt_zero _)⟩⟩
 rw [List.length_map,List.length_range] at rl rb rz rc ⊢;clear hi;obtain ⟨b,eb⟩: ∃b,m.length+L0.length=b:=⟨_,rfl⟩
 have hrow:(m++(L0++ .cells true (zG n fun i=>zQ (sp i) (va i) (vm i))::R0))[b]? =some (.cells true (zG n fun i=>zQ (sp i) (va i) (vm i))):=by rw [<-eb];simp [zh]
 have hg:Grow m (m++(L0++ .cells true (zG n fun i=>zQ (sp i) (va i) (vm i))::R0)):=⟨_,rfl⟩
 rw [eb] at rl rb rz rc ⊢
 generalize (m++(L0++ .cells true (zG n fun i=>zQ (sp i) (va i) (vm i))::R0))=M0 at hrow hg ⊢
 have hmb:m.length<=b:=by omega
 clear eb;have hg':=zU hg;have hrow':=zU hrow;clear hg hrow;refine am ?_;refine range (α:=(Nat->V)×(Nat->V)) n (fun _=>[(0,.slice b 0 n cap ex 8)]) (fun k x M=>Grow m M/\M[b]? =some (.cells true (zG n fun i=>zQ (sp i) (x.1 i) (x.2 i)))/\(∀i,k<=i->x.1 i=va i/\x.2 i=vm i)/\ ∀i,i<k->Loc (fun c=>m.length<=c/\c≠b) M (fun M=>zh4 M (sp i) (x.1 i) (x.2 i))) (va,vm) ⟨hg'.down,hrow'.down,fun _ _=>⟨rfl,rfl⟩,fun i h=>absurd h (Nat.not_lt_zero _)⟩ ?_ ?_
 ·rintro k ⟨ya,ym⟩ fr M hk F ⟨hg,hr,hx,hy⟩
  dsimp only at hr hx hy;obtain ⟨x1,x2⟩:=hx k (Nat.le_refl _);have hs:zh4 M (sp k) (va k) (vm k):=by
   obtain ⟨g,rfl⟩:=hg;exact (hh.down.e k hk).app
  have c1:=hs.a.ar.2.1;have c2:=hs.k.ar.2.1;have i1:= @zaQ n k (fun i=>zQ (sp i) (ya i) (ym i));have ix:= @zaL b 0 n cap k 8 ex .i64 hk;have ON:=zz2 hs (hp'.down k hk);have ON':=zU ON;have hg':=zU hg;have hx':=zU hx;have hy':=zU hy;clear hs ON hg hx hy;refine am ?_;refine ON'.down.mono ?_;rintro _ _ ⟨g,va',vm',rfl,rfl,d1,d2,hP⟩;have i2:= @zbS n k 8 (fun i=>zQ (sp i) (ya i) (ym i)) (.agg (zQ (sp k) va' vm'));have hP':=zU hP;have hl:=(List.getElem?_eq_some_iff.1 hr).1;clear hP;refine am ?_;refine ⟨(up ya k va',up ym k vm'),zg,Grow.set hg'.down.app hmb _,?_,fun i hi=> ?_,fun i hi=> ?_⟩
  ·rw [zZ (zb hr)]
   dsimp only;rw [<-zAM]
  ·dsimp only
   rw [zab (by omega),zab (by omega)];exact hx'.down i (by omega)
  ·dsimp only
   by_cases e:i=k
   ·subst e
    rw [zF,zF];have:=(hP'.down.loc (M:=(M++g).set b (.cells true (zG n (up (fun i=>zQ (sp i) (ya i) (ym i)) i (zQ (sp i) va' vm'))))) (AtM.end.set (.inl hl)))
    exact this.mono fun c hc=>⟨by have:=hg'.down.len;omega,by omega⟩
   ·rw [zab e,zab e]
    exact ((hy'.down i (by omega)).app).set (fun h=>h.2 rfl)
 ·rintro ⟨ya,ym⟩ fr M F ⟨⟨g,rfl⟩,hr,hx,hy⟩
  dsimp only at hr hy;have hr':=zU hr;have hy':=zU hy;clear hx hr hy;refine am ?_;refine ⟨g,ya,ym,rfl,rfl,rb,fun M hM=>⟨.inl ?_,fun i hi=>hy'.down i hi M fun c y hc hy=>hM.of c y hc.1 hy⟩⟩;have:=Sl.mk (cap:=cap) (z:=8) (ex:=ex) (hM.of b _ hmb hr'.down);rw [List.length_map,List.length_range] at this;exact this
def HpR (m m':Mem) (cs:List V) (H:zm):Prop:= ∃g aw uw sv,m'=m++g/\cs=zy H aw uw sv/\aw.isCell=true/\uw.isCell=true/\sv.isCell=true/\V.beq aw aw=true/\V.beq uw uw=true/\V.beq sv sv=true/\ ∃va vm,Ps m.length g (fun M=>zbQ M aw uw sv va vm H)
theorem zfL {m:Mem}{v:V}{n:Nat}{w:Nat->Nat}:Nus m v ((List.range n).map w)↔Rd m v 1 n (zz w):=by
 have e:(List.range ((List.range n).map w).length).map (fun i=>[V.int .u64 (nx ((List.range n).map w) i:Nat)])=(List.range n).map (zz w):=by
  rw [List.length_map,List.length_range];refine List.map_congr_left fun i hi=> ?_
  have:=List.mem_range.1 hi;simp [nx,List.getD_eq_getElem?_getD,this]
 unfold Nus Rd;rw [e]
 simp
theorem zpu {M:Mem}{v:V}{l:List Nat}(h:Gm M v l):ziL v/\V.beq v v=true:=by
 rcases h with ⟨rfl,_⟩|⟨b,rfl,_⟩|⟨_,b,_,_,rfl,_⟩
 ·exact ⟨trivial,rfl⟩
 ·exact ⟨Nat.le_refl _,by simp [V.beq]⟩
 ·exact ⟨Nat.le_refl _,by simp [V.beq]⟩
def WdR (m m':Mem) (v:V) (n:Nat) (w:Nat->Nat):Prop:= ∃g,m'=m++g/\v.isCell=true/\ziL v/\V.beq v v=true/\Ps m.length g (fun M=>Rd M v 1 n (zz w))
theorem zuV {m:Mem}{v:V}{n:Nat}{w:Nat->Nat}(hv:Rd m v 1 n (zz w)) (hn:n<17592186044417):C S zJ [v] m (fun r m'=>WdR m m' r n w):=by
 refine (zcU (zfL.2 hv) (by simpa using hn)).mono ?_;rintro r _ ⟨g,rfl,hG⟩;obtain ⟨h1,h2⟩:=hG.gm;refine ⟨g,rfl,hG.cell,(zpu h1).1,(zpu h1).2,fun M hM=> ?_⟩;exact zfL.1 (h1.to fun c y hc hy=>hM.of c y (h2 c hc) hy).nus
theorem zwf {m:Mem}{v:V}{n:Nat}{w:Nat->Nat}(hv:Rd m v 1 n (zz w)) (hn:n<17592186044417):C S zl4 [.agg [v]] m (fun r m'=> ∃v',r= .agg [v']/\WdR m m' v' n w):=by
 have A:=hv.ar.2.1;have hv':=zU hv;clear hv;refine fn rfl ?_;refine (zuV hv'.down.app hn).mono ?_;rintro r _ ⟨g,rfl,c1,c2,c3,hP⟩;have hP':=zU hP;have cc:=zae c1;clear hP;refine am ?_;exact ⟨_,rfl,_,rfl,c1,c2,c3,hP'.down.to⟩
theorem zwg {m:Mem}{v:V}{n:Nat}{w:Nat->Nat}{N:Int}(hv:Rd m v 1 n (zz w)) (hn:n<17592186044417):C S zhN [.agg [.int .i64 N,v]] m (fun r m'=> ∃v' g,r= .agg [.int .i64 N,v']/\m'=m++g/\Iu m.length g v' n w):=by
 have A:=hv.ar.2.1;have hv':=zU hv;clear hv;refine fn rfl ?_;refine (zfV hv'.down.app hn).mono ?_;rintro _ _ ⟨g,v',rfl,rfl,hI⟩;have c1:=hI.cell;have hI':=zU hI;clear hI;refine am ?_;exact ⟨_,_,rfl,rfl,.pre [_,_] (by simpa using hI'.down)⟩
theorem zuW {H:zm}(h:H.framed):0<H.us.n/\H.ns<1000000000/\ ∀i,i<H.ns->0<(H.sp i).mr.n/\0<(H.sp i).al.n:=by
 obtain ⟨h1,h2,h3,h4,h5,h6⟩:=h;refine ⟨?_,by have:=h3.1;omega,fun i hi=> ?_⟩
 ·have:=h2.2.2.1;omega
 ·obtain ⟨k,_⟩:=h3.2 i hi
  have k1:=k.2.2.2.1.2.2.1;have k2:=k.2.2.2.2.1.2.2.1;have k3:=k.2.2.2.2.2.1;have k4:=k.2.2.2.2.2.2.1;have:=zpd (H.sp i).size;omega
theorem zrI {m:Mem}{aw uw sv:V}{va vm:Nat->V}{H:zm}(h:zbQ m aw uw sv va vm H) (hf:H.framed) (bs:V.beq sv sv=true):C S zgA [.agg (zy H aw uw sv)] m (fun r m'=> ∃cs,r= .agg cs/\HpR m m' cs H):=by
 obtain ⟨p1,p2,p3⟩:=zuW hf;have A:=h.a.ar.2.1;have B:=h.u.ar.2.1;have D:=h.s.s.ar.2.1;have bu:=h.u.beq p1;have hh:=zU h;clear h hf;refine fn rfl ?_;refine (zwf hh.down.a.app hh.down.la).mono ?_;rintro _ _ ⟨aw',rfl,g1,rfl,c1,c2,c3,hP⟩;have hP':=zU hP;clear hP;refine am ?_;refine (zwg hh.down.u.app hh.down.lu).mono ?_;rintro _ _ ⟨uw',g2,rfl,rfl,hI⟩;have d1:=hI.cell;have hI':=zU hI;clear hI;refine am ?_;refine (zwe hh.down.s.app p2 (fun i hi=>(p3 i hi).1)).mono ?_;rintro sv' _ ⟨g3,va',vm',rfl,e1,e2,hS⟩;have hS':=zU hS;clear hS;refine am ?_;have hu:=hI'.down.ps;refine ⟨_,rfl,_,aw',uw',sv',rfl,rfl,c1,d1,e1,c3,?_,e2,va',vm',fun M hM=>⟨hP'.down.to.on hM,.inl (hu.to.on hM),hS'.down.to.on hM,hh.down.wa,hh.down.wu,hh.down.la,hh.down.lu,hh.down.ls,c2⟩⟩;obtain ⟨M,hM⟩:=hu.ex;exact hM.beq'
theorem zA8 {M':Mem}{r:V}{l:List Nat}{B k:Nat}{g:Mem}(hr:(l=[]/\r= .slice B 0 0 0 true 1)\/(r= .slice (B+k) 0 l.length l.length false 1/\g=[.cells true (zH l)])) (h1:M'[B]? =some (.cells true [])) (h2: ∀x,g[0]? =some x->M'[B+k]? =some x):Gm M' r l/\ ∀c,zP r=some c->B<=c:=by
 rcases hr with ⟨rfl,rfl⟩|⟨rfl,rfl⟩
 ·exact ⟨.inr (.inr ⟨rfl,B,true,[],rfl,h1⟩),fun c hc=>by cases hc;exact Nat.le_refl _⟩
 ·exact ⟨.inr (.inl ⟨_,rfl,h2 _ rfl⟩),fun c hc=>by cases hc;omega⟩
theorem Gm.wd {m g:Mem}{v:V}{n:Nat}{w:Nat->Nat}(h:Gm (m++g) v ((List.range n).map w)) (hl: ∀c,zP v=some c->m.length<=c):WdR m (m++g) v n w:=by
 have hc:v.isCell=true:=h.nus.ar.2.1;refine ⟨g,rfl,hc,(zpu h).1,(zpu h).2,fun M hM=> ?_⟩;exact zfL.1 (h.to fun c y hc hy=>hM.of c y (hl c hc) hy).nus
theorem zs9 {m:Mem}{v:V}{l:List Nat}(hv:Nus m v l) (hn:l.length<17592186044417):C S zko [v] m (fun r m'=> ∃g,m'=m++g/\Gx m.length g r (zH l)):=by
 have A:=hv.ar.2.1;obtain ⟨r,g,ap,rc,hr⟩:=zkZ (X:=[]) hv hn;have hr':=zU hr;clear hr;simp only [List.nil_append] at ap;refine fn rfl ?_;rcases hr'.down with ⟨rfl,rfl⟩|⟨rfl,rfl⟩
 ·exact ⟨_,rfl,.inr ⟨rfl,0,true,[],rfl,rfl⟩⟩
 ·exact ⟨_,rfl,.inl (.inr ⟨1,by simp,rfl⟩)⟩
theorem zuX {m:Mem}{v:V}{n:Nat}{w:Nat->Nat}(hv:Rd m v 1 n (zz w)) (hn:n<17592186044417):C S zkw [.agg [v]] m (fun r m'=> ∃v',r= .agg [v']/\WdR m m' v' n w):=by
 have A:=hv.ar.2.1;obtain ⟨r,g,ap,rc,hr⟩:=zkZ (M:=m++[.cells true [[v]],.cells true [[.nils]]]) (X:=[]) (zfL.2 hv.app) (by simpa using hn);have hr':=zU hr;have rcc:=zae rc;clear hr;simp only [List.nil_append,List.append_assoc,List.cons_append,List.length_append,List.length_cons,List.length_nil,Nat.zero_add,Nat.reduceAdd] at ap;refine fn rfl ?_;obtain ⟨h1,h2⟩:=zA8 (M':=m++ .cells true [[v]]:: .cells true [[r]]:: .cells true []::g) hr'.down (by rw [show List.length (m++[.cells true [[v]],.cells true [[.nils]]])=m.length+((0+1)+1) by simp,zh];rfl) (fun x hx=>by rw [show List.length (m++[.cells true [[v]],.cells true [[.nils]]])+(([]:Mem).length+1)=m.length+(((0+1)+1)+1) by simp,zh];exact hx);exact ⟨r,rfl,h1.wd fun c hc=>Nat.le_trans (by simp) (h2 c hc)⟩
theorem zih {m:Mem}{v:V}{n:Nat}{w:Nat->Nat}{N:Int}(hv:Rd m v 1 n (zz w)) (hn:n<17592186044417):C S zen [.agg [.int .i64 N,v]] m (fun r m'=> ∃v',r= .agg [.int .i64 N,v']/\WdR m m' v' n w):=by
 have A:=hv.ar.2.1;obtain ⟨r,g,ap,rc,hr⟩:=zkZ (M:=m++[.cells true [[.int .i64 N,v]],.cells true [[.int .i64 0,.nils]]]) (X:=[]) (zfL.2 hv.app) (by simpa using hn);have hr':=zU hr;have rcc:=zae rc;clear hr;simp only [List.nil_append,List.append_assoc,List.cons_append,List.length_append,List.length_cons,List.length_nil,Nat.zero_add,Nat.reduceAdd] at ap;refine fn rfl ?_;obtain ⟨h1,h2⟩:=zA8 (M':=m++ .cells true [[.int .i64 N,v]]:: .cells true [[.int .i64 N,r]]:: .cells true []::g) hr'.down (by rw [show List.length (m++[.cells true [[.int .i64 N,v]],.cells true [[.int .i64 0,.nils]]])=m.length+((0+1)+1) by simp,zh];rfl) (fun x hx=>by rw [show List.length (m++[.cells true [[.int .i64 N,v]],.cells true [[.int .i64 0,.nils]]])+(([]:Mem).length+1)=m.length+(((0+1)+1)+1) by simp,zh];exact hx);exact ⟨r,rfl,h1.wd fun c hc=>Nat.le_trans (by simp) (h2 c hc)⟩
theorem zuY {m:Mem}{v:V}{n:Nat}{w:Nat->Nat}{N:Int}(hv:Rd m v 1 n (zz w)) (hn:n<17592186044417):C S zkx [.agg [.int .i64 N,v]] m (fun r m'=> ∃v',r= .agg [.int .i64 N,v']/\WdR m m' v' n w):=by
 have A:=hv.ar.2.1;have hv':=zU hv;clear hv;refine fn rfl ?_;refine (zih hv'.down.app hn).mono ?_;rintro _ _ ⟨v',rfl,g,rfl,c1,c2,c3,hP⟩;have hP':=zU hP;clear hP;refine am ?_;exact ⟨_,rfl,_,rfl,c1,c2,c3,hP'.down.to⟩
theorem zwh {m:Mem}{x:zW}{va vm:V}(h:zh4 m x va vm):C S zl6 [.agg (zQ x va vm)] m (fun r m'=> ∃g va' vm',m'=m++g/\r= .agg (zQ x va' vm')/\va'.isCell=true/\vm'.isCell=true/\Ps m.length g (fun M=>zh4 M x va' vm')):=by
 have A:=h.a.ar.2.1;have B:=h.k.ar.2.1;have hh:=zU h;clear h;refine fn rfl ?_;refine (zih hh.down.a.app hh.down.na).mono ?_;rintro _ _ ⟨v1,rfl,g1,rfl,c1,_,_,hP⟩;have hP':=zU hP;clear hP;refine am ?_;refine (zih hh.down.k.app hh.down.nk).mono ?_;rintro _ _ ⟨v2,rfl,g2,rfl,d1,_,_,hS⟩;have hS':=zU hS;clear hS;refine am ?_;have h:=hh.down;exact ⟨_,v1,v2,rfl,rfl,c1,d1,fun M hM=>⟨hP'.down.to.on hM,hS'.down.to.on hM,h.wa,h.wk,h.na,h.nk⟩⟩
theorem Loc.lt {F:Nat->Prop}{M:Mem}{P:Mem->Prop}(h:Loc F M P):Loc (fun c=>F c/\c<M.length) M P:=fun M' h'=>h M' fun b x hb hx=>h' b x ⟨hb,(List.getElem?_eq_some_iff.1 hx).1⟩ hx
def SpG (lo:Nat) (M:Mem) (v:V) (va vm:Nat->V) (n:Nat) (sp:Nat->zW):Prop:=(n=0/\v= .nils)\/ ∃b,v= .slice b 0 n n false 8/\lo<=b/\M[b]? =some (.cells true (zG n fun i=>zQ (sp i) (va i) (vm i)))/\ ∀i,i<n->Loc (fun c=>lo<=c/\c≠b) M (fun M=>zh4 M (sp i) (va i) (vm i))
theorem SpG.row {lo:Nat}{M:Mem}{v:V}{va vm:Nat->V}{n:Nat}{sp:Nat->zW}(h:SpG lo M v va vm n sp):(v= .nils/\zG n (fun i=>zQ (sp i) (va i) (vm i))=[])\/ ∃b,v= .slice b 0 (zG n (fun i=>zQ (sp i) (va i) (vm i))).length (zG n (fun i=>zQ (sp i) (va i) (vm i))).length false 8/\M[b]? =some (.cells true (zG n (fun i=>zQ (sp i) (va i) (vm i)))):=by
 rcases h with ⟨rfl,rfl⟩|⟨b,rfl,_,h,_⟩
 ·exact .inl ⟨rfl,rfl⟩
 ·exact .inr ⟨b,by simp,h⟩
theorem SpG.cell {lo:Nat}{M:Mem}{v:V}{va vm:Nat->V}{n:Nat}{sp:Nat->zW}(h:SpG lo M v va vm n sp):v.isCell=true/\V.beq v v=true:=by
 rcases h with ⟨rfl,rfl⟩|⟨b,rfl,_,h,_⟩
 ·exact ⟨rfl,rfl⟩
 ·exact ⟨rfl,by simp [V.beq]⟩
theorem SpG.r {m M:Mem}{v:V}{va vm:Nat->V}{n:Nat}{sp:Nat->zW}(h:SpG m.length M v va vm n sp) (hg:Grow m M):SpR m M v n sp:=by
 obtain ⟨g,rfl⟩:=hg;refine ⟨g,va,vm,rfl,h.cell.1,h.cell.2,fun M hM=> ?_⟩;rcases h with ⟨rfl,rfl⟩|⟨b,rfl,hb,h,he⟩
 ·exact ⟨.inl ⟨rfl,rfl⟩,fun i h=>absurd h (Nat.not_lt_zero _)⟩
 ·refine ⟨.inl ?_,fun i hi=>he i hi M fun c y hc hy=>hM.of c y hc.1 hy⟩
  have:=Sl.mk (cap:=n) (z:=8) (ex:=false) (hM.of b _ hb h);rw [List.length_map,List.length_range] at this;exact this
theorem zys {k:Nat}{sp:Nat->zW}{va vm:Nat->V}{a b:V}:zG (k+1) (fun i=>zQ (sp i) (up va k a i) (up vm k b i))=zG k (fun i=>zQ (sp i) (va i) (vm i))++[zQ (sp k) a b]:=by
 rw [zG,List.range_succ,List.map_append]
 congr 1
 ·refine List.map_congr_left fun i hi=> ?_
  rw [zab (by have:=List.mem_range.1 hi;omega),zab (by have:=List.mem_range.1 hi;omega)]
 ·simp [zF]
theorem zuZ {m:Mem}{v:V}{n:Nat}{sp:Nat->zW}{va vm:Nat->V}(h:zh5 m v n sp va vm) (hn:n*96<=140737488355328):C S zky [v] m (fun r m'=>SpR m m' r n sp):=by
 have A:=h.s.ar;have hh:=zU h;clear h;refine fn rfl ?_;refine range (α:=V×((Nat->V)×(Nat->V))) n (fun x=>[(6,v),(3,x.1)]) (fun k x M=>Grow m M/\SpG m.length M x.1 x.2.1 x.2.2 k sp) (.nils,fun _=> .nils,fun _=> .nils) ⟨Grow.refl _,.inl ⟨rfl,rfl⟩⟩ ?_ ?_
 ·rintro k ⟨u,ya,ym⟩ fr M hk F ⟨hg,hC⟩
  dsimp only at F hC;have hs:zh4 M (sp k) (va k) (vm k):=by
   obtain ⟨g,rfl⟩:=hg;exact (hh.down.e k hk).app
  have B:=(hh.down.s.grow hg).ar;have c1:=hs.a.ar.2.1;have c2:=hs.k.ar.2.1;obtain ⟨uc,ub⟩:=hC.cell;have hs':=zU hs;have hg':=zU hg;have hC':=zU hC;clear A hs hg hC;refine am ?_;refine (zwh hs'.down.app).mono ?_;rintro _ _ ⟨g,va',vm',rfl,rfl,d1,d2,hP⟩;obtain ⟨M2,l1,l2,hp⟩:=zuS (zero:=zSp) (bytes:=96) hC'.down.row rfl (by simp [roomy];omega);rw [List.length_map,List.length_range] at hp;have hP':=zU hP;have l1':=zU l1;have l2':=zU l2;have pb:= @zds;clear hP l1 l2;refine am ?_;obtain ⟨E0,eE0⟩: ∃E0,[V.int IntKind.i64 (sp k).first,V.int IntKind.i64 (sp k).pages,V.int IntKind.i64 (sp k).size,V.int IntKind.i64 (sp k).al.N,va k,V.int IntKind.i64 (sp k).mr.N,vm k,V.bool (sp k).swept]=E0:=⟨_,rfl⟩
  rw [eE0] at hP' ⊢;obtain ⟨nb,enb⟩: ∃nb,M.length+(g.length+1+1)=nb:=⟨_,rfl⟩
  obtain ⟨R,eR⟩: ∃R,(zG k fun i=>zQ (sp i) (ya i) (ym i))++[zQ (sp k) va' vm']=R:=⟨_,rfl⟩
  rw [eR,enb];have hnb:(M2++Blk.cells true [E0]::(g++[Blk.cells true [zQ (sp k) va' vm'],Blk.cells true R]))[nb]? =some (.cells true R):=by
   rw [<-enb,l1'.down,show g.length+1+1=(g.length+1)+1 by rfl,zh,zaR,zh];rfl
  have hPM:AtM (M++[Blk.cells true [E0]]).length g (M2++Blk.cells true [E0]::(g++[Blk.cells true [zQ (sp k) va' vm'],Blk.cells true R])):=by
   have:=AtM.left (A:=M2) (AtM.drop (b:=Blk.cells true [E0]) (AtM.hereA (g:=g) (G:=[Blk.cells true [zQ (sp k) va' vm'],Blk.cells true R])));refine this.cst ?_;rw [List.length_append,<-l1'.down];rfl
  have old: ∀c y,zP u≠some c->M[c]? =some y->(M2++Blk.cells true [E0]::(g++[Blk.cells true [zQ (sp k) va' vm'],Blk.cells true R]))[c]? =some y:=fun c y hc hy=>zb ((l2'.down c hc).trans hy)
  generalize M2++Blk.cells true [E0]::(g++[Blk.cells true [zQ (sp k) va' vm'],Blk.cells true R])=M3 at hnb hPM old ⊢
  have hlen:=hg'.down.len;have ub2: ∀c,zP u=some c->m.length<=c:=fun c hc=>by
   rcases hC'.down with ⟨_,rfl⟩|⟨b,rfl,h,_⟩
   ·cases hc
   ·cases hc;exact h
  refine ⟨(_,up ya k va',up ym k vm'),zg,zj2 fun c y hc hy=>old c y (fun e=>by have:=ub2 c e;omega) (hg'.down.get hy),.inr ⟨nb,rfl,by omega,?_,fun i hi=> ?_⟩⟩
  ·dsimp only
   rw [zys,eR];exact hnb
  ·dsimp only
   by_cases e:i=k
   ·subst e
    rw [zF,zF];refine (hP'.down.loc hPM).mono fun c hc=> ?_
    rw [List.length_append] at hc;have:[Blk.cells true [E0]].length=1:=rfl;omega
   ·rw [zab e,zab e]
    rcases hC'.down with ⟨h0,_⟩|⟨b,rfl,hb,hr,he⟩
    ·omega
    ·refine ((he i (by omega)).lt.to (M':=M3) fun c y hc hy=>old c y (fun e=>by cases e;exact hc.1.2 rfl) hy).mono fun c hc=>⟨hc.1.1,by omega⟩
 ·rintro ⟨u,ya,ym⟩ fr M F ⟨hg,hC⟩
  dsimp only at F hC;have hg':=zU hg;have hC':=zU hC;clear hg hC;refine am ?_;exact hC'.down.r hg'.down
theorem zmF {m:Mem}{aw uw sv:V}{va vm:Nat->V}{H:zm}(h:zbQ m aw uw sv va vm H) (hn:H.ns*96<=140737488355328) (bu:V.beq uw uw=true) (bs:V.beq sv sv=true):C S zgw [.agg (zy H aw uw sv)] m (fun r m'=> ∃cs,r= .agg cs/\HpR m m' cs H):=by
 have A:=h.a.ar.2.1;have B:=h.u.ar.2.1;have D:=h.s.s.ar.2.1;have hh:=zU h;clear h;refine fn rfl ?_;refine (zuX hh.down.a.app hh.down.la).mono ?_;rintro _ _ ⟨aw',rfl,g1,rfl,c1,c2,c3,hP⟩;have hP':=zU hP;clear hP;refine am ?_;refine (zuY hh.down.u.app hh.down.lu).mono ?_;rintro _ _ ⟨uw',rfl,g2,rfl,d1,d2,d3,hI⟩;have hI':=zU hI;clear hI;refine am ?_;refine (zuZ hh.down.s.app hn).mono ?_;rintro sv' _ ⟨g3,va',vm',rfl,e1,e2,hS⟩;have hS':=zU hS;clear hS;refine am ?_;refine ⟨_,rfl,_,aw',uw',sv',rfl,rfl,c1,d1,e1,c3,d3,e2,va',vm',fun M hM=>⟨hP'.down.to.on hM,hI'.down.to.on hM,hS'.down.to.on hM,hh.down.wa,hh.down.wu,hh.down.la,hh.down.lu,hh.down.ls,c2⟩⟩
theorem zii {m:Mem}{v u:V}{n:Nat}{w:Nat->Nat}{N:Int}(h:Rd m v 1 n (zz w)) (k:Rd m u 1 n (zz w)) (hn:n<17592186044417):C S zep [.agg [.int .i64 N,v],.agg [.int .i64 N,u]] m (fun r m'=>r= .bool true/\Grow m m'):=by
 have A:=h.ar;have B:=k.ar;have hh:=zU h;have kk:=zU k;have c1:(N=N)=True:=eq_true rfl;have c2:((n:Int)=(n:Int))=True:=eq_true rfl;clear h k;refine fn rfl ?_;refine range (α:=Unit) n (fun _=>[(2,.ptr m.length 0 0),(3,.ptr (m.length+1) 0 0)]) (fun _ _ M=>M=m++[.cells true [[.int .i64 N,v]],.cells true [[.int .i64 N,u]]]) () rfl ?_ ?_
 ·rintro j _ fr _ hj F rfl
  have A':=(hh.down.app (g:=[.cells true [[.int .i64 N,v]],.cells true [[.int .i64 N,u]]])).ar;have B':=(kk.down.app (g:=[.cells true [[.int .i64 N,v]],.cells true [[.int .i64 N,u]]])).ar;have c3:((w j:Int)=(w j:Int))=True:=eq_true rfl;clear A B;refine am ?_;exact ⟨(),zg,rfl⟩
 ·rintro _ fr _ F rfl
  refine am ?_;exact ⟨_,rfl⟩
theorem zu0 {m:Mem}{v u:V}{n:Nat}{w:Nat->Nat}(h:Rd m v 1 n (zz w)) (k:Rd m u 1 n (zz w)) (hn:n<17592186044417):C S zkD [.agg [v],.agg [u]] m (fun r m'=>r= .bool true/\Grow m m'):=by
 have A:=h.ar;have B:=k.ar;have hh:=zU h;have kk:=zU k;have c2:((n:Int)=(n:Int))=True:=eq_true rfl;clear h k;refine fn rfl ?_;refine range (α:=Unit) n (fun _=>[(2,.ptr m.length 0 0),(3,.ptr (m.length+1) 0 0)]) (fun _ _ M=>M=m++[.cells true [[v]],.cells true [[u]]]) () rfl ?_ ?_
 ·rintro j _ fr _ hj F rfl
  have A':=(hh.down.app (g:=[.cells true [[v]],.cells true [[u]]])).ar;have B':=(kk.down.app (g:=[.cells true [[v]],.cells true [[u]]])).ar;have c3:((w j:Int)=(w j:Int))=True:=eq_true rfl;clear A B;refine am ?_;exact ⟨(),zg,rfl⟩
 ·rintro _ fr _ F rfl
  refine am ?_;exact ⟨_,rfl⟩
theorem zu1 {m:Mem}{v u:V}{n:Nat}{w:Nat->Nat}{N:Int}(h:Rd m v 1 n (zz w)) (k:Rd m u 1 n (zz w)) (hn:n<17592186044417):C S zkE [.agg [.int .i64 N,v],.agg [.int .i64 N,u]] m (fun r m'=>r= .bool true/\Grow m m'):=by
 have A:=h.ar.2.1;have B:=k.ar.2.1;have hh:=zU h;have kk:=zU k;clear h k;refine fn rfl ?_;refine (zii hh.down.app kk.down.app hn).mono ?_;rintro _ _ ⟨rfl,⟨g,rfl⟩⟩;refine am ?_;exact ⟨_,rfl⟩
theorem zta {m:Mem}{x:zW}{va vm ua um:V}(h:zh4 m x va vm) (k:zh4 m x ua um):C S zg5 [.agg (zQ x va vm),.agg (zQ x ua um)] m (fun r m'=>r= .bool true/\Grow m m'):=by
 have A:=h.a.ar.2.1;have B:=h.k.ar.2.1;have A2:=k.a.ar.2.1;have B2:=k.k.ar.2.1;have hh:=zU h;have kk:=zU k;have c1:(x.first=x.first)=True:=eq_true rfl;have c2:(x.pages=x.pages)=True:=eq_true rfl;have c3:(x.size=x.size)=True:=eq_true rfl;have c4:(x.swept=x.swept)=True:=eq_true rfl;clear h k;refine fn rfl ?_;refine (zii hh.down.a.app kk.down.a.app hh.down.na).mono ?_;rintro _ _ ⟨rfl,⟨g,rfl⟩⟩;refine am ?_;refine (zii hh.down.k.app kk.down.k.app hh.down.nk).mono ?_;rintro _ _ ⟨rfl,⟨g2,rfl⟩⟩;refine am ?_;exact ⟨_,rfl⟩
theorem zu3 {m:Mem}{v u:V}{n:Nat}{sp:Nat->zW}{va vm ua um:Nat->V}(h:zh5 m v n sp va vm) (k:zh5 m u n sp ua um) (hn:n<17592186044417):C S zkF [v,u] m (fun r m'=>r= .bool true/\Grow m m'):=by
 have A:=h.s.ar;have B:=k.s.ar;have hh:=zU h;have kk:=zU k;have c2:((n:Int)=(n:Int))=True:=eq_true rfl;clear h k;refine fn rfl ?_;refine range (α:=Unit) n (fun _=>[(0,v),(1,u)]) (fun _ _ M=> ∃g,M=m++g) () ⟨[],by simp⟩ ?_ ?_
 ·rintro j _ fr _ hj F ⟨g,rfl⟩
  have h1:=hh.down.app (g:=g);have k1:=kk.down.app (g:=g);have A':=h1.s.ar;have B':=k1.s.ar;have s1:=h1.e j hj;have s2:=k1.e j hj;have d1:=s1.a.ar.2.1;have d2:=s1.k.ar.2.1;have d3:=s2.a.ar.2.1;have d4:=s2.k.ar.2.1;have SO:=zU (zta s1 s2);clear A B h1 k1 s1 s2;refine am ?_;refine SO.down.mono ?_;rintro _ _ ⟨rfl,⟨g2,rfl⟩⟩;refine am ?_;exact ⟨(),zg,_,rfl⟩
 ·rintro _ fr _ F ⟨g,rfl⟩
  refine am ?_;exact ⟨_,rfl⟩
theorem zu4 {m:Mem} {aw uw sv aw' uw' sv':V}{va vm va' vm':Nat->V}{H:zm}(h:zbQ m aw uw sv va vm H) (k:zbQ m aw' uw' sv' va' vm' H):C S zks [.agg (zy H aw uw sv),.agg (zy H aw' uw' sv')] m (fun r m'=>r= .bool true/\Grow m m'):=by
 have A:=h.a.ar.2.1;have B:=h.u.ar.2.1;have D:=h.s.s.ar.2.1;have A2:=k.a.ar.2.1;have B2:=k.u.ar.2.1;have D2:=k.s.s.ar.2.1;have hh:=zU h;have kk:=zU k;clear h k;refine fn rfl ?_;refine (zu0 hh.down.a.app kk.down.a.app hh.down.la).mono ?_;rintro _ _ ⟨rfl,⟨g,rfl⟩⟩;refine am ?_;refine (zu1 hh.down.u.app kk.down.u.app hh.down.lu).mono ?_;rintro _ _ ⟨rfl,⟨g2,rfl⟩⟩;refine am ?_;refine (zu3 hh.down.s.app kk.down.s.app hh.down.ls).mono ?_;rintro _ _ ⟨rfl,⟨g3,rfl⟩⟩;refine am ?_;exact ⟨_,rfl⟩
end Go.AM.G
