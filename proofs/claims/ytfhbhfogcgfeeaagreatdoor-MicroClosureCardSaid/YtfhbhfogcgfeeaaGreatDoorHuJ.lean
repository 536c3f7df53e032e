import Derived.Test.YtfhbhfogcgfeeaaGreatDoorHuG
set_option linter.unusedVariables false
set_option linter.unusedSimpArgs false
set_option maxRecDepth 100000
namespace Go.AM.G
open Go Go.AM
def GrC (lo:Nat) (M:Mem) (v:V) (vs:Nat->V) (qs:List (List Nat)):Prop:=(qs=[]/\v= .nils)\/ ∃b,v= .slice b 0 qs.length qs.length false 1/\GrO lo M b vs qs
theorem GrC.cell {lo:Nat}{M:Mem}{v:V}{vs:Nat->V}{qs:List (List Nat)}(h:GrC lo M v vs qs):v.isCell=true:=by
 rcases h with ⟨_,rfl⟩|⟨b,rfl,_⟩<;>rfl
theorem GrC.beq {lo:Nat}{M:Mem}{v:V}{vs:Nat->V}{qs:List (List Nat)}(h:GrC lo M v vs qs):V.beq v v=true:=by
 rcases h with ⟨_,rfl⟩|⟨b,rfl,_⟩
 ·rfl
 ·simp [V.beq]
theorem GrC.r {m M:Mem}{lo:Nat}{v:V}{vs:Nat->V}{qs:List (List Nat)}(h:GrC lo M v vs qs) (hl:m.length<=lo) (hg:Grow m M):GrR m M v qs:=by
 rcases h with ⟨rfl,rfl⟩|⟨b,rfl,h⟩
 ·exact .nil hg
 ·exact h.r hl hg
theorem GrC.to {lo:Nat}{M M':Mem}{v:V}{vs:Nat->V}{qs:List (List Nat)}(h:GrC lo M v vs qs) (k: ∀c y,lo<=c->M[c]? =some y->M'[c]? =some y):GrC lo M' v vs qs:=h.imp id fun ⟨b,e,h⟩=>⟨b,e,h.to k⟩
theorem GrC.row {lo:Nat}{M:Mem}{v:V}{vs:Nat->V}{qs:List (List Nat)}(h:GrC lo M v vs qs):(v= .nils/\zJ qs.length (fun i=>[vs i])=[])\/ ∃b,v= .slice b 0 (zJ qs.length (fun i=>[vs i])).length (zJ qs.length (fun i=>[vs i])).length false 1/\M[b]? =some (.cells true (zJ qs.length (fun i=>[vs i]))):=by
 rcases h with ⟨rfl,rfl⟩|⟨b,rfl,h⟩
 ·exact .inl ⟨rfl,rfl⟩
 ·exact .inr ⟨b,by simp,h.row⟩
theorem Loc.mono {F F':Nat->Prop}{M:Mem}{P:Mem->Prop}(h:Loc F M P) (k: ∀b,F b->F' b):Loc F' M P:=fun M' h'=>h M' fun b x hb hx=>h' b x (k b hb) hx
theorem AtM.of {m g M:Mem}(h:AtM m.length g M): ∀c y,m.length<=c->(m++g)[c]? =some y->M[c]? =some y:=fun c y hc hy=>by
 obtain ⟨j,rfl⟩: ∃j,c=m.length+j:=⟨c-m.length,by omega⟩
 rw [zi] at hy;exact h j y hy
theorem AtM.end {M g:Mem}:AtM M.length g (M++g):=by
 have:=AtM.left (A:=M) (AtM.here (g:=g))
 rwa [Nat.add_zero] at this
def SpR (m m':Mem) (v:V) (n:Nat) (sp:Nat->zak):Prop:= ∃g va vm,m'=m++g/\v.isCell=true/\V.beq v v=true/\Ps m.length g (fun M=>znv M v n sp va vm)
abbrev zSp:List V:=[.int .i64 0,.int .i64 0,.int .i64 0,.int .i64 0,.nils,.int .i64 0,.nils,.bool false]
theorem zqJ {m:Mem}{v:V}{n:Nat}{f:Nat->List V}(hv:Rd m v 8 n f) (hn:n<1000000000):C S zes [v] m (fun r m'=> ∃g,m'=m++g/\In m.length g r 8 (zJ n f)):=by
 have hl:(zJ n f).length=n:=by simp
 rcases hv with hv|⟨rfl,rfl⟩
 ·rcases hv.cases with ⟨rfl,he⟩|⟨b,i,len,cap,ex,rfl⟩
  ·clear he
   refine fn rfl ?_;exact ⟨[],by simp,.mk ⟨by rw [List.append_nil];exact hv,.inl rfl⟩⟩
  ·obtain ⟨v',m',a1,⟨g,rfl⟩,a3⟩:=zgC (zero:=zSp) (bytes:=96) hv rfl (by decide) (by rw [hl];omega)
   have a3':=zU a3;clear a3;refine fn rfl ?_;exact ⟨g,rfl,.mk a3'.down⟩
 ·refine fn rfl ?_
  exact ⟨.slice m.length 0 0 0 true 8,m++[.cells true []],by simp [zM,zde,zOk],[.cells true []],rfl,.mk ⟨Sl.mk (els:=[]) (own:=true) (by simp),.inr ⟨_,_,_,Nat.le_refl _,rfl,by simp⟩⟩⟩
theorem zxW {sp:Nat->zak}{va vm:Nat->V}{k:Nat}{a b:V}:up (fun i=>zaS (sp i) (va i) (vm i)) k (zaS (sp k) a b)=fun i=>zaS (sp i) (up va k a i) (up vm k b i):=by
 funext i
 by_cases e:i=k
 ·subst e;simp [zK]
 ·simp [zaM e]
theorem ztn {m:Mem}{v:V}{n:Nat}{sp:Nat->zak}{va vm:Nat->V}(h:znv m v n sp va vm) (hn:n<1000000000) (hp: ∀i,i<n->0<(sp i).mr.n):C S zjl [v] m (fun r m'=>SpR m m' r n sp):=by
 have hc:=h.s.ar.2.1;have hh:=zU h;have hp':=zU hp;clear h hp;refine fn rfl ?_;refine (zqJ hh.down.s hn).mono ?_;rintro r _ ⟨g0,rfl,hi⟩;have rc:=hi.cell;have rl:zhK r=some (.int .i64 (n:Int)):=by have:=hi.len;simpa using this
 have rb:=(hi.ps.on (M:=m++g0) (by exact AtM.end)).beq';have rz:=(hi.ps.on (M:=m++g0) (by exact AtM.end)).2;rcases hi.cases with ⟨rfl,e⟩|⟨L0,R0,cap,ex,rfl,rfl⟩
 ·have e0:n=0:=by have:=congrArg List.length e;simpa using this
  subst e0;clear hi e;refine am ?_;refine range (α:=Unit) 0 (fun _=>[(0,.nils)]) (fun _ _ M=>M=m++g0) () rfl (fun k _ _ _ hk=>absurd hk (Nat.not_lt_zero _)) ?_;rintro _ fr _ F rfl;refine am ?_;exact ⟨g0,fun _=> .nils,fun _=> .nils,rfl,rfl,rfl,fun M _=>⟨.inl ⟨rfl,rfl⟩,fun i h=>absurd h (Nat.not_lt_zero _)⟩⟩
 rw [List.length_map,List.length_range] at rl rb rz rc ⊢;clear hi;obtain ⟨b,eb⟩: ∃b,m.length+L0.length=b:=⟨_,rfl⟩
 have hrow:(m++(L0++ .cells true (zJ n fun i=>zaS (sp i) (va i) (vm i))::R0))[b]? =some (.cells true (zJ n fun i=>zaS (sp i) (va i) (vm i))):=by rw [<-eb];simp [zi]
 have hg:Grow m (m++(L0++ .cells true (zJ n fun i=>zaS (sp i) (va i) (vm i))::R0)):=⟨_,rfl⟩
 rw [eb] at rl rb rz rc ⊢
 generalize (m++(L0++ .cells true (zJ n fun i=>zaS (sp i) (va i) (vm i))::R0))=M0 at hrow hg ⊢
 have hmb:m.length<=b:=by omega
 clear eb;have hg':=zU hg;have hrow':=zU hrow;clear hg hrow;refine am ?_;refine range (α:=(Nat->V)×(Nat->V)) n (fun _=>[(0,.slice b 0 n cap ex 8)]) (fun k x M=>Grow m M/\M[b]? =some (.cells true (zJ n fun i=>zaS (sp i) (x.1 i) (x.2 i)))/\(∀i,k<=i->x.1 i=va i/\x.2 i=vm i)/\ ∀i,i<k->Loc (fun c=>m.length<=c/\c≠b) M (fun M=>zom M (sp i) (x.1 i) (x.2 i))) (va,vm) ⟨hg'.down,hrow'.down,fun _ _=>⟨rfl,rfl⟩,fun i h=>absurd h (Nat.not_lt_zero _)⟩ ?_ ?_
 ·rintro k ⟨ya,ym⟩ fr M hk F ⟨hg,hr,hx,hy⟩
  dsimp only at hr hx hy;obtain ⟨x1,x2⟩:=hx k (Nat.le_refl _);have hs:zom M (sp k) (va k) (vm k):=by
   obtain ⟨g,rfl⟩:=hg;exact (hh.down.e k hk).app
  have c1:=hs.a.ar.2.1;have c2:=hs.k.ar.2.1;have i1:= @zcx n k (fun i=>zaS (sp i) (ya i) (ym i));have ix:= @zcT b 0 n cap k 8 ex .i64 hk;have ON:=zxd hs (hp'.down k hk);have ON':=zU ON;have hg':=zU hg;have hx':=zU hx;have hy':=zU hy;clear hs ON hg hx hy;refine am ?_;refine ON'.down.mono ?_;rintro _ _ ⟨g,va',vm',rfl,rfl,d1,d2,hP⟩;have i2:= @zdZ n k 8 (fun i=>zaS (sp i) (ya i) (ym i)) (.agg (zaS (sp k) va' vm'));have hP':=zU hP;have hl:=(List.getElem?_eq_some_iff.1 hr).1;clear hP;refine am ?_;refine ⟨(up ya k va',up ym k vm'),zh,Grow.set hg'.down.app hmb _,?_,fun i hi=> ?_,fun i hi=> ?_⟩
  ·rw [zaU (zb hr)]
   dsimp only;rw [<-zxW]
  ·dsimp only
   rw [zaM (by omega),zaM (by omega)];exact hx'.down i (by omega)
  ·dsimp only
   by_cases e:i=k
   ·subst e
    rw [zK,zK];have:=(hP'.down.loc (M:=(M++g).set b (.cells true (zJ n (up (fun i=>zaS (sp i) (ya i) (ym i)) i (zaS (sp i) va' vm'))))) (AtM.end.set (.inl hl)))
    exact this.mono fun c hc=>⟨by have:=hg'.down.len;omega,by omega⟩
   ·rw [zaM e,zaM e]
    exact ((hy'.down i (by omega)).app).set (fun h=>h.2 rfl)
 ·rintro ⟨ya,ym⟩ fr M F ⟨⟨g,rfl⟩,hr,hx,hy⟩
  dsimp only at hr hy;have hr':=zU hr;have hy':=zU hy;clear hx hr hy;refine am ?_;refine ⟨g,ya,ym,rfl,rfl,rb,fun M hM=>⟨.inl ?_,fun i hi=>hy'.down i hi M fun c y hc hy=>hM.of c y hc.1 hy⟩⟩;have:=Sl.mk (cap:=cap) (z:=8) (ex:=ex) (hM.of b _ hmb hr'.down);rw [List.length_map,List.length_range] at this;exact this
def HpR (m m':Mem) (cs:List V) (H:zl):Prop:= ∃g aw uw sv,m'=m++g/\cs=zB H aw uw sv/\aw.isCell=true/\uw.isCell=true/\sv.isCell=true/\V.beq aw aw=true/\V.beq uw uw=true/\V.beq sv sv=true/\ ∃va vm,Ps m.length g (fun M=>zcY M aw uw sv va vm H)
theorem zk3 {m:Mem}{v:V}{n:Nat}{w:Nat->Nat}:Nus m v ((List.range n).map w)↔Rd m v 1 n (zG w):=by
 have e:(List.range ((List.range n).map w).length).map (fun i=>[V.int .u64 (nx ((List.range n).map w) i:Nat)])=(List.range n).map (zG w):=by
  rw [List.length_map,List.length_range];refine List.map_congr_left fun i hi=> ?_
  have:=List.mem_range.1 hi;simp [nx,List.getD_eq_getElem?_getD,this]
 unfold Nus Rd;rw [e]
 simp
theorem zto {M:Mem}{v:V}{l:List Nat}(h:Gm M v l):ziN v/\V.beq v v=true:=by
 rcases h with ⟨rfl,_⟩|⟨b,rfl,_⟩|⟨_,b,_,_,rfl,_⟩
 ·exact ⟨trivial,rfl⟩
 ·exact ⟨Nat.le_refl _,by simp [V.beq]⟩
 ·exact ⟨Nat.le_refl _,by simp [V.beq]⟩
def WdR (m m':Mem) (v:V) (n:Nat) (w:Nat->Nat):Prop:= ∃g,m'=m++g/\v.isCell=true/\ziN v/\V.beq v v=true/\Ps m.length g (fun M=>Rd M v 1 n (zG w))
theorem zsd {m:Mem}{v:V}{n:Nat}{w:Nat->Nat}(hv:Rd m v 1 n (zG w)) (hn:n<17592186044417):C S zF [v] m (fun r m'=>WdR m m' r n w):=by
 refine (zc1 (zk3.2 hv) (by simpa using hn)).mono ?_;rintro r _ ⟨g,rfl,hG⟩;obtain ⟨h1,h2⟩:=hG.gm;refine ⟨g,rfl,hG.cell,(zto h1).1,(zto h1).2,fun M hM=> ?_⟩;exact zk3.1 (h1.to fun c y hc hy=>hM.of c y (h2 c hc) hy).nus
theorem ztp {m:Mem}{v:V}{n:Nat}{w:Nat->Nat}(hv:Rd m v 1 n (zG w)) (hn:n<17592186044417):C S zlu [.agg [v]] m (fun r m'=> ∃v',r= .agg [v']/\WdR m m' v' n w):=by
 have A:=hv.ar.2.1;have hv':=zU hv;clear hv;refine fn rfl ?_;refine (zsd hv'.down.app hn).mono ?_;rintro r _ ⟨g,rfl,c1,c2,c3,hP⟩;have hP':=zU hP;have cc:=zcU c1;clear hP;refine am ?_;exact ⟨_,rfl,_,rfl,c1,c2,c3,hP'.down.to⟩
theorem ztq {m:Mem}{v:V}{n:Nat}{w:Nat->Nat}{N:Int}(hv:Rd m v 1 n (zG w)) (hn:n<17592186044417):C S zhT [.agg [.int .i64 N,v]] m (fun r m'=> ∃v' g,r= .agg [.int .i64 N,v']/\m'=m++g/\Iu m.length g v' n w):=by
 have A:=hv.ar.2.1;have hv':=zU hv;clear hv;refine fn rfl ?_;refine (zgc hv'.down.app hn).mono ?_;rintro _ _ ⟨g,v',rfl,rfl,hI⟩;have c1:=hI.cell;have hI':=zU hI;clear hI;refine am ?_;exact ⟨_,_,rfl,rfl,.pre [_,_] (by simpa using hI'.down)⟩
theorem zse {H:zl}(h:H.framed):0<H.us.n/\H.ns<1000000000/\ ∀i,i<H.ns->0<(H.sp i).mr.n/\0<(H.sp i).al.n:=by
 obtain ⟨h1,h2,h3,h4,h5,h6⟩:=h;refine ⟨?_,by have:=h3.1;omega,fun i hi=> ?_⟩
 ·have:=h2.2.2.1;omega
 ·obtain ⟨k,_⟩:=h3.2 i hi
  have k1:=k.2.2.2.1.2.2.1;have k2:=k.2.2.2.2.1.2.2.1;have k3:=k.2.2.2.2.2.1;have k4:=k.2.2.2.2.2.2.1;have:=zrO (H.sp i).size;omega
theorem zpv {m:Mem}{aw uw sv:V}{va vm:Nat->V}{H:zl}(h:zcY m aw uw sv va vm H) (hf:H.framed) (bs:V.beq sv sv=true):C S zgO [.agg (zB H aw uw sv)] m (fun r m'=> ∃cs,r= .agg cs/\HpR m m' cs H):=by
 obtain ⟨p1,p2,p3⟩:=zse hf;have A:=h.a.ar.2.1;have B:=h.u.ar.2.1;have D:=h.s.s.ar.2.1;have bu:=h.u.beq p1;have hh:=zU h;clear h hf;refine fn rfl ?_;refine (ztp hh.down.a.app hh.down.la).mono ?_;rintro _ _ ⟨aw',rfl,g1,rfl,c1,c2,c3,hP⟩;have hP':=zU hP;clear hP;refine am ?_;refine (ztq hh.down.u.app hh.down.lu).mono ?_;rintro _ _ ⟨uw',g2,rfl,rfl,hI⟩;have d1:=hI.cell;have hI':=zU hI;clear hI;refine am ?_;refine (ztn hh.down.s.app p2 (fun i hi=>(p3 i hi).1)).mono ?_;rintro sv' _ ⟨g3,va',vm',rfl,e1,e2,hS⟩;have hS':=zU hS;clear hS;refine am ?_;have hu:=hI'.down.ps;refine ⟨_,rfl,_,aw',uw',sv',rfl,rfl,c1,d1,e1,c3,?_,e2,va',vm',fun M hM=>⟨hP'.down.to.on hM,.inl (hu.to.on hM),hS'.down.to.on hM,hh.down.wa,hh.down.wu,hh.down.la,hh.down.lu,hh.down.ls,c2⟩⟩;obtain ⟨M,hM⟩:=hu.ex;exact hM.beq'
theorem Loc.lt {F:Nat->Prop}{M:Mem}{P:Mem->Prop}(h:Loc F M P):Loc (fun c=>F c/\c<M.length) M P:=fun M' h'=>h M' fun b x hb hx=>h' b x ⟨hb,(List.getElem?_eq_some_iff.1 hx).1⟩ hx
def SpG (lo:Nat) (M:Mem) (v:V) (va vm:Nat->V) (n:Nat) (sp:Nat->zak):Prop:=(n=0/\v= .nils)\/ ∃b,v= .slice b 0 n n false 8/\lo<=b/\M[b]? =some (.cells true (zJ n fun i=>zaS (sp i) (va i) (vm i)))/\ ∀i,i<n->Loc (fun c=>lo<=c/\c≠b) M (fun M=>zom M (sp i) (va i) (vm i))
theorem SpG.row {lo:Nat}{M:Mem}{v:V}{va vm:Nat->V}{n:Nat}{sp:Nat->zak}(h:SpG lo M v va vm n sp):(v= .nils/\zJ n (fun i=>zaS (sp i) (va i) (vm i))=[])\/ ∃b,v= .slice b 0 (zJ n (fun i=>zaS (sp i) (va i) (vm i))).length (zJ n (fun i=>zaS (sp i) (va i) (vm i))).length false 8/\M[b]? =some (.cells true (zJ n (fun i=>zaS (sp i) (va i) (vm i)))):=by
 rcases h with ⟨rfl,rfl⟩|⟨b,rfl,_,h,_⟩
 ·exact .inl ⟨rfl,rfl⟩
 ·exact .inr ⟨b,by simp,h⟩
theorem SpG.cell {lo:Nat}{M:Mem}{v:V}{va vm:Nat->V}{n:Nat}{sp:Nat->zak}(h:SpG lo M v va vm n sp):v.isCell=true/\V.beq v v=true:=by
 rcases h with ⟨rfl,rfl⟩|⟨b,rfl,_,h,_⟩
 ·exact ⟨rfl,rfl⟩
 ·exact ⟨rfl,by simp [V.beq]⟩
theorem SpG.r {m M:Mem}{v:V}{va vm:Nat->V}{n:Nat}{sp:Nat->zak}(h:SpG m.length M v va vm n sp) (hg:Grow m M):SpR m M v n sp:=by
 obtain ⟨g,rfl⟩:=hg;refine ⟨g,va,vm,rfl,h.cell.1,h.cell.2,fun M hM=> ?_⟩;rcases h with ⟨rfl,rfl⟩|⟨b,rfl,hb,h,he⟩
 ·exact ⟨.inl ⟨rfl,rfl⟩,fun i h=>absurd h (Nat.not_lt_zero _)⟩
 ·refine ⟨.inl ?_,fun i hi=>he i hi M fun c y hc hy=>hM.of c y hc.1 hy⟩
  have:=Sl.mk (cap:=n) (z:=8) (ex:=false) (hM.of b _ hb h);rw [List.length_map,List.length_range] at this;exact this
end Go.AM.G
