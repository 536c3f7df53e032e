import Derived.Test.YtfhbhfogcgfeeaaGreatDoorHuG
set_option linter.unusedVariables false
set_option linter.unusedSimpArgs false
set_option maxRecDepth 100000
namespace Go.AM.G
open Go Go.AM
theorem zjP {M X:Mem}{v:V}{l:List Nat}(hv:Nus M v l) (hn:l.length<17592186044417): ∃r g,zF (M++ .cells true []::X) [.int .u64 0] 8 (.slice M.length 0 0 0 true 1) v=some (r,M++ .cells true []::(X++g))/\r.isCell=true/\((l=[]/\r= .slice M.length 0 0 0 true 1)\/(r= .slice (M.length+(X.length+1)) 0 l.length l.length false 1/\g=[.cells true (zJ l)])):=by
 have hlen:(zJ l).length=l.length:=by simp
 have e2:(M++ .cells true []::X)[M.length]? =some (.cells true []):=by simp
 have hy:zcz (M++ .cells true []::X) v=some (zJ l)/\zOk v 1=true:=elY hv.app;obtain ⟨hy,hz⟩:=hy
 by_cases h0:l=[]
 ·subst h0
  refine ⟨_,[],?_,zfM,.inl ⟨rfl,rfl⟩⟩;rw [List.append_nil];unfold zF;rw [hy];simp [hz]
 ·have e1:(zJ l).isEmpty=false:=by cases l with
   |nil=>exact absurd rfl h0
   |cons a l=>rfl
  have hpos:0<l.length:=List.length_pos_iff.2 h0;have e3:roomy l.length 8=true:=by simp [roomy];omega
  have e4:¬ l.length=0:=by omega
  have e5:¬ l.length<=0:=by omega
  refine ⟨_,[.cells true (zJ l)],?_,zfM,.inr ⟨rfl,rfl⟩⟩;unfold zF;rw [hy];simp [hz,h0,e3,e4]
theorem zrC {M:Mem}{v:V}{els:List (List V)}{zero:List V}{bytes z:Nat}(h:(v= .nils/\els=[])\/ ∃b,v= .slice b 0 els.length els.length false z/\M[b]? =some (.cells true els)) (hz:zero.length=z) (hr:roomy (els.length+1) bytes=true):
  ∃M2,M.length=M2.length/\(∀c,zQ v≠some c->M2[c]? =M[c]?)/\ ∀G T,zF (M++G) zero bytes v (.slice T 0 1 1 true z)=pushB (M++G)[T]? fun x=>(.slice (M.length+G.length) 0 (els.length+1) (els.length+1) false z,M2++(G++[.cells true (els++[x])])):=by
 have hG:Gw ([]:Mem).length M v z els:=by
  rcases h with h|⟨b,rfl,hb⟩
  ·exact .inl h
  ·exact .inr ⟨b,by simp,hb⟩
 obtain ⟨g',h1,h2,h3⟩:=hG.push hz hr;simp only [List.length_nil,Nat.zero_add,List.nil_append] at h2 h3;exact ⟨g',h1.symm,h2,h3⟩
def GrC (lo:Nat) (M:Mem) (v:V) (vs:Nat->V) (qs:List (List Nat)):Prop:=(qs=[]/\v= .nils)\/ ∃b,v= .slice b 0 qs.length qs.length false 1/\GrO lo M b vs qs
theorem GrC.cell {lo:Nat}{M:Mem}{v:V}{vs:Nat->V}{qs:List (List Nat)}(h:GrC lo M v vs qs):v.isCell=true:=by
 rcases h with ⟨_,rfl⟩|⟨b,rfl,_⟩<;>rfl
theorem GrC.beq {lo:Nat}{M:Mem}{v:V}{vs:Nat->V}{qs:List (List Nat)}(h:GrC lo M v vs qs):V.beq v v=true:=by
 rcases h with ⟨_,rfl⟩|⟨b,rfl,_⟩
 ·rfl
 ·simp [V.beq]
theorem GrC.r {m M:Mem}{lo:Nat}{v:V}{vs:Nat->V}{qs:List (List Nat)}(h:GrC lo M v vs qs) (hl:m.length<=lo) (hg:Grow m M):GrR m M v qs:=by
 rcases h with ⟨rfl,rfl⟩|⟨b,rfl,h⟩
 ·exact .nil hg
 ·exact h.r hl hg
theorem GrC.to {lo:Nat}{M M':Mem}{v:V}{vs:Nat->V}{qs:List (List Nat)}(h:GrC lo M v vs qs) (k: ∀c y,lo<=c->M[c]? =some y->M'[c]? =some y):GrC lo M' v vs qs:=h.imp id fun ⟨b,e,h⟩=>⟨b,e,h.to k⟩
theorem zvc {k:Nat}{vs:Nat->V}{r:V}:zD (k+1) (fun i=>[up vs k r i])=zD k (fun i=>[vs i])++[[r]]:=by
 rw [zD,List.range_succ,List.map_append]
 congr 1
 ·refine List.map_congr_left fun i hi=> ?_
  rw [zaa (by have:=List.mem_range.1 hi;omega)]
 ·simp [zz]
theorem zwT {qs:List (List Nat)}{l:List Nat}{i:Nat}:qat (qs++[l]) i=if i=qs.length then l else qat qs i:=by
 unfold qat;rw [List.getD_eq_getElem?_getD,List.getD_eq_getElem?_getD]
 by_cases e:i=qs.length
 ·subst e;simp
 ·rw [if_neg e]
  by_cases h:i<qs.length
  ·rw [List.getElem?_append_left h]
  ·rw [List.getElem?_eq_none (by simp;omega),List.getElem?_eq_none (by omega)]
theorem GrC.row {lo:Nat}{M:Mem}{v:V}{vs:Nat->V}{qs:List (List Nat)}(h:GrC lo M v vs qs):(v= .nils/\zD qs.length (fun i=>[vs i])=[])\/ ∃b,v= .slice b 0 (zD qs.length (fun i=>[vs i])).length (zD qs.length (fun i=>[vs i])).length false 1/\M[b]? =some (.cells true (zD qs.length (fun i=>[vs i]))):=by
 rcases h with ⟨rfl,rfl⟩|⟨b,rfl,h⟩
 ·exact .inl ⟨rfl,rfl⟩
 ·exact .inr ⟨b,by simp,h.row⟩
theorem GrC.snoc {lo nb:Nat}{M M':Mem}{v r:V}{vs:Nat->V}{qs:List (List Nat)}{l:List Nat}(h:GrC lo M v vs qs) (hlo:lo<=M.length) (hr:Gm M' r l) (hrl: ∀c,zQ r=some c->M.length<=c/\c≠nb) (hnb:M.length<=nb) (hrow:M'[nb]? =some (.cells true (zD qs.length (fun i=>[vs i])++[[r]]))) (hk: ∀c y,lo<=c->zQ v≠some c->M[c]? =some y->M'[c]? =some y):GrC lo M' (.slice nb 0 (qs.length+1) (qs.length+1) false 1) (up vs qs.length r) (qs++[l]):=by
 have lq:(qs++[l]).length=qs.length+1:=by simp
 refine .inr ⟨nb,by rw [lq],?_⟩;have old: ∀i,i<qs.length->Gm M (vs i) (qat qs i)/\(∀c,zQ (vs i)=some c->lo<=c/\zQ v≠some c):=fun i hi=>by
  rcases h with ⟨rfl,rfl⟩|⟨b,rfl,h⟩
  ·simp at hi
  ·exact ⟨h.e i hi,fun c hc=>⟨(h.l i hi c hc).1,fun e=>(h.l i hi c hc).2 (by cases e;rfl)⟩⟩
 have oldd: ∀i j,i<qs.length->j<qs.length->i≠j-> ∀c,zQ (vs i)=some c->zQ (vs j)≠some c:=fun i j hi hj hij c=>by
  rcases h with ⟨rfl,rfl⟩|⟨b,rfl,h⟩
  ·simp at hi
  ·exact h.d i j hi hj hij c
 refine ⟨by omega,by rw [hrow,lq,zvc],fun i hi=> ?_,fun i hi c hc=> ?_,fun i j hi hj hij c h1 h2=> ?_⟩
 ·rw [zwT]
  by_cases e:i=qs.length
  ·subst e;rw [zz,if_pos rfl];exact hr
  ·rw [zaa e,if_neg e]
   obtain ⟨a1,a2⟩:=old i (by omega);exact a1.to fun c y hc hy=>hk c y (a2 c hc).1 (a2 c hc).2 hy
 ·by_cases e:i=qs.length
  ·subst e
   rw [zz] at hc;have:=hrl c hc;omega
  ·rw [zaa e] at hc
   obtain ⟨a1,a2⟩:=old i (by omega);have:=a1.lt hc;have:=(a2 c hc).1;omega
 ·by_cases e:i=qs.length
  ·subst e
   rw [zz] at h1;rw [zaa (Ne.symm hij)] at h2;have:=(old j (by omega)).1.lt h2;have:=hrl c h1;omega
  ·rw [zaa e] at h1
   by_cases e2:j=qs.length
   ·subst e2
    rw [zz] at h2;have:=(old i (by omega)).1.lt h1;have:=hrl c h2;omega
   ·rw [zaa e2] at h2
    exact oldd i j (by omega) (by omega) hij c h1 h2
theorem zrD {m:Mem}{v:V}{vs:Nat->V}{qs:List (List Nat)}(h:zfF m v vs qs) (hn:qs.length*24<=140737488355328) (hl: ∀i,i<qs.length->(qat qs i).length<17592186044417):
  C S zjq [.agg [v]] m (fun r m'=> ∃v' vs',Grow m m'/\r= .agg [v']/\GrC (m.length+3) m' v' vs' qs):=by
 have A:=h.s.ar;have hh:=zU h;have hl':=zU hl;clear hl h;refine fn rfl ?_;refine range (α:=V×(Nat->V)) qs.length (fun _=>[(7,v),(2,.ptr (m.length+1) 0 0),(3,.ptr (m.length+2) 0 0)]) (fun k x M=>Grow m M/\M[m.length+1]? =some (.cells true [[.nils]])/\M[m.length+2]? =some (.cells true [[x.1]])/\m.length+3<=M.length/\GrC (m.length+3) M x.1 x.2 (qs.take k)) (.nils,fun _=> .nils) ⟨⟨_,rfl⟩,by rw [zg];rfl,by rw [zg];rfl,by simp,.inl ⟨rfl,rfl⟩⟩ ?_ ?_
 ·rintro k ⟨u,us⟩ fr M hk F ⟨hg,hal,hbx,hml,hC⟩
  dsimp only at hbx hC;have hin:Nus M (vs k) (qat qs k):=(hh.down.e k hk).grow hg;have B:=(hh.down.s.grow hg).ar;have hvc:=hin.ar.2.1;have lk:(qs.take k).length=k:=by rw [List.length_take];omega
  obtain ⟨r,g,ap,rc,hr⟩:=zjP (X:=[.dead]) hin (hl'.down k hk);have uc:=hC.cell;have ub:=hC.beq;obtain ⟨M2,l1,l2,hp⟩:=zrC (zero:=[.nils]) (bytes:=24) hC.row rfl (by simp [roomy,lk];omega);rw [List.length_map,List.length_range,lk] at hp;have hub:zQ u≠some (m.length+2):=fun e=>by
   rcases hC with ⟨_,rfl⟩|⟨b,rfl,h⟩
   ·cases e
   ·have:=h.lb
    cases e;omega
  have hbx2:M2[m.length+2]? =some (.cells true [[u]]):=(l2 _ hub).trans hbx;have rcc:=zaL rc;have pb:= @zhe;have hg':=zU hg;have hC':=zU hC;have hr':=zU hr;have l1':=zU l1;have l2':=zU l2;clear A hin hg hC hr l1 l2;simp only [List.length_cons,List.length_nil,List.cons_append,List.nil_append] at ap;refine am ?_;obtain ⟨nb,enb⟩: ∃nb,M.length+(g.length+1+1)=nb:=⟨_,rfl⟩
  obtain ⟨M3,eM3⟩: ∃M3,M2++Blk.cells true []::Blk.cells true [[r]]::(g++[Blk.cells true ((zD k fun i=>[us i])++[[r]])])=M3:=⟨_,rfl⟩
  have e1: ∀j,M3[M.length+j]? =(Blk.cells true []::Blk.cells true [[r]]::(g++[Blk.cells true ((zD k fun i=>[us i])++[[r]])]))[j]? :=fun j=>by rw [<-eM3,l1'.down,zg]
  have hnb:M3[nb]? =some (.cells true (zD k (fun i=>[us i])++[[r]])):=by
   rw [<-enb,e1,zaY,zaY,zT];rfl
  have old: ∀c y,zQ u≠some c->M[c]? =some y->M3[c]? =some y:=fun c y hc hy=>by
   rw [<-eM3];exact zb ((l2'.down c hc).trans hy)
  have hG:Gm M3 r (qat qs k)/\ ∀c,zQ r=some c->M.length<=c/\c≠nb:=by
   rcases hr'.down with ⟨e,rfl⟩|⟨rfl,rfl⟩
   ·refine ⟨.inr (.inr ⟨e,M.length,true,[],rfl,by have:=e1 0;simpa using this⟩),fun c hc=> ?_⟩
    cases hc;omega
   ·refine ⟨.inr (.inl ⟨_,rfl,by rw [e1];rfl⟩),fun c hc=> ?_⟩
    cases hc;simp only [List.length_cons,List.length_nil] at enb ⊢;omega
  have ho: ∀c,zQ u=some c->m.length+3<=c:=fun c hc=>by
   rcases hC'.down with ⟨_,rfl⟩|⟨b,rfl,h⟩
   ·cases hc
   ·have:=h.lb
    cases hc;omega
  rw [eM3,enb];have hC:=hC'.down.snoc (M':=M3) (r:=r) (nb:=nb) (l:=qat qs k) hml hG.1 hG.2 (by omega) (by rw [lk];exact hnb) fun c y _ hc hy=>old c y hc hy
  rw [lk] at hC;refine ⟨(_,up us k r),zi,?_,?_,zaC (old _ _ hub hbx),?_,?_⟩
  ·exact Grow.set (zi0 fun c y hc hy=>old c y (fun e=>by have:=ho c e;omega) (hg'.down.get hy)) (by omega) _
  ·exact zq (by omega) (old _ _ (fun e=>by have:=ho _ e;omega) hal)
  ·rw [List.length_set]
   have:=(List.getElem?_eq_some_iff.1 hnb).1;omega
  ·rw [show qs.take (k+1)=qs.take k++[qat qs k] from by
    rw [List.take_add_one];simp [qat,List.getD_eq_getElem?_getD,hk]]
   exact hC.to fun c y hc hy=>zq (by omega) hy
 ·rintro ⟨u,us⟩ fr M F ⟨hg,hal,hbx,hml,hC⟩
  dsimp only at hbx hC;rw [List.take_length] at hC;have uc:=hC.cell;have hg':=zU hg;have hC':=zU hC;have s1: ∀y,(M.set (m.length+1) y)[m.length+1]? =some y:=fun y=>zaC hal
  clear hg hC;refine am ?_;exact ⟨u,us,Grow.set hg'.down (by omega) _,rfl,hC'.down.to fun c y hc hy=>zq (by omega) hy⟩
theorem zrE {m:Mem}{v u:V}{vs us:Nat->V}{qs rs:List (List Nat)}(h:zfF m v vs qs) (k:zfF m u us rs) (hn:qs.length<17592186044417) (hl: ∀i,i<qs.length->(qat qs i).length<17592186044417):C S zjt [.agg [v],.agg [u]] m (fun r m'=>r= .bool (decide (qs=rs))/\Grow m m'):=by
 have A:=h.s.ar;have B:=k.s.ar;have hh:=zU h;have kk:=zU k;have hl':=zU hl;obtain ⟨Q,eQ⟩: ∃Q,decide (qs=rs)=Q:=⟨_,rfl⟩
 have eQ':=zU eQ;rw [eQ];clear h k eQ hl
 by_cases c:qs.length=rs.length
 case neg=>
  have c1:((qs.length:Int)=(rs.length:Int))=False:=eq_false (by omega);have e:PLift (Q=false):=⟨by rw [<-eQ'.down];exact decide_eq_false fun e=>c (by rw [e])⟩
  clear c;refine fn rfl ?_;exact ⟨e.down.symm,_,rfl⟩
 have c1:((qs.length:Int)=(rs.length:Int))=True:=eq_true (by omega);have c':=zU c;clear c;refine fn rfl ?_;refine range (α:=Unit) qs.length (fun _=>[(2,.ptr m.length 0 0),(3,.ptr (m.length+1) 0 0)]) (fun j _ M=>(∃g,M=m++ .cells true [[v]]:: .cells true [[u]]::g)/\ ∀i,i<j->qat qs i=qat rs i) () ⟨⟨_,rfl⟩,fun i h=>absurd h (Nat.not_lt_zero _)⟩ ?_ ?_
 ·rintro j _ fr _ hj F ⟨⟨g,rfl⟩,hj2⟩
  have h1:=hh.down.app (g:= .cells true [[v]]:: .cells true [[u]]::g);have k1:=kk.down.app (g:= .cells true [[v]]:: .cells true [[u]]::g);have h2:=h1.s.ar;have k2:=k1.s.ar;have h3:=h1.e j hj;have hjr:j<rs.length:=by have:=c'.down;omega
  have k3:=k1.e j hjr;have h4:=h3.ar.2.1;have k4:=k3.ar.2.1;have k5:=k2.2.2.2.1 .i64 j hjr;have k6:=fun o k=>k2.2.2.2.2 j o k hjr
  have SW:=zl7 (w:=nx (qat qs j)) (x:=nx (qat rs j)) h3 k3 (by have:=hl'.down j hj;omega);have SW':=zU SW;have hj2':=zU hj2;clear A B h1 k1 h3 k3 SW hj2;refine am ?_;refine SW'.down.mono ?_;rintro _ _ ⟨rfl,rfl⟩
  by_cases e:qat qs j=qat rs j
  ·have d:decide ((qat qs j).length=(qat rs j).length/\ ∀i,i<(qat qs j).length->nx (qat qs j) i=nx (qat rs j) i)=true:=decide_eq_true (by rw [e];exact ⟨rfl,fun _ _=>rfl⟩)
   rw [d];have e':=zU e;clear d e;refine am ?_;refine ⟨(),zi,⟨_,rfl⟩,fun i hi=> ?_⟩
   by_cases e:i=j
   ·rw [e];exact e'.down
   ·exact hj2'.down i (by omega)
  ·have d:decide ((qat qs j).length=(qat rs j).length/\ ∀i,i<(qat qs j).length->nx (qat qs j) i=nx (qat rs j) i)=false:=decide_eq_false fun ⟨h1,h2⟩=>e (by
    rw [<-zko (l:=qat qs j),<-zko (l:=qat rs j),<-h1];exact List.map_congr_left fun i hi=>h2 i (List.mem_range.1 hi))
   rw [d];have e2:PLift (Q=false):=⟨by rw [<-eQ'.down];exact decide_eq_false fun h=>e (by rw [h])⟩
   clear d e;refine am ?_;exact ⟨e2.down.symm,_,rfl⟩
 ·rintro _ fr _ F ⟨⟨g,rfl⟩,hj2⟩
  have e2:PLift (Q=true):=⟨by
   rw [<-eQ'.down];refine decide_eq_true (List.ext_getElem c'.down fun i h1 h2=> ?_);have:=hj2 i h1
   simpa [qat,List.getD_eq_getElem?_getD,h1,h2] using this⟩
  clear hj2;refine am ?_;exact ⟨e2.down.symm,_,rfl⟩
theorem Loc.mono {F F':Nat->Prop}{M:Mem}{P:Mem->Prop}(h:Loc F M P) (k: ∀b,F b->F' b):Loc F' M P:=fun M' h'=>h M' fun b x hb hx=>h' b x (k b hb) hx
theorem AtM.of {m g M:Mem}(h:AtM m.length g M): ∀c y,m.length<=c->(m++g)[c]? =some y->M[c]? =some y:=fun c y hc hy=>by
 obtain ⟨j,rfl⟩: ∃j,c=m.length+j:=⟨c-m.length,by omega⟩
 rw [zg] at hy;exact h j y hy
theorem AtM.end {M g:Mem}:AtM M.length g (M++g):=by
 have:=AtM.left (A:=M) (AtM.here (g:=g))
 rwa [Nat.add_zero] at this
def SpR (m m':Mem) (v:V) (n:Nat) (sp:Nat->zZ):Prop:= ∃g va vm,m'=m++g/\v.isCell=true/\V.beq v v=true/\Ps m.length g (fun M=>zh9 M v n sp va vm)
abbrev zSp:List V:=[.int .i64 0,.int .i64 0,.int .i64 0,.int .i64 0,.nils,.int .i64 0,.nils,.bool false]
theorem zp2 {m:Mem}{v:V}{n:Nat}{f:Nat->List V}(hv:Rd m v 8 n f) (hn:n<1000000000):C S zdQ [v] m (fun r m'=> ∃g,m'=m++g/\In m.length g r 8 (zD n f)):=by
 have hl:(zD n f).length=n:=by simp
 rcases hv with hv|⟨rfl,rfl⟩
 ·rcases hv.cases with ⟨rfl,he⟩|⟨b,i,len,cap,ex,rfl⟩
  ·clear he
   refine fn rfl ?_;exact ⟨[],by simp,.mk ⟨by rw [List.append_nil];exact hv,.inl rfl⟩⟩
  ·obtain ⟨v',m',a1,⟨g,rfl⟩,a3⟩:=zfN (zero:=zSp) (bytes:=96) hv rfl (by decide) (by rw [hl];omega)
   have a3':=zU a3;clear a3;refine fn rfl ?_;exact ⟨g,rfl,.mk a3'.down⟩
 ·refine fn rfl ?_
  exact ⟨.slice m.length 0 0 0 true 8,m++[.cells true []],by simp [zF,zcz,zOk],[.cells true []],rfl,.mk ⟨Sl.mk (els:=[]) (own:=true) (by simp),.inr ⟨_,_,_,Nat.le_refl _,rfl,by simp⟩⟩⟩
theorem zxy {sp:Nat->zZ}{va vm:Nat->V}{k:Nat}{a b:V}:up (fun i=>zV (sp i) (va i) (vm i)) k (zV (sp k) a b)=fun i=>zV (sp i) (up va k a i) (up vm k b i):=by
 funext i
 by_cases e:i=k
 ·subst e;simp [zz]
 ·simp [zaa e]
theorem zsU {m:Mem}{v:V}{n:Nat}{sp:Nat->zZ}{va vm:Nat->V}(h:zh9 m v n sp va vm) (hn:n<1000000000) (hp: ∀i,i<n->0<(sp i).mr.n):C S ziq [v] m (fun r m'=>SpR m m' r n sp):=by
 have hc:=h.s.ar.2.1;have hh:=zU h;have hp':=zU hp;clear h hp;refine fn rfl ?_;refine (zp2 hh.down.s hn).mono ?_;rintro r _ ⟨g0,rfl,hi⟩;have rc:=hi.cell;have rl:zfl r=some (.int .i64 (n:Int)):=by have:=hi.len;simpa using this
 have rb:=(hi.ps.on (M:=m++g0) (by exact AtM.end)).beq';have rz:=(hi.ps.on (M:=m++g0) (by exact AtM.end)).2;rcases hi.cases with ⟨rfl,e⟩|⟨L0,R0,cap,ex,rfl,rfl⟩
 ·have e0:n=0:=by have:=congrArg List.length e;simpa using this
  subst e0;clear hi e;refine am ?_;refine range (α:=Unit) 0 (fun _=>[(0,.nils)]) (fun _ _ M=>M=m++g0) () rfl (fun k _ _ _ hk=>absurd hk (Nat.not_lt_zero _)) ?_;rintro _ fr _ F rfl;refine am ?_;exact ⟨g0,fun _=> .nils,fun _=> .nils,rfl,rfl,rfl,fun M _=>⟨.inl ⟨rfl,rfl⟩,fun i h=>absurd h (Nat.not_lt_zero _)⟩⟩
 rw [List.length_map,List.length_range] at rl rb rz rc ⊢;clear hi;obtain ⟨b,eb⟩: ∃b,m.length+L0.length=b:=⟨_,rfl⟩
 have hrow:(m++(L0++ .cells true (zD n fun i=>zV (sp i) (va i) (vm i))::R0))[b]? =some (.cells true (zD n fun i=>zV (sp i) (va i) (vm i))):=by rw [<-eb];simp [zg]
 have hg:Grow m (m++(L0++ .cells true (zD n fun i=>zV (sp i) (va i) (vm i))::R0)):=⟨_,rfl⟩
 rw [eb] at rl rb rz rc ⊢
 generalize (m++(L0++ .cells true (zD n fun i=>zV (sp i) (va i) (vm i))::R0))=M0 at hrow hg ⊢
 have hmb:m.length<=b:=by omega
 clear eb;have hg':=zU hg;have hrow':=zU hrow;clear hg hrow;refine am ?_;refine range (α:=(Nat->V)×(Nat->V)) n (fun _=>[(0,.slice b 0 n cap ex 8)]) (fun k x M=>Grow m M/\M[b]? =some (.cells true (zD n fun i=>zV (sp i) (x.1 i) (x.2 i)))/\(∀i,k<=i->x.1 i=va i/\x.2 i=vm i)/\ ∀i,i<k->Loc (fun c=>m.length<=c/\c≠b) M (fun M=>ziC M (sp i) (x.1 i) (x.2 i))) (va,vm) ⟨hg'.down,hrow'.down,fun _ _=>⟨rfl,rfl⟩,fun i h=>absurd h (Nat.not_lt_zero _)⟩ ?_ ?_
 ·rintro k ⟨ya,ym⟩ fr M hk F ⟨hg,hr,hx,hy⟩
  dsimp only at hr hx hy;obtain ⟨x1,x2⟩:=hx k (Nat.le_refl _);have hs:ziC M (sp k) (va k) (vm k):=by
   obtain ⟨g,rfl⟩:=hg;exact (hh.down.e k hk).app
  have c1:=hs.a.ar.2.1;have c2:=hs.k.ar.2.1;have i1:= @zci n k (fun i=>zV (sp i) (ya i) (ym i));have ix:= @zcj b 0 n cap k 8 ex .i64 hk;have ON:=zwP hs (hp'.down k hk);have ON':=zU ON;have hg':=zU hg;have hx':=zU hx;have hy':=zU hy;clear hs ON hg hx hy;refine am ?_;refine ON'.down.mono ?_;rintro _ _ ⟨g,va',vm',rfl,rfl,d1,d2,hP⟩;have i2:= @zds n k 8 (fun i=>zV (sp i) (ya i) (ym i)) (.agg (zV (sp k) va' vm'));have hP':=zU hP;have hl:=(List.getElem?_eq_some_iff.1 hr).1;clear hP;refine am ?_;refine ⟨(up ya k va',up ym k vm'),zi,Grow.set hg'.down.app hmb _,?_,fun i hi=> ?_,fun i hi=> ?_⟩
  ·rw [zaC (zb hr)]
   dsimp only;rw [<-zxy]
  ·dsimp only
   rw [zaa (by omega),zaa (by omega)];exact hx'.down i (by omega)
  ·dsimp only
   by_cases e:i=k
   ·subst e
    rw [zz,zz];have:=(hP'.down.loc (M:=(M++g).set b (.cells true (zD n (up (fun i=>zV (sp i) (ya i) (ym i)) i (zV (sp i) va' vm'))))) (AtM.end.set (.inl hl)))
    exact this.mono fun c hc=>⟨by have:=hg'.down.len;omega,by omega⟩
   ·rw [zaa e,zaa e]
    exact ((hy'.down i (by omega)).app).set (fun h=>h.2 rfl)
 ·rintro ⟨ya,ym⟩ fr M F ⟨⟨g,rfl⟩,hr,hx,hy⟩
  dsimp only at hr hy;have hr':=zU hr;have hy':=zU hy;clear hx hr hy;refine am ?_;refine ⟨g,ya,ym,rfl,rfl,rb,fun M hM=>⟨.inl ?_,fun i hi=>hy'.down i hi M fun c y hc hy=>hM.of c y hc.1 hy⟩⟩;have:=Sl.mk (cap:=cap) (z:=8) (ex:=ex) (hM.of b _ hmb hr'.down);rw [List.length_map,List.length_range] at this;exact this
def HpR (m m':Mem) (cs:List V) (H:zm):Prop:= ∃g aw uw sv,m'=m++g/\cs=z8 H aw uw sv/\aw.isCell=true/\uw.isCell=true/\sv.isCell=true/\V.beq aw aw=true/\V.beq uw uw=true/\V.beq sv sv=true/\ ∃va vm,Ps m.length g (fun M=>zdo M aw uw sv va vm H)
theorem zgd {m:Mem}{v:V}{n:Nat}{w:Nat->Nat}:Nus m v ((List.range n).map w)↔Rd m v 1 n (zB w):=by
 have e:(List.range ((List.range n).map w).length).map (fun i=>[V.int .u64 (nx ((List.range n).map w) i:Nat)])=(List.range n).map (zB w):=by
  rw [List.length_map,List.length_range];refine List.map_congr_left fun i hi=> ?_
  have:=List.mem_range.1 hi;simp [nx,List.getD_eq_getElem?_getD,this]
 unfold Nus Rd;rw [e]
 simp
theorem zm1 {M:Mem}{v:V}{l:List Nat}(h:Gm M v l):zhP v/\V.beq v v=true:=by
 rcases h with ⟨rfl,_⟩|⟨b,rfl,_⟩|⟨_,b,_,_,rfl,_⟩
 ·exact ⟨trivial,rfl⟩
 ·exact ⟨Nat.le_refl _,by simp [V.beq]⟩
 ·exact ⟨Nat.le_refl _,by simp [V.beq]⟩
def WdR (m m':Mem) (v:V) (n:Nat) (w:Nat->Nat):Prop:= ∃g,m'=m++g/\v.isCell=true/\zhP v/\V.beq v v=true/\Ps m.length g (fun M=>Rd M v 1 n (zB w))
theorem zrF {m:Mem}{v:V}{n:Nat}{w:Nat->Nat}(hv:Rd m v 1 n (zB w)) (hn:n<17592186044417):C S zG [v] m (fun r m'=>WdR m m' r n w):=by
 refine (zcE (zgd.2 hv) (by simpa using hn)).mono ?_;rintro r _ ⟨g,rfl,hG⟩;obtain ⟨h1,h2⟩:=hG.gm;refine ⟨g,rfl,hG.cell,(zm1 h1).1,(zm1 h1).2,fun M hM=> ?_⟩;exact zgd.1 (h1.to fun c y hc hy=>hM.of c y (h2 c hc) hy).nus
theorem zsV {m:Mem}{v:V}{n:Nat}{w:Nat->Nat}(hv:Rd m v 1 n (zB w)) (hn:n<17592186044417):C S zkJ [.agg [v]] m (fun r m'=> ∃v',r= .agg [v']/\WdR m m' v' n w):=by
 have A:=hv.ar.2.1;have hv':=zU hv;clear hv;refine fn rfl ?_;refine (zrF hv'.down.app hn).mono ?_;rintro r _ ⟨g,rfl,c1,c2,c3,hP⟩;have hP':=zU hP;have cc:=zaL c1;clear hP;refine am ?_;exact ⟨_,rfl,_,rfl,c1,c2,c3,hP'.down.to⟩
theorem zsW {m:Mem}{v:V}{n:Nat}{w:Nat->Nat}{N:Int}(hv:Rd m v 1 n (zB w)) (hn:n<17592186044417):C S zg0 [.agg [.int .i64 N,v]] m (fun r m'=> ∃v' g,r= .agg [.int .i64 N,v']/\m'=m++g/\Iu m.length g v' n w):=by
 have A:=hv.ar.2.1;have hv':=zU hv;clear hv;refine fn rfl ?_;refine (zfm hv'.down.app hn).mono ?_;rintro _ _ ⟨g,v',rfl,rfl,hI⟩;have c1:=hI.cell;have hI':=zU hI;clear hI;refine am ?_;exact ⟨_,_,rfl,rfl,.pre [_,_] (by simpa using hI'.down)⟩
theorem zrG {H:zm}(h:H.framed):0<H.us.n/\H.ns<1000000000/\ ∀i,i<H.ns->0<(H.sp i).mr.n/\0<(H.sp i).al.n:=by
 obtain ⟨h1,h2,h3,h4,h5,h6⟩:=h;refine ⟨?_,by have:=h3.1;omega,fun i hi=> ?_⟩
 ·have:=h2.2.2.1;omega
 ·obtain ⟨k,_⟩:=h3.2 i hi
  have k1:=k.2.2.2.1.2.2.1;have k2:=k.2.2.2.2.1.2.2.1;have k3:=k.2.2.2.2.2.1;have k4:=k.2.2.2.2.2.2.1;have:=zrd (H.sp i).size;omega
theorem zoR {m:Mem}{aw uw sv:V}{va vm:Nat->V}{H:zm}(h:zdo m aw uw sv va vm H) (hf:H.framed) (bs:V.beq sv sv=true):C S zfZ [.agg (z8 H aw uw sv)] m (fun r m'=> ∃cs,r= .agg cs/\HpR m m' cs H):=by
 obtain ⟨p1,p2,p3⟩:=zrG hf;have A:=h.a.ar.2.1;have B:=h.u.ar.2.1;have D:=h.s.s.ar.2.1;have bu:=h.u.beq p1;have hh:=zU h;clear h hf;refine fn rfl ?_;refine (zsV hh.down.a.app hh.down.la).mono ?_;rintro _ _ ⟨aw',rfl,g1,rfl,c1,c2,c3,hP⟩;have hP':=zU hP;clear hP;refine am ?_;refine (zsW hh.down.u.app hh.down.lu).mono ?_;rintro _ _ ⟨uw',g2,rfl,rfl,hI⟩;have d1:=hI.cell;have hI':=zU hI;clear hI;refine am ?_;refine (zsU hh.down.s.app p2 (fun i hi=>(p3 i hi).1)).mono ?_;rintro sv' _ ⟨g3,va',vm',rfl,e1,e2,hS⟩;have hS':=zU hS;clear hS;refine am ?_;have hu:=hI'.down.ps;refine ⟨_,rfl,_,aw',uw',sv',rfl,rfl,c1,d1,e1,c3,?_,e2,va',vm',fun M hM=>⟨hP'.down.to.on hM,.inl (hu.to.on hM),hS'.down.to.on hM,hh.down.wa,hh.down.wu,hh.down.la,hh.down.lu,hh.down.ls,c2⟩⟩;obtain ⟨M,hM⟩:=hu.ex;exact hM.beq'
theorem zxS {M':Mem}{r:V}{l:List Nat}{B k:Nat}{g:Mem}(hr:(l=[]/\r= .slice B 0 0 0 true 1)\/(r= .slice (B+k) 0 l.length l.length false 1/\g=[.cells true (zJ l)])) (h1:M'[B]? =some (.cells true [])) (h2: ∀x,g[0]? =some x->M'[B+k]? =some x):Gm M' r l/\ ∀c,zQ r=some c->B<=c:=by
 rcases hr with ⟨rfl,rfl⟩|⟨rfl,rfl⟩
 ·exact ⟨.inr (.inr ⟨rfl,B,true,[],rfl,h1⟩),fun c hc=>by cases hc;exact Nat.le_refl _⟩
 ·exact ⟨.inr (.inl ⟨_,rfl,h2 _ rfl⟩),fun c hc=>by cases hc;omega⟩
theorem Gm.wd {m g:Mem}{v:V}{n:Nat}{w:Nat->Nat}(h:Gm (m++g) v ((List.range n).map w)) (hl: ∀c,zQ v=some c->m.length<=c):WdR m (m++g) v n w:=by
 have hc:v.isCell=true:=h.nus.ar.2.1;refine ⟨g,rfl,hc,(zm1 h).1,(zm1 h).2,fun M hM=> ?_⟩;exact zgd.1 (h.to fun c y hc hy=>hM.of c y (hl c hc) hy).nus
theorem zp3 {m:Mem}{v:V}{l:List Nat}(hv:Nus m v l) (hn:l.length<17592186044417):C S zjo [v] m (fun r m'=> ∃g,m'=m++g/\Gx m.length g r (zJ l)):=by
 have A:=hv.ar.2.1;obtain ⟨r,g,ap,rc,hr⟩:=zjP (X:=[]) hv hn;have hr':=zU hr;clear hr;simp only [List.nil_append] at ap;refine fn rfl ?_;rcases hr'.down with ⟨rfl,rfl⟩|⟨rfl,rfl⟩
 ·exact ⟨_,rfl,.inr ⟨rfl,0,true,[],rfl,rfl⟩⟩
 ·exact ⟨_,rfl,.inl (.inr ⟨1,by simp,rfl⟩)⟩
theorem zrH {m:Mem}{v:V}{n:Nat}{w:Nat->Nat}(hv:Rd m v 1 n (zB w)) (hn:n<17592186044417):C S zju [.agg [v]] m (fun r m'=> ∃v',r= .agg [v']/\WdR m m' v' n w):=by
 have A:=hv.ar.2.1;obtain ⟨r,g,ap,rc,hr⟩:=zjP (M:=m++[.cells true [[v]],.cells true [[.nils]]]) (X:=[]) (zgd.2 hv.app) (by simpa using hn);have hr':=zU hr;have rcc:=zaL rc;clear hr;simp only [List.nil_append,List.append_assoc,List.cons_append,List.length_append,List.length_cons,List.length_nil,Nat.zero_add,Nat.reduceAdd] at ap;refine fn rfl ?_;obtain ⟨h1,h2⟩:=zxS (M':=m++ .cells true [[v]]:: .cells true [[r]]:: .cells true []::g) hr'.down (by rw [show List.length (m++[.cells true [[v]],.cells true [[.nils]]])=m.length+((0+1)+1) by simp,zg];rfl) (fun x hx=>by rw [show List.length (m++[.cells true [[v]],.cells true [[.nils]]])+(([]:Mem).length+1)=m.length+(((0+1)+1)+1) by simp,zg];exact hx);exact ⟨r,rfl,h1.wd fun c hc=>Nat.le_trans (by simp) (h2 c hc)⟩
theorem zhm {m:Mem}{v:V}{n:Nat}{w:Nat->Nat}{N:Int}(hv:Rd m v 1 n (zB w)) (hn:n<17592186044417):C S zd0 [.agg [.int .i64 N,v]] m (fun r m'=> ∃v',r= .agg [.int .i64 N,v']/\WdR m m' v' n w):=by
 have A:=hv.ar.2.1;obtain ⟨r,g,ap,rc,hr⟩:=zjP (M:=m++[.cells true [[.int .i64 N,v]],.cells true [[.int .i64 0,.nils]]]) (X:=[]) (zgd.2 hv.app) (by simpa using hn);have hr':=zU hr;have rcc:=zaL rc;clear hr;simp only [List.nil_append,List.append_assoc,List.cons_append,List.length_append,List.length_cons,List.length_nil,Nat.zero_add,Nat.reduceAdd] at ap;refine fn rfl ?_;obtain ⟨h1,h2⟩:=zxS (M':=m++ .cells true [[.int .i64 N,v]]:: .cells true [[.int .i64 N,r]]:: .cells true []::g) hr'.down (by rw [show List.length (m++[.cells true [[.int .i64 N,v]],.cells true [[.int .i64 0,.nils]]])=m.length+((0+1)+1) by simp,zg];rfl) (fun x hx=>by rw [show List.length (m++[.cells true [[.int .i64 N,v]],.cells true [[.int .i64 0,.nils]]])+(([]:Mem).length+1)=m.length+(((0+1)+1)+1) by simp,zg];exact hx);exact ⟨r,rfl,h1.wd fun c hc=>Nat.le_trans (by simp) (h2 c hc)⟩
theorem zrI {m:Mem}{v:V}{n:Nat}{w:Nat->Nat}{N:Int}(hv:Rd m v 1 n (zB w)) (hn:n<17592186044417):C S zjv [.agg [.int .i64 N,v]] m (fun r m'=> ∃v',r= .agg [.int .i64 N,v']/\WdR m m' v' n w):=by
 have A:=hv.ar.2.1;have hv':=zU hv;clear hv;refine fn rfl ?_;refine (zhm hv'.down.app hn).mono ?_;rintro _ _ ⟨v',rfl,g,rfl,c1,c2,c3,hP⟩;have hP':=zU hP;clear hP;refine am ?_;exact ⟨_,rfl,_,rfl,c1,c2,c3,hP'.down.to⟩
theorem zsX {m:Mem}{x:zZ}{va vm:V}(h:ziC m x va vm):C S zkL [.agg (zV x va vm)] m (fun r m'=> ∃g va' vm',m'=m++g/\r= .agg (zV x va' vm')/\va'.isCell=true/\vm'.isCell=true/\Ps m.length g (fun M=>ziC M x va' vm')):=by
 have A:=h.a.ar.2.1;have B:=h.k.ar.2.1;have hh:=zU h;clear h;refine fn rfl ?_;refine (zhm hh.down.a.app hh.down.na).mono ?_;rintro _ _ ⟨v1,rfl,g1,rfl,c1,_,_,hP⟩;have hP':=zU hP;clear hP;refine am ?_;refine (zhm hh.down.k.app hh.down.nk).mono ?_;rintro _ _ ⟨v2,rfl,g2,rfl,d1,_,_,hS⟩;have hS':=zU hS;clear hS;refine am ?_;have h:=hh.down;exact ⟨_,v1,v2,rfl,rfl,c1,d1,fun M hM=>⟨hP'.down.to.on hM,hS'.down.to.on hM,h.wa,h.wk,h.na,h.nk⟩⟩
theorem Loc.lt {F:Nat->Prop}{M:Mem}{P:Mem->Prop}(h:Loc F M P):Loc (fun c=>F c/\c<M.length) M P:=fun M' h'=>h M' fun b x hb hx=>h' b x ⟨hb,(List.getElem?_eq_some_iff.1 hx).1⟩ hx
def SpG (lo:Nat) (M:Mem) (v:V) (va vm:Nat->V) (n:Nat) (sp:Nat->zZ):Prop:=(n=0/\v= .nils)\/ ∃b,v= .slice b 0 n n false 8/\lo<=b/\M[b]? =some (.cells true (zD n fun i=>zV (sp i) (va i) (vm i)))/\ ∀i,i<n->Loc (fun c=>lo<=c/\c≠b) M (fun M=>ziC M (sp i) (va i) (vm i))
theorem SpG.row {lo:Nat}{M:Mem}{v:V}{va vm:Nat->V}{n:Nat}{sp:Nat->zZ}(h:SpG lo M v va vm n sp):(v= .nils/\zD n (fun i=>zV (sp i) (va i) (vm i))=[])\/ ∃b,v= .slice b 0 (zD n (fun i=>zV (sp i) (va i) (vm i))).length (zD n (fun i=>zV (sp i) (va i) (vm i))).length false 8/\M[b]? =some (.cells true (zD n (fun i=>zV (sp i) (va i) (vm i)))):=by
 rcases h with ⟨rfl,rfl⟩|⟨b,rfl,_,h,_⟩
 ·exact .inl ⟨rfl,rfl⟩
 ·exact .inr ⟨b,by simp,h⟩
theorem SpG.cell {lo:Nat}{M:Mem}{v:V}{va vm:Nat->V}{n:Nat}{sp:Nat->zZ}(h:SpG lo M v va vm n sp):v.isCell=true/\V.beq v v=true:=by
 rcases h with ⟨rfl,rfl⟩|⟨b,rfl,_,h,_⟩
 ·exact ⟨rfl,rfl⟩
 ·exact ⟨rfl,by simp [V.beq]⟩
theorem SpG.r {m M:Mem}{v:V}{va vm:Nat->V}{n:Nat}{sp:Nat->zZ}(h:SpG m.length M v va vm n sp) (hg:Grow m M):SpR m M v n sp:=by
 obtain ⟨g,rfl⟩:=hg;refine ⟨g,va,vm,rfl,h.cell.1,h.cell.2,fun M hM=> ?_⟩;rcases h with ⟨rfl,rfl⟩|⟨b,rfl,hb,h,he⟩
 ·exact ⟨.inl ⟨rfl,rfl⟩,fun i h=>absurd h (Nat.not_lt_zero _)⟩
 ·refine ⟨.inl ?_,fun i hi=>he i hi M fun c y hc hy=>hM.of c y hc.1 hy⟩
  have:=Sl.mk (cap:=n) (z:=8) (ex:=false) (hM.of b _ hb h);rw [List.length_map,List.length_range] at this;exact this
theorem zvd {k:Nat}{sp:Nat->zZ}{va vm:Nat->V}{a b:V}:zD (k+1) (fun i=>zV (sp i) (up va k a i) (up vm k b i))=zD k (fun i=>zV (sp i) (va i) (vm i))++[zV (sp k) a b]:=by
 rw [zD,List.range_succ,List.map_append]
 congr 1
 ·refine List.map_congr_left fun i hi=> ?_
  rw [zaa (by have:=List.mem_range.1 hi;omega),zaa (by have:=List.mem_range.1 hi;omega)]
 ·simp [zz]
theorem zrJ {m:Mem}{v:V}{n:Nat}{sp:Nat->zZ}{va vm:Nat->V}(h:zh9 m v n sp va vm) (hn:n*96<=140737488355328):C S zjw [v] m (fun r m'=>SpR m m' r n sp):=by
 have A:=h.s.ar;have hh:=zU h;clear h;refine fn rfl ?_;refine range (α:=V×((Nat->V)×(Nat->V))) n (fun x=>[(6,v),(3,x.1)]) (fun k x M=>Grow m M/\SpG m.length M x.1 x.2.1 x.2.2 k sp) (.nils,fun _=> .nils,fun _=> .nils) ⟨Grow.refl _,.inl ⟨rfl,rfl⟩⟩ ?_ ?_
 ·rintro k ⟨u,ya,ym⟩ fr M hk F ⟨hg,hC⟩
  dsimp only at F hC;have hs:ziC M (sp k) (va k) (vm k):=by
   obtain ⟨g,rfl⟩:=hg;exact (hh.down.e k hk).app
  have B:=(hh.down.s.grow hg).ar;have c1:=hs.a.ar.2.1;have c2:=hs.k.ar.2.1;obtain ⟨uc,ub⟩:=hC.cell;have hs':=zU hs;have hg':=zU hg;have hC':=zU hC;clear A hs hg hC;refine am ?_;refine (zsX hs'.down.app).mono ?_;rintro _ _ ⟨g,va',vm',rfl,rfl,d1,d2,hP⟩;obtain ⟨M2,l1,l2,hp⟩:=zrC (zero:=zSp) (bytes:=96) hC'.down.row rfl (by simp [roomy];omega);rw [List.length_map,List.length_range] at hp;have hP':=zU hP;have l1':=zU l1;have l2':=zU l2;have pb:= @zhe;clear hP l1 l2;refine am ?_;obtain ⟨E0,eE0⟩: ∃E0,[V.int IntKind.i64 (sp k).first,V.int IntKind.i64 (sp k).pages,V.int IntKind.i64 (sp k).size,V.int IntKind.i64 (sp k).al.N,va k,V.int IntKind.i64 (sp k).mr.N,vm k,V.bool (sp k).swept]=E0:=⟨_,rfl⟩
  rw [eE0] at hP' ⊢;obtain ⟨nb,enb⟩: ∃nb,M.length+(g.length+1+1)=nb:=⟨_,rfl⟩
  obtain ⟨R,eR⟩: ∃R,(zD k fun i=>zV (sp i) (ya i) (ym i))++[zV (sp k) va' vm']=R:=⟨_,rfl⟩
  rw [eR,enb];have hnb:(M2++Blk.cells true [E0]::(g++[Blk.cells true [zV (sp k) va' vm'],Blk.cells true R]))[nb]? =some (.cells true R):=by
   rw [<-enb,l1'.down,show g.length+1+1=(g.length+1)+1 by rfl,zg,zaY,zg];rfl
  have hPM:AtM (M++[Blk.cells true [E0]]).length g (M2++Blk.cells true [E0]::(g++[Blk.cells true [zV (sp k) va' vm'],Blk.cells true R])):=by
   have:=AtM.left (A:=M2) (AtM.drop (b:=Blk.cells true [E0]) (AtM.hereA (g:=g) (G:=[Blk.cells true [zV (sp k) va' vm'],Blk.cells true R])));refine this.cst ?_;rw [List.length_append,<-l1'.down];rfl
  have old: ∀c y,zQ u≠some c->M[c]? =some y->(M2++Blk.cells true [E0]::(g++[Blk.cells true [zV (sp k) va' vm'],Blk.cells true R]))[c]? =some y:=fun c y hc hy=>zb ((l2'.down c hc).trans hy)
  generalize M2++Blk.cells true [E0]::(g++[Blk.cells true [zV (sp k) va' vm'],Blk.cells true R])=M3 at hnb hPM old ⊢
  have hlen:=hg'.down.len;have ub2: ∀c,zQ u=some c->m.length<=c:=fun c hc=>by
   rcases hC'.down with ⟨_,rfl⟩|⟨b,rfl,h,_⟩
   ·cases hc
   ·cases hc;exact h
  refine ⟨(_,up ya k va',up ym k vm'),zi,zi0 fun c y hc hy=>old c y (fun e=>by have:=ub2 c e;omega) (hg'.down.get hy),.inr ⟨nb,rfl,by omega,?_,fun i hi=> ?_⟩⟩
  ·dsimp only
   rw [zvd,eR];exact hnb
  ·dsimp only
   by_cases e:i=k
   ·subst e
    rw [zz,zz];refine (hP'.down.loc hPM).mono fun c hc=> ?_
    rw [List.length_append] at hc;have:[Blk.cells true [E0]].length=1:=rfl;omega
   ·rw [zaa e,zaa e]
    rcases hC'.down with ⟨h0,_⟩|⟨b,rfl,hb,hr,he⟩
    ·omega
    ·refine ((he i (by omega)).lt.to (M':=M3) fun c y hc hy=>old c y (fun e=>by cases e;exact hc.1.2 rfl) hy).mono fun c hc=>⟨hc.1.1,by omega⟩
 ·rintro ⟨u,ya,ym⟩ fr M F ⟨hg,hC⟩
  dsimp only at F hC;have hg':=zU hg;have hC':=zU hC;clear hg hC;refine am ?_;exact hC'.down.r hg'.down
theorem zrK {m:Mem}{aw uw sv:V}{va vm:Nat->V}{H:zm}(h:zdo m aw uw sv va vm H) (hn:H.ns*96<=140737488355328) (bu:V.beq uw uw=true) (bs:V.beq sv sv=true):C S zjn [.agg (z8 H aw uw sv)] m (fun r m'=> ∃cs,r= .agg cs/\HpR m m' cs H):=by
 have A:=h.a.ar.2.1;have B:=h.u.ar.2.1;have D:=h.s.s.ar.2.1;have hh:=zU h;clear h;refine fn rfl ?_;refine (zrH hh.down.a.app hh.down.la).mono ?_;rintro _ _ ⟨aw',rfl,g1,rfl,c1,c2,c3,hP⟩;have hP':=zU hP;clear hP;refine am ?_;refine (zrI hh.down.u.app hh.down.lu).mono ?_;rintro _ _ ⟨uw',rfl,g2,rfl,d1,d2,d3,hI⟩;have hI':=zU hI;clear hI;refine am ?_;refine (zrJ hh.down.s.app hn).mono ?_;rintro sv' _ ⟨g3,va',vm',rfl,e1,e2,hS⟩;have hS':=zU hS;clear hS;refine am ?_;refine ⟨_,rfl,_,aw',uw',sv',rfl,rfl,c1,d1,e1,c3,d3,e2,va',vm',fun M hM=>⟨hP'.down.to.on hM,hI'.down.to.on hM,hS'.down.to.on hM,hh.down.wa,hh.down.wu,hh.down.la,hh.down.lu,hh.down.ls,c2⟩⟩
theorem zhn {m:Mem}{v u:V}{n:Nat}{w:Nat->Nat}{N:Int}(h:Rd m v 1 n (zB w)) (k:Rd m u 1 n (zB w)) (hn:n<17592186044417):C S zd2 [.agg [.int .i64 N,v],.agg [.int .i64 N,u]] m (fun r m'=>r= .bool true/\Grow m m'):=by
 have A:=h.ar;have B:=k.ar;have hh:=zU h;have kk:=zU k;have c1:(N=N)=True:=eq_true rfl;have c2:((n:Int)=(n:Int))=True:=eq_true rfl;clear h k;refine fn rfl ?_;refine range (α:=Unit) n (fun _=>[(2,.ptr m.length 0 0),(3,.ptr (m.length+1) 0 0)]) (fun _ _ M=>M=m++[.cells true [[.int .i64 N,v]],.cells true [[.int .i64 N,u]]]) () rfl ?_ ?_
 ·rintro j _ fr _ hj F rfl
  have A':=(hh.down.app (g:=[.cells true [[.int .i64 N,v]],.cells true [[.int .i64 N,u]]])).ar;have B':=(kk.down.app (g:=[.cells true [[.int .i64 N,v]],.cells true [[.int .i64 N,u]]])).ar;have c3:((w j:Int)=(w j:Int))=True:=eq_true rfl;clear A B;refine am ?_;exact ⟨(),zi,rfl⟩
 ·rintro _ fr _ F rfl
  refine am ?_;exact ⟨_,rfl⟩
theorem zrL {m:Mem}{v u:V}{n:Nat}{w:Nat->Nat}(h:Rd m v 1 n (zB w)) (k:Rd m u 1 n (zB w)) (hn:n<17592186044417):C S zjz [.agg [v],.agg [u]] m (fun r m'=>r= .bool true/\Grow m m'):=by
 have A:=h.ar;have B:=k.ar;have hh:=zU h;have kk:=zU k;have c2:((n:Int)=(n:Int))=True:=eq_true rfl;clear h k;refine fn rfl ?_;refine range (α:=Unit) n (fun _=>[(2,.ptr m.length 0 0),(3,.ptr (m.length+1) 0 0)]) (fun _ _ M=>M=m++[.cells true [[v]],.cells true [[u]]]) () rfl ?_ ?_
 ·rintro j _ fr _ hj F rfl
  have A':=(hh.down.app (g:=[.cells true [[v]],.cells true [[u]]])).ar;have B':=(kk.down.app (g:=[.cells true [[v]],.cells true [[u]]])).ar;have c3:((w j:Int)=(w j:Int))=True:=eq_true rfl;clear A B;refine am ?_;exact ⟨(),zi,rfl⟩
 ·rintro _ fr _ F rfl
  refine am ?_;exact ⟨_,rfl⟩
theorem zrM {m:Mem}{v u:V}{n:Nat}{w:Nat->Nat}{N:Int}(h:Rd m v 1 n (zB w)) (k:Rd m u 1 n (zB w)) (hn:n<17592186044417):C S zjA [.agg [.int .i64 N,v],.agg [.int .i64 N,u]] m (fun r m'=>r= .bool true/\Grow m m'):=by
 have A:=h.ar.2.1;have B:=k.ar.2.1;have hh:=zU h;have kk:=zU k;clear h k;refine fn rfl ?_;refine (zhn hh.down.app kk.down.app hn).mono ?_;rintro _ _ ⟨rfl,⟨g,rfl⟩⟩;refine am ?_;exact ⟨_,rfl⟩
theorem zp4 {m:Mem}{x:zZ}{va vm ua um:V}(h:ziC m x va vm) (k:ziC m x ua um):C S zgl [.agg (zV x va vm),.agg (zV x ua um)] m (fun r m'=>r= .bool true/\Grow m m'):=by
 have A:=h.a.ar.2.1;have B:=h.k.ar.2.1;have A2:=k.a.ar.2.1;have B2:=k.k.ar.2.1;have hh:=zU h;have kk:=zU k;have c1:(x.first=x.first)=True:=eq_true rfl;have c2:(x.pages=x.pages)=True:=eq_true rfl;have c3:(x.size=x.size)=True:=eq_true rfl;have c4:(x.swept=x.swept)=True:=eq_true rfl;clear h k;refine fn rfl ?_;refine (zhn hh.down.a.app kk.down.a.app hh.down.na).mono ?_;rintro _ _ ⟨rfl,⟨g,rfl⟩⟩;refine am ?_;refine (zhn hh.down.k.app kk.down.k.app hh.down.nk).mono ?_;rintro _ _ ⟨rfl,⟨g2,rfl⟩⟩;refine am ?_;exact ⟨_,rfl⟩
theorem zrN {m:Mem}{v u:V}{n:Nat}{sp:Nat->zZ}{va vm ua um:Nat->V}(h:zh9 m v n sp va vm) (k:zh9 m u n sp ua um) (hn:n<17592186044417):C S zjB [v,u] m (fun r m'=>r= .bool true/\Grow m m'):=by
 have A:=h.s.ar;have B:=k.s.ar;have hh:=zU h;have kk:=zU k;have c2:((n:Int)=(n:Int))=True:=eq_true rfl;clear h k;refine fn rfl ?_;refine range (α:=Unit) n (fun _=>[(0,v),(1,u)]) (fun _ _ M=> ∃g,M=m++g) () ⟨[],by simp⟩ ?_ ?_
 ·rintro j _ fr _ hj F ⟨g,rfl⟩
  have h1:=hh.down.app (g:=g);have k1:=kk.down.app (g:=g);have A':=h1.s.ar;have B':=k1.s.ar;have s1:=h1.e j hj;have s2:=k1.e j hj;have d1:=s1.a.ar.2.1;have d2:=s1.k.ar.2.1;have d3:=s2.a.ar.2.1;have d4:=s2.k.ar.2.1;have SO:=zU (zp4 s1 s2);clear A B h1 k1 s1 s2;refine am ?_;refine SO.down.mono ?_;rintro _ _ ⟨rfl,⟨g2,rfl⟩⟩;refine am ?_;exact ⟨(),zi,_,rfl⟩
 ·rintro _ fr _ F ⟨g,rfl⟩
  refine am ?_;exact ⟨_,rfl⟩
theorem zrO {m:Mem} {aw uw sv aw' uw' sv':V}{va vm va' vm':Nat->V}{H:zm}(h:zdo m aw uw sv va vm H) (k:zdo m aw' uw' sv' va' vm' H):C S zjs [.agg (z8 H aw uw sv),.agg (z8 H aw' uw' sv')] m (fun r m'=>r= .bool true/\Grow m m'):=by
 have A:=h.a.ar.2.1;have B:=h.u.ar.2.1;have D:=h.s.s.ar.2.1;have A2:=k.a.ar.2.1;have B2:=k.u.ar.2.1;have D2:=k.s.s.ar.2.1;have hh:=zU h;have kk:=zU k;clear h k;refine fn rfl ?_;refine (zrL hh.down.a.app kk.down.a.app hh.down.la).mono ?_;rintro _ _ ⟨rfl,⟨g,rfl⟩⟩;refine am ?_;refine (zrM hh.down.u.app kk.down.u.app hh.down.lu).mono ?_;rintro _ _ ⟨rfl,⟨g2,rfl⟩⟩;refine am ?_;refine (zrN hh.down.s.app kk.down.s.app hh.down.ls).mono ?_;rintro _ _ ⟨rfl,⟨g3,rfl⟩⟩;refine am ?_;exact ⟨_,rfl⟩
end Go.AM.G
