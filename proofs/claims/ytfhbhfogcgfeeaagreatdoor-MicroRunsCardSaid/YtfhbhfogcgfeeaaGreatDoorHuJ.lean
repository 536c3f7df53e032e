import Derived.Test.YtfhbhfogcgfeeaaGreatDoorHuG
import Derived.Test.YtfhbhfogcgfeeaaGreatDoorHkBa
set_option linter.unusedVariables false
set_option linter.unusedSimpArgs false
set_option maxRecDepth 100000
namespace Go.AM.G
open Go Go.AM
theorem zkZ {M X:Mem}{v:V}{l:List Nat}(hv:Nus M v l) (hn:l.length<17592186044417): ∃r g,zL (M++ .cells true []::X) [.int .u64 0] 8 (.slice M.length 0 0 0 true 1) v=some (r,M++ .cells true []::(X++g))/\r.isCell=true/\((l=[]/\r= .slice M.length 0 0 0 true 1)\/(r= .slice (M.length+(X.length+1)) 0 l.length l.length false 1/\g=[.cells true (zH l)])):=by
 have hlen:(zH l).length=l.length:=by simp
 have e2:(M++ .cells true []::X)[M.length]? =some (.cells true []):=by simp
 have hy:zcQ (M++ .cells true []::X) v=some (zH l)/\zOk v 1=true:=elY hv.app;obtain ⟨hy,hz⟩:=hy
 by_cases h0:l=[]
 ·subst h0
  refine ⟨_,[],?_,zgi,.inl ⟨rfl,rfl⟩⟩;rw [List.append_nil];unfold zL;rw [hy];simp [hz]
 ·have e1:(zH l).isEmpty=false:=by cases l with
   |nil=>exact absurd rfl h0
   |cons a l=>rfl
  have hpos:0<l.length:=List.length_pos_iff.2 h0;have e3:roomy l.length 8=true:=by simp [roomy];omega
  have e4:¬ l.length=0:=by omega
  have e5:¬ l.length<=0:=by omega
  refine ⟨_,[.cells true (zH l)],?_,zgi,.inr ⟨rfl,rfl⟩⟩;unfold zL;rw [hy];simp [hz,h0,e3,e4]
theorem zuS {M:Mem}{v:V}{els:List (List V)}{zero:List V}{bytes z:Nat}(h:(v= .nils/\els=[])\/ ∃b,v= .slice b 0 els.length els.length false z/\M[b]? =some (.cells true els)) (hz:zero.length=z) (hr:roomy (els.length+1) bytes=true):
  ∃M2,M.length=M2.length/\(∀c,zP v≠some c->M2[c]? =M[c]?)/\ ∀G T,zL (M++G) zero bytes v (.slice T 0 1 1 true z)=pushB (M++G)[T]? fun x=>(.slice (M.length+G.length) 0 (els.length+1) (els.length+1) false z,M2++(G++[.cells true (els++[x])])):=by
 have hG:Gw ([]:Mem).length M v z els:=by
  rcases h with h|⟨b,rfl,hb⟩
  ·exact .inl h
  ·exact .inr ⟨b,by simp,hb⟩
 obtain ⟨g',h1,h2,h3⟩:=hG.push hz hr;simp only [List.length_nil,Nat.zero_add,List.nil_append] at h2 h3;exact ⟨g',h1.symm,h2,h3⟩
def GrC (lo:Nat) (M:Mem) (v:V) (vs:Nat->V) (qs:List (List Nat)):Prop:=(qs=[]/\v= .nils)\/ ∃b,v= .slice b 0 qs.length qs.length false 1/\GrO lo M b vs qs
theorem GrC.cell {lo:Nat}{M:Mem}{v:V}{vs:Nat->V}{qs:List (List Nat)}(h:GrC lo M v vs qs):v.isCell=true:=by
 rcases h with ⟨_,rfl⟩|⟨b,rfl,_⟩<;>rfl
theorem GrC.beq {lo:Nat}{M:Mem}{v:V}{vs:Nat->V}{qs:List (List Nat)}(h:GrC lo M v vs qs):V.beq v v=true:=by
 rcases h with ⟨_,rfl⟩|⟨b,rfl,_⟩
 ·rfl
 ·simp [V.beq]
theorem GrC.r {m M:Mem}{lo:Nat}{v:V}{vs:Nat->V}{qs:List (List Nat)}(h:GrC lo M v vs qs) (hl:m.length<=lo) (hg:Grow m M):GrR m M v qs:=by
 rcases h with ⟨rfl,rfl⟩|⟨b,rfl,h⟩
 ·exact .nil hg
 ·exact h.r hl hg
theorem GrC.to {lo:Nat}{M M':Mem}{v:V}{vs:Nat->V}{qs:List (List Nat)}(h:GrC lo M v vs qs) (k: ∀c y,lo<=c->M[c]? =some y->M'[c]? =some y):GrC lo M' v vs qs:=h.imp id fun ⟨b,e,h⟩=>⟨b,e,h.to k⟩
theorem zyr {k:Nat}{vs:Nat->V}{r:V}:zG (k+1) (fun i=>[up vs k r i])=zG k (fun i=>[vs i])++[[r]]:=by
 rw [zG,List.range_succ,List.map_append]
 congr 1
 ·refine List.map_congr_left fun i hi=> ?_
  rw [zab (by have:=List.mem_range.1 hi;omega)]
 ·simp [zF]
theorem zz6 {qs:List (List Nat)}{l:List Nat}{i:Nat}:qat (qs++[l]) i=if i=qs.length then l else qat qs i:=by
 unfold qat;rw [List.getD_eq_getElem?_getD,List.getD_eq_getElem?_getD]
 by_cases e:i=qs.length
 ·subst e;simp
 ·rw [if_neg e]
  by_cases h:i<qs.length
  ·rw [List.getElem?_append_left h]
  ·rw [List.getElem?_eq_none (by simp;omega),List.getElem?_eq_none (by omega)]
theorem GrC.row {lo:Nat}{M:Mem}{v:V}{vs:Nat->V}{qs:List (List Nat)}(h:GrC lo M v vs qs):(v= .nils/\zG qs.length (fun i=>[vs i])=[])\/ ∃b,v= .slice b 0 (zG qs.length (fun i=>[vs i])).length (zG qs.length (fun i=>[vs i])).length false 1/\M[b]? =some (.cells true (zG qs.length (fun i=>[vs i]))):=by
 rcases h with ⟨rfl,rfl⟩|⟨b,rfl,h⟩
 ·exact .inl ⟨rfl,rfl⟩
 ·exact .inr ⟨b,by simp,h.row⟩
theorem GrC.snoc {lo nb:Nat}{M M':Mem}{v r:V}{vs:Nat->V}{qs:List (List Nat)}{l:List Nat}(h:GrC lo M v vs qs) (hlo:lo<=M.length) (hr:Gm M' r l) (hrl: ∀c,zP r=some c->M.length<=c/\c≠nb) (hnb:M.length<=nb) (hrow:M'[nb]? =some (.cells true (zG qs.length (fun i=>[vs i])++[[r]]))) (hk: ∀c y,lo<=c->zP v≠some c->M[c]? =some y->M'[c]? =some y):GrC lo M' (.slice nb 0 (qs.length+1) (qs.length+1) false 1) (up vs qs.length r) (qs++[l]):=by
 have lq:(qs++[l]).length=qs.length+1:=by simp
 refine .inr ⟨nb,by rw [lq],?_⟩;have old: ∀i,i<qs.length->Gm M (vs i) (qat qs i)/\(∀c,zP (vs i)=some c->lo<=c/\zP v≠some c):=fun i hi=>by
  rcases h with ⟨rfl,rfl⟩|⟨b,rfl,h⟩
  ·simp at hi
  ·exact ⟨h.e i hi,fun c hc=>⟨(h.l i hi c hc).1,fun e=>(h.l i hi c hc).2 (by cases e;rfl)⟩⟩
 have oldd: ∀i j,i<qs.length->j<qs.length->i≠j-> ∀c,zP (vs i)=some c->zP (vs j)≠some c:=fun i j hi hj hij c=>by
  rcases h with ⟨rfl,rfl⟩|⟨b,rfl,h⟩
  ·simp at hi
  ·exact h.d i j hi hj hij c
 refine ⟨by omega,by rw [hrow,lq,zyr],fun i hi=> ?_,fun i hi c hc=> ?_,fun i j hi hj hij c h1 h2=> ?_⟩
 ·rw [zz6]
  by_cases e:i=qs.length
  ·subst e;rw [zF,if_pos rfl];exact hr
  ·rw [zab e,if_neg e]
   obtain ⟨a1,a2⟩:=old i (by omega);exact a1.to fun c y hc hy=>hk c y (a2 c hc).1 (a2 c hc).2 hy
 ·by_cases e:i=qs.length
  ·subst e
   rw [zF] at hc;have:=hrl c hc;omega
  ·rw [zab e] at hc
   obtain ⟨a1,a2⟩:=old i (by omega);have:=a1.lt hc;have:=(a2 c hc).1;omega
 ·by_cases e:i=qs.length
  ·subst e
   rw [zF] at h1;rw [zab (Ne.symm hij)] at h2;have:=(old j (by omega)).1.lt h2;have:=hrl c h1;omega
  ·rw [zab e] at h1
   by_cases e2:j=qs.length
   ·subst e2
    rw [zF] at h2;have:=(old i (by omega)).1.lt h1;have:=hrl c h2;omega
   ·rw [zab e2] at h2
    exact oldd i j (by omega) (by omega) hij c h1 h2
theorem zfr {m:Mem}{v:V}{vs:Nat->V}{qs:List (List Nat)}(h:zdw m v vs qs) (hn:qs.length*24<=140737488355328) (hl: ∀i,i<qs.length->(qat qs i).length<17592186044417):
  C S zc9 [.agg [v]] m (fun r m'=> ∃v' vs',Grow m m'/\r= .agg [v']/\GrC (m.length+3) m' v' vs' qs):=by
 have A:=h.s.ar;have hh:=zU h;have hl':=zU hl;clear hl h;refine fn rfl ?_;refine range (α:=V×(Nat->V)) qs.length (fun _=>[(7,v),(2,.ptr (m.length+1) 0 0),(3,.ptr (m.length+2) 0 0)]) (fun k x M=>Grow m M/\M[m.length+1]? =some (.cells true [[.nils]])/\M[m.length+2]? =some (.cells true [[x.1]])/\m.length+3<=M.length/\GrC (m.length+3) M x.1 x.2 (qs.take k)) (.nils,fun _=> .nils) ⟨⟨_,rfl⟩,by rw [zh];rfl,by rw [zh];rfl,by simp,.inl ⟨rfl,rfl⟩⟩ ?_ ?_
 ·rintro k ⟨u,us⟩ fr M hk F ⟨hg,hal,hbx,hml,hC⟩
  dsimp only at hbx hC;have hin:Nus M (vs k) (qat qs k):=(hh.down.e k hk).grow hg;have B:=(hh.down.s.grow hg).ar;have hvc:=hin.ar.2.1;have lk:(qs.take k).length=k:=by rw [List.length_take];omega
  obtain ⟨r,g,ap,rc,hr⟩:=zkZ (X:=[.dead]) hin (hl'.down k hk);have uc:=hC.cell;have ub:=hC.beq;obtain ⟨M2,l1,l2,hp⟩:=zuS (zero:=[.nils]) (bytes:=24) hC.row rfl (by simp [roomy,lk];omega);rw [List.length_map,List.length_range,lk] at hp;have hub:zP u≠some (m.length+2):=fun e=>by
   rcases hC with ⟨_,rfl⟩|⟨b,rfl,h⟩
   ·cases e
   ·have:=h.lb
    cases e;omega
  have hbx2:M2[m.length+2]? =some (.cells true [[u]]):=(l2 _ hub).trans hbx;have rcc:=zae rc;have pb:= @zds;have hg':=zU hg;have hC':=zU hC;have hr':=zU hr;have l1':=zU l1;have l2':=zU l2;clear A hin hg hC hr l1 l2;simp only [List.length_cons,List.length_nil,List.cons_append,List.nil_append] at ap;refine am ?_;obtain ⟨nb,enb⟩: ∃nb,M.length+(g.length+1+1)=nb:=⟨_,rfl⟩
  obtain ⟨M3,eM3⟩: ∃M3,M2++Blk.cells true []::Blk.cells true [[r]]::(g++[Blk.cells true ((zG k fun i=>[us i])++[[r]])])=M3:=⟨_,rfl⟩
  have e1: ∀j,M3[M.length+j]? =(Blk.cells true []::Blk.cells true [[r]]::(g++[Blk.cells true ((zG k fun i=>[us i])++[[r]])]))[j]? :=fun j=>by rw [<-eM3,l1'.down,zh]
  have hnb:M3[nb]? =some (.cells true (zG k (fun i=>[us i])++[[r]])):=by
   rw [<-enb,e1,zaR,zaR,zM];rfl
  have old: ∀c y,zP u≠some c->M[c]? =some y->M3[c]? =some y:=fun c y hc hy=>by
   rw [<-eM3];exact zb ((l2'.down c hc).trans hy)
  have hG:Gm M3 r (qat qs k)/\ ∀c,zP r=some c->M.length<=c/\c≠nb:=by
   rcases hr'.down with ⟨e,rfl⟩|⟨rfl,rfl⟩
   ·refine ⟨.inr (.inr ⟨e,M.length,true,[],rfl,by have:=e1 0;simpa using this⟩),fun c hc=> ?_⟩
    cases hc;omega
   ·refine ⟨.inr (.inl ⟨_,rfl,by rw [e1];rfl⟩),fun c hc=> ?_⟩
    cases hc;simp only [List.length_cons,List.length_nil] at enb ⊢;omega
  have ho: ∀c,zP u=some c->m.length+3<=c:=fun c hc=>by
   rcases hC'.down with ⟨_,rfl⟩|⟨b,rfl,h⟩
   ·cases hc
   ·have:=h.lb
    cases hc;omega
  rw [eM3,enb];have hC:=hC'.down.snoc (M':=M3) (r:=r) (nb:=nb) (l:=qat qs k) hml hG.1 hG.2 (by omega) (by rw [lk];exact hnb) fun c y _ hc hy=>old c y hc hy
  rw [lk] at hC;refine ⟨(_,up us k r),zg,?_,?_,zZ (old _ _ hub hbx),?_,?_⟩
  ·exact Grow.set (zj2 fun c y hc hy=>old c y (fun e=>by have:=ho c e;omega) (hg'.down.get hy)) (by omega) _
  ·exact zi (by omega) (old _ _ (fun e=>by have:=ho _ e;omega) hal)
  ·rw [List.length_set]
   have:=(List.getElem?_eq_some_iff.1 hnb).1;omega
  ·rw [show qs.take (k+1)=qs.take k++[qat qs k] from by
    rw [List.take_add_one];simp [qat,List.getD_eq_getElem?_getD,hk]]
   exact hC.to fun c y hc hy=>zi (by omega) hy
 ·rintro ⟨u,us⟩ fr M F ⟨hg,hal,hbx,hml,hC⟩
  dsimp only at hbx hC;rw [List.take_length] at hC;have uc:=hC.cell;have hg':=zU hg;have hC':=zU hC;have s1: ∀y,(M.set (m.length+1) y)[m.length+1]? =some y:=fun y=>zZ hal
  clear hg hC;refine am ?_;exact ⟨u,us,Grow.set hg'.down (by omega) _,rfl,hC'.down.to fun c y hc hy=>zi (by omega) hy⟩
theorem GrO.boxed {m g1 g2:Mem}{v w:V}{lo b:Nat}{vs:Nat->V}{qs:List (List Nat)}(h:GrO lo (m++ .cells true [[v]]:: .cells true [[w]]::g1++g2) b vs qs) (hlo:(m++ .cells true [[v]]:: .cells true [[w]]::g1).length<=lo) (u:V):
  ∃P M0,m++ .cells true [[v]]:: .cells true [[w]]::(g1++(g2++[.cells true [[u]]]))=M0/\m.length+(g1.length+g2.length+1+1)=P/\M0[m.length]? =some (.cells true [[v]])/\M0[m.length+1]? =some (.cells true [[w]])/\M0[P]? =some (.cells true [[u]])/\Grow m M0/\m.length+2<=lo/\lo<=P/\GrO lo M0 b vs qs/\P≠b/\(∀i,i<qs.length->zP (vs i)≠some P)/\lo<=M0.length:=by
 have h1:=(List.getElem?_eq_some_iff.1 h.row).1;have h2:=h.lb;simp only [List.length_append,List.length_cons] at h1 h2 hlo;refine ⟨_,_,rfl,rfl,by simp,by rw [zh];rfl,?_,⟨_,rfl⟩,by omega,by omega,h.to fun c y _ hy=> ?_,by omega,fun i hi e=> ?_,?_⟩
 ·rw [show g1.length+g2.length+1+1=((g1.length+g2.length)+1)+1 by omega,zh,zaR,zaR,zh,zM];rfl
 ·have:=zb (g:=[.cells true [[u]]]) hy
  simpa only [List.append_assoc,List.cons_append] using this
 ·have:=(h.e i hi).lt e
  simp only [List.length_append,List.length_cons] at this;omega
 ·simp only [List.length_append,List.length_cons,List.length_nil]
  omega
theorem zjL {m M:Mem}{fr:Frame}{E:Int}{v:V}{vs:Nat->V}{qs:List (List Nat)}{Q:zaq->Frame->Mem->Prop}(F:Has fr [(3,.ptr m.length 0 0),(6,.ptr (m.length+1) 0 0),(11,.int .i64 E)]) (hE:E≠0) (h:zdw m v vs qs) (hg:gOk qs) (hgr:Grow m M) (k1:M[m.length]? =some (.cells true [[v]])) (k2:M[m.length+1]? =some (.cells true [[.nils]]))
  (hQ: ∀fr' M' v',Has fr' [(6,.ptr (m.length+1) 0 0),(7,.int .i64 E)]->M'[m.length+1]? =some (.cells true [[v']])->GrR m M' v' qs->v'.isCell=true->Q .ret fr' M'):W S zi9 fr M Q:=by
 have c0:(E=0)=False:=eq_false hE;obtain ⟨h0,h1,h2⟩:=zjj hg;have hh:=zU h;have hQ':=zU hQ;have hgr':=zU hgr;have h2':=zU h2;have hl:=(List.getElem?_eq_some_iff.1 k2).1;clear hE h hg hQ h2 hgr;refine into ?_;refine (zfr (hh.down.grow hgr'.down) (by omega) h2'.down).mono ?_;rintro _ _ ⟨v',vs',⟨g,rfl⟩,rfl,hC⟩;have vc:=hC.cell;have hC':=zU hC;have k3:=zb (g:=g) k2;have hcc:=zae vc;clear hC;refine am ?_;refine hQ'.down _ _ v' (by exact zg) (zZ k3) ((hC'.down.to fun c y hc hy=>zi (by omega) hy).r (by omega) (Grow.set hgr'.down.app (by omega) _)) vc
theorem zmE {m:Mem}{v rv:V}{vs:Nat->V}{qs:List (List Nat)}{w:Int}{a:Nat}(h:zdw m v vs qs) (hn:qs.length<17592186044417) (hr:Nus m rv [a]):C S zgB [.agg [v],.int .i64 w,rv] m (fun r m'=> ∃v' qs' e,r= .tup [.agg [v'],.int .i64 e]/\GrR m m' v' qs'/\zaE qs w a=(qs',e)):=by
 have A:=h.s.ar.2.1;have B:=hr.ar.2.1;have ln0:=h.s.ar.1;have hh:=zU h;have hr':=zU hr;have ln:zg1 rv=some (.int .i64 ((1:Nat):Int)):=hr.ar.1;obtain ⟨Q,eQ⟩: ∃Q,zaE qs w a=Q:=⟨_,rfl⟩
 have eQ':=zU eQ;rw [eQ];clear h hr eQ;refine fn rfl ?_;refine (zew hh.down.app hn).mono ?_;rintro _ _ ⟨⟨hg,rfl⟩|⟨hg,rfl⟩,⟨g1,rfl⟩⟩
 case inr=>
  have e:PLift (Q=([],2)):=⟨by rw [<-eQ'.down,zaE,if_pos hg]⟩
  clear hg;refine am ?_;exact ⟨.nils,[],2,rfl,.nil ⟨_,rfl⟩,e.down⟩
 have hg':=zU hg;obtain ⟨h0,h1,h2⟩:=zjj hg;have h2':=zU h2;clear hg h2;refine am ?_;refine (zfr hh.down.app (by omega) h2'.down).mono ?_;rintro _ M ⟨v',vs1,⟨g2,rfl⟩,rfl,hC⟩;rcases hC with ⟨rfl,_⟩|⟨b,rfl,hO⟩
 ·simp at h0
 have hO':=zU hO;clear hO;refine am ?_;have hO:=hO'.down;clear hO';obtain ⟨P,M0,eM,eP,k1,k2,k3,k4,k5,k6,k7,k8,k9,k10⟩:=hO.boxed (by omega) (.slice b 0 qs.length qs.length false 1);obtain ⟨lo,elo⟩: ∃lo,List.length (m++ .cells true [[v]]:: .cells true [[.nils]]::g1)+3=lo:=⟨_,rfl⟩
 rw [elo] at k5 k6 k7 k10;have k4':=zU k4;have k7':=zU k7;have k9':=zU k9;have s1: ∀y,(M0.set (m.length+1) y)[m.length+1]? =some y:=fun y=>zZ k2
 clear k4 k7 k9 hO elo
 by_cases hw:0<=w/\w<qs.length
 case neg=>
  have e:PLift (Q=(qs,11)):=⟨by rw [<-eQ'.down,zaE,if_neg (fun e=>e hg'.down),if_pos hw]⟩
  by_cases c:w<0
  ·have c1:(w<0)=True:=eq_true c
   clear hw c;refine am ?_;exact ⟨_,qs,11,rfl,(k7'.down.to fun c y hc hy=>zi (by omega) hy).r (by omega) (Grow.set k4'.down (by omega) _),e.down⟩
  ·have c1:(w<0)=False:=eq_false c
   have c2:((qs.length:Int)<=w)=True:=eq_true (by omega);clear hw c;refine am ?_;exact ⟨_,qs,11,rfl,(k7'.down.to fun c y hc hy=>zi (by omega) hy).r (by omega) (Grow.set k4'.down (by omega) _),e.down⟩
 obtain ⟨k,rfl⟩: ∃k:Nat,w=k:=⟨w.toNat,by omega⟩
 have hk:k<qs.length:=by omega
 have c1:((k:Int)<0)=False:=eq_false (by omega);have c2:((qs.length:Int)<=(k:Int))=False:=eq_false (by omega);clear hw;refine am ?_;have hQ0:PLift (Q=if a=0 then (qs,7) else if a∈qs.flatten then (qs,4) else if qs.flatten.length=16384 then (qs,6) else (qs.set k (qat qs k++[a]),0)):=⟨by
  rw [<-eQ'.down,zaE,if_neg (fun e=>e hg'.down),if_neg (fun e=>e (by omega))];rfl⟩
 have hfl:qs.flatten.length<=16384:=hg'.down.2.2.1;refine range (α:=Unit) 1 (fun _=>[(3,.ptr m.length 0 0),(6,.ptr (m.length+1) 0 0),(1,.int .i64 (k:Nat)),(8,.ptr P 0 0),(28,rv)]) (fun j _ M=>(j=0/\M=M0)\/(j=1/\Q=(qs.set k (qat qs k++[a]),0)/\M[m.length+1]? =some (.cells true [[.nils]])/\M[P]? =some (.cells true [[.slice b 0 qs.length qs.length false 1]])/\Grow m M/\ ∃vs',GrO lo M b vs' (qs.set k (qat qs k++[a])))) () (.inl ⟨rfl,rfl⟩) ?_ ?_
 ·rintro j _ fr M hj F (⟨rfl,rfl⟩|⟨rfl,_⟩)
  case inr=>omega
  have hin:Nus M rv [a]:=hr'.down.grow k4'.down;have ix:zak 1 rv (.int .i64 0)=some (atp rv 0 0):=hin.ar.2.2.2.1 .i64 0 (by simp);have ld:zaf M none (atp rv 0 0)=some (.int .u64 (a:Nat)):=hin.ar.2.2.2.2 0 0 none (by simp);have hQe:=eQ';clear hin
  by_cases h00:a=0
  ·have d0:((a:Int)=0)=True:=eq_true (by omega)
   have e:PLift (Q=(qs,7)):=⟨by rw [hQ0.down,if_pos h00]⟩
   clear h00;refine am ?_;refine zjL (m:=m) (E:=7) (by exact zg) (by decide) hh.down hg'.down k4'.down k1 k2 ?_;rintro fr' M' v2 F q1 q2 q3;refine am ?_;exact ⟨v2,qs,7,rfl,q2,e.down⟩
  have d0:((a:Int)=0)=False:=eq_false (by omega);have d0':=zU h00;clear h00;refine am ?_;refine (zpt (k7'.down.qs (cap:=qs.length) (ex:=false)) h1 (by omega)).mono ?_;rintro _ _ ⟨rfl,⟨g3,rfl⟩⟩;have u1:=zb (g:=g3) k1;have u2:=zb (g:=g3) k2;have u3:=zb (g:=g3) k3
  by_cases h01:a∈qs.flatten
  ·have d1:((0:Int)<(qs.flatten.count a:Int))=True:=eq_true (by have:=List.count_pos_iff.2 h01;omega)
   have e:PLift (Q=(qs,4)):=⟨by rw [hQ0.down,if_neg d0'.down,if_pos h01]⟩
   clear h01;refine am ?_;refine zjL (m:=m) (E:=4) (by exact zg) (by decide) hh.down hg'.down k4'.down.app u1 u2 ?_;rintro fr' M' v2 F q1 q2 q3;refine am ?_;exact ⟨v2,qs,4,rfl,q2,e.down⟩
  have d1:((0:Int)<(qs.flatten.count a:Int))=False:=eq_false (by rw [List.count_eq_zero_of_not_mem h01];omega);have d1':=zU h01;clear h01;refine am ?_;refine (zmD ((k7'.down.qs (cap:=qs.length) (ex:=false)).app) h1 (by omega)).mono ?_;rintro _ _ ⟨rfl,⟨g4,rfl⟩⟩;have t1:=zb (g:=g4) u1;have t2:=zb (g:=g4) u2;have t3:=zb (g:=g4) u3
  by_cases h02:qs.flatten.length=16384
  ·have d2:((qs.flatten.length:Int)=16384)=True:=eq_true (by omega)
   have e:PLift (Q=(qs,6)):=⟨by rw [hQ0.down,if_neg d0'.down,if_neg d1'.down,if_pos h02]⟩
   clear h02;refine am ?_;refine zjL (m:=m) (E:=6) (by exact zg) (by decide) hh.down hg'.down k4'.down.app (by simpa only [List.append_assoc] using t1) (by simpa only [List.append_assoc] using t2) ?_;rintro fr' M' v2 F q1 q2 q3;refine am ?_;exact ⟨v2,qs,6,rfl,q2,e.down⟩
  have d2:((qs.flatten.length:Int)=16384)=False:=eq_false (by omega);have e:PLift (Q=(qs.set k (qat qs k++[a]),0)):=⟨by rw [hQ0.down,if_neg d0'.down,if_neg d1'.down,if_neg h02]⟩
  clear h02;have hG:=k7'.down.e k hk;have hle:(qat qs k).length<1000000:=by have:=zgV hk;omega
  obtain ⟨M2,l1,l2,hp⟩:=hG.push hle;have hvc:=hG.nus.ar.2.1;have pb:= @zds;have hrow:=k7'.down.row;have hbv:zP (vs1 k)≠some b:=fun e=>((k7'.down.l k hk b e).2 rfl)
  have hP2:M2[P]? =some (.cells true [[.slice b 0 qs.length qs.length false 1]]):=(l2 P (k9'.down k hk)).trans k3;have hrow2:M2[b]? =some (.cells true (zG qs.length fun i=>[vs1 i])):=(l2 b hbv).trans hrow;have i1:= @zaQ qs.length k (fun i=>[vs1 i]);have i2:= @zbS qs.length k 1 (fun i=>[vs1 i]);have ix:= @zaL b 0 qs.length qs.length k 1 false .i64 hk;have bq:V.beq (.slice b 0 qs.length qs.length false 1) (.slice b 0 qs.length qs.length false 1)=true:=by simp [V.beq]
  have l2':=zU l2;have l1':=zU l1;clear hG l2 l1 hbv;refine am ?_;refine into ?_;obtain ⟨nb,enb⟩: ∃nb,M.length+(g3.length+(g4.length+1))=nb:=⟨_,rfl⟩
  obtain ⟨M3,eM3⟩: ∃M3,M2++(g3++(g4++[Blk.cells true [[V.int .u64 (a:Int)]],Blk.cells true (zH (qat qs k)++[[V.int .u64 (a:Int)]])]))=M3:=⟨_,rfl⟩
  have hnb:M3[nb]? =some (.cells true (zH (qat qs k++[a]))):=by
   rw [<-enb,<-eM3,l1'.down,zh,zh,zh];simp [zH]
  have hge:M.length<=M3.length:=by rw [<-eM3,List.length_append,l1'.down];omega
  have old: ∀c y,zP (vs1 k)≠some c->M[c]? =some y->M3[c]? =some y:=fun c y hc hy=>by
   rw [<-eM3];exact zb ((l2'.down c hc).trans hy)
  rw [eM3,enb];have h:=k7'.down;have hv:=fun c hc=>(h.l k hk c hc).1
  have hp:=h.pushed hk k10 (by omega) hnb old;have lb:=h.lb;refine ⟨(),zg,.inr ⟨rfl,e.down,?_,?_,?_,_,hp⟩⟩
  ·exact zi (by omega) (old _ _ (fun e=>by have:=hv _ e;omega) k2)
  ·exact zi (Ne.symm k8) (old _ _ (k9'.down k hk) k3)
  ·exact Grow.set (zj2 fun c y hc hy=>old c y (fun e=>by have:=hv _ e;omega) (k4'.down.get hy)) (by omega) _
 ·rintro _ fr M F (⟨h,_⟩|⟨_,e,b2,b3,hg1,vs',hO2⟩)
  ·omega
  have s2: ∀y,(M.set (m.length+1) y)[m.length+1]? =some y:=fun y=>zZ b2
  have hO2':=zU hO2;have hg1':=zU hg1;have e':=zU e;clear hg1 e hO2;refine am ?_;have hr2:=(hO2'.down.to (M':=M.set (m.length+1) (.cells true [[.slice b 0 qs.length qs.length false 1]])) fun c y hc hy=>zi (by omega) hy).r (m:=m) (cap:=qs.length) (ex:=false) (by omega) (Grow.set hg1'.down (by omega) _);rw [List.length_set] at hr2;exact ⟨_,_,0,rfl,hr2,e'.down⟩
theorem zwd {m:Mem}{v:V}{vs:Nat->V}{qs:List (List Nat)}{w:Int}(h:zdw m v vs qs) (hn:qs.length<17592186044417):C S zl1 [.agg [v],.int .i64 w] m (fun r m'=> ∃v' qs' a t e,r= .tup [.agg [v'],.int .u64 (a:Nat),.bool t,.int .i64 e]/\GrR m m' v' qs'/\zaF qs w=(qs',a,t,e)):=by
 have A:=h.s.ar.2.1;have hh:=zU h;have oc:= @zuO;obtain ⟨Q,eQ⟩: ∃Q,zaF qs w=Q:=⟨_,rfl⟩
 have eQ':=zU eQ;rw [eQ];clear h eQ;refine fn rfl ?_;refine (zew hh.down.app hn).mono ?_;rintro _ _ ⟨⟨hg,rfl⟩|⟨hg,rfl⟩,⟨g1,rfl⟩⟩
 case inr=>
  have e:PLift (Q=([],0,false,2)):=⟨by rw [<-eQ'.down,zaF,if_pos hg]⟩
  clear hg;refine am ?_;exact ⟨.nils,[],0,false,2,rfl,.nil ⟨_,rfl⟩,e.down⟩
 have hg':=zU hg;obtain ⟨h0,h1,h2⟩:=zjj hg;have h2':=zU h2;clear hg h2;refine am ?_;refine (zfr hh.down.app (by omega) h2'.down).mono ?_;rintro _ M ⟨v',vs1,⟨g2,rfl⟩,rfl,hC⟩;rcases hC with ⟨rfl,_⟩|⟨b,rfl,hO⟩
 ·simp at h0
 have hO':=zU hO;clear hO;refine am ?_;have key: ∃lo M0,m++ .cells true [[.slice b 0 qs.length qs.length false 1]]:: .cells true [[.nils]]::(g1++g2)=M0/\M0[m.length]? =some (.cells true [[.slice b 0 qs.length qs.length false 1]])/\M0[m.length+1]? =some (.cells true [[.nils]])/\Grow m M0/\m.length+2<=lo/\GrO lo M0 b vs1 qs:=by
  have h:=hO'.down;have h1:=(List.getElem?_eq_some_iff.1 h.row).1;refine ⟨List.length (m++ .cells true [[v]]:: .cells true [[.nils]]::g1)+3,_,rfl,by simp,by rw [zh];rfl,⟨_,rfl⟩,by simp;omega,h.to fun c y hc hy=> ?_⟩;simp only [List.length_append,List.length_cons] at hc;obtain ⟨j,rfl⟩: ∃j,c=m.length+((j+1)+1):=⟨c-m.length-2,by omega⟩
  simp only [List.append_assoc,List.cons_append] at hy;rw [zh] at hy ⊢;exact hy
 obtain ⟨lo,M0,eM,k1,k2,k4,k5,k7⟩:=key;have k4':=zU k4;have k7':=zU k7;have s1: ∀y,(M0.set (m.length+1) y)[m.length+1]? =some y:=fun y=>zZ k2
 clear k4 k7
 by_cases hw:0<=w/\w<qs.length
 case neg=>
  have e:PLift (Q=(qs,0,false,11)):=⟨by rw [<-eQ'.down,zaF,if_neg (fun e=>e hg'.down),if_pos hw]⟩
  by_cases c:w<0
  ·have c1:(w<0)=True:=eq_true c
   clear hw c;refine am ?_;exact ⟨_,qs,0,false,11,rfl,(k7'.down.to fun c y hc hy=>zi (by omega) hy).r (by omega) (Grow.set k4'.down (by omega) _),e.down⟩
  ·have c1:(w<0)=False:=eq_false c
   have c2:((qs.length:Int)<=w)=True:=eq_true (by omega);clear hw c;refine am ?_;exact ⟨_,qs,0,false,11,rfl,(k7'.down.to fun c y hc hy=>zi (by omega) hy).r (by omega) (Grow.set k4'.down (by omega) _),e.down⟩
 obtain ⟨k,rfl⟩: ∃k:Nat,w=k:=⟨w.toNat,by omega⟩
 have hk:k<qs.length:=by omega
 have c1:((k:Int)<0)=False:=eq_false (by omega);have c2:((qs.length:Int)<=(k:Int))=False:=eq_false (by omega);have hrow:=k7'.down.row;have i1:=fun k=> @zaQ qs.length k (fun i=>[vs1 i])
 have i2:=fun k=> @zbS qs.length k 1 (fun i=>[vs1 i])
 have ix:=fun k=> @zaL b 0 qs.length qs.length k 1 false .i64
 have ln:=(k7'.down.e k hk).nus.ar.1;have vc:=(k7'.down.e k hk).nus.ar.2.1;have omn: ∀f:Arg->V,Option.map f none=none:=fun _=>rfl
 have zk: ∀b i l c (e:Bool),zOk (.slice b i l c e 1) 1=true:=fun _ _ _ _ _=>rfl
 have lb:lo<=b:=k7'.down.lb;have ha2: ∀y,(M0.set b y)[m.length+1]? =some (.cells true [[.nils]]):=fun y=>zi (by omega) k2
 have ha3: ∀y z,((M0.set b y).set (m.length+1) z)[m.length+1]? =some z:=fun y z=>zZ (ha2 y)
 have hP2: ∀y,(M0.set b y)[m.length]? =some (.cells true [[.slice b 0 qs.length qs.length false 1]]):=fun y=>zi (by omega) k1
 clear hw
 by_cases hq:0<(qat qs k).length
 ·obtain ⟨bk,ebk,hbk⟩:=(k7'.down.e k hk).pos hq
  obtain ⟨l,el⟩: ∃l,(qat qs k).length=l+1:=⟨(qat qs k).length-1,by omega⟩
  have hQ:PLift (Q=(qs.set k ((qat qs k).take l),nx (qat qs k) l,false,0)):=⟨by
   rw [<-eQ'.down,zaF,if_neg (fun e=>e hg'.down),if_neg (fun e=>e (by omega)),Int.toNat_natCast,if_pos hq,el];rfl⟩
  rw [el] at ebk ln;have c3:((0:Int)<((l+1:Nat):Int))=True:=eq_true (by omega);have hle:l+1<=16384:=by
   have:=zgV hk;have:=hg'.down.2.2.1;omega
  have w1:IntKind.i64.wrap (((l+1:Nat):Int)-1)=(l:Int):=by rw [wrap_i64]<;>omega
  have sl:zaz (.slice bk 0 (l+1) (l+1) false 1) none (some (.int .i64 (l:Nat))) none=some (.slice bk 0 l (l+1) false 1):=by simp [zaz,bound,show (l:Int)<=(l:Int)+1 by omega]
  have ix2:= @zaL bk 0 (l+1) (l+1) l 1 false .i64 (by omega);have ra:=zs7 (l:=qat qs k) (i:=l) (by omega);obtain ⟨R,eR⟩: ∃R,zH (qat qs k)=R:=⟨_,rfl⟩
  have eR':=zU eR;rw [eR] at hbk ra;have nb:b≠bk:=fun e=>(k7'.down.l k hk bk (by rw [ebk];rfl)).2 e.symm
  have hbk2: ∀y,(M0.set b y)[bk]? =some (.cells true R):=fun y=>zi nb hbk
  have lk:lo<=bk:=(k7'.down.l k hk bk (by rw [ebk];rfl)).1;have ha4: ∀y z,((M0.set b y).set (m.length+1) z)[bk]? =some (.cells true R):=fun y z=>zi (by omega) (hbk2 y)
  clear hq el eR;refine am ?_;have hr:=k7'.down.pop (o:=0) (k:=l) (c:=l+1) (e:=false) (cap:=qs.length) (ex:=false) (Z:= .cells true [[.slice b 0 qs.length qs.length false 1]]) hk (by rw [ebk];rfl) (by rw [eR'.down];exact hbk) (by have:=(List.getElem?_eq_some_iff.1 ra).1;rw [<-eR'.down,List.length_map] at this;omega) k4'.down k5;rw [List.drop_zero] at hr;exact ⟨_,_,_,_,_,rfl,hr,hQ.down⟩
 ·have e0:PLift (¬ 0<(qat qs k).length):=⟨hq⟩
  have c3:((0:Int)<((qat qs k).length:Int))=False:=eq_false (by omega);clear hq;refine am ?_;refine range (α:=Nat) qs.length (fun x=>[(2,.ptr m.length 0 0),(4,.ptr (m.length+1) 0 0),(9,.int .i64 (x:Nat))]) (fun j x M=>M=M0/\x=lng qs j) 0 ⟨rfl,rfl⟩ ?_ ?_
  ·rintro j x fr M hj F ⟨eM',hx⟩
   rw [eM'];clear eM' M;have hxl:x<qs.length:=by
    rcases zlD (qs:=qs) (k:=j) with h|h<;>omega
   have B:=(k7'.down.e j hj).nus.ar;have B2:=(k7'.down.e x hxl).nus.ar;have h4:(vs1 j).isCell=true:=B.2.1;have h5:(vs1 x).isCell=true:=B2.2.1;have l4:=B.1;have l5:=B2.1;have e2:PLift (lng qs (j+1)=if (qat qs x).length<(qat qs j).length then j else x):=⟨by rw [lng,hx]⟩
   clear hx B B2
   by_cases c:(qat qs x).length<(qat qs j).length
   ·have c4:(((qat qs x).length:Int)<((qat qs j).length:Int))=True:=eq_true (by omega)
    have e3:=e2.down;rw [if_pos c] at e3;have e3':=zU e3;clear c e3;refine am ?_;exact ⟨j,zg,rfl,e3'.down.symm⟩
   ·have c4:(((qat qs x).length:Int)<((qat qs j).length:Int))=False:=eq_false (by omega)
    have e3:=e2.down;rw [if_neg c] at e3;have e3':=zU e3;clear c e3;refine am ?_;exact ⟨x,zg,rfl,e3'.down.symm⟩
  rintro x fr M F ⟨eM',ex0⟩;rw [eM'];clear eM' M;have hx:x<qs.length:=by
   rcases zlD (qs:=qs) (k:=qs.length) with h|h<;>omega
  have lnx:=(k7'.down.e x hx).nus.ar.1;have vcx:=(k7'.down.e x hx).nus.ar.2.1;have ex':=zU ex0.symm;clear ex0
  by_cases hz:(qat qs x).length=0
  ·have c4:(((qat qs x).length:Int)=0)=True:=eq_true (by omega)
   have hQ:PLift (Q=(qs,0,false,3)):=⟨by
    rw [<-eQ'.down,zaF,if_neg (fun e=>e hg'.down),if_neg (fun e=>e (by omega)),Int.toNat_natCast,if_neg e0.down,ex'.down,if_pos hz]⟩
   clear hz;refine am ?_;exact ⟨_,qs,0,false,3,rfl,(k7'.down.to fun c y hc hy=>zi (by omega) hy).r (by omega) (Grow.set k4'.down (by omega) _),hQ.down⟩
  have c4:(((qat qs x).length:Int)=0)=False:=eq_false (by omega);have hQ:PLift (Q=(qs.set x ((qat qs x).drop 1),nx (qat qs x) 0,true,0)):=⟨by
   rw [<-eQ'.down,zaF,if_neg (fun e=>e hg'.down),if_neg (fun e=>e (by omega)),Int.toNat_natCast,if_neg e0.down,ex'.down,if_neg hz]⟩
  obtain ⟨bk,ebk,hbk⟩:=(k7'.down.e x hx).pos (by omega);obtain ⟨l,el⟩: ∃l,(qat qs x).length=l+1:=⟨(qat qs x).length-1,by omega⟩
  rw [el] at ebk lnx c4;have sl:zaz (.slice bk 0 (l+1) (l+1) false 1) (some (.int .i64 1)) none none=some (.slice bk 1 l l false 1):=by simp [zaz,bound,show (1:Int)<=(l:Int)+1 by omega]
  have ix2:zak 1 (.slice bk 0 (l+1) (l+1) false 1) (.int .i64 0)=some (.ptr bk 0 0):= @zaL bk 0 (l+1) (l+1) 0 1 false .i64 (by omega);have ra:=zs7 (l:=qat qs x) (i:=0) (by omega);obtain ⟨R,eR⟩: ∃R,zH (qat qs x)=R:=⟨_,rfl⟩
  have eR':=zU eR;rw [eR] at hbk ra;have nb:b≠bk:=fun e=>(k7'.down.l x hx bk (by rw [ebk];rfl)).2 e.symm
  have hbk2: ∀y,(M0.set b y)[bk]? =some (.cells true R):=fun y=>zi nb hbk
  have lk:lo<=bk:=(k7'.down.l x hx bk (by rw [ebk];rfl)).1;have ha4: ∀y z,((M0.set b y).set (m.length+1) z)[bk]? =some (.cells true R):=fun y z=>zi (by omega) (hbk2 y)
  have el':=zU el;clear hz el eR;refine am ?_;have hr:=k7'.down.pop (o:=1) (k:=l) (c:=l) (e:=false) (cap:=qs.length) (ex:=false) (Z:= .cells true [[.slice b 0 qs.length qs.length false 1]]) hx (by rw [ebk];rfl) (by rw [eR'.down];exact hbk) (by have:=el'.down;omega) k4'.down k5;rw [List.take_of_length_le (by rw [List.length_drop,el'.down];omega)] at hr;exact ⟨_,_,_,_,_,rfl,hr,hQ.down⟩
theorem zuT {m:Mem}{v:V}{vs:Nat->V}{qs:List (List Nat)}(h:zdw m v vs qs) (hn:qs.length<17592186044417):C S zkA [.agg [v]] m (fun r m'=>((gOk qs/\r= .tup [.int .i64 (qs.flatten.length:Nat),.int .i64 0])\/(¬ gOk qs/\r= .tup [.int .i64 0,.int .i64 2]))/\Grow m m'):=by
 have A:=h.s.ar.2.1;have hh:=zU h;refine fn rfl ?_;refine (zew hh.down.app hn).mono ?_;rintro _ _ ⟨⟨hg,rfl⟩|⟨hg,rfl⟩,⟨g1,rfl⟩⟩
 ·have hg':=zU hg
  have h1:=(zjj hg).2.1;have h2:=hg.2.2.1;clear hg;refine am ?_;refine (zmD hh.down.app h1 (by omega)).mono ?_;rintro _ _ ⟨rfl,⟨g2,rfl⟩⟩;refine am ?_;exact ⟨.inl hg'.down,_,rfl⟩
 ·have hg':=zU hg
  clear hg;refine am ?_;exact ⟨.inr hg'.down,_,rfl⟩
theorem zuU {m:Mem}{v u:V}{vs us:Nat->V}{qs rs:List (List Nat)}(h:zdw m v vs qs) (k:zdw m u us rs) (hn:qs.length<17592186044417) (hl: ∀i,i<qs.length->(qat qs i).length<17592186044417):C S zkt [.agg [v],.agg [u]] m (fun r m'=>r= .bool (decide (qs=rs))/\Grow m m'):=by
 have A:=h.s.ar;have B:=k.s.ar;have hh:=zU h;have kk:=zU k;have hl':=zU hl;obtain ⟨Q,eQ⟩: ∃Q,decide (qs=rs)=Q:=⟨_,rfl⟩
 have eQ':=zU eQ;rw [eQ];clear h k eQ hl
 by_cases c:qs.length=rs.length
 case neg=>
  have c1:((qs.length:Int)=(rs.length:Int))=False:=eq_false (by omega);have e:PLift (Q=false):=⟨by rw [<-eQ'.down];exact decide_eq_false fun e=>c (by rw [e])⟩
  clear c;refine fn rfl ?_;exact ⟨e.down.symm,_,rfl⟩
 have c1:((qs.length:Int)=(rs.length:Int))=True:=eq_true (by omega);have c':=zU c;clear c;refine fn rfl ?_;refine range (α:=Unit) qs.length (fun _=>[(2,.ptr m.length 0 0),(3,.ptr (m.length+1) 0 0)]) (fun j _ M=>(∃g,M=m++ .cells true [[v]]:: .cells true [[u]]::g)/\ ∀i,i<j->qat qs i=qat rs i) () ⟨⟨_,rfl⟩,fun i h=>absurd h (Nat.not_lt_zero _)⟩ ?_ ?_
 ·rintro j _ fr _ hj F ⟨⟨g,rfl⟩,hj2⟩
  have h1:=hh.down.app (g:= .cells true [[v]]:: .cells true [[u]]::g);have k1:=kk.down.app (g:= .cells true [[v]]:: .cells true [[u]]::g);have h2:=h1.s.ar;have k2:=k1.s.ar;have h3:=h1.e j hj;have hjr:j<rs.length:=by have:=c'.down;omega
  have k3:=k1.e j hjr;have h4:=h3.ar.2.1;have k4:=k3.ar.2.1;have k5:=k2.2.2.2.1 .i64 j hjr;have k6:=fun o k=>k2.2.2.2.2 j o k hjr
  have SW:=znY (w:=nx (qat qs j)) (x:=nx (qat rs j)) h3 k3 (by have:=hl'.down j hj;omega);have SW':=zU SW;have hj2':=zU hj2;clear A B h1 k1 h3 k3 SW hj2;refine am ?_;refine SW'.down.mono ?_;rintro _ _ ⟨rfl,rfl⟩
  by_cases e:qat qs j=qat rs j
  ·have d:decide ((qat qs j).length=(qat rs j).length/\ ∀i,i<(qat qs j).length->nx (qat qs j) i=nx (qat rs j) i)=true:=decide_eq_true (by rw [e];exact ⟨rfl,fun _ _=>rfl⟩)
   rw [d];have e':=zU e;clear d e;refine am ?_;refine ⟨(),zg,⟨_,rfl⟩,fun i hi=> ?_⟩
   by_cases e:i=j
   ·rw [e];exact e'.down
   ·exact hj2'.down i (by omega)
  ·have d:decide ((qat qs j).length=(qat rs j).length/\ ∀i,i<(qat qs j).length->nx (qat qs j) i=nx (qat rs j) i)=false:=decide_eq_false fun ⟨h1,h2⟩=>e (by
    rw [<-zlC (l:=qat qs j),<-zlC (l:=qat rs j),<-h1];exact List.map_congr_left fun i hi=>h2 i (List.mem_range.1 hi))
   rw [d];have e2:PLift (Q=false):=⟨by rw [<-eQ'.down];exact decide_eq_false fun h=>e (by rw [h])⟩
   clear d e;refine am ?_;exact ⟨e2.down.symm,_,rfl⟩
 ·rintro _ fr _ F ⟨⟨g,rfl⟩,hj2⟩
  have e2:PLift (Q=true):=⟨by
   rw [<-eQ'.down];refine decide_eq_true (List.ext_getElem c'.down fun i h1 h2=> ?_);have:=hj2 i h1
   simpa [qat,List.getD_eq_getElem?_getD,h1,h2] using this⟩
  clear hj2;refine am ?_;exact ⟨e2.down.symm,_,rfl⟩
end Go.AM.G
