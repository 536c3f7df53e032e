import Derived.Test.YtfhbhfogcgfeeaaGreatDoorHuA
import Derived.Test.YtfhbhfogcgfeeaaGreatDoorHmE
set_option linter.unusedVariables false
set_option linter.unusedSimpArgs false
set_option maxRecDepth 100000
namespace Go.AM.G
open Go Go.AM
abbrev qat (qs:List (List Nat)) (i:Nat):List Nat:=qs.getD i []
structure zii (m:Mem) (v:V) (vs:Nat->V) (qs:List (List Nat)):Prop where
 s:Rd m v 1 qs.length (fun i=>[vs i])
 e: ∀i,i<qs.length->Nus m (vs i) (qat qs i)
theorem zii.app {m g:Mem}{v:V}{vs:Nat->V}{qs:List (List Nat)}(h:zii m v vs qs):zii (m++g) v vs qs:=⟨h.s.app,fun i hi=>(h.e i hi).app⟩
def gOk (qs:List (List Nat)):Prop:=1<=qs.length/\qs.length<=4/\qs.flatten.length<=16384/\qs.flatten.Nodup/\0∉qs.flatten
instance (qs:List (List Nat)):Decidable (gOk qs):=by unfold gOk;infer_instance
theorem zk1 {qs:List (List Nat)}{k:Nat}(h:k<qs.length):(qs.take (k+1)).flatten=(qs.take k).flatten++qat qs k:=by
 rw [List.take_add_one,List.flatten_append];simp [qat,List.getD_eq_getElem?_getD,h]
theorem zr9 {qs:List (List Nat)}: ∀k,k<=qs.length->cat (qat qs) k=(qs.take k).flatten
 |0,_=>rfl
 |k+1,h=>by rw [cat,zr9 k (by omega),zk1 (by omega)]
theorem zmm {qs:List (List Nat)}:cat (qat qs) qs.length=qs.flatten:=by rw [zr9 _ (Nat.le_refl _),List.take_length]
theorem zuy {qs:List (List Nat)}{k:Nat}:((qs.take k).flatten).length<=qs.flatten.length:=by
 conv=>rhs;rw [<-List.take_append_drop k qs,List.flatten_append,List.length_append]
 omega
theorem zk2 {m:Mem}{P:Nat}{own:Bool}{v:V}{vs:Nat->V}{qs:List (List Nat)}(hP:m[P]? =some (.cells own [[v]])) (h:zii m v vs qs) (hn:qs.length<1000000):C S zcq [.ptr P 0 0] m (fun r m'=>(∃n:Nat,r= .int .i64 (n:Nat)/\((n<=16384/\n=qs.flatten.length)\/(16384<n/\16384<qs.flatten.length)))/\m'=m):=by
 have A:=h.s.ar;have he:=zU h.e;refine fn rfl ?_;refine range (α:=Nat) qs.length (fun x=>[(10,v),(3,.int .i64 (x:Nat))]) (fun k x M=>M=m/\x=((qs.take k).flatten).length/\x<=16384) 0 ⟨rfl,by simp,by decide⟩ ?_ ?_
 ·rintro k x fr _ hk F ⟨rfl,hx,hle⟩
  have B:=(he.down k hk).ar;have h1:((qs.take (k+1)).flatten).length=x+(qat qs k).length:=by rw [zk1 hk,List.length_append,<-hx]
  have h2:=zU h1;have h3:=zuy (qs:=qs) (k:=k+1);have h4:(vs k).isCell=true:=B.2.1;obtain ⟨l,el⟩: ∃l,(qat qs k).length=l:=⟨_,rfl⟩
  rw [el] at h1 B;have hx':=zU hx;clear h1 hx
  by_cases c:16385<l
  ·have c1:((16385:Int)<(l:Int))=True:=eq_true (by omega)
   have w1:IntKind.i64.wrap ((x:Int)+16385)=((x+16385:Nat):Int):=by rw [wrap_i64]<;>omega
   have c2:((16384:Int)<((x+16385:Nat):Int))=True:=eq_true (by omega);refine am ?_;refine ⟨x+16385,rfl,.inr ⟨by omega,?_⟩⟩;have:=h2.down;omega
  ·have c1:((16385:Int)<(l:Int))=False:=eq_false (by omega)
   have w1:IntKind.i64.wrap ((x:Int)+(l:Int))=((x+l:Nat):Int):=by rw [wrap_i64]<;>omega
   by_cases c':16384<x+l
   ·have c2:((16384:Int)<((x+l:Nat):Int))=True:=eq_true (by omega)
    refine am ?_;refine ⟨x+l,rfl,.inr ⟨c',?_⟩⟩;have:=h2.down;omega
   ·have c2:((16384:Int)<((x+l:Nat):Int))=False:=eq_false (by omega)
    refine am ?_;exact ⟨x+l,zh,rfl,by have:=h2.down;omega,by omega⟩
 ·rintro x fr _ F ⟨rfl,hx,hle⟩
  have hx':x=qs.flatten.length:=by rw [hx,List.take_length]
  have h2:=zU hx';clear hx hx';refine am ?_;exact ⟨x,rfl,.inl ⟨hle,h2.down⟩⟩
theorem ztj: ∀{l:List Nat},(cl l).Sublist l
 | []=>by simp [cl]
 | [a]=>by simp [cl]
 |a::b::l=>by
  have ih:=ztj (l:=b::l);unfold cl
  split
  ·exact ih.trans (List.sublist_cons_self _ _)
  ·exact ih.cons_cons _
theorem zxe {l:List Nat}(h:l.Pairwise (· <= ·)):(cl l).length<l.length↔¬ l.Nodup:=by
 constructor
 ·intro hlt hn
  have hp:l.Pairwise (· < ·):=by
   have:=hn.and h;exact this.imp fun ⟨a,b⟩=>by omega
  have e:cl l=l:=zrW (ziw h) hp fun x=>zqz
  rw [e] at hlt;omega
 ·intro hn
  refine Nat.lt_of_le_of_ne ztj.length_le fun e=>hn ?_
  have e2:=ztj.eq_of_length e;have:=ziw h;rw [e2] at this;exact this.imp fun h=>by omega
theorem zlT {l:List Nat}:(zbR l).Pairwise (· <= ·):=by
 have:=List.pairwise_mergeSort (le:=fun x y:Nat=>decide (x<=y)) (by intro a b c;simp;omega) (by intro a b;simp;omega) l;exact this.imp fun h=>by simpa using h
theorem zgx {l:List Nat}:(zbR l).Perm l:=List.mergeSort_perm _ _
theorem zsa {l:List Nat}(h:0<l.length):nx (zbR l) 0=0↔0∈l:=by
 have hl:(zbR l).length=l.length:=zgx.length_eq;constructor
 ·intro e
  have:=zaH (l:=zbR l) (i:=0) (by omega);rw [e] at this;exact zgx.mem_iff.1 this
 ·intro hm
  obtain ⟨i,hi,e⟩:=zeA (zgx.mem_iff.2 hm)
  by_cases h0:i=0
  ·subst h0;exact e
  ·have hs:=zlT (l:=l)
   have:=List.pairwise_iff_getElem.1 hs 0 i (by omega) hi (by omega);have e1:nx (zbR l) 0=(zbR l)[0]:=by simp [nx,List.getD_eq_getElem?_getD,show 0<(zbR l).length by omega]
   have e2:nx (zbR l) i=(zbR l)[i]:=by simp [nx,List.getD_eq_getElem?_getD,hi]
   omega
theorem zvt {l:List Nat}:zD l=zdR l.length (nx l):=zkX (f:=fun p:Nat=>[V.int .u64 (p:Int)])
theorem zvu {l:List Nat}:(List.range l.length).map (nx l)=l:=by
 have:=zkX (f:=fun p:Nat=>p) (l:=l)
 simpa using this.symm
theorem zja {M g:Mem}{r:V}{l:List Nat}(h:Gx M.length g r (zD l)) (hl:l.length<1000000):C S zbp [r] (M++g) (fun r' m'=>(∃g',m'=M++g')/\zhK r'=some (.int .i64 ((cl l).length:Nat))/\r'.isCell=true):=by
 rcases h with (⟨rfl,e⟩|⟨j,rfl,hj⟩)|⟨e,j,own,es,rfl,hj⟩
 ·have:l=[]:=by simpa using e
  subst this;clear e;refine fn rfl ?_
  first|exact ⟨_,rfl⟩|exact ⟨⟨_,rfl⟩,rfl⟩
 ·have hlt:=(List.getElem?_eq_some_iff.1 hj).1
  have e:M++g=M++g.set j (.cells true (zdR l.length (nx l))):=by
   rw [zvt] at hj
   congr 1
   exact (List.ext_getElem? fun i=>by
    by_cases hi:j=i
    ·subst hi;rw [List.getElem?_set_self hlt];exact hj
    ·rw [List.getElem?_set_ne hi])
  have hlen:(zD l).length=l.length:=by simp
  rw [e,hlen];refine (zor (Mm:=fun X=>M++g.set j X) (fun X=>by rw [zi];simp [hlt]) (fun X Y=>by rw [zfn];simp) (by omega)).mono ?_;rintro _ _ ⟨k,w,rfl,rfl,hk,hc⟩;rw [zvu] at hc;have:k=(cl l).length:=by rw [<-hc];simp
  subst this;exact ⟨⟨_,rfl⟩,rfl,rfl⟩
 ·have:l=[]:=by simpa using e
  subst this;clear e;refine fn rfl ?_
  first|exact ⟨_,rfl⟩|exact ⟨⟨_,rfl⟩,rfl⟩
theorem zfI {m:Mem}{v:V}{vs:Nat->V}{qs:List (List Nat)}(h:zii m v vs qs) (hn:qs.length<17592186044417):C S zdn [.agg [v]] m (fun r m'=>okE (gOk qs) r/\Grow m m'):=by
 have A:=h.s.ar;have hh:=zU h
 by_cases c:qs.length<1
 ·have c1:((qs.length:Int)<1)=True:=eq_true (by omega)
  have no:PLift (¬ gOk qs):= .up fun e=>by have:=e.1;omega
  clear c;refine fn rfl ?_;exact ⟨.inr ⟨no.down,rfl⟩,_,rfl⟩
 have c1:((qs.length:Int)<1)=False:=eq_false (by omega)
 by_cases c':4<qs.length
 ·have c2:((4:Int)<(qs.length:Int))=True:=eq_true (by omega)
  have no:PLift (¬ gOk qs):= .up fun e=>by have:=e.2.1;omega
  clear c c';refine fn rfl ?_;exact ⟨.inr ⟨no.down,rfl⟩,_,rfl⟩
 have c2:((4:Int)<(qs.length:Int))=False:=eq_false (by omega);have hq:PLift (1<=qs.length/\qs.length<=4):=⟨by omega⟩
 clear c c';refine fn rfl ?_;refine (zk2 (P:=m.length+1) (own:=true) (by simp) hh.down.app (by have:=hq.down;omega)).mono ?_;rintro _ _ ⟨⟨n,rfl,hc⟩,rfl⟩;rcases hc with ⟨h1,h2⟩|⟨h1,h2⟩
 case inr=>
  have c3:((16384:Int)<(n:Int))=True:=eq_true (by omega);have no:PLift (¬ gOk qs):= .up fun e=>by have:=e.2.2.1;omega
  clear h1 h2;refine am ?_;exact ⟨.inr ⟨no.down,rfl⟩,_,rfl⟩
 have c3:((16384:Int)<(n:Int))=False:=eq_false (by omega);obtain ⟨L,eL⟩: ∃L,qs.flatten=L:=⟨_,rfl⟩
 rw [eL] at h2;have hL:L.length<=16384:=by omega
 have hgo:PLift (gOk qs↔L.Nodup/\0∉L):=⟨by
  unfold gOk;rw [eL];have:=hq.down;exact ⟨fun e=>⟨e.2.2.2.1,e.2.2.2.2⟩,fun e=>⟨by omega,by omega,hL,e.1,e.2⟩⟩⟩
 have eL':=zU eL;clear h1 h2 eL;refine am ?_;refine (zhP (vs:=vs) (ls:=qat qs) hh.down.s.app (fun i hi=>(hh.down.e i hi).app) (by have:=hq.down;omega) (by rw [zmm,eL'.down];omega)).mono ?_;rintro r _ ⟨g,rfl,hG⟩;rw [zmm,eL'.down] at hG;rcases hG with ⟨rfl,e0⟩|⟨j,rfl,hj⟩
 ·have e0':L=[]:=by simpa using e0
  subst e0';have yes:PLift (gOk qs):=⟨hgo.down.2 ⟨List.nodup_nil,by simp⟩⟩
  clear e0 hgo;refine am ?_;refine zo0.mono ?_;rintro _ _ ⟨rfl,⟨g2,rfl⟩⟩;refine am ?_;obtain ⟨M1,e1⟩: ∃M1,m++ .cells true [[v]]:: .cells true [[v]]::(g++g2)=M1:=⟨_,rfl⟩
  have hg:PLift (Grow m M1):=⟨_,e1.symm⟩
  rw [e1];clear e1;refine (zc1 (rs:=[]) (.inl ⟨rfl,rfl⟩) (by decide)).mono ?_;rintro r1 _ ⟨g3,rfl,hi⟩;have rc:=hi.cell;have hi':=zU hi;clear hi;refine am ?_;refine (zja (hi'.down) (by decide)).mono ?_;rintro r2 _ ⟨⟨g4,rfl⟩,l2,c2⟩;have l2':zhK r2=some (.int .i64 0):=l2;clear l2;refine am ?_;exact ⟨.inl ⟨yes.down,rfl⟩,hg.down.app⟩
 ·have hlen:(zD L).length=L.length:=by simp
  rw [hlen];refine am ?_;have hb:(m++ .cells true [[v]]:: .cells true [[v]]::g)[m.length+2+j]? =some (.cells true (zD L)):=by
   rw [show m.length+2+j=m.length+((j+1)+1) by omega,zi];exact hj
  obtain ⟨b,eb⟩: ∃b,m.length+2+j=b:=⟨_,rfl⟩
  rw [eb] at hb ⊢;have hmb:m.length<=b:=by omega
  refine (zm3 hb (by omega)).mono ?_;rintro _ _ ⟨rfl,⟨g2,rfl⟩⟩;have hb1:=zb (g:=g2) (zaU (x:= .cells true (zD (zbR L))) hb);have hg:Grow m ((m++ .cells true [[v]]:: .cells true [[v]]::g).set b (.cells true (zD (zbR L)))++g2):=(Grow.set ⟨_,rfl⟩ hmb _).app;have hl:(zbR L).length=L.length:=zgx.length_eq;obtain ⟨R,eR⟩: ∃R,zD (zbR L)=R:=⟨_,rfl⟩
  have hRl:R.length=L.length:=by rw [<-eR,List.length_map,hl]
  have e0:PLift (0<L.length->R[0]? =some [.int .u64 (nx (zbR L) 0:Nat)]):=⟨fun h0=>by
   have:=zjD (l:=zbR L) (i:=0) (by omega);simp [<-eR,this]⟩
  have eR':=zU eR;have hgo2:PLift (gOk qs↔¬ (cl (zbR L)).length<L.length/\¬ (0<L.length/\nx (zbR L) 0=0)):=⟨by
   have k1:=zxe (zlT (l:=L));rw [hl] at k1;have k2:(zbR L).Nodup↔L.Nodup:=zgx.nodup_iff;rw [hgo.down,k1,<-k2,Classical.not_not];constructor
   ·rintro ⟨h1,h2⟩
    exact ⟨h1,fun ⟨h3,h4⟩=>h2 ((zsa h3).1 h4)⟩
   ·rintro ⟨h1,h2⟩
    refine ⟨h1,fun h3=>h2 ?_⟩;have h0:0<L.length:=List.length_pos_of_mem h3;exact ⟨h0,(zsa h0).2 h3⟩⟩
  obtain ⟨z,ez⟩: ∃z,nx (zbR L) 0=z:=⟨_,rfl⟩
  obtain ⟨K,eK⟩: ∃K,(cl (zbR L)).length=K:=⟨_,rfl⟩
  have ez':=zU ez;have eK':=zU eK;rw [eR] at hb1 hg ⊢;rw [ez] at e0;rw [ez,eK] at hgo2;have hb':=zU hb;clear hb hgo hlen ez eK hl eL' eb hj eR
  generalize hM:(m++ .cells true [[v]]:: .cells true [[v]]::g).set b (.cells true R)++g2=M1 at hb1 hg ⊢
  have hg':=zU hg;clear hM hb' hg;refine am ?_;have hn1:Nus M1 (.slice b 0 L.length L.length false 1) (zbR L):=by
   refine Nus.of ?_;rw [eR'.down,<-hRl];exact Sl.mk hb1
  have hn1':=zU hn1;clear hn1;refine (zc1 hn1'.down (by have:=congrArg List.length eR'.down;simp at this;omega)).mono ?_;rintro r1 _ ⟨g3,rfl,hi⟩;have rc:=hi.cell;have hi':=zU hi;clear hi;refine am ?_;refine (zja (hi'.down) (by have:=congrArg List.length eR'.down;simp at this;omega)).mono ?_;rintro r2 _ ⟨⟨g4,rfl⟩,l2,c2⟩;rw [eK'.down] at l2
  by_cases hk:K<L.length
  ·have c4:((K:Int)<(L.length:Int))=True:=eq_true (by omega)
   have no:PLift (¬ gOk qs):=⟨fun e=>(hgo2.down.1 e).1 hk⟩
   clear hk;refine am ?_;exact ⟨.inr ⟨no.down,rfl⟩,hg'.down.app⟩
  have c4:((K:Int)<(L.length:Int))=False:=eq_false (by omega);have hk':=zU hk;clear hk
  by_cases h0:0<L.length
  case neg=>
   have c5:((0:Int)<(L.length:Int))=False:=eq_false (by omega);have yes:PLift (gOk qs):=⟨hgo2.down.2 ⟨hk'.down,fun h=>h0 h.1⟩⟩
   clear h0;refine am ?_;exact ⟨.inl ⟨yes.down,rfl⟩,hg'.down.app⟩
  have c5:((0:Int)<(L.length:Int))=True:=eq_true (by omega);have e0':=e0.down h0;have ix0:zaB 1 (.slice b 0 L.length L.length false 1) (.int .i64 0)=some (.ptr b 0 0):=zcT (o:=0) (i:=0) .i64 h0;have h0':=zU h0;clear h0
  by_cases hz:z=0
  ·have c6:((z:Int)=0)=True:=eq_true (by omega)
   have no:PLift (¬ gOk qs):=⟨fun e=>(hgo2.down.1 e).2 ⟨h0'.down,hz⟩⟩
   clear hz;refine am ?_;exact ⟨.inr ⟨no.down,rfl⟩,hg'.down.app⟩
  ·have c6:((z:Int)=0)=False:=eq_false (by omega)
   have yes:PLift (gOk qs):=⟨hgo2.down.2 ⟨hk'.down,fun h=>hz h.2⟩⟩
   clear hz;refine am ?_;exact ⟨.inl ⟨yes.down,rfl⟩,hg'.down.app⟩
def Gm (M:Mem) (v:V) (l:List Nat):Prop:=(v= .nils/\l=[])\/(∃b,v= .slice b 0 l.length l.length false 1/\M[b]? =some (.cells true (zD l)))\/(l=[]/\ ∃b own es,v= .slice b 0 0 0 true 1/\M[b]? =some (.cells own es))
theorem Gm.to {M M':Mem}{v:V}{l:List Nat}(h:Gm M v l) (k: ∀c y,zah v=some c->M[c]? =some y->M'[c]? =some y):Gm M' v l:=by
 rcases h with h|⟨b,rfl,hb⟩|⟨e,b,own,es,rfl,hb⟩
 ·exact .inl h
 ·exact .inr (.inl ⟨b,rfl,k _ _ rfl hb⟩)
 ·exact .inr (.inr ⟨e,b,own,es,rfl,k _ _ rfl hb⟩)
theorem Gm.lt {M:Mem}{v:V}{l:List Nat}(h:Gm M v l){c:Nat}(hc:zah v=some c):c<M.length:=by
 rcases h with ⟨rfl,_⟩|⟨b,rfl,hb⟩|⟨e,b,own,es,rfl,hb⟩
 ·cases hc
 ·cases hc;exact (List.getElem?_eq_some_iff.1 hb).1
 ·cases hc;exact (List.getElem?_eq_some_iff.1 hb).1
theorem Gm.nus {M:Mem}{v:V}{l:List Nat}(h:Gm M v l):Nus M v l:=by
 rcases h with ⟨rfl,rfl⟩|⟨b,rfl,hb⟩|⟨rfl,b,own,es,rfl,hb⟩
 ·exact .inl ⟨rfl,rfl⟩
 ·refine Nus.of ?_
  have:=Sl.mk (cap:=l.length) (z:=1) (ex:=false) hb;rw [List.length_map] at this;exact this
 ·exact .inl ⟨by simp [elems,hb],by simp [zOk]⟩
theorem Gx.gm {M g:Mem}{v:V}{l:List Nat}(h:Gx M.length g v (zD l)):Gm (M++g) v l/\ ∀c,zah v=some c->M.length<=c:=by
 rcases h with (⟨rfl,e⟩|⟨j,rfl,hj⟩)|⟨e,j,own,es,rfl,hj⟩
 ·exact ⟨.inl ⟨rfl,by simpa using e⟩,fun c hc=>by cases hc⟩
 ·refine ⟨.inr (.inl ⟨M.length+j,by rw [List.length_map],by rw [zi];exact hj⟩),fun c hc=> ?_⟩
  simp only [zah,Option.some.injEq] at hc;omega
 ·refine ⟨.inr (.inr ⟨by simpa using e,M.length+j,own,es,rfl,by rw [zi];exact hj⟩),fun c hc=> ?_⟩
  simp only [zah,Option.some.injEq] at hc;omega
structure GrO (lo:Nat) (M:Mem) (b:Nat) (vs:Nat->V) (qs:List (List Nat)):Prop where
 lb:lo<=b
 row:M[b]? =some (.cells true (zJ qs.length fun i=>[vs i]))
 e: ∀i,i<qs.length->Gm M (vs i) (qat qs i)
 l: ∀i,i<qs.length-> ∀c,zah (vs i)=some c->lo<=c/\c≠b
 d: ∀i j,i<qs.length->j<qs.length->i≠j-> ∀c,zah (vs i)=some c->zah (vs j)≠some c
theorem zsb {m:Mem}{v:V}{n:Nat}{f:Nat->List V}(hv:Rd m v 1 n f) (h0:0<n) (hn:n<1000000):C S zc2 [v] m (fun r m'=> ∃b cap ex,Grow m m'/\r= .slice b 0 n cap ex 1/\m.length<=b/\m'[b]? =some (.cells true (zJ n f))):=by
 have hl:(zJ n f).length=n:=by simp
 rcases hv with hv|⟨e,_⟩
 case inr=>omega
 rcases hv.cases with ⟨rfl,he⟩|⟨b,i,len,cap,ex,rfl⟩
 ·have:=congrArg List.length he;rw [hl] at this;simp at this;omega
 obtain ⟨v',m',a1,⟨g,rfl⟩,a3⟩:=zgC (zero:=[V.nils]) (bytes:=24) hv rfl (by decide) (by rw [hl];omega);have a3':=zU a3;clear a3;refine fn rfl ?_;rcases a3'.down.cases with ⟨_,e⟩|⟨b,cap,ex,h1,h2,h3⟩
 ·have:=congrArg List.length e;rw [hl] at this;simp at this;omega
 ·rw [hl] at h2
  exact ⟨b,cap,ex,⟨_,rfl⟩,h2,h1,h3⟩
theorem ziA {m:Mem}{v:V}{vs:Nat->V}{qs:List (List Nat)}(h:zii m v vs qs) (h0:0<qs.length) (hn:qs.length<1000000) (hl: ∀i,i<qs.length->(qat qs i).length<17592186044417):
  C S zeZ [.agg [v]] m (fun r m'=> ∃b cap ex vs',Grow m m'/\r= .agg [.slice b 0 qs.length cap ex 1]/\GrO (m.length+2) m' b vs' qs):=by
 have A:=h.s.ar;have hh:=zU h;have hl':=zU hl;clear hl h;refine fn rfl ?_;refine (zsb hh.down.s.app h0 hn).mono ?_;rintro _ M0 ⟨b,cap,ex,⟨g0,rfl⟩,rfl,hb,hrow⟩;simp only [List.length_append,List.length_cons,List.length_nil] at hb;simp only [List.append_assoc,List.cons_append,List.nil_append] at hrow ⊢;obtain ⟨n,en⟩: ∃n,qs.length=n:=⟨_,rfl⟩
 rw [en] at hrow h0 hn A ⊢;have bq:V.beq (.slice b 0 n cap ex 1) (.slice b 0 n cap ex 1)=true:=by simp [V.beq]
 have hb2:m.length+2<=b:=by omega
 have e0:(m++ .cells true [[.slice b 0 n cap ex 1]]:: .cells true [[.nils]]::g0)[b]? =some (.cells true (zJ n fun i=>[vs i])):=by
  obtain ⟨j,rfl⟩: ∃j,b=m.length+((j+1)+1):=⟨b-m.length-2,by omega⟩
  rw [zi] at hrow ⊢;exact hrow
 have e0':=zU e0;have en':=zU en;clear hrow hb e0 en;refine am ?_;refine range (α:=Nat->V) n (fun _=>[(1,.ptr m.length 0 0),(2,.ptr (m.length+1) 0 0)]) (fun k x M=>M[m.length]? =some (.cells true [[.slice b 0 n cap ex 1]])/\M[m.length+1]? =some (.cells true [[.nils]])/\M[b]? =some (.cells true (zJ n fun i=>[x i]))/\Grow m M/\(∀i,k<=i->x i=vs i)/\(∀i,i<k->Gm M (x i) (qat qs i)/\ ∀c,zah (x i)=some c->m.length+2<=c/\c≠b)/\ ∀i j,i<k->j<k->i≠j-> ∀c,zah (x i)=some c->zah (x j)≠some c) vs
  ⟨by simp,by rw [zi];rfl,e0'.down,⟨_,rfl⟩,fun _ _=>rfl,fun i h=>absurd h (Nat.not_lt_zero _),fun i j h=>absurd h (Nat.not_lt_zero _)⟩ ?_ ?_
 ·rintro k x fr M hk F ⟨hP,hR,hrow,hg,hx,hy,hd⟩
  have hin:Nus M (vs k) (qat qs k):=(hh.down.e k (by have:=en'.down;omega)).grow hg;have hvc:=hin.ar.2.1;have hlk:=hl'.down k (by have:=en'.down;omega);have hxk:=hx k (Nat.le_refl _);have hin':=zU hin;have hlk':=zU hlk;have i1:= @zcx n k (fun i=>[x i]);have hx':=zU hx;have hy':=zU hy;have hd':=zU hd;have hg':=zU hg;have ix:= @zcT b 0 n cap k 1 ex .i64 hk;clear hin hlk hx hy hd hg;refine am ?_;refine (zc1 hin'.down hlk'.down).mono ?_;rintro r _ ⟨g2,rfl,hG⟩;obtain ⟨q1,q2⟩:=hG.gm;have rc:=hG.cell;have i2:= @zdZ n k 1 (fun i=>[x i]) r;have rcc:=zcU rc;have ra:[r].all V.isCell=true:=by simp [rc]
  have q1':=zU q1;have q2':=zU q2;clear hG q1 q2;refine am ?_;have hlt:=(List.getElem?_eq_some_iff.1 hrow).1;have hP0:=(List.getElem?_eq_some_iff.1 hP).1;refine ⟨up x k r,zh,?_,?_,?_,?_,fun i hi=> ?_,fun i hi=> ?_,fun i j hi hj hij c h1 h2=> ?_⟩
  ·exact zx (by omega) (zb hP)
  ·exact zx (by omega) (zb hR)
  ·rw [zaU (zb hrow)]
   congr 3
   funext i
   by_cases e:i=k
   ·subst e;simp [zK]
   ·simp [zaM e]
  ·exact Grow.set hg'.down.app (by omega) _
  ·rw [zaM (by omega)];exact hx'.down i (by omega)
  ·by_cases e:i=k
   ·subst e
    rw [zK];exact ⟨q1'.down.to fun c y hc hy=>zx (by have:=q2'.down c hc;omega) hy,fun c hc=>by have:=q2'.down c hc;omega⟩
   ·rw [zaM e]
    obtain ⟨a1,a2⟩:=hy'.down i (by omega);exact ⟨a1.to fun c y hc hy=>zx (by have:=(a2 c hc).2;omega) (zb hy),a2⟩
  ·have old: ∀i,i<k-> ∀c,zah (x i)=some c->c<M.length:=fun i hi c hc=>(hy'.down i hi).1.lt hc
   by_cases e:i=k
   ·subst e
    rw [zK] at h1;rw [zaM (by omega)] at h2;have:=old j (by omega) c h2;have:=q2'.down c h1;omega
   ·rw [zaM e] at h1
    by_cases e2:j=k
    ·subst e2
     rw [zK] at h2;have:=old i (by omega) c h1;have:=q2'.down c h2;omega
    ·rw [zaM e2] at h2
     exact hd'.down i j (by omega) (by omega) hij c h1 h2
 ·rintro x fr M F ⟨hP,hR,hrow,hg,hx,hy,hd⟩
  have hy':=zU hy;have hd':=zU hd;have hg':=zU hg;have s1: ∀y,(M.set (m.length+1) y)[m.length+1]? =some y:=fun y=>zaU hR
  clear hx hy hd hg;refine am ?_;refine ⟨b,cap,ex,x,Grow.set hg'.down (by omega) _,rfl,by omega,zx (by omega) (by rw [en'.down];exact hrow),fun i hi=> ?_,fun i hi c hc=> ?_,fun i j hi hj hij c=>hd'.down i j (en'.down▸hi) (en'.down▸hj) hij c⟩
  ·obtain ⟨a1,a2⟩:=hy'.down i (en'.down▸hi)
   exact a1.to fun c y hc hy=>zx (by have:=a2 c hc;omega) hy
  ·exact ((hy'.down i (en'.down▸hi)).2 c hc)
def Qs (m:Mem) (v:V) (qs:List (List Nat)):Prop:= ∃vs,zii m v vs qs
theorem Qs.app {m g:Mem}{v:V}{qs:List (List Nat)}(h:Qs m v qs):Qs (m++g) v qs:=by
 obtain ⟨vs,h⟩:=h;exact ⟨vs,h.app⟩
theorem znJ {qs:List (List Nat)}{a:Nat}:a∈qs.flatten↔ ∃i,i<qs.length/\a∈qat qs i:=by
 rw [List.mem_flatten];constructor
 ·rintro ⟨l,hl,ha⟩
  obtain ⟨i,hi,rfl⟩:=List.mem_iff_getElem.1 hl;exact ⟨i,hi,by simpa [qat,List.getD_eq_getElem?_getD,hi] using ha⟩
 ·rintro ⟨i,hi,ha⟩
  exact ⟨qs[i],List.getElem_mem hi,by simpa [qat,List.getD_eq_getElem?_getD,hi] using ha⟩
theorem zqG {qs:List (List Nat)}{i:Nat}(hi:i<qs.length):(qat qs i).length<=qs.flatten.length:=by
 have:=zk1 hi;have h2:=zuy (qs:=qs) (k:=i+1);rw [this,List.length_append] at h2;omega
theorem zuz {qs:List (List Nat)}{w i:Nat}{l:List Nat}(hw:w<qs.length):qat (qs.set w l) i=if i=w then l else qat qs i:=by
 unfold qat;rw [List.getD_eq_getElem?_getD,List.getD_eq_getElem?_getD]
 by_cases e:i=w
 ·subst e;simp [hw]
 ·rw [if_neg e,List.getElem?_set_ne (Ne.symm e)]
def zaT (qs:List (List Nat)) (w:Int) (a:Nat):List (List Nat)×Int:=
 if ¬ gOk qs then ([],2) else if ¬ (0<=w/\w<qs.length) then (qs,11) else if a=0 then (qs,7) else if a∈qs.flatten then (qs,4) else if qs.flatten.length=16384 then (qs,6) else (qs.set w.toNat (qat qs w.toNat++[a]),0)
theorem GrO.qs {lo:Nat}{M:Mem}{b cap:Nat}{ex:Bool}{vs:Nat->V}{qs:List (List Nat)}(h:GrO lo M b vs qs):zii M (.slice b 0 qs.length cap ex 1) vs qs:=by
 refine ⟨.inl ?_,fun i hi=>(h.e i hi).nus⟩;have:=Sl.mk (cap:=cap) (z:=1) (ex:=ex) h.row;rw [List.length_map,List.length_range] at this;exact this
theorem GrO.to {lo:Nat}{M M':Mem}{b:Nat}{vs:Nat->V}{qs:List (List Nat)}(h:GrO lo M b vs qs) (k: ∀c y,lo<=c->M[c]? =some y->M'[c]? =some y):GrO lo M' b vs qs:=
 ⟨h.lb,k _ _ h.lb h.row,fun i hi=>(h.e i hi).to fun c y hc hy=>k c y (h.l i hi c hc).1 hy,h.l,h.d⟩
theorem GrO.ps {m g:Mem}{lo b cap:Nat}{ex:Bool}{vs:Nat->V}{qs:List (List Nat)}(h:GrO lo (m++g) b vs qs) (hl:m.length<=lo):Ps m.length g (fun M=>Qs M (.slice b 0 qs.length cap ex 1) qs):=fun M hM=>⟨vs,(h.to fun c y hc hy=>by
 obtain ⟨j,rfl⟩: ∃j,c=m.length+j:=⟨c-m.length,by omega⟩
 rw [zi] at hy;exact hM j y hy).qs⟩
theorem Gm.push {M:Mem}{v:V}{l:List Nat}(h:Gm M v l) (hr:l.length<1000000):
  ∃M2,M.length=M2.length/\(∀c,zah v≠some c->M2[c]? =M[c]?)/\ ∀G T,zM (M++G) [.int .u64 0] 8 v (.slice T 0 1 1 true 1)=pushB (M++G)[T]? fun x=>(.slice (M.length+G.length) 0 (l.length+1) (l.length+1) false 1,M2++(G++[.cells true (zD l++[x])])):=by
 rcases h with ⟨rfl,rfl⟩|⟨b,rfl,hb⟩|⟨rfl,b,own,es,rfl,hb⟩
 ·obtain ⟨g',h1,h2,h3⟩:=(Gx.push (A:=[]) (g:=M) (v:= .nils) (els:=zD []) (.inl (.inl ⟨rfl,rfl⟩)) (by simp [roomy]))
  exact ⟨g',h1.symm,fun c hc=>h2 c (by simpa using hc),fun G T=>by simpa using h3 G T⟩
 ·obtain ⟨g',h1,h2,h3⟩:=(Gx.push (A:=[]) (g:=M) (els:=zD l) (.inl (.inr ⟨b,rfl,hb⟩)) (by simp [roomy];omega))
  simp only [List.length_map,List.length_nil,Nat.zero_add,List.nil_append] at h2 h3;exact ⟨g',h1.symm,h2,h3⟩
 ·obtain ⟨g',h1,h2,h3⟩:=(Gx.push (A:=[]) (g:=M) (els:=zD []) (.inr ⟨rfl,b,own,es,rfl,hb⟩) (by simp [roomy]))
  simp only [List.length_map,List.length_nil,Nat.zero_add,List.nil_append] at h2 h3;exact ⟨g',h1.symm,h2,h3⟩
theorem GrO.pushed {lo b w a nb:Nat}{M M3:Mem}{vs:Nat->V}{qs:List (List Nat)}(h:GrO lo M b vs qs) (hw:w<qs.length) (hlo:lo<=M.length) (hge:M.length<=nb) (hnb:M3[nb]? =some (.cells true (zD (qat qs w++[a])))) (old: ∀c y,zah (vs w)≠some c->M[c]? =some y->M3[c]? =some y):
  GrO lo (M3.set b (.cells true (zJ qs.length (up (fun i=>[vs i]) w [.slice nb 0 ((qat qs w).length+1) ((qat qs w).length+1) false 1])))) b (up vs w (.slice nb 0 ((qat qs w).length+1) ((qat qs w).length+1) false 1)) (qs.set w (qat qs w++[a])):=by
 have hbM:=(List.getElem?_eq_some_iff.1 h.row).1;have hbv: ∀i,i<qs.length->zah (vs i)≠some b:=fun i hi e=>((h.l i hi b e).2 rfl)
 have lw:(qs.set w (qat qs w++[a])).length=qs.length:=List.length_set;refine ⟨h.lb,?_,fun i hi=> ?_,fun i hi c hc=> ?_,fun i j hi hj hij c h1 h2=> ?_⟩
 ·rw [zaU (old b _ (hbv w hw) h.row),lw]
  congr 3
  funext i
  by_cases e:i=w
  ·subst e;simp [zK]
  ·simp [zaM e]
 ·rw [lw] at hi
  rw [zuz hw]
  by_cases e:i=w
  ·subst e
   rw [zK,if_pos rfl];exact .inr (.inl ⟨nb,by simp,zx (by omega) hnb⟩)
  ·rw [zaM e,if_neg e]
   exact (h.e i hi).to fun c y hc hy=>zx (Ne.symm (h.l i hi c hc).2) (old c y (h.d i w hi hw e c hc) hy)
 ·rw [lw] at hi
  by_cases e:i=w
  ·subst e
   rw [zK] at hc;simp only [zah,Option.some.injEq] at hc;omega
  ·rw [zaM e] at hc
   exact h.l i hi c hc
 ·rw [lw] at hi hj
  have nbv: ∀i,i<qs.length->zah (vs i)≠some nb:=fun i hi e=>by
   have:=(h.e i hi).lt e;omega
  by_cases e:i=w
  ·subst e
   rw [zK] at h1;rw [zaM (Ne.symm hij)] at h2;simp only [zah,Option.some.injEq] at h1;subst h1;exact nbv j hj h2
  ·rw [zaM e] at h1
   by_cases e2:j=w
   ·subst e2
    rw [zK] at h2;simp only [zah,Option.some.injEq] at h2;subst h2;exact nbv i hi h1
   ·rw [zaM e2] at h2
    exact h.d i j hi hj hij c h1 h2
theorem ztk {m:Mem}{v:V}{l:List Nat}{c a:Nat}(hc:m[c]? =some (.cells true [[.int .u64 (a:Nat)]])) (hv:Nus m v l) (hl:l.length<1000000):C S zfw [v,.ptr c 0 0] m (fun r m'=>r= .bool (decide (a∈l))/\Grow m m'):=by
 have vc:=hv.ar.2.1;refine fn rfl ?_;refine (znI hv (by omega)).mono ?_;rintro _ _ ⟨rfl,rfl⟩;refine am ?_;exact Grow.refl _
def znK (qs:List (List Nat)) (a:Nat):Int:=if a=0 then 7 else if a∈qs.flatten then 4 else if qs.flatten.length=16384 then 6 else 0
theorem zvv {M:Mem} {P w a lo b cap:Nat}{ex:Bool}{vs:Nat->V}{qs:List (List Nat)}(hP:M[P]? =some (.cells true [[.slice b 0 qs.length cap ex 1]])) (h:GrO lo M b vs qs) (hg:gOk qs) (hw:w<qs.length) (hPb:P≠b) (hPv: ∀i,i<qs.length->zah (vs i)≠some P) (hlo:lo<=M.length):
  C S zg7 [.ptr P 0 0,.int .i64 (w:Nat),.int .u64 (a:Nat)] M (fun r M'=>r= .int .i64 (znK qs a)/\(∀c y,c<lo\/c=P->M[c]? =some y->M'[c]? =some y)/\M.length<=M'.length/\((znK qs a≠0)\/ ∃vs',GrO lo M' b vs' (qs.set w (qat qs w++[a])))):=by
 obtain ⟨E,eE⟩: ∃E,znK qs a=E:=⟨_,rfl⟩
 have eE':=zU eE;rw [eE]
 by_cases h0:a=0
 ·subst h0
  have e7:E=7:=eE.symm;subst e7;clear eE;refine fn rfl ?_;exact ⟨fun c y _ hy=>zb hy,by omega,.inl trivial⟩
 have c0:((a:Int)=0)=False:=eq_false (by omega);have hh:=zU h;have hg':=zU hg;have hPv':=zU hPv;have h0':=zU h0;have hlen: ∀i,i<qs.length->(qat qs i).length<=16384:=fun i hi=>Nat.le_trans (zqG hi) hg.2.2.1
 have hlen':=zU hlen;have q:=h.qs (cap:=cap) (ex:=ex);have q':=zU q;have hn:qs.length<1000000:=by have:=hg.2.1;omega
 clear h0 eE hPv h hg hlen q;have hbox: ∀g:Mem,(M++[Blk.cells true [[V.int .u64 (a:Nat)]]]++g)[M.length]? =some (.cells true [[.int .u64 (a:Nat)]]):=fun g=>by simp
 have hbox':=zU hbox;clear hbox;refine fn rfl ?_;refine (zjE (p:=fun i=>decide (a∈qat qs i)) q'.down.s.app (fun i _=>rfl) (by omega) (fun g i hi=> ?_)).mono ?_
 ·have e:=hlen'.down i hi
  rw [ziQ];exact ztk (hbox'.down g) ((q'.down.e i hi).app.app) (by omega)
 rintro _ _ ⟨⟨g,rfl⟩,⟨rfl,i,hi,hai⟩|⟨rfl,hno⟩⟩
 ·have hm:a∈qs.flatten:=znJ.2 ⟨i,hi,by simpa using hai⟩
  have e4:PLift (E=4):=⟨by rw [<-eE'.down,znK,if_neg h0'.down,if_pos hm]⟩
  clear hai hm;refine am ?_;have:=e4.down;exact ⟨this.symm,fun c y _ hy=>zb hy,by omega,.inl (by omega)⟩
 have hm:a∉qs.flatten:=fun hm=>by
  obtain ⟨i,hi,h⟩:=znJ.1 hm;have:=hno i hi;simp at this;exact this h
 have hm':=zU hm;clear hm hno;refine am ?_;refine (zk2 (own:=true) (zb hP) q'.down.app hn).mono ?_;rintro _ _ ⟨⟨k,rfl,hk⟩,rfl⟩;have ek:k=qs.flatten.length/\k<=16384:=by
  have:=hg'.down.2.2.1;rcases hk with hk|hk<;>omega
 obtain ⟨ek,hk16⟩:=ek;clear hk
 by_cases h16:k=16384
 ·subst h16
  have e6:PLift (E=6):=⟨by rw [<-eE'.down,znK,if_neg h0'.down,if_neg hm'.down,if_pos ek.symm]⟩
  clear ek;refine am ?_;have:=e6.down;exact ⟨this.symm,fun c y _ hy=>zb hy,by omega,.inl (by omega)⟩
 have e0:PLift (E=0):=⟨by rw [<-eE'.down,znK,if_neg h0'.down,if_neg hm'.down,if_neg (by omega)]⟩
 have c16:((k:Int)=16384)=False:=eq_false (by omega);clear ek h16;have hG:=hh.down.e w hw;obtain ⟨M2,l1,l2,hp⟩:=hG.push (by have:=hlen'.down w hw;omega);have hvc:=hG.nus.ar.2.1;have pb:= @zks;have hrow:=hh.down.row;have hbv: ∀i,i<qs.length->zah (vs i)≠some b:=fun i hi e=>((hh.down.l i hi b e).2 rfl)
 have hP2:M2[P]? =some (.cells true [[.slice b 0 qs.length cap ex 1]]):=(l2 P (hPv'.down w hw)).trans hP;have hrow2:M2[b]? =some (.cells true (zJ qs.length fun i=>[vs i])):=(l2 b (hbv w hw)).trans hrow;have i1:= @zcx qs.length w (fun i=>[vs i]);have i2:= @zdZ qs.length w 1 (fun i=>[vs i]);have ix:= @zcT b 0 qs.length cap w 1 ex .i64 hw;have bq:V.beq (.slice b 0 qs.length cap ex 1) (.slice b 0 qs.length cap ex 1)=true:=by simp [V.beq]
 have l2':=zU l2;have hbv':=zU hbv;have l1':=zU l1;clear hG l2 hbv l1;refine am ?_;have hbM:=(List.getElem?_eq_some_iff.1 hrow).1;obtain ⟨nb,enb⟩: ∃nb,M.length+(g.length+1+1)=nb:=⟨_,rfl⟩
 have hnb:(M2++Blk.cells true [[V.int .u64 (a:Int)]]::(g++[Blk.cells true [[V.int .u64 (a:Int)]],Blk.cells true (zD (qat qs w)++[[V.int .u64 (a:Int)]])]))[nb]? =some (.cells true (zD (qat qs w++[a]))):=by
  rw [<-enb,l1'.down,show M2.length+(g.length+1+1)=M2.length+((g.length+1)+1) by omega,zi];show (g++_)[g.length+1]? =_;rw [zi];simp [zD]
 have hge:M.length<=(M2++Blk.cells true [[V.int .u64 (a:Int)]]::(g++[Blk.cells true [[V.int .u64 (a:Int)]],Blk.cells true (zD (qat qs w)++[[V.int .u64 (a:Int)]])])).length:=by
  rw [List.length_append,l1'.down];omega
 have old: ∀c y,zah (vs w)≠some c->M[c]? =some y->(M2++Blk.cells true [[V.int .u64 (a:Int)]]::(g++[Blk.cells true [[V.int .u64 (a:Int)]],Blk.cells true (zD (qat qs w)++[[V.int .u64 (a:Int)]])]))[c]? =some y:=fun c y hc hy=>zb ((l2'.down c hc).trans hy)
 have h:=hh.down;rw [enb]
 generalize (M2++Blk.cells true [[V.int .u64 (a:Int)]]::(g++[Blk.cells true [[V.int .u64 (a:Int)]],Blk.cells true (zD (qat qs w)++[[V.int .u64 (a:Int)]])]))=M3 at hnb hge old ⊢
 refine ⟨e0.down.symm,fun c y hc hy=>zx ?_ (old c y ?_ hy),by rw [List.length_set];exact hge,.inr ⟨_,h.pushed hw hlo (by omega) hnb old⟩⟩
 ·have:=h.lb
  rcases hc with hc|rfl
  ·omega
  ·exact Ne.symm hPb
 ·intro e
  rcases hc with hc|rfl
  ·have:=(h.l w hw c e).1;omega
  ·exact hPv'.down w hw e
end Go.AM.G
