import Derived.Test.YtfhbhfogcgfeeaaGreatDoorHvE
set_option linter.unusedVariables false
set_option linter.unusedSimpArgs false
set_option maxRecDepth 100000
namespace Go.AM.G
open Go Go.AM
theorem MiO.hand {lo:Nat}{M M2:Mem}{aw uw sv qv:V}{bm bh cm ch:Nat}{em eh:Bool}{Fh Fq:Nat->Prop}{X:MiA}(h:MiO lo M aw uw sv qv bm bh cm ch em eh Fh Fq X){w:Nat}{y:zT}(hw:w<X.hs.length) (k: ∀c y,c≠bh->M[c]? =some y->M2[c]? =some y) (hd:M2[bh]? =some (.cells true (zJ X.hs.length (up (fun i=>zH (hat X.hs i)) w (zH y))))) (wb:MiB (X.sh w y)):MiO lo M2 aw uw sv qv bm bh cm ch em eh Fh Fq (X.sh w y):=by
 have el:(X.hs.set w y).length=X.hs.length:=List.length_set;refine h.upd rfl (fun c y _ hc hy=>k c y hc hy) (k _ _ h.l.2.2 h.m) ?_ (h.q.to fun c y hc hy=>k c y (fun e=>h.f.2.2.2 (e▸hc)) hy) ⟨h.f.2.2.1,h.f.2.2.2,fun b hb=>h.fl b (.inr hb)⟩ h.c.2.2.2 h.b.2.2.2 wb;show M2[bh]? =some (.cells true (zJ (X.hs.set w y).length fun i=>zH (hat (X.hs.set w y) i)));rw [el,hd,zky hw]
def zyi (m:Mem) (c:V) (l:List Nat) (p:Nat->Bool):Prop:= ∀g x,x∈l->CV S c [.int .u64 (x:Nat)] (m++g) (fun r m'=>r= .bool (p x)/\Grow (m++g) m')
def zco (p:Nat->Bool) (l:List Nat):List Nat:=l.filter fun x=> !p x
theorem zsi {l:List Nat}:zD l=(List.range l.length).map fun i=>[V.int .u64 (nx l i:Nat)]:=by
 refine List.ext_getElem (by simp) fun i h1 h2=> ?_
 have h:i<l.length:=by simpa using h1
 simp [nx,List.getD_eq_getElem?_getD,h]
theorem zxk {len:Nat}{g:Mem}{v:V}{z:Nat}{els:List (List V)}(h:Gw len g v z els):(v= .nils/\els=[])\/ ∃P R,g=P++ .cells true els::R/\v= .slice (len+P.length) 0 els.length els.length false z:=by
 rcases h with h|⟨j,rfl,hj⟩
 ·exact .inl h
 ·obtain ⟨hb,e⟩:=List.getElem?_eq_some_iff.1 hj
  refine .inr ⟨g.take j,g.drop (j+1),?_,?_⟩
  ·rw [<-e,List.getElem_cons_drop,List.take_append_drop]
  ·rw [List.length_take,Nat.min_eq_left (by omega)]
theorem znT {p:Nat->Bool}{l:List Nat}{j:Nat}(h:j<l.length):zco p (l.take (j+1))=zco p (l.take j)++if p (nx l j)=true then [] else [nx l j]:=by
 unfold zco;rw [List.take_add_one,zjD h,List.filter_append]
 congr 1
 by_cases e:p (nx l j)=true
 ·rw [if_pos e];simp [e]
 ·rw [if_neg e];simp [e]
theorem znU {m g0:Mem}{v c:V}{l:List Nat}{p:Nat->Bool}(hv:Gw m.length g0 v 1 (zD l)) (hl:l.length<4611686018427387904) (hc:zyi m c l p):C S zca [v,c] (m++g0) (fun r m'=> ∃g,m'=m++g/\Ps m.length g (fun M=>Sl M r 1 (zD (zco p l)))):=by
 have hc':=zU hc;have hv':=zU hv;have A0:Rd (m++g0) v 1 l.length (fun i=>[.int .u64 (nx l i:Nat)]):= .inl (by have:=hv.ps.on (M:=m++g0);rwa [zsi] at this);obtain ⟨Q,hQ⟩: ∃Q:V->Mem->Prop,Q=fun r m'=> ∃g,m'=m++g/\Ps m.length g (fun M=>Sl M r 1 (zD (zco p l))):=⟨_,rfl⟩
 rw [<-hQ];have hQ':=zU hQ;clear hc hv hQ;refine fn rfl ?_;refine (zi9 (arg:=fun i=> .int .u64 (nx l i:Nat)) (p:=fun i=>p (nx l i)) A0 (fun i hi=>rfl) hl (fun g i hi=>by rw [List.append_assoc];exact hc'.down _ _ (zaH hi))).mono ?_;rintro _ _ ⟨⟨g1,rfl⟩,⟨rfl,hn⟩|⟨i,hi,rfl,hp,hj⟩⟩
 ·have e:zco p l=l:=List.filter_eq_self.2 fun x hx=>by obtain ⟨i,hi,rfl⟩:=zeA hx;rw [hn i hi];rfl
  have done:PLift (Q v (m++(g0++g1))):=⟨by rw [hQ'.down];exact ⟨_,rfl,by rw [e];exact Ps.to hv'.down.ps⟩⟩
  clear hn e;refine am ?_;exact done.down
 rcases zxk hv'.down with ⟨rfl,he⟩|⟨P,R,rfl,rfl⟩
 ·have:l=[]:=by simpa using he
  subst this;exact absurd hi (Nat.not_lt_zero _)
 obtain ⟨cap,ecap⟩: ∃cap,cap=l.length:=⟨_,rfl⟩
 rw [show (zD l).length=l.length by simp];rw [show V.slice (m.length+P.length) 0 l.length l.length false 1=V.slice (m.length+P.length) 0 l.length cap false 1 by rw [ecap]];have hlc:l.length<=cap:=by omega
 clear ecap;have c0:((i:Int)= -1)=False:=eq_false (by omega);have w0:IntKind.i64.wrap ((i:Int)+1)=((i+1:Nat):Int):=(wrap_i64 (by omega) (by omega)).trans (by omega);have hp':=zU hp;have hj':=zU hj;clear hp hj A0;refine am ?_
 let I:=fun (d:Nat) (fr:Frame) (M:Mem)=> ∃(j:Nat) (t:List Nat) (R:Mem),d+j=l.length/\M=m++(P++ .cells true (zD t)::R)/\t.length=l.length/\t.take (zco p (l.take j)).length=zco p (l.take j)/\t.drop j=l.drop j/\(zco p (l.take j)).length<j/\Has fr [(0,.slice (m.length+P.length) 0 l.length cap false 1),(1,c),(5,.int .i64 ((zco p (l.take j)).length:Nat)),(6,.int .i64 (j:Nat))]
 refine zW I ?_ (l.length-(i+1)) ?_
 ·rintro d fr _ ⟨j,t,R,hd,rfl,htl,htt,htd,hlt,F⟩
  have htt':=zU htt;have htd':=zU htd;have htl':=zU htl;obtain ⟨n,en⟩: ∃n,(zco p (l.take j)).length=n:=⟨_,rfl⟩
  have en':=zU en;rw [en] at F hlt;clear htt htd htl en;cases d with
  |zero=>
   have ej:j=l.length:=by omega
   subst ej;have c1:((l.length:Int)<(l.length:Int))=False:=eq_false (by omega);have on: ∀{α β:Type}{f:α->β},Option.map f none=none:=rfl;have os: ∀{α β:Type}{f:α->β}{x:α},Option.map f (some x)=some (f x):=rfl;have sv1:za6 (.slice (m.length+P.length) 0 l.length cap false 1) (some (.int .i64 n)) none none=some (.slice (m.length+P.length) n (l.length-n) (cap-n) false 1):=by
    have e1:n<=l.length:=by omega
    simp [za6,bound,e1]
   have sv2:za6 (.slice (m.length+P.length) 0 l.length cap false 1) none (some (.int .i64 n)) none=some (.slice (m.length+P.length) 0 n cap false 1):=by
    have e1:n<=cap:=by omega
    simp [za6,bound,e1]
   have cl:zfM (m++(P++ .cells true (zD t)::R)) [.int .u64 0] (.slice (m.length+P.length) n (l.length-n) (cap-n) false 1)=some (undef,m++(P++ .cells true (over (zD t) n (List.replicate (l.length-n) [.int .u64 0]))::R)):=by
    have e1:n+(l.length-n)<=t.length:=by rw [htl'.down];omega
    have e2:(m++(P++ .cells true (zD t)::R))[m.length+P.length]? =some (.cells true (zD t)):=by rw [zi,zaa];rfl
    simp only [zfM,e2,List.length_cons,List.length_nil,ne_eq,not_true_eq_false,if_false,List.length_map,if_pos e1];rw [zfn,zhH];rfl
   have zk:zOk (.slice (m.length+P.length) 0 l.length cap false 1) 1=true:=by simp [zOk]
   have done:PLift (Q (.slice (m.length+P.length) 0 n cap false 1) (m++(P++ .cells true (over (zD t) n (List.replicate (l.length-n) [.int .u64 0]))::R))):=by
    refine ⟨?_⟩;rw [hQ'.down];refine ⟨_,rfl,fun A hA=>⟨?_,by simp [zOk]⟩⟩;have e2:=hA.blk rfl rfl;have e3:zco p (l.take l.length)=zco p l:=by rw [List.take_length]
    simp only [elems,e2];rw [if_pos (by unfold over;simp only [List.length_append,List.length_take,List.length_map,List.length_replicate,List.length_drop,htl'.down];omega)];unfold over;rw [List.drop_zero,List.take_append_of_le_length (by simp only [List.length_take,List.length_map,htl'.down];omega),List.take_take,Nat.min_self,<-List.map_take];have:=htt'.down;rw [en'.down,e3] at this;rw [this]
   refine into ?_;exact done.down
  |succ d=>
   have hjl:j<l.length:=by omega
   have htx:t[j]? =some (nx l j):=by
    have:=congrArg (fun z:List Nat=>z[0]?) htd'.down
    simpa [List.getElem?_drop,zjD hjl] using this
   have hus:=znT (p:=p) hjl;have hxm:=zaH hjl;obtain ⟨x,exq⟩: ∃x,nx l j=x:=⟨_,rfl⟩
   rw [exq] at htx hus hxm;have ex':=zU exq;have c1:((j:Int)<(l.length:Int))=True:=eq_true (by omega);have w1:IntKind.i64.wrap ((j:Int)+1)=((j+1:Nat):Int):=(wrap_i64 (by omega) (by omega)).trans (by omega);have w2:IntKind.i64.wrap ((n:Int)+1)=((n+1:Nat):Int):=(wrap_i64 (by omega) (by omega)).trans (by omega);have ix: ∀k:Nat,k<l.length->zaB 1 (.slice (m.length+P.length) 0 l.length cap false 1) (.int .i64 (k:Nat))=some (.ptr (m.length+P.length) k 0):=fun k hk=>by
    simp only [zaB,Int.toNat_natCast,Nat.zero_add];rw [if_pos ⟨by omega,by omega,trivial⟩]
   have ix1:=ix j hjl;have ix2:=ix n (by omega);have lb:zhG (some (.cells true (zD t))) none j 0=some (.int .u64 (x:Nat)):=by
    rw [zeR,List.getElem?_map,htx];rfl
   have sb:zcW (some (.cells true (zD t))) 1 n 0 (.int .u64 (x:Nat))=some (.cells true (zD (t.set n x))):=by
    obtain ⟨y,hy⟩: ∃y,t[n]? =some y:=⟨_,List.getElem?_eq_getElem (by rw [htl'.down];omega)⟩
    simp only [zcW,List.getElem?_map,hy,Option.map_some];rw [if_pos ⟨rfl,by simp,rfl⟩,show zD (t.set n x)=(zD t).set n [.int .u64 (x:Nat)] from List.map_set];rfl
   have Cx:=fun g=>hc'.down g x hxm
   have Cx':=zU Cx;have hus':=zU hus;clear ix hus hxm Cx exq htx;refine into ?_;refine zfG (Cx'.down _) ?_;rintro _ _ ⟨rfl,⟨g2,rfl⟩⟩;simp only [List.append_assoc,List.cons_append,List.nil_append];cases hp:p x with
   |true=>
    have e1:zco p (l.take (j+1))=zco p (l.take j):=by rw [hus'.down,if_pos hp,List.append_nil]
    have e2:(zco p (l.take (j+1))).length=n:=by rw [e1];exact en'.down
    have e1':=zU e1;clear e1;refine am ?_;refine into ?_;refine ⟨d,by omega,j+1,t,_,by omega,rfl,htl'.down,?_,?_,by omega,zh⟩
    ·rw [e1'.down];exact htt'.down
    ·have:=congrArg (List.drop 1) htd'.down
     simpa [List.drop_drop] using this
   |false=>
    have e1:zco p (l.take (j+1))=zco p (l.take j)++[x]:=by rw [hus'.down,if_neg (by rw [hp];decide)]
    have e2:(zco p (l.take (j+1))).length=n+1:=by rw [e1,List.length_append,en'.down];rfl
    have e1':=zU e1;clear e1;refine am ?_;refine into ?_;refine ⟨d,by omega,j+1,t.set n x,_,by omega,rfl,by rw [List.length_set];exact htl'.down,?_,?_,by omega,zh⟩
    ·obtain ⟨y,hy⟩: ∃y,t[n]? =some y:=⟨_,List.getElem?_eq_getElem (by rw [htl'.down];omega)⟩
     rw [e2,List.take_set,e1'.down];have a2:t.take (n+1)=t.take n++[y]:=by
      obtain ⟨a3,e3⟩:=List.getElem?_eq_some_iff.1 hy;rw [List.take_succ_eq_append_getElem a3,e3]
     have h3:=htt'.down;have h4:=en'.down;rw [h4] at h3;rw [a2,h3,List.set_append_right _ _ (by omega),h4]
     simp
    ·rw [List.drop_set,if_pos (by omega)]
     have:=congrArg (List.drop 1) htd'.down
     simpa [List.drop_drop] using this
 ·have hus:=znT (p:=p) hi
  have hall:zco p (l.take i)=l.take i:=List.filter_eq_self.2 fun x hx=>by
   obtain ⟨k,hk,e⟩:=List.getElem_of_mem hx;have hk':k<i:=by simp at hk;omega
   have:=hj'.down k hk';rw [show nx l k=x by unfold nx;rw [List.getD_eq_getElem?_getD,List.getElem?_eq_getElem (by omega)];rw [<-e,List.getElem_take];rfl] at this;rw [this];rfl
  rw [if_pos hp'.down,List.append_nil,hall] at hus;have e2:(zco p (l.take (i+1))).length=i:=by rw [hus,List.length_take];omega
  have hus':=zU hus;clear hus;refine ⟨i+1,l,R++g1,by omega,rfl,rfl,?_,rfl,by omega,zh⟩;rw [e2,hus'.down]
def zxl (hs:List zT):Nat->Nat
 |0=>0
 |k+1=>zxl hs k+if (hat hs k).pc=0 then 0 else 1
theorem zil {hs:List zT}: ∀k,0<zxl hs k↔ ∃i,i<k/\(hat hs i).pc≠0
 |0=>⟨fun h=>absurd h (Nat.not_lt_zero _),fun ⟨i,h,_⟩=>absurd h (Nat.not_lt_zero _)⟩
 |k+1=>by
  have ih:=zil (hs:=hs) k;unfold zxl;constructor
  ·intro h
   by_cases e:(hat hs k).pc=0
   ·rw [if_pos e] at h
    obtain ⟨i,hi,hp⟩:=ih.1 (by omega);exact ⟨i,by omega,hp⟩
   ·exact ⟨k,by omega,e⟩
  ·rintro ⟨i,hi,hp⟩
   by_cases e:i=k
   ·subst e
    rw [if_neg hp];omega
   ·have:=ih.2 ⟨i,by omega,hp⟩
    omega
def zdS (X:MiA):Bool:=decide (0<X.qs.flatten.length+zxl X.hs X.hs.length)
theorem znV {M:Mem}{P:Nat}{own:Bool} {c0 c1 c2 c3 c4 qv hv:V}{vs:Nat->V}{X:MiA}(hP:M[P]? =some (.cells own [[c0,c1,c2,c3,c4,qv,hv]])) (hq:zii M qv vs X.qs) (hd:Rd M hv 7 X.hs.length (fun i=>zH (hat X.hs i))) (hg:gOk X.qs) (ld:X.hs.length*56<=140737488355328):C S zdm [.ptr P 0 0] M (fun r m'=>r= .bool (zdS X)/\Grow M m'):=by
 obtain ⟨g0,g1,g2⟩:=zsc hg;have A6:=hd.ar.2.1;have hq':=zU hq;have hd':=zU hd;have hg':=zU hg;obtain ⟨B,eB⟩: ∃B,zdS X=B:=⟨_,rfl⟩
 have eB':=zU eB;rw [eB];obtain ⟨n,en⟩: ∃n,X.qs.flatten.length=n:=⟨_,rfl⟩
 have en':=zU en;clear hq hd hg eB en g2;refine fn rfl ?_;refine (ztm hq'.down (by omega)).mono ?_;rintro _ _ ⟨⟨_,rfl⟩|⟨hn,_⟩,⟨g,rfl⟩⟩
 case inr=>exact absurd hg'.down hn
 rw [en'.down];have hp2:=zb (g:=g) hP
 by_cases h0:0<n
 ·have c1:((0:Int)<(n:Int))=True:=eq_true (by omega)
  have:PLift (B=true):=⟨by rw [<-eB'.down];exact decide_eq_true (by rw [en'.down];omega)⟩
  rw [this.down];clear h0;refine am ?_;exact ⟨_,rfl⟩
 ·have c1:((0:Int)<(n:Int))=False:=eq_false (by omega)
  have h0':PLift (n=0):=⟨by omega⟩
  clear h0;refine am ?_;refine (zeB (arg:=fun i=> .agg (zH (hat X.hs i))) (p:=fun i=> !decide ((hat X.hs i).pc=0)) hd'.down.app (fun i hi=>rfl) (by omega) (fun g2 i hi=> ?_)).mono ?_
  ·rw [ziQ]
   dsimp only
   by_cases e:(hat X.hs i).pc=0
   ·have c1:(((hat X.hs i).pc:Int)=0)=True:=eq_true (by omega)
    have e':decide ((hat X.hs i).pc=0)=true:=decide_eq_true e;rw [e'];clear e hp2;refine fn rfl ?_;exact ⟨[.cells true [zH (hat X.hs i)]],by simp⟩
   ·have c1:(((hat X.hs i).pc:Int)=0)=False:=eq_false (by omega)
    have e':decide ((hat X.hs i).pc=0)=false:=decide_eq_false e;rw [e'];clear e hp2;refine fn rfl ?_;exact ⟨[.cells true [zH (hat X.hs i)]],by simp⟩
  ·rintro _ _ ⟨⟨g2,rfl⟩,⟨rfl,i,hi,hp⟩|⟨rfl,hno⟩⟩
   ·have:PLift (B=true):=⟨by
     rw [<-eB'.down];have:=(zil (hs:=X.hs) X.hs.length).2 ⟨i,hi,by simpa using hp⟩;exact decide_eq_true (by omega)⟩
    rw [this.down];clear hp;refine am ?_;exact ⟨_,rfl⟩
   ·have:PLift (B=false):=⟨by
     rw [<-eB'.down];refine decide_eq_false fun hh=> ?_
     have:=en'.down;have:=h0'.down;obtain ⟨i,hi,hp⟩:=(zil (hs:=X.hs) X.hs.length).1 (by omega);have:=hno i hi;rw [decide_eq_false hp] at this;cases this⟩
    rw [this.down];clear hno;refine am ?_;exact ⟨_,rfl⟩
def zuC (X:MiA) (r:V):Prop:=(X.ok/\r= .tup [.bool (!zdS X),.int .i64 0])\/(¬ X.ok/\r= .tup [.bool false,.int .i64 2])
theorem znW {m:Mem} {aw uw sv mv qv hv:V}{va vm vs:Nat->V}{X:MiA}(h:zfi m aw uw sv mv qv hv va vm vs X):C S zgJ [.agg (miV X aw uw sv mv qv hv)] m (fun r m'=>zuC X r/\Grow m m'):=by
 have A1:=h.h.a.ar.2.1;have A2:=h.h.u.ar.2.1;have A3:=h.h.s.s.ar.2.1;have A4:=h.k.ar.2.1;have A5:=h.q.s.ar.2.1;have A6:=h.d.ar.2.1;have hh:=zU h;have ld:=h.ld;clear h;refine fn rfl ?_;refine (zfK hh.down.app).mono ?_;rintro _ _ ⟨⟨hk,rfl⟩|⟨hk,rfl⟩,⟨g1,rfl⟩⟩
 case inr=>
  have hk':=zU hk;clear hk;refine am ?_;exact ⟨.inr ⟨hk'.down,rfl⟩,_,rfl⟩
 have hk':=zU hk;clear hk;refine am ?_;have hP: ∀R:Mem,(m++ .cells true [miV X aw uw sv mv qv hv]::(g1++[R.headD .dead]))[m.length+(g1.length+1)]? =some (R.headD .dead):=fun R=>by rw [zi,zb9,zaa];rfl
 refine (znV (X:=X) (c0:=aw) (c1:= .int .i64 X.H.us.N) (c2:=uw) (c3:=sv) (c4:=mv) (own:=true) (hP [.cells true [miV X aw uw sv mv qv hv]]) hh.down.q.app hh.down.d.app hk'.down.2.1 ld).mono ?_;rintro _ _ ⟨rfl,⟨g2,rfl⟩⟩;refine am ?_;exact ⟨.inl ⟨hk'.down,rfl⟩,_,rfl⟩
def zBi:zpn:=⟨0,0,fun _=>0⟩
def zMi:MiA:=⟨⟨0,fun _=>0,zBi,0,fun _=>⟨0,0,0,zBi,zBi,false⟩⟩,0,fun _=>0,[],[]⟩
theorem ztw {m:Mem}:zfi m .nils .nils .nils .nils .nils .nils (fun _=> .nils) (fun _=> .nils) (fun _=> .nils) zMi:=by
 have r: ∀z f,Rd m .nils z 0 f:=fun z f=> .inl ⟨rfl,rfl⟩
 have no: ∀{P:Nat->Prop}(i:Nat),i<0->P i:=fun i h=>absurd h (Nat.not_lt_zero _)
 exact ⟨⟨r _ _,r _ _,⟨r _ _,no⟩,no,no,by decide,by decide,by decide,by trivial⟩,r _ _,⟨r _ _,no⟩,r _ _,no,by decide,by decide,no,by decide,by decide,rfl,rfl,rfl,rfl,rfl,rfl⟩
def MiQ (m:Mem) (Z:MiA) (l:List V) (m':Mem):Prop:= ∃aw uw sv mv qv hv g,l=miV Z aw uw sv mv qv hv/\m'=m++g/\Ps m.length g (fun M=> ∃va vm vs,zfi M aw uw sv mv qv hv va vm vs Z)
theorem MiQ.grow {m m':Mem}{Z:MiA}{l:List V}(h:MiQ m Z l m'):Grow m m':=by
 obtain ⟨_,_,_,_,_,_,g,_,e,_⟩:=h;exact ⟨g,e⟩
theorem MiO.to {lo:Nat}{M M2:Mem}{aw uw sv qv:V}{bm bh cm ch:Nat}{em eh:Bool}{Fh Fq:Nat->Prop}{X:MiA}(h:MiO lo M aw uw sv qv bm bh cm ch em eh Fh Fq X) (k: ∀(c:Nat) (y:Blk),lo<=c->M[c]? =some y->M2[c]? =some y):MiO lo M2 aw uw sv qv bm bh cm ch em eh Fh Fq X:=⟨h.h.to fun c x hc hx=>k c x (h.fl c (.inl hc)) hx,h.q.to fun c x hc hx=>k c x (h.fl c (.inr hc)) hx,k _ _ h.l.1 h.m,k _ _ h.l.2.1 h.d,h.l,h.f,h.fl,h.c,h.b,h.w⟩
theorem MiO.res {lo:Nat}{m M M2:Mem}{aw uw sv qv:V}{bm bh cm ch:Nat}{em eh:Bool}{Fh Fq:Nat->Prop}{X:MiA}(h:MiO lo M aw uw sv qv bm bh cm ch em eh Fh Fq X) (hl:m.length<=lo) (k1: ∀(c:Nat) (y:Blk),lo<=c->M[c]? =some y->M2[c]? =some y) (k2:m.length<=M2.length) (k3: ∀(c:Nat) (y:Blk),m[c]? =some y->M2[c]? =some y):MiQ m X (miV X aw uw sv (slM X bm cm em) qv (slH X bh ch eh)) M2:=by
 have e:M2=m++M2.drop m.length:=by
  have:M2.take m.length=m:=List.ext_getElem? fun i=>by
   by_cases hi:i<m.length
   ·rw [List.getElem?_take_of_lt hi,k3 i _ (List.getElem?_eq_getElem hi),List.getElem?_eq_getElem hi]
   ·rw [List.getElem?_eq_none (by rw [List.length_take];omega),List.getElem?_eq_none (by omega)]
  conv=>lhs;rw [<-List.take_append_drop m.length M2,this]
 refine ⟨_,_,_,_,_,_,_,rfl,e,fun M3 hM3=> ?_⟩;have go: ∀c y,lo<=c->M[c]? =some y->M3[c]? =some y:=fun c y hc hy=>hM3.of c y (by omega) (by rw [<-e];exact k1 c y hc hy)
 obtain ⟨va,vm,p1⟩:=h.h M3 fun c y hc hy=>go c y (h.fl c (.inl hc)) hy
 obtain ⟨vs,p2⟩:=h.q M3 fun c y hc hy=>go c y (h.fl c (.inr hc)) hy
 have p3:=Sl.mk (cap:=cm) (z:=1) (ex:=em) (go bm _ h.l.1 h.m);have p4:=Sl.mk (cap:=ch) (z:=7) (ex:=eh) (go bh _ h.l.2.1 h.d);rw [List.length_map,List.length_range] at p3 p4;exact ⟨va,vm,vs,p1,.inl p3,p2,.inl p4,h.w.wk,h.w.lk,h.w.lq,h.w.ll,h.w.ld,h.w.ls,h.b.1,h.b.2.1,h.b.2.2.1,p3.beq',h.b.2.2.2,p4.beq'⟩
theorem znX {M:Mem}{P n bh ch:Nat}{own eh:Bool} {c0 c1 c2 c3 c4 c5 wv:V}{k:Nat}{ws:Nat->Int}(hP:M[P]? =some (.cells own [[c0,c1,c2,c3,c4,c5,.slice bh 0 n ch eh 7]])) (hw:Rd M wv 1 k (fun i=>[.int .i64 (ws i)])) (hk:k<4611686018427387904):C S zdk [.ptr P 0 0,wv] M (fun r m'=>(((∀i,i<k->0<=ws i/\ws i<(n:Int))/\r= .int .i64 0)\/(¬ (∀i,i<k->0<=ws i/\ws i<(n:Int))/\r= .int .i64 11))/\Grow M m'):=by
 have A:=hw.ar.2.1;have hw':=zU hw;obtain ⟨Q,hQ⟩: ∃Q:V->Prop,Q=fun r=>((∀i,i<k->0<=ws i/\ws i<(n:Int))/\r= .int .i64 0)\/(¬ (∀i,i<k->0<=ws i/\ws i<(n:Int))/\r= .int .i64 11):=⟨_,rfl⟩
 have hQ':=zU hQ;have hc: ∀r m',(((∀i,i<k->0<=ws i/\ws i<(n:Int))/\r=V.int .i64 0)\/(¬ (∀i,i<k->0<=ws i/\ws i<(n:Int))/\r= .int .i64 11))/\Grow M m'↔Q r/\Grow M m':=fun r m'=>by rw [hQ]
 simp only [hc];clear hw hQ hc;refine fn rfl ?_;refine (zop (arg:=fun i=> .int .i64 (ws i)) (p:=fun i=> !decide (0<=ws i/\ws i<(n:Int))) hw'.down.app (fun i hi=>rfl) hk (fun g i hi=> ?_)).mono ?_
 ·rw [ziQ]
  dsimp only;have hP2:(M++ .cells true [[.ptr P 0 0]]::g)[P]? =some (.cells own [[c0,c1,c2,c3,c4,c5,.slice bh 0 n ch eh 7]]):=zb hP
  by_cases a1:ws i<0
  ·have e1:(ws i<0)=True:=eq_true a1
   have e2:decide (0<=ws i/\ws i<(n:Int))=false:=decide_eq_false (by omega);rw [e2];clear a1;refine fn rfl ?_;exact ⟨[],(List.append_nil _).symm⟩
  ·have e1:(ws i<0)=False:=eq_false a1
   by_cases a2:ws i<(n:Int)
   ·have e2:decide (0<=ws i/\ws i<(n:Int))=true:=decide_eq_true (by omega)
    have e3:((n:Int)<=ws i)=False:=eq_false (by omega);rw [e2];clear a1 a2;refine fn rfl ?_;exact ⟨[],(List.append_nil _).symm⟩
   ·have e2:decide (0<=ws i/\ws i<(n:Int))=false:=decide_eq_false (by omega)
    have e3:((n:Int)<=ws i)=True:=eq_true (by omega);rw [e2];clear a1 a2;refine fn rfl ?_;exact ⟨[],(List.append_nil _).symm⟩
 rintro _ _ ⟨⟨g8,rfl⟩,⟨rfl,i,hi,hp⟩|⟨rfl,hno⟩⟩
 ·have:PLift (Q (.int .i64 11)):=⟨by
   rw [hQ'.down];exact .inr ⟨fun h=>(by rw [decide_eq_true (h i hi)] at hp;cases hp),rfl⟩⟩
  clear hp;refine am ?_;exact ⟨this.down,_,rfl⟩
 ·have:PLift (Q (.int .i64 0)):=⟨by
   rw [hQ'.down];exact .inl ⟨fun i hi=>by have:=hno i hi;simpa using this,rfl⟩⟩
  clear hno;refine am ?_;exact ⟨this.down,_,rfl⟩
def zyj (X:MiA) (w:Int) (Z:MiA×Nat×Int):Prop:=(¬ X.ok/\Z=(zMi,0,2))\/(X.ok/\¬ (0<=w/\w<(X.hs.length:Int))/\Z=(X,0,11))\/(X.ok/\0<=w/\w<(X.hs.length:Int)/\Z=zm X w.toNat)
def zxm (m:Mem) (X:MiA) (w:Int) (r:V) (m':Mem):Prop:= ∃Z l,zyj X w Z/\r= .tup [.agg l,.int .u8 (Z.2.1:Nat),.int .i64 Z.2.2]/\MiQ m Z.1 l m'
theorem zvC {m:Mem}{X:MiA}{w:Int}{g:Mem}(h:¬ X.ok):zxm m X w (.tup [.agg [.nils,.int .i64 0,.nils,.nils,.nils,.nils,.nils],.int .u8 0,.int .i64 2]) (m++g):=⟨_,_,.inl ⟨h,rfl⟩,rfl,_,_,_,_,_,_,g,rfl,rfl,fun _ _=>⟨_,_,_,ztw⟩⟩
theorem zjI {m:Mem} {aw uw sv mv qv hv:V}{va vm vs:Nat->V}{X:MiA}(h:zfi m aw uw sv mv qv hv va vm vs X){w:Int}:C S zeD [.agg (miV X aw uw sv mv qv hv),.int .i64 w] m (zxm m X w):=by
 have A1:=h.h.a.ar.2.1;have A2:=h.h.u.ar.2.1;have A3:=h.h.s.s.ar.2.1;have A4:=h.k.ar.2.1;have A5:=h.q.s.ar.2.1;have A6:=h.d.ar.2.1;have hh:=zU h;have ld:=h.ld;obtain ⟨T,hT⟩: ∃T:V->Mem->Prop,T=zxm m X w:=⟨_,rfl⟩
 rw [<-hT];have hT':=zU hT;clear h hT;refine fn rfl ?_;refine (zlV hh.down.app).mono ?_;rintro _ M0 ⟨hg,⟨hk,P,aw',uw',sv',qv',bm,bh,cm,ch,em,eh,Fh,Fq,rfl,hM⟩|⟨hk,rfl⟩⟩
 case inr=>
  obtain ⟨g,rfl⟩:=hg;have t:PLift (∀g,T (.tup [.agg [.nils,.int .i64 0,.nils,.nils,.nils,.nils,.nils],.int .u8 0,.int .i64 2]) (m++g)):=⟨fun g=>by rw [hT'.down];exact zvC hk⟩
  clear hk;refine am ?_;exact t.down _
 have hg':=zU hg;have hk':=zU hk;have z0:M0[m.length+1]? =some (.cells true [[.nils,.int .i64 0,.nils,.nils,.nils,.nils,.nils]]):=by
  obtain ⟨g,rfl⟩:=hg;rw [List.append_assoc,zi];rfl
 have l0:m.length+2<=M0.length:=by have:=hg.len;rw [List.length_append] at this;exact this
 have hM':=zU hM;have pM:=hM.p;obtain ⟨c1,c2,c3,c4⟩:=hM.o.c;clear hg hk hM;have gs:= @zL;refine am ?_;refine (znX (k:=1) (ws:=fun _=>w) (zb pM) (.inl (Sl.mk (cap:=1) (ex:=true) (own:=true) (els:=[[.int .i64 w]]) (by rw [zaa];rfl))) (by decide)).mono ?_;rintro _ _ ⟨⟨ht,rfl⟩|⟨ht,rfl⟩,⟨g,rfl⟩⟩
 case inr=>
  have t:PLift (∀M1 Y,M0++ .cells true [[.int .i64 w]]::g=M1->T (.tup [.agg (miV X aw' uw' sv' (slM X bm cm em) qv' (slH X bh ch eh)),.int .u8 0,.int .i64 11]) (M1.set (m.length+1) Y)):=⟨fun M1 Y e=>by
   rw [hT'.down];subst e;refine ⟨(X,0,11),_,.inr (.inl ⟨hk'.down,fun e=>ht fun _ _=>e,rfl⟩),rfl,hM'.down.o.res (by simp) (fun c y hc hy=> ?_) ?_ (fun c y hy=> ?_)⟩
   ·exact zx (by simp at hc;omega) (zb hy)
   ·rw [List.length_set,List.length_append];omega
   ·have:=(List.getElem?_eq_some_iff.1 hy).1
    exact zx (by omega) (zb (hg'.down.get (zb hy)))⟩
  clear ht;obtain ⟨M1,e1⟩: ∃M1,M0++ .cells true [[.int .i64 w]]::g=M1:=⟨_,rfl⟩
  have z1:M1[m.length+1]? =some (.cells true [[.nils,.int .i64 0,.nils,.nils,.nils,.nils,.nils]]):=by rw [<-e1];exact zb z0
  have p1:M1[P]? =some (.cells true [miV X aw' uw' sv' (slM X bm cm em) qv' (slH X bh ch eh)]):=by rw [<-e1];exact zb pM
  have s1: ∀Y,(M1.set (m.length+1) Y)[m.length+1]? =some Y:=fun Y=>zL (by rw [z1];rfl)
  have t1:=zU (fun Y=>t.down M1 Y e1);clear z0 pM l0;refine am ?_;exact t1.down _
 obtain ⟨w1,w2⟩:=ht 0 (by omega);obtain ⟨k,rfl⟩: ∃k:Nat,w=(k:Int):=⟨w.toNat,by omega⟩
 have wk:k<X.hs.length:=by omega
 clear ht w1 w2;refine am ?_;have hM2:zgy (List.length (m++[.cells true [miV X aw uw sv mv qv hv],.cells true [[.nils,.int .i64 0,.nils,.nils,.nils,.nils,.nils]]])) (M0++ .cells true [[.int .i64 k]]::g) P aw' uw' sv' qv' bm bh cm ch em eh Fh Fq X:=⟨hM'.down.o.grow,zb hM'.down.p,hM'.down.n⟩
 refine (znS hM2 hk'.down wk).mono ?_;rintro _ M1 ⟨rfl,l1,k0,qv2,Fq2,_,hM3⟩;have k1: ∀(c:Nat) (y:Blk),c<List.length (m++[.cells true [miV X aw uw sv mv qv hv],.cells true [[.nils,.int .i64 0,.nils,.nils,.nils,.nils,.nils]]])->(M0++ .cells true [[.int .i64 k]]::g)[c]? =some y->M1[c]? =some y:=fun c y hc hy=>k0 c y (by have:=hM2.n.2.2.2.2;have:=hM2.o.l;omega) hy
 clear k0;have z1:M1[m.length+1]? =some (.cells true [[.nils,.int .i64 0,.nils,.nils,.nils,.nils,.nils]]):=k1 _ _ (by simp) (zb z0);have pM3:=hM3.p;obtain ⟨d1,d2,d3,d4⟩:=hM3.o.c;have s1: ∀Y,(M1.set (m.length+1) Y)[m.length+1]? =some Y:=fun Y=>zL (by rw [z1];rfl)
 have t:PLift (∀Y,T (.tup [.agg (miV (zm X k).1 aw' uw' sv' (slM (zm X k).1 bm cm em) qv2 (slH (zm X k).1 bh ch eh)),.int .u8 ((zm X k).2.1:Nat),.int .i64 (zm X k).2.2]) (M1.set (m.length+1) Y)):=⟨fun Y=>by
  rw [hT'.down];refine ⟨zm X k,_,.inr (.inr ⟨hk'.down,by omega,by omega,by rw [Int.toNat_natCast]⟩),rfl,hM3.o.res (by simp) (fun c y hc hy=> ?_) ?_ (fun c y hy=> ?_)⟩
  ·exact zx (by simp at hc;omega) hy
  ·rw [List.length_set];rw [List.length_append] at l1;omega
  ·have:=(List.getElem?_eq_some_iff.1 hy).1
   exact zx (by omega) (k1 _ _ (by rw [List.length_append];omega) (zb (hg'.down.get (zb hy))))⟩
 clear hM2 hM3 l1 k1;refine am ?_;exact t.down _
end Go.AM.G
