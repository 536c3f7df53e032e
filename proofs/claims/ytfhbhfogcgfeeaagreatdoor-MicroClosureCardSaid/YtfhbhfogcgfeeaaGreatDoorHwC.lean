import Derived.Test.YtfhbhfogcgfeeaaGreatDoorHvT
set_option linter.unusedVariables false
set_option linter.unusedSimpArgs false
set_option maxRecDepth 100000
namespace Go.AM.G
open Go Go.AM
def zla (l:List zT):Nat:=(l.filter fun x=>decide (x.pc=5)).length
structure Once (X:MiA):Prop where
 seen: ∀i,i<X.hs.length->(hat X.hs i).pc=4->(hat X.hs i).seen.testBit ((hat X.hs i).to/2%64)=false
 push: ∀i,i<X.hs.length->(hat X.hs i).pc=5->bit X.mw ((hat X.hs i).to/2)=true/\(hat X.hs i).to∉X.qs.flatten
 two: ∀i j,i<X.hs.length->j<X.hs.length->i≠j->(hat X.hs i).pc=5->(hat X.hs j).pc=5->(hat X.hs i).to≠(hat X.hs j).to
 q:zxo X
theorem zqL {l:List zT}{i:Nat}(h:i<l.length):hat l i=l[i]:=by
 unfold hat;rw [List.getD_eq_getElem?_getD,List.getElem?_eq_getElem h];rfl
theorem zkC {l:List zT}{w:Nat}{x:zT}(hw:w<l.length):zla (l.set w x)+(if (hat l w).pc=5 then 1 else 0)=zla l+(if x.pc=5 then 1 else 0):=by
 rw [zqL hw];unfold zla
 induction l generalizing w with
 |nil=>exact absurd hw (Nat.not_lt_zero _)
 |cons a l ih=>
  cases w with
  |zero=>
   simp only [List.set_cons_zero,List.filter_cons,List.getElem_cons_zero,decide_eq_true_eq]
   split<;>split<;>simp only [List.length_cons]<;>omega
  |succ w=>
   have:=ih (w:=w) (by simpa using hw);simp only [List.set_cons_succ,List.filter_cons,List.getElem_cons_succ,decide_eq_true_eq]
   by_cases ea:a.pc=5
   ·simp only [if_pos ea,List.length_cons];omega
   ·simp only [if_neg ea];exact this
theorem zlW {f g:Nat->Bool}{t:Nat}: ∀{l:List Nat},l.Nodup->t∈l->(∀a,a∈l->a≠t->g a=f a)->f t=false->g t=true->(l.filter g).length=(l.filter f).length+1
 | [],_,h,_,_,_=>by cases h
 |a::l,hn,ht,he,h0,h1=>by
  obtain ⟨n1,n2⟩:=List.nodup_cons.1 hn
  by_cases e:a=t
  ·subst e
   have:l.filter g=l.filter f:=List.filter_congr fun x hx=>he x (List.mem_cons_of_mem _ hx) fun e=>n1 (e▸hx)
   simp [h0,h1,this]
  ·have ih:=zlW n2 ((List.mem_cons.1 ht).resolve_left (Ne.symm e)) (fun x hx=>he x (List.mem_cons_of_mem _ hx)) h0 h1
   rw [List.filter_cons,List.filter_cons,he a List.mem_cons_self e]
   split
   ·simp only [List.length_cons];omega
   ·exact ih
theorem Once.hand {X:MiA}(h:Once X){w:Nat}{x:zT}(hw:w<X.hs.length) (h4:x.pc=4->x.seen.testBit (x.to/2%64)=false) (h5:x.pc≠5):Once (X.sh w x):=by
 have len:(X.sh w x).hs.length=X.hs.length:=List.length_set;have at_: ∀i,hat (X.sh w x).hs i=if i=w then x else hat X.hs i:=fun i=>ziB hw
 refine ⟨fun i hi hp=> ?_,fun i hi hp=> ?_,fun i j hi hj hij hp hp'=> ?_,h.q⟩
 ·rw [at_] at hp ⊢
  split at hp
  ·rename_i e;rw [if_pos e];exact h4 hp
  ·rename_i e;rw [if_neg e];exact h.seen i (len▸hi) hp
 ·rw [at_] at hp ⊢
  split at hp
  ·exact absurd hp h5
  ·rename_i e;rw [if_neg e];exact h.push i (len▸hi) hp
 ·rw [at_] at hp hp' ⊢
  rw [at_]
  split at hp
  ·exact absurd hp h5
  split at hp'
  ·exact absurd hp' h5
  rename_i e e'
  rw [if_neg e,if_neg e'];exact h.two i j (len▸hi) (len▸hj) hij hp hp'
structure zyk (X:MiA) (w:Nat):Prop where
 once:Once (zm X w).1
 swap:(zm X w).2.1=4->(hat X.hs w).pc≠5/\(zbh (zm X w).1).length=(zbh X).length+1/\(∀a,a∈zbh X->a∈zbh (zm X w).1)/\zla (zm X w).1.hs=zla X.hs+1
 same:(zm X w).2.1≠4->zbh (zm X w).1=zbh X/\((hat X.hs w).pc≠5->zla (zm X w).1.hs=zla X.hs)/\((hat X.hs w).pc=5->zla (zm X w).1.hs+1=zla X.hs/\(zm X w).1.qs=X.qs.set w (qat X.qs w++[(hat X.hs w).to]))
theorem zg3 {X:MiA}(h:Once X){w:Nat}{x:zT}{k:Nat}(hw:w<X.hs.length) (e:zm X w=(X.sh w x,k,0)) (h4:x.pc=4->x.seen.testBit (x.to/2%64)=false) (h5:x.pc≠5) (p5:(hat X.hs w).pc≠5) (hk:k≠4):zyk X w:=by
 refine ⟨?_,fun h=> ?_,fun _=>⟨?_,fun _=> ?_,fun h=>absurd h p5⟩⟩
 ·rw [e];exact h.hand hw h4 h5
 ·rw [e] at h;exact absurd h hk
 ·rw [e];rfl
 ·rw [e]
  have:=zkC (x:=x) hw;rw [if_neg p5,if_neg h5] at this;exact this
theorem zlb {nm p i:Nat}{mw:Nat->Nat}(wk:w64 nm mw) (hp:p<64*nm) (h:bit mw i=true):bit (za7 mw p true) i=true:=by
 rw [za9 wk hp]
 split
 ·rfl
 ·exact h
theorem zpC {X:MiA}(h:X.ok) (o:Once X) (wa:w64 X.H.na X.H.a) (wk:w64 X.nm X.mw){w:Nat}(hw:w<X.hs.length) (e0:(zm X w).2.2=0):zyk X w:=by
 have hx:=h.2.2.2.2.2.2.2 w hw;have hq:=h.2.1;have hR:=h.1;have hwq:w<X.qs.length:=by have:=h.2.2.1;omega
 obtain ⟨x,ex⟩: ∃x,hat X.hs w=x:=⟨_,rfl⟩
 have es:zm X w=zm X w:=rfl;rw [ex] at hx
 by_cases p0:x.pc=0
 ·have hst:zm X w=if (zav X.qs w).2.2.2=0 then ({ X with qs:=(zav X.qs w).1,hs:=X.hs.set w ⟨1,(zav X.qs w).2.1,0,0,0,0,0⟩ },1,0) else (X,0,(zav X.qs w).2.2.2):=by
   conv=>lhs;unfold zm
   rw [ex,if_pos p0]
  rcases zkw hq hwq with ⟨e,g,gl,A,B,p1,p2⟩|⟨e,_⟩
  ·rw [if_pos e] at hst
   have sub: ∀a,a∈(zav X.qs w).1.flatten->a∈X.qs.flatten:=fun a ha=>p1.mem_iff.2 (List.mem_cons_of_mem _ (p2.mem_iff.1 ha))
   have o1:Once { X with qs:=(zav X.qs w).1 }:=⟨o.seen,fun i hi hp=>⟨(o.push i hi hp).1,fun hm=>(o.push i hi hp).2 (sub _ hm)⟩,o.two,fun a ha=>o.q a (sub a ha)⟩
   have o2:=o1.hand (w:=w) (x:=⟨1,(zav X.qs w).2.1,0,0,0,0,0⟩) hw (fun h=>by cases h) (fun h=>by cases h);refine ⟨?_,fun h=> ?_,fun _=>⟨?_,fun _=> ?_,fun h=> ?_⟩⟩
   ·rw [hst];exact o2
   ·rw [hst] at h;cases h
   ·rw [hst];rfl
   ·rw [hst]
    have:=zkC (x:=⟨1,(zav X.qs w).2.1,0,0,0,0,0⟩) hw;rw [ex,if_neg (by omega),if_neg (fun h=>by cases h)] at this;exact this
   ·rw [ex] at h;omega
  ·rw [hst,if_neg (by rw [e];decide)] at e0
   rw [e] at e0;cases e0
 by_cases p1:x.pc=1
 ·refine zg3 o hw (x:={ x with pc:=2,N:=(X.H.a x.obj%256:Nat),M:=unM (X.H.a x.obj) }) (k:=2) ?_ (fun h=>by cases h) (fun h=>by cases h) (by rw [ex];omega) (by decide)
  unfold zm;rw [ex,if_neg p0,if_pos p1]
 obtain ⟨a1,a2,a3,a4,a5,a6,a7,a8,a9⟩:=zd3 hx p0 p1
 by_cases p2:x.pc=2
 ·cases hn:zfd x.M x.N.toNat x.f.toNat with
  |none=>
   refine zg3 o hw (x:=hand0) (k:=0) ?_ (fun h=>by cases h) (fun h=>by cases h) (by rw [ex];omega) (by decide);unfold zm;rw [ex,if_neg p0,if_neg p1,if_pos p2,hn]
  |some g=>
   by_cases hz:X.H.a (x.obj+1+g)=0
   ·refine zg3 o hw (x:={ x with f:=(g:Int)+1 }) (k:=2) ?_ (fun h=>by rw [p2] at h;cases h) (by show x.pc≠5;omega) (by rw [ex];omega) (by decide)
    unfold zm;rw [ex,if_neg p0,if_neg p1,if_pos p2,hn];dsimp only;rw [if_pos hz]
   ·refine zg3 o hw (x:={ x with pc:=3,f:=(g:Int),to:=X.H.a (x.obj+1+g) }) (k:=2) ?_ (fun h=>by cases h) (fun h=>by cases h) (by rw [ex];omega) (by decide)
    unfold zm;rw [ex,if_neg p0,if_neg p1,if_pos p2,hn];dsimp only;rw [if_neg hz]
 obtain ⟨b1,b2,b3,b4⟩:x.pc≠2/\x.f<x.N/\x.M.testBit x.f.toNat=true/\x.to∈X.H.cs:=by
  rcases a9 with a9|a9
  ·exact absurd a9.1 p2
  ·exact a9
 by_cases p3:x.pc=3
 ·by_cases hb:bit X.mw (x.to/2)=true
  ·refine zg3 o hw (x:=behind x) (k:=3) ?_ (fun h=>by cases h) (fun h=>by cases h) (by rw [ex];omega) (by decide)
   unfold zm;rw [ex,if_neg p0,if_neg p1,if_neg p2,if_pos p3,if_pos hb]
  ·refine zg3 o hw (x:={ x with pc:=4,seen:=X.mw (x.to/2/64) }) (k:=3) ?_ (fun _=> ?_) (fun h=>by cases h) (by rw [ex];omega) (by decide)
   ·unfold zm
    rw [ex,if_neg p0,if_neg p1,if_neg p2,if_pos p3,if_neg hb]
   ·show (X.mw (x.to/2/64)).testBit (x.to/2%64)=false
    have:¬ (X.mw (x.to/2/64)).testBit (x.to/2%64)=true:=hb
    simpa using this
 by_cases p4:x.pc=4
 ·by_cases hb:X.mw (x.to/2/64)=x.seen
  ·have hst:zm X w=({ X with mw:=za7 X.mw (x.to/2) true,hs:=X.hs.set w { x with pc:=5,seen:=0 } },4,0):=by
    unfold zm;rw [ex,if_neg p0,if_neg p1,if_neg p2,if_neg p3,if_pos p4,if_pos hb]
   have hs:=o.seen w hw (by rw [ex];exact p4);rw [ex,<-hb] at hs;have hbit:bit X.mw (x.to/2)=false:=hs;have hp':x.to/2<64*X.nm:=by have:=(zcR hR wa b4).2;rw [h.2.2.2.1];omega
   have kb:=fun i=>zlb (i:=i) wk hp'
   have hev:=zfJ hR.1 b4;have tq:x.to∉X.qs.flatten:=fun e=>by have:=o.q _ e;rw [hbit] at this;cases this
   have len:(X.hs.set w { x with pc:=5,seen:=0 }).length=X.hs.length:=List.length_set;have at_: ∀i,hat (X.hs.set w { x with pc:=5,seen:=0 }) i=if i=w then { x with pc:=5,seen:=0 } else hat X.hs i:=fun i=>ziB hw
   have ne: ∀j,j<X.hs.length->(hat X.hs j).pc=5->x.to≠(hat X.hs j).to:=fun j hj hp e=>by
    have:=(o.push j hj hp).1;rw [<-e,hbit] at this;cases this
   refine ⟨?_,fun _=>⟨by rw [ex];omega,?_,fun a ha=> ?_,?_⟩,fun h=> ?_⟩
   ·rw [hst]
    refine ⟨fun i hi hp=> ?_,fun i hi hp=> ?_,fun i j hi hj hij hp hp'=> ?_,fun a ha=>kb _ (o.q a ha)⟩
    ·have hp:(hat (X.hs.set w { x with pc:=5,seen:=0 }) i).pc=4:=hp
     show (hat (X.hs.set w { x with pc:=5,seen:=0 }) i).seen.testBit ((hat (X.hs.set w { x with pc:=5,seen:=0 }) i).to/2%64)=false;rw [at_] at hp ⊢
     split at hp
     ·cases hp
     ·rename_i e;rw [if_neg e];exact o.seen i (len▸hi) hp
    ·have hp:(hat (X.hs.set w { x with pc:=5,seen:=0 }) i).pc=5:=hp
     show bit (za7 X.mw (x.to/2) true) ((hat (X.hs.set w { x with pc:=5,seen:=0 }) i).to/2)=true/\(hat (X.hs.set w { x with pc:=5,seen:=0 }) i).to∉X.qs.flatten;rw [at_] at hp ⊢
     split at hp
     ·rename_i e;rw [if_pos e];exact ⟨by rw [za9 wk hp',if_pos rfl],tq⟩
     ·rename_i e;rw [if_neg e];exact ⟨kb _ (o.push i (len▸hi) hp).1,(o.push i (len▸hi) hp).2⟩
    ·have hp:(hat (X.hs.set w { x with pc:=5,seen:=0 }) i).pc=5:=hp
     have hp2:(hat (X.hs.set w { x with pc:=5,seen:=0 }) j).pc=5:=hp';show (hat (X.hs.set w { x with pc:=5,seen:=0 }) i).to≠(hat (X.hs.set w { x with pc:=5,seen:=0 }) j).to;rw [at_] at hp hp2 ⊢;rw [at_]
     split at hp
     ·rename_i e
      split at hp2
      ·rename_i e';exact absurd (e.trans e'.symm) hij
      ·rename_i e'
       rw [if_pos e,if_neg e'];exact ne j (len▸hj) hp2
     ·rename_i e
      split at hp2
      ·rename_i e'
       rw [if_neg e,if_pos e'];exact Ne.symm (ne i (len▸hi) hp)
      ·rename_i e'
       rw [if_neg e,if_neg e'];exact o.two i j (len▸hi) (len▸hj) hij hp hp2
   ·rw [hst]
    refine zlW (t:=x.to) (f:=fun a=>bit X.mw (a/2)) (g:=fun a=>bit (za7 X.mw (x.to/2) true) (a/2)) ((zjH hR wa).1.imp fun h=>Nat.ne_of_lt h) b4 (fun a ha hne=> ?_) hbit ?_
    ·have:=zfJ hR.1 ha
     rw [za9 wk hp',if_neg (by omega)]
    ·rw [za9 wk hp',if_pos rfl]
   ·rw [hst]
    obtain ⟨h1,h2⟩:=List.mem_filter.1 ha;exact List.mem_filter.2 ⟨h1,kb _ h2⟩
   ·rw [hst]
    have:=zkC (x:={ x with pc:=5,seen:=0 }) hw;rw [ex,if_neg (by omega),if_pos rfl] at this;exact this
   ·rw [hst] at h;exact absurd rfl h
  ·refine zg3 o hw (x:={ x with pc:=3,seen:=0 }) (k:=5) ?_ (fun h=>by cases h) (fun h=>by cases h) (by rw [ex];omega) (by decide)
   unfold zm;rw [ex,if_neg p0,if_neg p1,if_neg p2,if_neg p3,if_pos p4,if_neg hb]
 have p5:x.pc=5:=by omega
 obtain ⟨u1,u2⟩:=o.push w hw (by rw [ex];exact p5);rw [ex] at u1 u2;have cz:=(zk5 hR wa b4).1;have hpush:(zaT X.qs w x.to).2=0:=by
  have hl:=zgb (l:=x.to::X.qs.flatten) (List.nodup_cons.2 ⟨u2,hq.2.2.2.1⟩) fun a ha=>by
   rcases List.mem_cons.1 ha with rfl|ha
   ·exact b4
   ·exact h.2.2.2.2.2.2.1 a ha
  have hc:=(zjH hR wa).2;rw [List.length_cons] at hl;unfold zaT;rw [if_neg (fun e=>e hq),if_neg (fun e=>e (by omega)),if_neg cz,if_neg u2,if_neg (by omega)]
 obtain ⟨q1,q2,q3,q4,q5⟩:=zik hq hwq hpush;have hst:zm X w=({ X with qs:=X.qs.set w (qat X.qs w++[x.to]),hs:=X.hs.set w (behind x) },1,0):=by
  unfold zm;rw [ex,if_neg p0,if_neg p1,if_neg p2,if_neg p3,if_neg p4,if_pos hpush,q1]
 have len:(X.hs.set w (behind x)).length=X.hs.length:=List.length_set;have at_: ∀i,hat (X.hs.set w (behind x)) i=if i=w then behind x else hat X.hs i:=fun i=>ziB hw
 refine ⟨?_,fun h=> ?_,fun _=>⟨?_,fun h=> ?_,fun _=>⟨?_,?_⟩⟩⟩
 ·rw [hst]
  refine ⟨fun i hi hp=> ?_,fun i hi hp=> ?_,fun i j hi hj hij hp hp'=> ?_,fun a ha=> ?_⟩
  ·have hp:(hat (X.hs.set w (behind x)) i).pc=4:=hp
   show (hat (X.hs.set w (behind x)) i).seen.testBit ((hat (X.hs.set w (behind x)) i).to/2%64)=false;rw [at_] at hp ⊢
   split at hp
   ·cases hp
   ·rename_i e;rw [if_neg e];exact o.seen i (len▸hi) hp
  ·have hp:(hat (X.hs.set w (behind x)) i).pc=5:=hp
   show bit X.mw ((hat (X.hs.set w (behind x)) i).to/2)=true/\(hat (X.hs.set w (behind x)) i).to∉(X.qs.set w (qat X.qs w++[x.to])).flatten;rw [at_] at hp ⊢
   split at hp
   ·cases hp
   ·rename_i e
    rw [if_neg e];refine ⟨(o.push i (len▸hi) hp).1,fun hm=> ?_⟩;rcases (q5 _).1 hm with hm|hm
    ·have:=o.two i w (len▸hi) hw e hp (by rw [ex];exact p5)
     rw [ex] at this;exact this hm
    ·exact (o.push i (len▸hi) hp).2 hm
  ·have hp:(hat (X.hs.set w (behind x)) i).pc=5:=hp
   have hp2:(hat (X.hs.set w (behind x)) j).pc=5:=hp';show (hat (X.hs.set w (behind x)) i).to≠(hat (X.hs.set w (behind x)) j).to;rw [at_] at hp hp2 ⊢;rw [at_]
   split at hp
   ·cases hp
   split at hp2
   ·cases hp2
   rename_i e e'
   rw [if_neg e,if_neg e'];exact o.two i j (len▸hi) (len▸hj) hij hp hp2
  ·rcases (q5 a).1 ha with rfl|ha
   ·exact u1
   ·exact o.q a ha
 ·rw [hst] at h;cases h
 ·rw [hst];rfl
 ·rw [ex] at h;exact absurd p5 h
 ·rw [hst]
  have:=zkC (x:=behind x) hw;rw [ex,if_pos p5,if_neg (fun h=>by cases h)] at this;omega
 ·rw [hst,ex]
theorem zso {X:MiA}{rs:List Nat}(h:Mkg X X) (wa:w64 X.H.na X.H.a) (h0: ∀i,i<X.hs.length->hat X.hs i=hand0) (hr: ∀r,r∈rs->r≠0->r∈X.H.cs):Once (zfj X rs rs.length)/\zla (zfj X rs rs.length).hs=0:=by
 have m:=h.add wa hr rs.length (Nat.le_refl _);have hh: ∀i,i<(zfj X rs rs.length).hs.length->hat (zfj X rs rs.length).hs i=hand0:=by rw [m.eh];exact h0
 refine ⟨⟨fun i hi hp=> ?_,fun i hi hp=> ?_,fun i j hi hj hij hp=> ?_,m.q⟩,?_⟩
 ·rw [hh i hi] at hp;cases hp
 ·rw [hh i hi] at hp;cases hp
 ·rw [hh i hi] at hp;cases hp
 ·unfold zla
  rw [List.filter_eq_nil_iff.2 fun x hx=> ?_]
  ·rfl
  ·obtain ⟨i,hi,rfl⟩:=List.getElem_of_mem hx
   rw [<-zqL hi,hh i hi];decide
theorem zx4 {H:zl}{c:Int}{rs:List Nat}{Z:MiA}{e:Int}(h:zsm H c rs Z e) (wa:w64 H.na H.a):(e≠0/\Z=zMi)\/(e=0/\1<=c/\c<=4/\Z.ok/\w64 Z.nm Z.mw/\Z.H=H/\Z.hs.length=c.toNat/\Once Z/\zla Z.hs=0):=by
 rcases h with ⟨a,rfl,rfl⟩|⟨a,b,rfl,rfl⟩|⟨a,b,d,rfl,rfl⟩|⟨a,b,d1,d2,k,rfl,rfl⟩|⟨a,b,d1,d2,k,rfl,rfl⟩
 ·exact .inl ⟨by decide,rfl⟩
 ·exact .inl ⟨by decide,rfl⟩
 ·exact .inl ⟨by decide,rfl⟩
 ·exact .inl ⟨by decide,rfl⟩
 ·have h0:=zmo a b d1 d2
  have h1:=h0.add wa (rs:=rs) k rs.length (Nat.le_refl _);obtain ⟨o1,o2⟩:=zso h0 wa (rs:=rs) (fun i hi=>by
   have hi:i<(List.replicate c.toNat hand0).length:=hi;show hat (List.replicate c.toNat hand0) i=hand0;rw [zqL hi,List.getElem_replicate]) k
  refine .inr ⟨rfl,d1,d2,h1.ok,h1.wk,h1.eH,?_,o1,o2⟩;rw [h1.eh];show (List.replicate c.toNat hand0).length=_
  simp
abbrev u8s (l:List Nat) (i:Nat):List V:=[.int .u8 (nx l i:Nat)]
structure OnI (m:Mem) (hb:List V) (H:zl) (n n0 B9:Nat) (vw:V) (ps:Nat) (M:Mem) (X:MiA) (aw uw sv mv qv hv:V):Prop where
 keep: ∀(c:Nat) (y:Blk),m[c]? =some y->M[c]? =some y
 bh:M[m.length]? =some (.cells true [hb])
 ok:X.ok
 wk:w64 X.nm X.mw
 eH:X.H=H
 en:X.hs.length=n
 once:Once X
 cnt:ps+n0+zla X.hs=(zbh X).length
 b9:M[B9]? =some (.cells true [miV X aw uw sv mv qv hv])
 mi:Loc (fun b=>b≠B9) M (fun M=>MiX M aw uw sv mv qv hv X)
 nu:Loc (fun b=>b≠B9) M (fun M=>Nus M vw (zbh X))
theorem OnI.app {m:Mem}{hb:List V}{H:zl}{n n0 B9:Nat}{vw:V}{ps:Nat}{M G:Mem}{X:MiA} {aw uw sv mv qv hv:V}(h:OnI m hb H n n0 B9 vw ps M X aw uw sv mv qv hv):OnI m hb H n n0 B9 vw ps (M++G) X aw uw sv mv qv hv:=
 ⟨fun c y hy=>zb (h.keep c y hy),zb h.bh,h.ok,h.wk,h.eH,h.en,h.once,h.cnt,zb h.b9,h.mi.app,h.nu.app⟩
end Go.AM.G
