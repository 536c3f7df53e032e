import Derived.Test.YtfhbhfogcgfeeaaGreatDoorHvT
set_option linter.unusedVariables false
set_option linter.unusedSimpArgs false
set_option maxRecDepth 100000
namespace Go.AM.G
open Go Go.AM
def ziA (l:List zV):Nat:=(l.filter fun x=>decide (x.pc=5)).length
structure Once (X:MiA):Prop where
 seen: ∀i,i<X.hs.length->(hat X.hs i).pc=4->(hat X.hs i).seen.testBit ((hat X.hs i).to/2%64)=false
 push: ∀i,i<X.hs.length->(hat X.hs i).pc=5->bit X.mw ((hat X.hs i).to/2)=true/\(hat X.hs i).to∉X.qs.flatten
 two: ∀i j,i<X.hs.length->j<X.hs.length->i≠j->(hat X.hs i).pc=5->(hat X.hs j).pc=5->(hat X.hs i).to≠(hat X.hs j).to
 q:zvI X
theorem zrZ {l:List zV}{i:Nat}(h:i<l.length):hat l i=l[i]:=by
 unfold hat;rw [List.getD_eq_getElem?_getD,List.getElem?_eq_getElem h];rfl
theorem zjr {l:List zV}{w:Nat}{x:zV}(hw:w<l.length):ziA (l.set w x)+(if (hat l w).pc=5 then 1 else 0)=ziA l+(if x.pc=5 then 1 else 0):=by
 rw [zrZ hw];unfold ziA
 induction l generalizing w with
 |nil=>exact absurd hw (Nat.not_lt_zero _)
 |cons a l ih=>
  cases w with
  |zero=>
   simp only [List.set_cons_zero,List.filter_cons,List.getElem_cons_zero,decide_eq_true_eq]
   split<;>split<;>simp only [List.length_cons]<;>omega
  |succ w=>
   have:=ih (w:=w) (by simpa using hw);simp only [List.set_cons_succ,List.filter_cons,List.getElem_cons_succ,decide_eq_true_eq]
   by_cases ea:a.pc=5
   ·simp only [if_pos ea,List.length_cons];omega
   ·simp only [if_neg ea];exact this
theorem zkG {f g:Nat->Bool}{t:Nat}: ∀{l:List Nat},l.Nodup->t∈l->(∀a,a∈l->a≠t->g a=f a)->f t=false->g t=true->(l.filter g).length=(l.filter f).length+1
 | [],_,h,_,_,_=>by cases h
 |a::l,hn,ht,he,h0,h1=>by
  obtain ⟨n1,n2⟩:=List.nodup_cons.1 hn
  by_cases e:a=t
  ·subst e
   have:l.filter g=l.filter f:=List.filter_congr fun x hx=>he x (List.mem_cons_of_mem _ hx) fun e=>n1 (e▸hx)
   simp [h0,h1,this]
  ·have ih:=zkG n2 ((List.mem_cons.1 ht).resolve_left (Ne.symm e)) (fun x hx=>he x (List.mem_cons_of_mem _ hx)) h0 h1
   rw [List.filter_cons,List.filter_cons,he a List.mem_cons_self e]
   split
   ·simp only [List.length_cons];omega
   ·exact ih
theorem Once.hand {X:MiA}(h:Once X){w:Nat}{x:zV}(hw:w<X.hs.length) (h4:x.pc=4->x.seen.testBit (x.to/2%64)=false) (h5:x.pc≠5):Once (X.sh w x):=by
 have len:(X.sh w x).hs.length=X.hs.length:=List.length_set;have at_: ∀i,hat (X.sh w x).hs i=if i=w then x else hat X.hs i:=fun i=>zjl hw
 refine ⟨fun i hi hp=> ?_,fun i hi hp=> ?_,fun i j hi hj hij hp hp'=> ?_,h.q⟩
 ·rw [at_] at hp ⊢
  split at hp
  ·rename_i e;rw [if_pos e];exact h4 hp
  ·rename_i e;rw [if_neg e];exact h.seen i (len▸hi) hp
 ·rw [at_] at hp ⊢
  split at hp
  ·exact absurd hp h5
  ·rename_i e;rw [if_neg e];exact h.push i (len▸hi) hp
 ·rw [at_] at hp hp' ⊢
  rw [at_]
  split at hp
  ·exact absurd hp h5
  split at hp'
  ·exact absurd hp' h5
  rename_i e e'
  rw [if_neg e,if_neg e'];exact h.two i j (len▸hi) (len▸hj) hij hp hp'
structure zvM (X:MiA) (w:Nat):Prop where
 once:Once (zu X w).1
 swap:(zu X w).2.1=4->(hat X.hs w).pc≠5/\(zx (zu X w).1).length=(zx X).length+1/\(∀a,a∈zx X->a∈zx (zu X w).1)/\ziA (zu X w).1.hs=ziA X.hs+1
 same:(zu X w).2.1≠4->zx (zu X w).1=zx X/\((hat X.hs w).pc≠5->ziA (zu X w).1.hs=ziA X.hs)/\((hat X.hs w).pc=5->ziA (zu X w).1.hs+1=ziA X.hs/\(zu X w).1.qs=X.qs.set w (qat X.qs w++[(hat X.hs w).to]))
theorem zga {X:MiA}(h:Once X){w:Nat}{x:zV}{k:Nat}(hw:w<X.hs.length) (e:zu X w=(X.sh w x,k,0)) (h4:x.pc=4->x.seen.testBit (x.to/2%64)=false) (h5:x.pc≠5) (p5:(hat X.hs w).pc≠5) (hk:k≠4):zvM X w:=by
 refine ⟨?_,fun h=> ?_,fun _=>⟨?_,fun _=> ?_,fun h=>absurd h p5⟩⟩
 ·rw [e];exact h.hand hw h4 h5
 ·rw [e] at h;exact absurd h hk
 ·rw [e];rfl
 ·rw [e]
  have:=zjr (x:=x) hw;rw [if_neg p5,if_neg h5] at this;exact this
theorem zt5 {nm p i:Nat}{mw:Nat->Nat}(wk:w64 nm mw) (hp:p<64*nm) (h:bit mw i=true):bit (zbr mw p true) i=true:=by
 rw [zbZ wk hp]
 split
 ·rfl
 ·exact h
theorem zt6 {X:MiA}(h:X.ok) (o:Once X) (wa:w64 X.H.na X.H.a) (wk:w64 X.nm X.mw){w:Nat}(hw:w<X.hs.length) (e0:(zu X w).2.2=0):zvM X w:=by
 have hx:=h.2.2.2.2.2.2.2 w hw;have hq:=h.2.1;have hR:=h.1;have hwq:w<X.qs.length:=by have:=h.2.2.1;omega
 obtain ⟨x,ex⟩: ∃x,hat X.hs w=x:=⟨_,rfl⟩
 have es:zu X w=zu X w:=rfl;rw [ex] at hx
 by_cases p0:x.pc=0
 ·have hst:zu X w=if (zaE X.qs w).2.2.2=0 then ({ X with qs:=(zaE X.qs w).1,hs:=X.hs.set w ⟨1,(zaE X.qs w).2.1,0,0,0,0,0⟩ },1,0) else (X,0,(zaE X.qs w).2.2.2):=by
   conv=>lhs;unfold zu
   rw [ex,if_pos p0]
  rcases zpl hq hwq with ⟨e,g,gl,A,B,p1,p2⟩|⟨e,_⟩
  ·rw [if_pos e] at hst
   have sub: ∀a,a∈(zaE X.qs w).1.flatten->a∈X.qs.flatten:=fun a ha=>p1.mem_iff.2 (List.mem_cons_of_mem _ (p2.mem_iff.1 ha))
   have o1:Once { X with qs:=(zaE X.qs w).1 }:=⟨o.seen,fun i hi hp=>⟨(o.push i hi hp).1,fun hm=>(o.push i hi hp).2 (sub _ hm)⟩,o.two,fun a ha=>o.q a (sub a ha)⟩
   have o2:=o1.hand (w:=w) (x:=⟨1,(zaE X.qs w).2.1,0,0,0,0,0⟩) hw (fun h=>by cases h) (fun h=>by cases h);refine ⟨?_,fun h=> ?_,fun _=>⟨?_,fun _=> ?_,fun h=> ?_⟩⟩
   ·rw [hst];exact o2
   ·rw [hst] at h;cases h
   ·rw [hst];rfl
   ·rw [hst]
    have:=zjr (x:=⟨1,(zaE X.qs w).2.1,0,0,0,0,0⟩) hw;rw [ex,if_neg (by omega),if_neg (fun h=>by cases h)] at this;exact this
   ·rw [ex] at h;omega
  ·rw [hst,if_neg (by rw [e];decide)] at e0
   rw [e] at e0;cases e0
 by_cases p1:x.pc=1
 ·refine zga o hw (x:={ x with pc:=2,N:=(X.H.a x.obj%256:Nat),M:=unM (X.H.a x.obj) }) (k:=2) ?_ (fun h=>by cases h) (fun h=>by cases h) (by rw [ex];omega) (by decide)
  unfold zu;rw [ex,if_neg p0,if_pos p1]
 obtain ⟨a1,a2,a3,a4,a5,a6,a7,a8,a9⟩:=zex hx p0 p1
 by_cases p2:x.pc=2
 ·cases hn:zeU x.M x.N.toNat x.f.toNat with
  |none=>
   refine zga o hw (x:=hand0) (k:=0) ?_ (fun h=>by cases h) (fun h=>by cases h) (by rw [ex];omega) (by decide);unfold zu;rw [ex,if_neg p0,if_neg p1,if_pos p2,hn]
  |some g=>
   by_cases hz:X.H.a (x.obj+1+g)=0
   ·refine zga o hw (x:={ x with f:=(g:Int)+1 }) (k:=2) ?_ (fun h=>by rw [p2] at h;cases h) (by show x.pc≠5;omega) (by rw [ex];omega) (by decide)
    unfold zu;rw [ex,if_neg p0,if_neg p1,if_pos p2,hn];dsimp only;rw [if_pos hz]
   ·refine zga o hw (x:={ x with pc:=3,f:=(g:Int),to:=X.H.a (x.obj+1+g) }) (k:=2) ?_ (fun h=>by cases h) (fun h=>by cases h) (by rw [ex];omega) (by decide)
    unfold zu;rw [ex,if_neg p0,if_neg p1,if_pos p2,hn];dsimp only;rw [if_neg hz]
 obtain ⟨b1,b2,b3,b4⟩:x.pc≠2/\x.f<x.N/\x.M.testBit x.f.toNat=true/\x.to∈X.H.cs:=by
  rcases a9 with a9|a9
  ·exact absurd a9.1 p2
  ·exact a9
 by_cases p3:x.pc=3
 ·by_cases hb:bit X.mw (x.to/2)=true
  ·refine zga o hw (x:=behind x) (k:=3) ?_ (fun h=>by cases h) (fun h=>by cases h) (by rw [ex];omega) (by decide)
   unfold zu;rw [ex,if_neg p0,if_neg p1,if_neg p2,if_pos p3,if_pos hb]
  ·refine zga o hw (x:={ x with pc:=4,seen:=X.mw (x.to/2/64) }) (k:=3) ?_ (fun _=> ?_) (fun h=>by cases h) (by rw [ex];omega) (by decide)
   ·unfold zu
    rw [ex,if_neg p0,if_neg p1,if_neg p2,if_pos p3,if_neg hb]
   ·show (X.mw (x.to/2/64)).testBit (x.to/2%64)=false
    have:¬ (X.mw (x.to/2/64)).testBit (x.to/2%64)=true:=hb
    simpa using this
 by_cases p4:x.pc=4
 ·by_cases hb:X.mw (x.to/2/64)=x.seen
  ·have hst:zu X w=({ X with mw:=zbr X.mw (x.to/2) true,hs:=X.hs.set w { x with pc:=5,seen:=0 } },4,0):=by
    unfold zu;rw [ex,if_neg p0,if_neg p1,if_neg p2,if_neg p3,if_pos p4,if_pos hb]
   have hs:=o.seen w hw (by rw [ex];exact p4);rw [ex,<-hb] at hs;have hbit:bit X.mw (x.to/2)=false:=hs;have hp':x.to/2<64*X.nm:=by have:=(zdG hR wa b4).2;rw [h.2.2.2.1];omega
   have kb:=fun i=>zt5 (i:=i) wk hp'
   have hev:=zk7 hR.1 b4;have tq:x.to∉X.qs.flatten:=fun e=>by have:=o.q _ e;rw [hbit] at this;cases this
   have len:(X.hs.set w { x with pc:=5,seen:=0 }).length=X.hs.length:=List.length_set;have at_: ∀i,hat (X.hs.set w { x with pc:=5,seen:=0 }) i=if i=w then { x with pc:=5,seen:=0 } else hat X.hs i:=fun i=>zjl hw
   have ne: ∀j,j<X.hs.length->(hat X.hs j).pc=5->x.to≠(hat X.hs j).to:=fun j hj hp e=>by
    have:=(o.push j hj hp).1;rw [<-e,hbit] at this;cases this
   refine ⟨?_,fun _=>⟨by rw [ex];omega,?_,fun a ha=> ?_,?_⟩,fun h=> ?_⟩
   ·rw [hst]
    refine ⟨fun i hi hp=> ?_,fun i hi hp=> ?_,fun i j hi hj hij hp hp'=> ?_,fun a ha=>kb _ (o.q a ha)⟩
    ·have hp:(hat (X.hs.set w { x with pc:=5,seen:=0 }) i).pc=4:=hp
     show (hat (X.hs.set w { x with pc:=5,seen:=0 }) i).seen.testBit ((hat (X.hs.set w { x with pc:=5,seen:=0 }) i).to/2%64)=false;rw [at_] at hp ⊢
     split at hp
     ·cases hp
     ·rename_i e;rw [if_neg e];exact o.seen i (len▸hi) hp
    ·have hp:(hat (X.hs.set w { x with pc:=5,seen:=0 }) i).pc=5:=hp
     show bit (zbr X.mw (x.to/2) true) ((hat (X.hs.set w { x with pc:=5,seen:=0 }) i).to/2)=true/\(hat (X.hs.set w { x with pc:=5,seen:=0 }) i).to∉X.qs.flatten;rw [at_] at hp ⊢
     split at hp
     ·rename_i e;rw [if_pos e];exact ⟨by rw [zbZ wk hp',if_pos rfl],tq⟩
     ·rename_i e;rw [if_neg e];exact ⟨kb _ (o.push i (len▸hi) hp).1,(o.push i (len▸hi) hp).2⟩
    ·have hp:(hat (X.hs.set w { x with pc:=5,seen:=0 }) i).pc=5:=hp
     have hp2:(hat (X.hs.set w { x with pc:=5,seen:=0 }) j).pc=5:=hp';show (hat (X.hs.set w { x with pc:=5,seen:=0 }) i).to≠(hat (X.hs.set w { x with pc:=5,seen:=0 }) j).to;rw [at_] at hp hp2 ⊢;rw [at_]
     split at hp
     ·rename_i e
      split at hp2
      ·rename_i e';exact absurd (e.trans e'.symm) hij
      ·rename_i e'
       rw [if_pos e,if_neg e'];exact ne j (len▸hj) hp2
     ·rename_i e
      split at hp2
      ·rename_i e'
       rw [if_neg e,if_pos e'];exact Ne.symm (ne i (len▸hi) hp)
      ·rename_i e'
       rw [if_neg e,if_neg e'];exact o.two i j (len▸hi) (len▸hj) hij hp hp2
   ·rw [hst]
    refine zkG (t:=x.to) (f:=fun a=>bit X.mw (a/2)) (g:=fun a=>bit (zbr X.mw (x.to/2) true) (a/2)) ((ziy hR wa).1.imp fun h=>Nat.ne_of_lt h) b4 (fun a ha hne=> ?_) hbit ?_
    ·have:=zk7 hR.1 ha
     rw [zbZ wk hp',if_neg (by omega)]
    ·rw [zbZ wk hp',if_pos rfl]
   ·rw [hst]
    obtain ⟨h1,h2⟩:=List.mem_filter.1 ha;exact List.mem_filter.2 ⟨h1,kb _ h2⟩
   ·rw [hst]
    have:=zjr (x:={ x with pc:=5,seen:=0 }) hw;rw [ex,if_neg (by omega),if_pos rfl] at this;exact this
   ·rw [hst] at h;exact absurd rfl h
  ·refine zga o hw (x:={ x with pc:=3,seen:=0 }) (k:=5) ?_ (fun h=>by cases h) (fun h=>by cases h) (by rw [ex];omega) (by decide)
   unfold zu;rw [ex,if_neg p0,if_neg p1,if_neg p2,if_neg p3,if_pos p4,if_neg hb]
 have p5:x.pc=5:=by omega
 obtain ⟨u1,u2⟩:=o.push w hw (by rw [ex];exact p5);rw [ex] at u1 u2;have cz:=(zpj hR wa b4).1;have hpush:(zbb X.qs w x.to).2=0:=by
  have hl:=zhq (l:=x.to::X.qs.flatten) (List.nodup_cons.2 ⟨u2,hq.2.2.2.1⟩) fun a ha=>by
   rcases List.mem_cons.1 ha with rfl|ha
   ·exact b4
   ·exact h.2.2.2.2.2.2.1 a ha
  have hc:=(ziy hR wa).2;rw [List.length_cons] at hl;unfold zbb;rw [if_neg (fun e=>e hq),if_neg (fun e=>e (by omega)),if_neg cz,if_neg u2,if_neg (by omega)]
 obtain ⟨q1,q2,q3,q4,q5⟩:=zhh hq hwq hpush;have hst:zu X w=({ X with qs:=X.qs.set w (qat X.qs w++[x.to]),hs:=X.hs.set w (behind x) },1,0):=by
  unfold zu;rw [ex,if_neg p0,if_neg p1,if_neg p2,if_neg p3,if_neg p4,if_pos hpush,q1]
 have len:(X.hs.set w (behind x)).length=X.hs.length:=List.length_set;have at_: ∀i,hat (X.hs.set w (behind x)) i=if i=w then behind x else hat X.hs i:=fun i=>zjl hw
 refine ⟨?_,fun h=> ?_,fun _=>⟨?_,fun h=> ?_,fun _=>⟨?_,?_⟩⟩⟩
 ·rw [hst]
  refine ⟨fun i hi hp=> ?_,fun i hi hp=> ?_,fun i j hi hj hij hp hp'=> ?_,fun a ha=> ?_⟩
  ·have hp:(hat (X.hs.set w (behind x)) i).pc=4:=hp
   show (hat (X.hs.set w (behind x)) i).seen.testBit ((hat (X.hs.set w (behind x)) i).to/2%64)=false;rw [at_] at hp ⊢
   split at hp
   ·cases hp
   ·rename_i e;rw [if_neg e];exact o.seen i (len▸hi) hp
  ·have hp:(hat (X.hs.set w (behind x)) i).pc=5:=hp
   show bit X.mw ((hat (X.hs.set w (behind x)) i).to/2)=true/\(hat (X.hs.set w (behind x)) i).to∉(X.qs.set w (qat X.qs w++[x.to])).flatten;rw [at_] at hp ⊢
   split at hp
   ·cases hp
   ·rename_i e
    rw [if_neg e];refine ⟨(o.push i (len▸hi) hp).1,fun hm=> ?_⟩;rcases (q5 _).1 hm with hm|hm
    ·have:=o.two i w (len▸hi) hw e hp (by rw [ex];exact p5)
     rw [ex] at this;exact this hm
    ·exact (o.push i (len▸hi) hp).2 hm
  ·have hp:(hat (X.hs.set w (behind x)) i).pc=5:=hp
   have hp2:(hat (X.hs.set w (behind x)) j).pc=5:=hp';show (hat (X.hs.set w (behind x)) i).to≠(hat (X.hs.set w (behind x)) j).to;rw [at_] at hp hp2 ⊢;rw [at_]
   split at hp
   ·cases hp
   split at hp2
   ·cases hp2
   rename_i e e'
   rw [if_neg e,if_neg e'];exact o.two i j (len▸hi) (len▸hj) hij hp hp2
  ·rcases (q5 a).1 ha with rfl|ha
   ·exact u1
   ·exact o.q a ha
 ·rw [hst] at h;cases h
 ·rw [hst];rfl
 ·rw [ex] at h;exact absurd p5 h
 ·rw [hst]
  have:=zjr (x:=behind x) hw;rw [ex,if_pos p5,if_neg (fun h=>by cases h)] at this;omega
 ·rw [hst,ex]
theorem zvN {X:MiA}{rs:List Nat}(h:Mkg X X) (wa:w64 X.H.na X.H.a) (h0: ∀i,i<X.hs.length->hat X.hs i=hand0) (hr: ∀r,r∈rs->r≠0->r∈X.H.cs):Once (zjX X rs rs.length)/\ziA (zjX X rs rs.length).hs=0:=by
 have m:=h.add wa hr rs.length (Nat.le_refl _);have hh: ∀i,i<(zjX X rs rs.length).hs.length->hat (zjX X rs rs.length).hs i=hand0:=by rw [m.eh];exact h0
 refine ⟨⟨fun i hi hp=> ?_,fun i hi hp=> ?_,fun i j hi hj hij hp=> ?_,m.q⟩,?_⟩
 ·rw [hh i hi] at hp;cases hp
 ·rw [hh i hi] at hp;cases hp
 ·rw [hh i hi] at hp;cases hp
 ·unfold ziA
  rw [List.filter_eq_nil_iff.2 fun x hx=> ?_]
  ·rfl
  ·obtain ⟨i,hi,rfl⟩:=List.getElem_of_mem hx
   rw [<-zrZ hi,hh i hi];decide
theorem zwr {H:zl}{c:Int}{rs:List Nat}{Z:MiA}{e:Int}(h:zmI H c rs Z e) (wa:w64 H.na H.a):(e≠0/\Z=zMi)\/(e=0/\1<=c/\c<=4/\Z.ok/\w64 Z.nm Z.mw/\Z.H=H/\Z.hs.length=c.toNat/\Once Z/\ziA Z.hs=0):=by
 rcases h with ⟨a,rfl,rfl⟩|⟨a,b,rfl,rfl⟩|⟨a,b,d,rfl,rfl⟩|⟨a,b,d1,d2,k,rfl,rfl⟩|⟨a,b,d1,d2,k,rfl,rfl⟩
 ·exact .inl ⟨by decide,rfl⟩
 ·exact .inl ⟨by decide,rfl⟩
 ·exact .inl ⟨by decide,rfl⟩
 ·exact .inl ⟨by decide,rfl⟩
 ·have h0:=zpm a b d1 d2
  have h1:=h0.add wa (rs:=rs) k rs.length (Nat.le_refl _);obtain ⟨o1,o2⟩:=zvN h0 wa (rs:=rs) (fun i hi=>by
   have hi:i<(List.replicate c.toNat hand0).length:=hi;show hat (List.replicate c.toNat hand0) i=hand0;rw [zrZ hi,List.getElem_replicate]) k
  refine .inr ⟨rfl,d1,d2,h1.ok,h1.wk,h1.eH,?_,o1,o2⟩;rw [h1.eh];show (List.replicate c.toNat hand0).length=_
  simp
abbrev u8s (l:List Nat) (i:Nat):List V:=[.int .u8 (nx l i:Nat)]
structure OnI (m:Mem) (hb:List V) (H:zl) (n n0 B9:Nat) (vw:V) (ps:Nat) (M:Mem) (X:MiA) (aw uw sv mv qv hv:V):Prop where
 keep: ∀(c:Nat) (y:Blk),m[c]? =some y->M[c]? =some y
 bh:M[m.length]? =some (.cells true [hb])
 ok:X.ok
 wk:w64 X.nm X.mw
 eH:X.H=H
 en:X.hs.length=n
 once:Once X
 cnt:ps+n0+ziA X.hs=(zx X).length
 b9:M[B9]? =some (.cells true [miV X aw uw sv mv qv hv])
 mi:Loc (fun b=>b≠B9) M (fun M=>MiX M aw uw sv mv qv hv X)
 nu:Loc (fun b=>b≠B9) M (fun M=>Nus M vw (zx X))
theorem OnI.app {m:Mem}{hb:List V}{H:zl}{n n0 B9:Nat}{vw:V}{ps:Nat}{M G:Mem}{X:MiA} {aw uw sv mv qv hv:V}(h:OnI m hb H n n0 B9 vw ps M X aw uw sv mv qv hv):OnI m hb H n n0 B9 vw ps (M++G) X aw uw sv mv qv hv:=
 ⟨fun c y hy=>zb (h.keep c y hy),zb h.bh,h.ok,h.wk,h.eH,h.en,h.once,h.cnt,zb h.b9,h.mi.app,h.nu.app⟩
theorem ziB {X:MiA}(h:X.ok) (wa:w64 X.H.na X.H.a):(zx X).length<=2048:=Nat.le_trans (List.length_filter_le _ _) (ziy h.1 wa).2
set_option maxHeartbeats 1000000 in
theorem zmK {m:Mem} {ha hu hs rv pv:V}{va' vm':Nat->V}{H:zl}{c:Int}{rs pk:List Nat}(hH:zdE m ha hu hs va' vm' H) (bb:V.beq ha ha=true/\V.beq hu hu=true/\V.beq hs hs=true) (ls:H.ns*96<=140737488355328) (hr:Nus m rv rs) (hrl:rs.length<4611686018427387904) (hp:Rd m pv 1 pk.length (u8s pk)) (hpl:pk.length<4611686018427387904) (hpb: ∀i,i<pk.length->nx pk i<256):
  C Stl zeE [.agg (zI H ha hu hs),.int .i64 c,rv,pv] m (fun r _=>r= .bool true):=by
 have hc1:=hH.a.ar.2.1;have hc2:=hH.u.ar.2.1;have hc3:=hH.s.s.ar.2.1;have rc:=hr.ar.2.1;have pc:=hp.ar.2.1;have hH':=zU hH;have hr':=zU hr;have hp':=zU hp;have hpb':=zU hpb;have MK:=zU (fun G:Mem=>zmJ (hH.app (g:=G)) bb ls (Rd.app (g:=G) hr) hrl (c:=c));clear hH hr hp hpb;refine fn rfl ?_;refine zro.mono ?_;rintro _ _ ⟨rfl,rfl⟩;refine am ?_;refine (toL (MK.down _)).mono ?_;rintro _ _ ⟨Z0,e0,l,hZ0,rfl,aw,uw,sv,mv,qv,hv,G1,rfl,rfl,p1⟩;obtain ⟨_,_,_,_,q1⟩:=p1.ex;obtain ⟨C1,C2,C3,C4,C5,C6⟩:=q1.cells;have hlen:=q1.d.ar.1;have r1:=zU p1;have hZ0':=zU hZ0;have mo:=zU (zwr hZ0 hH'.down.wa);clear p1 q1 hZ0
 by_cases e1:e0=0
 case neg=>
  have d0:(e0=0)=False:=eq_false e1;have hz:PLift (Z0=zMi):=⟨by
   rcases mo.down with h|h
   ·exact h.2
   ·exact absurd h.1 e1⟩
  have hl0:zgd hv=some (.int .i64 0):=by rw [hlen,hz.down];rfl
  clear e1 hlen;refine am ?_;exact zi
 obtain ⟨k1,k2,k3,k4,k5,k6,k7,k8⟩:1<=c/\c<=4/\Z0.ok/\w64 Z0.nm Z0.mw/\Z0.H=H/\Z0.hs.length=c.toNat/\Once Z0/\ziA Z0.hs=0:=by
  rcases mo.down with h|h
  ·exact absurd e1 h.1
  ·exact h.2
 subst e1;obtain ⟨n,rfl⟩: ∃n:Nat,c=(n:Int):=⟨c.toNat,by omega⟩
 rw [Int.toNat_natCast] at k6;have k3':=zU k3;have k4':=zU k4;have k7':=zU k7;have k5':=zU k5;have k6':=zU k6;have hwa:PLift (∀X:MiA,X.H=H->w64 X.H.na X.H.a):=⟨fun X e=>by rw [e];exact hH'.down.wa⟩
 clear k3 k4 k5 k6 k7 hlen;refine am ?_;have RD:MiX (m++ .cells true [zI H ha hu hs]::(G1++[.cells true [miV Z0 aw uw sv mv qv hv]])) aw uw sv mv qv hv Z0:=r1.down.on;obtain ⟨_,_,_,RD⟩:=RD;refine (toL (zd5 RD)).mono ?_;rintro _ _ hm;obtain ⟨vw,ew,G2,lw,rfl,rfl,vc,hS,p2⟩:=hm.all;obtain ⟨rfl,rfl⟩:lw=zx Z0/\ew=0:=by
  rcases hS with ⟨_,a,b⟩|⟨a,_⟩
  ·exact ⟨a,b⟩
  ·exact absurd k3'.down a
 have p2':=zU p2;have B:=hp'.down.ar.1;clear hm hS p2 RD;refine am ?_;obtain ⟨B9,e9⟩: ∃B9,m.length+(G1.length+1)=B9:=⟨_,rfl⟩
 obtain ⟨M0,eM0⟩: ∃M0,m++Blk.cells true [zI H ha hu hs]::(G1++ .cells true [miV Z0 aw uw sv mv qv hv]::G2)=M0:=⟨_,rfl⟩
 have lm:m.length<B9:=by omega
 have o0:OnI m (zI H ha hu hs) H n (zx Z0).length B9 vw 0 M0 Z0 aw uw sv mv qv hv:=by
  subst eM0;refine ⟨fun c y hy=>zb hy,by rw [zW];rfl,k3'.down,k4'.down,k5'.down,k6'.down,k7'.down,by omega,by rw [<-e9,zh,zbY,zW];rfl,?_,?_⟩
  ·have h:=r1.down.loc (M:=m++Blk.cells true [zI H ha hu hs]::(G1++ .cells true [miV Z0 aw uw sv mv qv hv]::G2)) ((AtM.left (A:=m) (.drop .hereA)).cst (by simp))
   refine h.mono fun b hb e=> ?_
   have:=hb.2;rw [List.length_append] at this;simp at this;omega
  ·have h:=p2'.down.loc (M:=m++Blk.cells true [zI H ha hu hs]::(G1++ .cells true [miV Z0 aw uw sv mv qv hv]::G2)) ((AtM.left (A:=m) (.drop (.left (A:=G1) (.drop .here)))).cst (by simp))
   refine h.mono fun b hb e=> ?_
   have:=hb.1;rw [List.length_append] at this;simp at this;omega
 rw [e9,eM0];have o0':=zU o0;have r1':=zU (r1.down.ex);clear o0 r1 p2' eM0 e9;have key: ∀(fr:Frame) (M:Mem) (vw:V) (ps:Nat) X aw uw sv mv qv hv,Has fr [(9,.ptr B9 0 0),(12,.int .i64 0),(11,vw),(13,.int .i64 (ps:Nat)),(1,.int .i64 (n:Nat)),(2,rv),(4,.ptr m.length 0 0)]->OnI m (zI H ha hu hs) H n (zx Z0).length B9 vw ps M X aw uw sv mv qv hv->W Stl zek fr M (zlJ [.t 8] (fun r _=>r= .bool true)):=by
  intro fr M vw ps X aw uw sv mv qv hv F h;obtain ⟨g,rfl⟩:=zow fun c y _ hy=>h.keep c y hy
  have bh:=h.bh;have lw:=h.nu.at.ar.1;have hcnt:=h.cnt;have hle:=ziB h.ok (hwa.down X h.eH);clear h;refine into ?_;refine (toL (MK.down _)).mono ?_;rintro _ _ ⟨Z1,e1,l,hZ1,rfl,aw1,uw1,sv1,mv1,qv1,hv1,G3,rfl,rfl,p1⟩;obtain ⟨rfl,rfl⟩:=zt4 hZ0'.down hZ1;obtain ⟨_,_,_,_,q1⟩:=p1.ex;obtain ⟨D1,D2,D3,D4,D5,D6⟩:=q1.cells;have r3:=zU p1;clear p1 q1 hZ1;refine am ?_;have RD:MiX (m++(g++(G3++[.cells true [miV Z0 aw1 uw1 sv1 mv1 qv1 hv1]]))) aw1 uw1 sv1 mv1 qv1 hv1 Z0:=r3.down.on;obtain ⟨_,_,_,RD⟩:=RD;refine (toL (zd5 RD)).mono ?_;rintro _ _ hm;obtain ⟨vn,en,G4,ln,rfl,rfl,vc,hS,p2⟩:=hm.all;obtain ⟨rfl,rfl⟩:ln=zx Z0/\en=0:=by
   rcases hS with ⟨_,a,b⟩|⟨a,_⟩
   ·exact ⟨a,b⟩
   ·exact absurd k3'.down a
  obtain ⟨_,p2⟩:=p2.ex;have lnn:=p2.ar.1;have w1:IntKind.i64.wrap ((ps:Int)+((zx Z0).length:Int))=((ps+(zx Z0).length:Nat):Int):=by rw [wrap_i64]<;>omega
  have c1:(((ps+(zx Z0).length:Nat):Int)<=((zx X).length:Int))=True:=eq_true (by omega);clear hm hS p2 RD;refine am ?_;exact zi
 have key':=zU key;clear key;refine range (α:=V×Nat) pk.length (fun x=>[(50,pv),(9,.ptr B9 0 0),(12,.int .i64 0),(11,x.1),(13,.int .i64 (x.2:Nat)),(1,.int .i64 (n:Nat)),(2,rv),(4,.ptr m.length 0 0)]) (fun _ x M=> ∃X aw uw sv mv qv hv,OnI m (zI H ha hu hs) H n (zx Z0).length B9 x.1 x.2 M X aw uw sv mv qv hv) (vw,0) ⟨_,_,_,_,_,_,_,o0'.down⟩ ?_ ?_
 ·rintro k ⟨vw,ps⟩ fr M hk F ⟨X,aw,uw,sv,mv,qv,hv,hI⟩
  have hI':=zU hI;dsimp only at F;have pB:=(zmr (M':=M) hp'.down fun c y _ hy=>hI.keep c y hy).ar;have b9:=hI.b9;obtain ⟨_,_,_,hX⟩:=hI.mi.at;obtain ⟨C1,C2,C3,C4,C5,C6⟩:=hX.cells;have pX:=hpb'.down k hk;have hw:nx pk k%n<X.hs.length:=by rw [hI.en];exact Nat.mod_lt _ (by omega)
  obtain ⟨w,ew⟩: ∃w,nx pk k%n=w:=⟨_,rfl⟩
  rw [ew] at hw;have dAr:=hX.d.ar;have ST:=zU (ziz hX (w:=(w:Nat)));have wa:=hwa.down X hI.eH;have hle:=ziB hI.ok wa;have hcnt:=hI.cnt;have wr:IntKind.i64.wrap ((nx pk k:Nat):Int)=((nx pk k:Nat):Int):=wrap_i64 (by omega) (by omega);have tm:((nx pk k:Nat):Int).tmod (n:Int)=((w:Nat):Int):=by rw [<-ew];exact zwu
  have n0:((n:Int)=0)=False:=eq_false (by omega);have es:PLift (∀Z,zwG X w Z->Z=zu X w):=⟨fun Z h=>by
   rcases h with ⟨h,_⟩|⟨_,h,_⟩|⟨_,_,_,h⟩
   ·exact absurd hI'.down.ok h
   ·exact absurd ⟨by omega,by omega⟩ h
   ·rw [h,Int.toNat_natCast]⟩
  have wa':=zU wa;have hX':=zU hX;have lwA:=hI.nu.at.ar.1;have ew':=zU ew;clear hI hX wa ew
  by_cases e120:k=120
  ·have d0:((k:Int)=120)=True:=eq_true (by omega)
   clear e120;refine am ?_;exact key'.down _ _ vw ps X aw uw sv mv qv hv zi hI'.down
  have d0:((k:Int)=120)=False:=eq_false (by omega);clear e120;refine am ?_;refine (toL ST.down).mono ?_;rintro _ _ ⟨Z,l,hZ,rfl,aw2,uw2,sv2,mv2,qv2,hv2,G2,rfl,rfl,p2⟩;have eZ:=zU (es.down Z hZ);obtain ⟨_,_,_,_,q2⟩:=p2.ex;obtain ⟨D1,D2,D3,D4,D5,D6⟩:=q2.cells;have p2':=zU p2;clear hZ p2 q2
  by_cases e2:Z.2.2=0
  case neg=>
   have d1:(Z.2.2=0)=False:=eq_false e2;clear e2;refine am ?_;exact ⟨(vw,ps),zi,X,aw,uw,sv,mv,qv,hv,hI'.down.app⟩
  have d1:(Z.2.2=0)=True:=eq_true e2;have OS:zvM X w:=zt6 hI'.down.ok hI'.down.once wa'.down hI'.down.wk hw (by rw [<-eZ.down];exact e2);obtain ⟨o1,o2,o3⟩:=OS;obtain ⟨s1,s2,s3,s4,s5⟩:=zjm hI'.down.ok wa'.down hI'.down.wk hw;rw [<-eZ.down] at o1 o2 o3 s1 s2 s3 s4 s5;have o1':=zU o1;have o2':=zU o2;have o3':=zU o3;have s1':=zU s1;have s2':PLift (w64 Z.1.nm Z.1.mw):=⟨by rw [s4];exact s2⟩
  have s3':PLift (Z.1.H=H):=⟨s3.trans hI'.down.eH⟩
  have s5':PLift (Z.1.hs.length=n):=⟨s5.trans hI'.down.en⟩
  have hle2:=ziB s1 (by rw [s3];exact wa'.down);clear e2 o1 o2 o3 s1 s2 s3 s4 s5;refine am ?_;have RD:MiX (M++(G2++[.cells true [miV Z.1 aw2 uw2 sv2 mv2 qv2 hv2]])) aw2 uw2 sv2 mv2 qv2 hv2 Z.1:=p2'.down.on;obtain ⟨_,_,_,RD⟩:=RD;refine (toL (zd5 RD)).mono ?_;rintro _ _ hm;obtain ⟨vn,en,G3,ln,rfl,rfl,vnc,hS,p3⟩:=hm.all;obtain ⟨rfl,rfl⟩:ln=zx Z.1/\en=0:=by
   rcases hS with ⟨_,a,b⟩|⟨a,_⟩
   ·exact ⟨a,b⟩
   ·exact absurd s1'.down a
  have p3':=zU p3;obtain ⟨_,p3x⟩:=p3.ex;have lnn:=p3x.ar.1;clear hm hS p3 p3x RD;obtain ⟨B18,e18⟩: ∃B,M.length+G2.length=B:=⟨_,rfl⟩
  obtain ⟨M2,eM0⟩: ∃M2,M++(G2++[Blk.cells true [miV Z.1 aw2 uw2 sv2 mv2 qv2 hv2]])++G3=M2:=⟨_,rfl⟩
  have eM2:M++(G2++ .cells true [miV Z.1 aw2 uw2 sv2 mv2 qv2 hv2]::G3)=M2:=by rw [<-eM0];simp
  have lB9:=(List.getElem?_eq_some_iff.1 b9).1;have b18:M2[B18]? =some (.cells true [miV Z.1 aw2 uw2 sv2 mv2 qv2 hv2]):=by rw [<-eM2,<-e18,zh,zW];rfl
  have I2:PLift (OnI m (zI H ha hu hs) H n (zx Z0).length B9 vw ps M2 X aw uw sv mv qv hv):=⟨by rw [<-eM2];exact hI'.down.app⟩
  have mi2:PLift (Loc (fun b=>b≠B9) M2 (fun M=>MiX M aw2 uw2 sv2 mv2 qv2 hv2 Z.1)):=⟨by
   rw [<-eM2];refine (p2'.down.loc ((AtM.left (A:=M) .hereA).cst rfl)).mono fun b hb e=> ?_
   have:=hb.1;omega⟩
  have nu2:PLift (Loc (fun b=>b≠B9) M2 (fun M=>Nus M vn (zx Z.1))):=⟨by
   rw [<-eM2];refine (p3'.down.loc ((AtM.left (A:=M) (.left (A:=G2) (.drop .here))).cst (by simp))).mono fun b hb e=> ?_
   have:=hb.1;rw [List.length_append] at this;omega⟩
  have lB18:B9≠B18:=by omega
  rw [e18,eM0];have nxt:PLift (∀(ps':Nat) (N:Mem),Grow M2 N->ps'+(zx Z0).length+ziA Z.1.hs=(zx Z.1).length->OnI m (zI H ha hu hs) H n (zx Z0).length B9 vn ps' (N.set B9 (.cells true [miV Z.1 aw2 uw2 sv2 mv2 qv2 hv2])) Z.1 aw2 uw2 sv2 mv2 qv2 hv2):=⟨fun ps' N ⟨g,hg⟩ hc=>by
   subst hg;have h:=I2.down.app (G:=g);refine ⟨fun c y hy=> ?_,zt (by omega) h.bh,s1'.down,s2'.down,s3'.down,s5'.down,o1'.down,hc,zaL h.b9,mi2.down.app.set fun e=>e rfl,nu2.down.app.set fun e=>e rfl⟩;have:=(List.getElem?_eq_some_iff.1 hy).1;exact zt (by omega) (h.keep c y hy)⟩
  clear pB dAr b9 p2' p3' eM2 eM0 e18;have hd2:=I2.down.mi.at;obtain ⟨_,_,_,hd2⟩:=hd2;have dA2:=hd2.d.ar;have b92:=I2.down.b9;have wB:=I2.down.nu.at.ar;obtain ⟨va3,vm3,vs3,hm2⟩:=mi2.down.at;have CK:=zU (zdH hm2);have HS:=zU (fun g:Mem=>fun a:Nat=>zva (m:=M2++g) (v:=vn) (l:=zx Z.1) (a:=a) (nu2.down.app.at) (by omega));have qR:=zU hm2.q;clear hd2 hm2;have c1:(((zx Z.1).length:Int)<((zx X).length:Int))=False:=by
   refine eq_false fun h=> ?_
   by_cases e4:Z.2.1=4
   ·have:=(o2'.down e4).2.1;omega
   ·have:=(o3'.down e4).1;rw [this] at h;omega
  have sub:PLift (∀a,a∈zx X->a∈zx Z.1):=⟨fun a h=>by
   by_cases e4:Z.2.1=4
   ·exact (o2'.down e4).2.2.1 a h
   ·rw [(o3'.down e4).1];exact h⟩
  have ac: ∃b:Bool,decide (((zx X).length:Int)<((zx Z.1).length:Int))=b/\decide (((Z.2.1:Nat):Int)=4)=b:=by
   by_cases e4:Z.2.1=4
   ·have:=(o2'.down e4).2.1
    exact ⟨true,decide_eq_true (by omega),decide_eq_true (by omega)⟩
   ·have:=(o3'.down e4).1
    exact ⟨false,decide_eq_false (by rw [this];omega),decide_eq_false (by omega)⟩
  obtain ⟨ab,a1,a2⟩:=ac;refine am ?_;refine (toL CK.down).mono ?_;rintro _ _ ⟨⟨hz,rfl⟩|⟨hz,rfl⟩,g4,rfl⟩
  case inr=>exact absurd s1'.down hz
  clear hz;have wB4:=(I2.down.nu.app (G:=g4)).at.ar.1;refine am ?_;have I4:PLift (OnI m (zI H ha hu hs) H n (zx Z0).length B9 vw ps (M2++g4) X aw uw sv mv qv hv):=⟨I2.down.app⟩
  have b18':=zb (g:=g4) b18;refine range (α:=Unit) (zx X).length (fun _=>[(111,vw),(21,vn),(17,.int .u8 ((hat X.hs w).pc:Nat)),(16,.int .i64 (w:Nat)),(18,.ptr B18 0 0),(52,.int .i64 (k:Nat)),(51,.int .i64 (pk.length:Nat)),(50,pv),(9,.ptr B9 0 0),(12,.int .i64 0),(11,vw),(13,.int .i64 (ps:Nat)),(1,.int .i64 (n:Nat)),(2,rv),(4,.ptr m.length 0 0)]) (fun _ _ N=>N=M2++g4) () rfl ?_ ?_
  ·rintro j _ fr N hj F rfl
   have wA:=I4.down.nu.at.ar;have hin:decide (nx (zx X) j∈zx Z.1)=true:=decide_eq_true (sub.down _ (zca hj));have HJ:=zU (HS.down g4 (nx (zx X) j));rw [hin] at HJ;clear wB wB4 dA2 hin;refine am ?_;refine (toL HJ.down).mono ?_;rintro _ _ ⟨rfl,rfl⟩;refine am ?_;exact ⟨(),zi,rfl⟩
  rintro _ fr N F rfl;have dA4:Ar (M2++g4) hv 7 X.hs.length (fun i=>zD (hat X.hs i)):=by
   obtain ⟨_,_,_,h⟩:=I4.down.mi.at;exact h.d.ar
  have b94:=I4.down.b9;clear wB wB4 dA2 b92 b18
  by_cases p5:(hat X.hs w).pc=5
  ·have d5:(((hat X.hs w).pc:Int)=5)=True:=eq_true (by omega)
   have n4:Z.2.1≠4:=fun e=>(o2'.down e).1 p5
   obtain ⟨t1,t2,t3⟩:=o3'.down n4;obtain ⟨t4,t5⟩:=t3 p5;have qR4:=qR.down.app (g:=g4);have qA:=qR4.s.ar;have wq:w<Z.1.qs.length:=by
    have:=s1'.down.2.2.1;have:=s5'.down;have:=I4.down.en;omega
   have qe:=qR4.e w wq;have eq:qat Z.1.qs w=qat X.qs w++[(hat X.hs w).to]:=by
    rw [t5];unfold qat;rw [List.getD_eq_getElem?_getD,List.getElem?_set_self (by rw [t5,List.length_set] at wq;exact wq)];rfl
   rw [eq] at qe;have qL:=qe.ar;obtain ⟨RW,eRW⟩: ∃RW,vs3 w=RW:=⟨_,rfl⟩
   have qi:=qA.2.2.2.1 .i64 w wq;have ql:zae (M2++g4) none (atp qv2 w 0)=some RW:=(qA.2.2.2.2 w 0 none wq).trans (congrArg some eRW);rw [eRW] at qL;obtain ⟨L,eL⟩: ∃L,(qat X.qs w).length=L:=⟨_,rfl⟩
   have lL:(qat X.qs w++[(hat X.hs w).to]).length=L+1:=by rw [List.length_append,eL];rfl
   have lb:L<=16384:=by
    have:=zmp (qs:=X.qs) (i:=w) (by have:=hI'.down.ok.2.2.1;omega);have:=hI'.down.ok.2.1.2.2.1;omega
   obtain ⟨r1,_,_,r4,r5⟩:=qL;rw [lL] at r1 r4 r5;have r4:=r4 .i64 L (by omega);have nxe:nx (qat X.qs w++[(hat X.hs w).to]) L=(hat X.hs w).to:=by
    unfold nx;rw [List.getD_eq_getElem?_getD,List.getElem?_append_right (by omega),eL]
    simp
   have z1:(((L+1:Nat):Int)=0)=False:=eq_false (by omega);have z2:IntKind.i64.wrap (((L+1:Nat):Int)-1)=((L:Nat):Int):=by rw [wrap_i64]<;>omega
   have z3:IntKind.i64.wrap ((ps:Int)+1)=((ps+1:Nat):Int):=by rw [wrap_i64]<;>omega
   have h1:=dA4.2.2.2.1 .i64 w hw;have h2:zae (M2++g4) none (atp hv w 5)=some (.int .u64 ((hat X.hs w).to:Nat)):=dA4.2.2.2.2 w 5 none hw;have fin:PLift (∀G,OnI m (zI H ha hu hs) H n (zx Z0).length B9 vn (ps+1) ((M2++(g4++G)).set B9 (.cells true [miV Z.1 aw2 uw2 sv2 mv2 qv2 hv2])) Z.1 aw2 uw2 sv2 mv2 qv2 hv2):=⟨fun G=>nxt.down (ps+1) _ ⟨_,rfl⟩ (by rw [t1];omega)⟩
   have fin0:PLift (OnI m (zI H ha hu hs) H n (zx Z0).length B9 vn (ps+1) ((M2++g4).set B9 (.cells true [miV Z.1 aw2 uw2 sv2 mv2 qv2 hv2])) Z.1 aw2 uw2 sv2 mv2 qv2 hv2):=⟨by have:=fin.down [];rwa [List.append_nil] at this⟩
   clear p5 n4 t1 t2 t3 t4 t5 qR4 qA qe eq eL lL dA4 eRW fin;refine am ?_;refine into ?_;exact ⟨(vn,ps+1),zi,_,_,_,_,_,_,_,fin0.down⟩
  ·have d5:(((hat X.hs w).pc:Int)=5)=False:=eq_false (by omega)
   have fin:PLift (∀G,OnI m (zI H ha hu hs) H n (zx Z0).length B9 vn ps ((M2++(g4++G)).set B9 (.cells true [miV Z.1 aw2 uw2 sv2 mv2 qv2 hv2])) Z.1 aw2 uw2 sv2 mv2 qv2 hv2):=⟨fun G=>nxt.down ps _ ⟨_,rfl⟩ (by
    by_cases e4:Z.2.1=4
    ·obtain ⟨_,q2,_,q4⟩:=o2'.down e4;omega
    ·obtain ⟨q1,q2,_⟩:=o3'.down e4;rw [q1];have:=q2 p5;omega)⟩
   have fin0:PLift (OnI m (zI H ha hu hs) H n (zx Z0).length B9 vn ps ((M2++g4).set B9 (.cells true [miV Z.1 aw2 uw2 sv2 mv2 qv2 hv2])) Z.1 aw2 uw2 sv2 mv2 qv2 hv2):=⟨by have:=fin.down [];rwa [List.append_nil] at this⟩
   clear p5 dA4 fin;refine am ?_;refine into ?_;exact ⟨(vn,ps),zi,_,_,_,_,_,_,_,fin0.down⟩
 ·rintro ⟨vw,ps⟩ fr M F ⟨X,aw,uw,sv,mv,qv,hv,hI⟩
  have hI':=zU hI;dsimp only at F;clear hI;refine am ?_;exact key'.down _ _ vw ps X aw uw sv mv qv hv zi hI'.down
end Go.AM.G
