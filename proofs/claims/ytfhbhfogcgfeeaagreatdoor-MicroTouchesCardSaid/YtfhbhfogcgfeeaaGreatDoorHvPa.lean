import Derived.Test.YtfhbhfogcgfeeaaGreatDoorHvK
set_option linter.unusedVariables false
set_option linter.unusedSimpArgs false
set_option maxRecDepth 100000
namespace Go.AM.G
open Go Go.AM
def zew (f:Nat->Bool):Nat->Nat
 |0=>0
 |k+1=>zew f k+if f k=true then 0 else 1
theorem zrh {f:Nat->Bool}: ∀n,zew f n<=n
 |0=>Nat.le_refl _
 |n+1=>by have:=zrh (f:=f) n;unfold zew;split<;>omega
theorem zmS {f g:Nat->Bool}: ∀n,(∀i,i<n->f i=g i)->zew f n=zew g n
 |0,_=>rfl
 |n+1,h=>by unfold zew;rw [zmS n fun i hi=>h i (by omega),h n (by omega)]
theorem zor {f g:Nat->Bool}{p:Nat}(h: ∀i,i≠p->g i=f i) (h0:f p=false) (h1:g p=true): ∀n,p<n->zew g n+1=zew f n
 |0,hp=>absurd hp (Nat.not_lt_zero _)
 |n+1,hp=>by
  unfold zew
  by_cases e:n=p
  ·subst e
   rw [zmS n fun i hi=>h i (by omega),h0,h1];rfl
  ·have:=zor h h0 h1 n (by omega)
   rw [h n e];omega
def hmu (mw:Nat->Nat) (x:zY):Nat:=
 if x.pc=0 then 0 else if x.pc=1 then 3000 else if x.pc=2 then 8*(x.N-x.f).toNat+11 else if x.pc=3 then 8*(x.N-x.f).toNat+9
 else if x.pc=4 then (if x.seen.testBit (x.to/2%64)=true then 8*(x.N-x.f).toNat+4010 else if mw (x.to/2/64)=x.seen then 8*(x.N-x.f).toNat+7 else 8*(x.N-x.f).toNat+10)
 else 8*(x.N-x.f).toNat+4005
def hsum (mw:Nat->Nat) (l:List zY):Nat:=(l.map (hmu mw)).sum
def mu (X:MiA):Nat:=5000*zew (bit X.mw) (64*X.nm)+4000*X.qs.flatten.length+hsum X.mw X.hs
theorem zjx {mw:Nat->Nat}{l:List zY}{w:Nat}{x:zY}(hw:w<l.length):hsum mw (l.set w x)+hmu mw (hat l w)=hsum mw l+hmu mw x:=by
 unfold hsum hat;rw [List.getD_eq_getElem?_getD,List.getElem?_eq_getElem hw]
 induction l generalizing w with
 |nil=>exact absurd hw (Nat.not_lt_zero _)
 |cons a l ih=>
  cases w with
  |zero=>simp;omega
  |succ w=>
   have:=ih (w:=w) (by simpa using hw);simp at this ⊢;omega
theorem ztz {mw mw':Nat->Nat}(k:Nat): ∀l:List zY,(∀x,x∈l->hmu mw' x<=hmu mw x+k)->hsum mw' l<=hsum mw l+k*l.length
 | [],_=>Nat.zero_le _
 |a::l,h=>by
  have h1:=ztz k l fun x hx=>h x (List.mem_cons_of_mem _ hx)
  have h2:=h a List.mem_cons_self;unfold hsum at h1 ⊢;simp only [List.map_cons,List.sum_cons,List.length_cons,Nat.mul_add];omega
theorem zxA (mw mw':Nat->Nat) (x:zY):hmu mw' x<=hmu mw x+3:=by
 unfold hmu
 repeat' split
 all_goals omega
theorem zxB {H:zm}{mw:Nat->Nat}{x:zY}(h:zdp H x):hmu mw x<=8*255+4010:=by
 rcases h with h|h|⟨a1,a2,a3,a4,a5,a6,a7,_⟩
 ·unfold hmu;rw [if_pos h.1];omega
 ·unfold hmu;rw [if_neg (by omega),if_pos h.1];omega
 ·have:x.N<=255:=by rw [a4];omega
  unfold hmu
  repeat' split
  all_goals omega
theorem zwQ {l:List zY}{x:zY}(h:x∈l): ∃i,i<l.length/\hat l i=x:=by
 obtain ⟨i,hi,rfl⟩:=List.getElem_of_mem h;exact ⟨i,hi,by unfold hat;rw [List.getD_eq_getElem?_getD,List.getElem?_eq_getElem hi];rfl⟩
theorem ztA {mw:Nat->Nat}{k:Nat}: ∀l:List zY,(∀x,x∈l->hmu mw x<=k)->hsum mw l<=k*l.length
 | [],_=>Nat.le_refl _
 |a::l,h=>by
  have h1:=ztA (mw:=mw) (k:=k) l fun x hx=>h x (List.mem_cons_of_mem _ hx)
  have h2:=h a List.mem_cons_self;unfold hsum at h1 ⊢;simp only [List.map_cons,List.sum_cons,List.length_cons,Nat.mul_add];omega
theorem zxT {X:MiA}(h:X.ok):mu X<2305843009213693952:=by
 have h1:=zrh (f:=bit X.mw) (64*X.nm);have h2:=h.2.1.2.2.1;have h3:X.nm<=129:=by
  have:=h.2.2.2.1;have:=h.1.1.1;unfold nwm at *;omega
 have h4:=ztA (mw:=X.mw) X.hs fun x hx=>by
  obtain ⟨i,hi,e⟩:=zwQ hx;have:=zxB (mw:=X.mw) (h.2.2.2.2.2.2.2 i hi)
  rwa [e] at this
 have h5:=h.2.1.2.1;have h6:=h.2.2.1;unfold mu;omega
theorem zmT {X:MiA}{w:Nat}{x:zY}(hw:w<X.hs.length) (h:hmu X.mw x<hmu X.mw (hat X.hs w)):mu (X.sh w x)<mu X:=by
 have:=zjx (mw:=X.mw) (x:=x) hw;show 5000*zew (bit X.mw) (64*X.nm)+4000*X.qs.flatten.length+hsum X.mw (X.hs.set w x)<_;unfold mu;omega
theorem zwb {X:MiA}(h:X.ok) (wa:w64 X.H.na X.H.a) (wk:w64 X.nm X.mw){w:Nat}(hw:w<X.hs.length) (e0:(zA X w).2.2=0):mu (zA X w).1<mu X:=by
 have hx:=h.2.2.2.2.2.2.2 w hw;have hq:=h.2.1;have hR:=h.1;have hwq:w<X.qs.length:=by have:=h.2.2.1;omega
 unfold zA at e0 ⊢;obtain ⟨x,ex⟩: ∃x,hat X.hs w=x:=⟨_,rfl⟩
 rw [ex] at hx e0 ⊢
 by_cases p0:x.pc=0
 ·rw [if_pos p0] at e0 ⊢
  rcases ztv hq hwq with ⟨e,g,gl,A,B,p1,p2⟩|⟨e,_⟩
  ·rw [if_pos e]
   have l1:=p1.length_eq;have l2:=p2.length_eq;rw [List.length_cons] at l1;have:=zjx (mw:=X.mw) (x:=⟨1,(zbo X.qs w).2.1,0,0,0,0,0⟩) hw;rw [ex,show hmu X.mw x=0 by unfold hmu;rw [if_pos p0],show hmu X.mw ⟨1,(zbo X.qs w).2.1,0,0,0,0,0⟩=3000 from rfl] at this;show 5000*zew (bit X.mw) (64*X.nm)+4000*(zbo X.qs w).1.flatten.length+hsum X.mw (X.hs.set w ⟨1,(zbo X.qs w).2.1,0,0,0,0,0⟩)<_;unfold mu;omega
  ·rw [if_neg (by rw [e];decide),e] at e0
   cases e0
 rw [if_neg p0] at e0 ⊢
 by_cases p1:x.pc=1
 ·rw [if_pos p1]
  refine zmT hw ?_;rw [ex];rcases hx with hx|⟨_,ho,e⟩|hx
  ·exact absurd hx.1 p0
  ·have hf:x.f=0:=by rw [e]
   rw [show hmu X.mw x=3000 by unfold hmu;rw [if_neg p0,if_pos p1]];show 8*(((X.H.a x.obj%256:Nat):Int)-x.f).toNat+11<3000;omega
  ·omega
 rw [if_neg p1] at e0 ⊢;obtain ⟨a1,a2,a3,a4,a5,a6,a7,a8,a9⟩:=zf8 hx p0 p1
 by_cases p2:x.pc=2
 ·have hm:hmu X.mw x=8*(x.N-x.f).toNat+11:=by unfold hmu;rw [if_neg p0,if_neg p1,if_pos p2]
  rw [if_pos p2] at e0 ⊢;cases hn:zfA x.M x.N.toNat x.f.toNat with
  |none=>
   refine zmT hw ?_;rw [ex,hm];show 0<_;omega
  |some g=>
   obtain ⟨n1,n2,n3,n4⟩:=zet hn;dsimp only
   by_cases hz:X.H.a (x.obj+1+g)=0
   ·rw [if_pos hz]
    refine zmT hw ?_;rw [ex,hm];unfold hmu;rw [if_neg p0,if_neg p1,if_pos p2];dsimp only;omega
   ·rw [if_neg hz]
    refine zmT hw ?_;rw [ex,hm];show 8*(x.N-(g:Int)).toNat+9<_;omega
 rw [if_neg p2] at e0 ⊢;obtain ⟨b1,b2,b3,b4⟩:x.pc≠2/\x.f<x.N/\x.M.testBit x.f.toNat=true/\x.to∈X.H.cs:=by
  rcases a9 with a9|a9
  ·exact absurd a9.1 p2
  ·exact a9
 have hbh:hmu X.mw (behind x)=8*(x.N-(x.f+1)).toNat+11:=rfl
 by_cases p3:x.pc=3
 ·have hm:hmu X.mw x=8*(x.N-x.f).toNat+9:=by unfold hmu;rw [if_neg p0,if_neg p1,if_neg p2,if_pos p3]
  rw [if_pos p3] at e0 ⊢
  by_cases hb:bit X.mw (x.to/2)=true
  ·rw [if_pos hb]
   refine zmT hw ?_;rw [ex,hm,hbh];omega
  ·rw [if_neg hb]
   refine zmT hw ?_;rw [ex,hm];show (if (X.mw (x.to/2/64)).testBit (x.to/2%64)=true then _ else if X.mw (x.to/2/64)=X.mw (x.to/2/64) then 8*(x.N-x.f).toNat+7 else _)<_;rw [if_neg (show ¬ (X.mw (x.to/2/64)).testBit (x.to/2%64)=true from hb),if_pos rfl];omega
 rw [if_neg p3] at e0 ⊢
 by_cases p4:x.pc=4
 ·have hm:hmu X.mw x=(if x.seen.testBit (x.to/2%64)=true then 8*(x.N-x.f).toNat+4010 else if X.mw (x.to/2/64)=x.seen then 8*(x.N-x.f).toNat+7 else 8*(x.N-x.f).toNat+10):=by unfold hmu;rw [if_neg p0,if_neg p1,if_neg p2,if_neg p3,if_pos p4]
  rw [if_pos p4] at e0 ⊢
  by_cases hb:X.mw (x.to/2/64)=x.seen
  ·rw [if_pos hb]
   have hp:=(zev hR wa b4).2;have hp':x.to/2<64*X.nm:=by rw [h.2.2.2.1];omega
   have hs:=fun i=>zec (k:=i) (b:=true) wk hp'
   have hset:=zjx (mw:=zbC X.mw (x.to/2) true) (x:={ x with pc:=5,seen:=0 }) hw;rw [ex,show hmu (zbC X.mw (x.to/2) true) { x with pc:=5,seen:=0 }=8*(x.N-x.f).toNat+4005 from rfl] at hset;have hl:=h.2.1.2.1;have hl2:=h.2.2.1;show 5000*zew (bit (zbC X.mw (x.to/2) true)) (64*X.nm)+4000*X.qs.flatten.length+hsum (zbC X.mw (x.to/2) true) (X.hs.set w { x with pc:=5,seen:=0 })<_
   by_cases hsb:x.seen.testBit (x.to/2%64)=true
   ·have hbit:bit X.mw (x.to/2)=true:=by unfold bit;rw [hb];exact hsb
    have hmw:zbC X.mw (x.to/2) true=X.mw:=by
     funext i
     unfold zbC up
     by_cases ei:i=x.to/2/64
     ·subst ei
      simp only [if_true];apply Nat.eq_of_testBit_eq;intro j;rw [Nat.testBit_or,Nat.testBit_two_pow]
      by_cases ej:x.to/2%64=j
      ·subst ej
       rw [hb,hsb];simp
      ·simp [ej]
     ·simp [ei]
    rw [hmw] at hset ⊢;rw [hm,if_pos hsb] at hset;unfold mu;omega
   ·have hbit:bit X.mw (x.to/2)=false:=by unfold bit;rw [hb];simpa using hsb
    have hfr:=zor (f:=bit X.mw) (g:=bit (zbC X.mw (x.to/2) true)) (p:=x.to/2) (fun i hi=>by rw [hs,if_neg hi]) hbit (by rw [hs,if_pos rfl]) (64*X.nm) hp';have hup:=ztz (mw:=X.mw) (mw':=zbC X.mw (x.to/2) true) 3 X.hs fun y _=>zxA _ _ y
    have hge:8*(x.N-x.f).toNat<=hmu (zbC X.mw (x.to/2) true) x:=by
     unfold hmu;rw [if_neg p0,if_neg p1,if_neg p2,if_neg p3,if_pos p4]
     repeat' split
     all_goals omega
    unfold mu;omega
  ·rw [if_neg hb]
   refine zmT hw ?_;rw [ex,hm,if_neg hb];show 8*(x.N-x.f).toNat+9<_
   split<;>omega
 have hm:hmu X.mw x=8*(x.N-x.f).toNat+4005:=by unfold hmu;rw [if_neg p0,if_neg p1,if_neg p2,if_neg p3,if_neg p4]
 rw [if_neg p4];have hset:=zjx (mw:=X.mw) (x:=behind x) hw;rw [ex,hm,hbh] at hset
 by_cases he:(zbu X.qs w x.to).2=0
 ·obtain ⟨q1,q2,q3,q4,q5⟩:=zjt hq hwq he
  rw [if_pos he,q1];obtain ⟨A,B,e1,e2⟩:=flat_set (l:=qat X.qs w++[x.to]) hwq;have l1:=congrArg List.length e1;have l2:=congrArg List.length e2;simp only [List.length_append,List.length_cons,List.length_nil] at l1 l2;show 5000*zew (bit X.mw) (64*X.nm)+4000*(X.qs.set w (qat X.qs w++[x.to])).flatten.length+hsum X.mw (X.hs.set w (behind x))<_;unfold mu;omega
 ·rw [if_neg he]
  show 5000*zew (bit X.mw) (64*X.nm)+4000*X.qs.flatten.length+hsum X.mw (X.hs.set w (behind x))<_;unfold mu;omega
end Go.AM.G
