import Derived.Test.YtfhbhfogcgfeeaaGreatDoorHpB
import Derived.Test.YtfhbhfogcgfeeaaGreatDoorAmRead
set_option linter.unusedVariables false
set_option linter.unusedSimpArgs false
set_option maxRecDepth 100000
namespace Go.AM.G
open Go Go.AM
structure zrA where
 N:Int
 n:Nat
 w:Nat->Nat
structure zW where
 first:Int
 pages:Int
 size:Int
 al:zrA
 mr:zrA
 swept:Bool
abbrev zQ (x:zW) (va vm:V):List V:=[.int .i64 x.first,.int .i64 x.pages,.int .i64 x.size,.int .i64 x.al.N,va,.int .i64 x.mr.N,vm,.bool x.swept]
def zrA.ok (b:zrA):Prop:=bitsOk b.N b.n b.w
def okB (P:Prop) (r:V):Prop:=(P/\r= .bool true)\/(¬ P/\r= .bool false)
def shaped (p s:Int):Prop:=(s=0/\2<=p/\p<=4)\/((s=2\/s=4\/s=8\/s=16)/\p=1)
def zbj (s:Int):Int:=if s=0 then 1 else if s=2 then 8 else if s=4 then 4 else if s=8 then 2 else 1
def zW.sub (x:zW):Prop:= ∀i:Nat,(i:Int)<x.mr.N->bit x.mr.w i=true->bit x.al.w i=true
def zW.ok (x:zW):Prop:=shaped x.pages x.size/\0<=x.first/\x.first+x.pages<=1024/\x.al.ok/\x.mr.ok/\x.al.N=zbj x.size/\x.mr.N=zbj x.size/\x.sub
structure zh4 (m:Mem) (x:zW) (va vm:V):Prop where
 a:Rd m va 1 x.al.n (zz x.al.w)
 k:Rd m vm 1 x.mr.n (zz x.mr.w)
 wa:w64 x.al.n x.al.w
 wk:w64 x.mr.n x.mr.w
 na:x.al.n<17592186044417
 nk:x.mr.n<17592186044417
theorem zh4.app {m g:Mem}{x:zW}{va vm:V}(h:zh4 m x va vm):zh4 (m++g) x va vm:=⟨h.a.app,h.k.app,h.wa,h.wk,h.na,h.nk⟩
theorem zur {m:Mem}{p s:Int}:C S zfD [.int .i64 p,.int .i64 s] m (fun r m'=>okB (shaped p s) r/\Grow m m'):=by
 have G:=Grow.refl m
 by_cases h0:s=0
 ·subst h0
  by_cases h1:2<=p
  ·by_cases h2:p<=4
   ·refine fn rfl ?_
    exact .inl ⟨.inl ⟨rfl,h1,h2⟩,rfl⟩
   ·refine fn rfl ?_
    exact .inr ⟨fun h=>by rcases h with h|h<;>omega,rfl⟩
  ·refine fn rfl ?_
   exact .inr ⟨fun h=>by rcases h with h|h<;>omega,rfl⟩
 by_cases h1:s=2\/s=4\/s=8\/s=16
 case neg=>
  obtain ⟨a1,a2,a3,a4⟩:¬ s=2/\¬ s=4/\¬ s=8/\¬ s=16:=by omega
  clear h1;refine fn rfl ?_;refine into ?_;exact .inr ⟨fun h=>by rcases h with h|h<;>omega,rfl⟩
 by_cases h2:p=1
 ·subst h2
  rcases h1 with rfl|rfl|rfl|rfl
  all_goals
   refine fn rfl ?_;refine into ?_;exact .inl ⟨.inr ⟨by omega,rfl⟩,rfl⟩
 ·rcases h1 with rfl|rfl|rfl|rfl
  all_goals
   refine fn rfl ?_;refine into ?_;exact .inr ⟨fun h=>by rcases h with h|h<;>omega,rfl⟩
theorem zvS {m:Mem}{s:Int}(hs:s=0\/s=2\/s=4\/s=8\/s=16):C S zgK [.int .i64 s] m (fun r m'=>r= .int .i64 (zbj s)/\Grow m m'):=by
 have G:=Grow.refl m;have e1:IntKind.i64.wrap ((16:Int).tdiv 2)=8:=by decide
 have e2:IntKind.i64.wrap ((16:Int).tdiv 4)=4:=by decide
 have e3:IntKind.i64.wrap ((16:Int).tdiv 8)=2:=by decide
 have e4:IntKind.i64.wrap ((16:Int).tdiv 16)=1:=by decide
 rcases hs with rfl|rfl|rfl|rfl|rfl
 all_goals
  refine fn rfl ?_;trivial
theorem zAD {n:Nat}{a b:Nat->Nat}(hb:w64 n b):(∀j,j<n->a j &&& b j=b j)↔ ∀i,i<64*n->bit b i=true->bit a i=true:=by
 constructor
 ·intro h i hi hbi
  have h1:=h (i/64) (by omega);unfold bit at hbi ⊢;rw [<-h1,Nat.testBit_and,Bool.and_eq_true] at hbi;exact hbi.1
 ·intro h j hj
  apply Nat.eq_of_testBit_eq;intro k;rw [Nat.testBit_and]
  by_cases hk:k<64
  ·have:=h (64*j+k) (by omega)
   unfold bit at this;rw [show (64*j+k)/64=j by omega,show (64*j+k)%64=k by omega] at this;cases h1:(b j).testBit k with
   |false=>rw [Bool.and_false]
   |true=>rw [this h1,Bool.true_and]
  ·have:(b j).testBit k=false:=Nat.testBit_lt_two_pow (Nat.lt_of_lt_of_le (hb j hj) (by exact Nat.pow_le_pow_right (n:=2) (by decide) (show 64<=k by omega)))
   rw [this,Bool.and_false]
theorem zW.sub_iff {x:zW}(hk:x.mr.ok) (hn:x.al.n=x.mr.n) (hw:w64 x.mr.n x.mr.w):(∀j,j<x.mr.n->x.al.w j &&& x.mr.w j=x.mr.w j)↔x.sub:=by
 rw [zAD hw];obtain ⟨k1,k2,k3,k4⟩:=hk;constructor
 ·intro h i hi
  exact h i (by omega)
 ·intro h i hi hb
  by_cases h1:(i:Int)<x.mr.N
  ·exact h i h1 hb
  ·rw [k4 i (by omega) hi] at hb;cases hb
theorem zvT {m:Mem}{x:zW}{va vm:V}(h:zh4 m x va vm):C S zes [.agg (zQ x va vm)] m (fun r m'=>okB x.ok r/\Grow m m'):=by
 have A:=h.a.ar;have B:=h.k.ar;refine fn rfl ?_;refine zur.mono ?_;rintro r _ ⟨hs,⟨g1,rfl⟩⟩;rw [zam];rcases hs with ⟨hs,rfl⟩|⟨hs,rfl⟩
 case inr=>
  have h':¬ x.ok:=fun e=>hs e.1
  clear hs;refine am ?_;exact ⟨.inr ⟨id,rfl⟩,_,rfl⟩
 have hp:1<=x.pages/\x.pages<=4:=by rcases hs with h|h<;>omega
 have hsz:x.size=0\/x.size=2\/x.size=4\/x.size=8\/x.size=16:=by rcases hs with h|h<;>omega
 have hs':id (shaped x.pages x.size):=hs;clear hs
 by_cases h1:x.first<0
 ·have h':¬ x.ok:=fun e=>by have:=e.2.1;omega
  clear hp hsz;refine am ?_;exact ⟨.inr ⟨id,rfl⟩,_,rfl⟩
 have w1:IntKind.i64.wrap (1024-x.pages)=1024-x.pages:=by rw [wrap_i64]<;>omega
 by_cases h2:1024-x.pages<x.first
 ·have h':¬ x.ok:=fun e=>by have:=e.2.2.1;omega
  clear hp hsz;refine am ?_;exact ⟨.inr ⟨id,rfl⟩,_,rfl⟩
 have h3:id (0<=x.first/\x.first+x.pages<=1024):=⟨by omega,by omega⟩
 have hsz':id (x.size=0\/x.size=2\/x.size=4\/x.size=8\/x.size=16):=hsz;clear hp hsz;refine am ?_;refine (zvS hsz').mono ?_;rintro _ _ ⟨rfl,⟨g2,rfl⟩⟩;rw [zam];refine am ?_;refine (zx6 h.a.app h.k.app h.wa h.wk h.na h.nk).mono ?_;rintro r _ ⟨g3,rfl,hr⟩;rw [zam];rcases hr with ⟨k1,k2,k3,v',rfl,hv'⟩|⟨hno,rfl⟩
 case inr=>
  have h':¬ x.ok:=fun e=>hno ⟨e.2.2.2.1,e.2.2.2.2.1,by have:=e.2.2.2.2.2.1;have:=e.2.2.2.2.2.2.1;omega⟩
  clear hno;refine am ?_;exact ⟨.inr ⟨id,rfl⟩,_,rfl⟩
 have c':=hv'.cell;have k12:id (x.al.ok/\x.mr.ok):=⟨k1,k2⟩
 have hnn:x.al.n=x.mr.n:=by have:=k1.2.2.1;have:=k2.2.2.1;omega
 clear k1 k2
 by_cases h4:x.al.N=zbj x.size
 case neg=>
  have h':¬ x.ok:=fun e=>h4 e.2.2.2.2.2.1
  clear k3 hnn;refine am ?_;exact ⟨.inr ⟨id,rfl⟩,_,rfl⟩
 have h5:x.mr.N=zbj x.size:=by omega
 have R:=hv'.rd (G:=[Blk.cells true [[V.int .i64 x.al.N,v']]]);simp only [List.append_assoc,List.cons_append] at R;have hsub:=zW.sub_iff k12.2 hnn h.wk;have h4':id (x.al.N=zbj x.size/\x.mr.N=zbj x.size):=⟨h4,h5⟩
 have e4:(x.al.N=zbj x.size)=True:=eq_true h4;have e5:(x.mr.N=zbj x.size)=True:=eq_true h5;have hnn':id (x.al.n=x.mr.n):=hnn;clear h4 h5 k3 hnn;refine am ?_;refine (zn1 R h.k.app (by have:=h.na;exact this)).mono ?_;rintro _ _ ⟨rfl,rfl⟩;rw [zam];have hnn:x.al.n=x.mr.n:=hnn'
 by_cases hf:x.sub
 ·have h':id x.ok:=⟨hs',h3.1,h3.2,k12.1,k12.2,h4'.1,h4'.2,hf⟩
  rw [decide_eq_true (show x.al.n=x.mr.n/\ ∀i,i<x.al.n->x.al.w i &&& x.mr.w i=x.mr.w i from ⟨hnn,fun j hj=>hsub.2 hf j (by omega)⟩)];clear hsub hf hnn;refine am ?_;exact ⟨.inl ⟨h',rfl⟩,_,rfl⟩
 ·have h':¬ x.ok:=fun e=>hf e.2.2.2.2.2.2.2
  rw [decide_eq_false (show ¬ (x.al.n=x.mr.n/\ ∀i,i<x.al.n->x.al.w i &&& x.mr.w i=x.mr.w i) from fun e=>hf (hsub.1 fun j hj=>e.2 j (by omega)))];clear hsub hf hnn;refine am ?_;exact ⟨.inr ⟨id,rfl⟩,_,rfl⟩
structure zh5 (m:Mem) (sv:V) (n:Nat) (sp:Nat->zW) (va vm:Nat->V):Prop where
 s:Rd m sv 8 n (fun i=>zQ (sp i) (va i) (vm i))
 e: ∀i,i<n->zh4 m (sp i) (va i) (vm i)
theorem zh5.app {m g:Mem}{sv:V}{n:Nat}{sp:Nat->zW}{va vm:Nat->V}(h:zh5 m sv n sp va vm):zh5 (m++g) sv n sp va vm:=⟨h.s.app,fun i hi=>(h.e i hi).app⟩
def zdr (n:Nat) (sp:Nat->zW):Prop:=n<=256/\ ∀i,i<n->(sp i).ok/\(0<i->(sp (i-1)).first+(sp (i-1)).pages<=(sp i).first)
theorem zzL {m:Mem}{x:zW}{va vm:V}(ha:va.isCell=true) (hb:vm.isCell=true) (h:x.ok):C S zgJ [.agg (zQ x va vm)] m (fun r m'=>r= .int .i64 (x.first+x.pages)/\Grow m m'):=by
 have w:IntKind.i64.wrap (x.first+x.pages)=x.first+x.pages:=by
  have:=h.1;have:=h.2.1;have:=h.2.2.1;have:1<=x.pages/\x.pages<=4:=by rcases h.1 with h|h<;>omega
  rw [wrap_i64]<;>omega
 clear h;refine fn rfl ?_;exact (Grow.refl _).app
theorem zlq {m:Mem}{sv:V}{n:Nat}{sp:Nat->zW}{va vm:Nat->V}(h:zh5 m sv n sp va vm) (hn:n<17592186044417):C S zeo [sv] m (fun r m'=>okE (zdr n sp) r/\Grow m m'):=by
 have A:=h.s.ar
 by_cases h1:256<n
 ·have c1:((256:Int)<(n:Int))=True:=eq_true (by omega)
  have h2:¬ zdr n sp:=fun e=>by have:=e.1;omega
  clear h1;refine fn rfl ?_;exact ⟨.inr ⟨id,rfl⟩,Grow.refl _⟩
 have c1:((256:Int)<(n:Int))=False:=eq_false (by omega);refine fn rfl ?_;refine range (α:=Unit) n (fun _=>[(0,sv),(8,sv)]) (fun k _ M=>(∃g,M=m++g)/\ ∀i,i<k->(sp i).ok/\(0<i->(sp (i-1)).first+(sp (i-1)).pages<=(sp i).first)) () ⟨⟨[],by simp⟩,fun i hi=>absurd hi (Nat.not_lt_zero _)⟩ ?_ ?_
 ·rintro k ⟨⟩ fr _ hk F ⟨⟨g,rfl⟩,hj⟩
  have hj':id (∀i,i<k->(sp i).ok/\(0<i->(sp (i-1)).first+(sp (i-1)).pages<=(sp i).first)):=hj;clear hj;have e:=h.e k hk;have A1:=e.a.ar;have A2:=e.k.ar;refine am ?_;refine (zvT e.app).mono ?_;rintro r _ ⟨hr,⟨g2,rfl⟩⟩;rcases hr with ⟨hr,rfl⟩|⟨hr,rfl⟩
  case inr=>
   have h2:¬ zdr n sp:=fun e=>hr (e.2 k hk).1
   clear hr;refine am ?_;exact ⟨.inr ⟨id,rfl⟩,_,rfl⟩
  have hr':id (sp k).ok:=hr;clear hr
  by_cases h0:0<k
  ·have c2:((0:Int)<(k:Int))=True:=eq_true (by omega)
   have w1:IntKind.i64.wrap ((k:Int)-1)=((k-1:Nat):Int):=by rw [wrap_i64]<;>omega
   have hk1:k-1<n:=by omega
   have e2:=h.e (k-1) hk1;have B1:=e2.a.ar;have B2:=e2.k.ar;have hp:=(hj' (k-1) (by omega)).1;have hp':id (sp (k-1)).ok:=hp;clear hp;refine am ?_;refine (zzL B1.2.1 B2.2.1 hp').mono ?_;rintro _ _ ⟨rfl,⟨g3,rfl⟩⟩
   by_cases h3:(sp k).first<(sp (k-1)).first+(sp (k-1)).pages
   ·have h2:¬ zdr n sp:=fun e=>by have:=(e.2 k hk).2 h0;omega
    refine am ?_;exact ⟨.inr ⟨id,rfl⟩,_,rfl⟩
   ·refine am ?_
    refine ⟨(),zg,⟨_,rfl⟩,fun i hi=> ?_⟩
    by_cases hik:i=k
    ·subst hik;exact ⟨hr',fun _=>by omega⟩
    ·exact hj' i (by omega)
  ·have c2:((0:Int)<(k:Int))=False:=eq_false (by omega)
   refine am ?_;refine ⟨(),zg,⟨_,rfl⟩,fun i hi=> ?_⟩
   by_cases hik:i=k
   ·subst hik;exact ⟨hr',fun h=>absurd h h0⟩
   ·exact hj' i (by omega)
 ·rintro ⟨⟩ fr _ F ⟨⟨g,rfl⟩,hj⟩
  have h2:id (zdr n sp):=⟨by omega,hj⟩
  clear hj;refine am ?_;exact ⟨.inl ⟨h2,rfl⟩,_,rfl⟩
theorem zlr {m:Mem}{v:V}{z n:Nat}{f:Nat->List V}(hv:Rd m v z n f):C S zi3 [.agg [v]] m (fun r m'=>okE (n<=16384) r/\Grow m m'):=by
 have A:=hv.ar
 by_cases h1:16384<n
 ·have c1:((16384:Int)<(n:Int))=True:=eq_true (by omega)
  refine fn rfl ?_;exact ⟨.inr ⟨by omega,rfl⟩,(Grow.refl _).app⟩
 ·have c1:((16384:Int)<(n:Int))=False:=eq_false (by omega)
  refine fn rfl ?_;exact ⟨.inl ⟨by omega,rfl⟩,(Grow.refl _).app⟩
theorem zls {m:Mem}{v:V}{n:Nat}{w:Nat->Nat}{N:Int}(hv:Rd m v 1 n (zz w)) (hw:w64 n w) (hn:n<17592186044417):C S zfB [.agg [.int .i64 N,v]] m (fun r m'=>okE (bitsOk N n w) r/\Grow m m'):=by
 have A:=hv.ar;refine fn rfl ?_;refine (zbT hv.app hw hn).mono ?_;rintro r _ ⟨h,⟨g,rfl⟩⟩;refine am ?_;exact ⟨_,rfl⟩
theorem zrB {m:Mem}{s:Int}(hs:s=0\/s=2\/s=4\/s=8\/s=16):C S zgM [.int .i64 s] m (fun r m'=>r= .int .i64 (zbj s)/\Grow m m'):=by
 have G:=Grow.refl m;have e1:IntKind.i64.wrap ((16:Int).tdiv 2)=8:=by decide
 have e2:IntKind.i64.wrap ((16:Int).tdiv 4)=4:=by decide
 have e3:IntKind.i64.wrap ((16:Int).tdiv 8)=2:=by decide
 have e4:IntKind.i64.wrap ((16:Int).tdiv 16)=1:=by decide
 rcases hs with rfl|rfl|rfl|rfl|rfl
 all_goals
  refine fn rfl ?_;trivial
theorem zpd (s:Int):1<=zbj s/\zbj s<=8:=by
  unfold zbj;repeat' split
  all_goals omega
theorem zus {m g:Mem}{x:zW}{va vm:V}{fr:Frame}(h:zh4 m x va vm) (f1:fr 1= .ptr m.length 0 0) (hs':shaped x.pages x.size) (h3:0<=x.first/\x.first+x.pages<=1024) (k1:x.al.ok) (k2:x.mr.ok) (k3:x.al.N=zbj x.size) (k4:x.mr.N=zbj x.size):
  W S (.loop zh3) (put fr 5 (.int .i64 0)) (m++ .cells true [zQ x va vm]::g) (ziR 0 (andThen S (.seq (.region [⟨some 2,none,.mv (.c (.bool true)),none,[]⟩]) .ret) (zkc [.t 2] fun r m'=>okB x.ok r/\Grow m m'))):=by
 have A:=h.a.ar;have B:=h.k.ar;have hsl:=zpd x.size;obtain ⟨sl,hsl2⟩: ∃sl:Nat,zbj x.size=sl:=⟨(zbj x.size).toNat,by omega⟩
 have n1:x.al.n=1:=by have:=k1.2.2.1;omega
 have n2:x.mr.n=1:=by have:=k2.2.2.1;omega
 have k34:id (shaped x.pages x.size/\(0<=x.first/\x.first+x.pages<=1024)/\x.al.ok/\x.mr.ok/\x.al.N=zbj x.size/\x.mr.N=zbj x.size):=⟨hs',h3,k1,k2,k3,k4⟩
 have e2:x.mr.N=(sl:Int):=by omega
 have hs8:sl<=8:=by omega
 have n12:id (x.al.n=1/\x.mr.n=1):=⟨n1,n2⟩
 clear k1 k2 k3 k4 hsl hs' h3 n1 n2 hsl2
 let I:=fun (j:Nat) (fr:Frame) (M':Mem)=> ∃i:Nat,i<=sl/\j=sl-i/\Has fr [(1,.ptr m.length 0 0),(5,.int .i64 (i:Nat))]/\(∃g,M'=m++ .cells true [zQ x va vm]::g)/\ ∀k,k<i->bit x.mr.w k=true->bit x.al.w k=true
 refine zO I ?_ sl ⟨0,by omega,rfl,zg,⟨g,rfl⟩,fun k h=>absurd h (Nat.not_lt_zero _)⟩;rintro j fr _ ⟨i,hi,rfl,F,⟨g,rfl⟩,hk⟩;have hk':id (∀k,k<i->bit x.mr.w k=true->bit x.al.w k=true):=hk;clear hk f1;have n1:=n12.1;have n2:=n12.2;have R1:=zbh (m:=m++ .cells true [zQ x va vm]::g) (i:=i) (N:=sl) h.k.app h.wk;have R2:=fun g'=>zbh (m:=m++ .cells true [zQ x va vm]::g') (i:=i) (N:=x.al.N) h.a.app h.wa
 rw [n2] at R1;rw [n1] at R2
 by_cases h4:i<sl
 ·have c3:((i:Int)<(sl:Int))=True:=eq_true (by omega)
  have w4:IntKind.i64.wrap ((i:Int)+1)=((i+1:Nat):Int):=by rw [wrap_i64]<;>omega
  clear n1 n2;refine into ?_;refine (R1 (by omega) (by omega)).mono ?_;rintro _ _ ⟨rfl,⟨g2,rfl⟩⟩;cases hb:bit x.mr.w i with
  |false=>
   clear R1 R2;refine am ?_;exact ⟨_,by omega,i+1,by omega,rfl,zg,⟨_,rfl⟩,fun k h1 h2=>by
    by_cases e:k=i
    ·subst e;rw [hb] at h2;cases h2
    ·exact hk' k (by omega) h2⟩
  |true=>
   have R2':=Nonempty.intro (zU R2);clear R1 R2;refine am ?_;obtain ⟨⟨R2⟩⟩:=R2';refine (R2 _ (by omega) (by omega)).mono ?_;rintro _ _ ⟨rfl,⟨g3,rfl⟩⟩;clear R2;cases hb2:bit x.al.w i with
   |true=>
    refine am ?_;exact ⟨_,by omega,i+1,by omega,rfl,zg,⟨_,rfl⟩,fun k h1 h2=>by
     by_cases e:k=i
     ·subst e;exact hb2
     ·exact hk' k (by omega) h2⟩
   |false=>
    have h5:¬ x.ok:=fun e=>by have:=e.2.2.2.2.2.2.2 i (by omega) hb;rw [hb2] at this;cases this
    refine am ?_;exact ⟨.inr ⟨id,rfl⟩,_,rfl⟩
 ·have c3:((i:Int)<(sl:Int))=False:=eq_false (by omega)
  have h5:id x.ok:=⟨k34.1,k34.2.1.1,k34.2.1.2,k34.2.2.1,k34.2.2.2.1,k34.2.2.2.2.1,k34.2.2.2.2.2,fun k h1 h2=>hk' k (by omega) h2⟩
  clear R1 R2 n1 n2;refine into ?_;exact ⟨.inl ⟨h5,rfl⟩,_,rfl⟩
theorem zpe {m:Mem}{x:zW}{va vm:V}(h:zh4 m x va vm):C S zi5 [.agg (zQ x va vm)] m (fun r m'=>okB x.ok r/\Grow m m'):=by
 have A:=h.a.ar;have B:=h.k.ar;have G0:Grow m (m++[Blk.cells true [zQ x va vm]]):=(Grow.refl _).app
 by_cases hsh:shaped x.pages x.size
 case neg=>
  have h':¬ x.ok:=fun e=>hsh e.1
  by_cases s0:x.size=0
  ·by_cases p2:2<=x.pages
   ·have p4:¬ x.pages<=4:=fun e=>hsh (.inl ⟨s0,p2,e⟩)
    clear hsh;refine fn rfl ?_;exact .inr ⟨id,rfl⟩
   ·clear hsh
    refine fn rfl ?_;exact .inr ⟨id,rfl⟩
  by_cases s2:x.size=2
  ·have p1:¬ x.pages=1:=fun e=>hsh (.inr ⟨by omega,e⟩)
   clear hsh;refine fn rfl ?_;exact .inr ⟨id,rfl⟩
  by_cases s4:x.size=4
  ·have p1:¬ x.pages=1:=fun e=>hsh (.inr ⟨by omega,e⟩)
   clear hsh;refine fn rfl ?_;exact .inr ⟨id,rfl⟩
  by_cases s8:x.size=8
  ·have p1:¬ x.pages=1:=fun e=>hsh (.inr ⟨by omega,e⟩)
   clear hsh;refine fn rfl ?_;exact .inr ⟨id,rfl⟩
  by_cases s16:x.size=16
  ·have p1:¬ x.pages=1:=fun e=>hsh (.inr ⟨by omega,e⟩)
   clear hsh;refine fn rfl ?_;exact .inr ⟨id,rfl⟩
  ·clear hsh
   refine fn rfl ?_;exact .inr ⟨id,rfl⟩
 obtain ⟨fi,pg,sz,al,mr,sw⟩:=x;dsimp only at *;have hp:1<=pg/\pg<=4:=by rcases hsh with h|h<;>omega
 have hs':id (shaped pg sz):=hsh;have w1:IntKind.i64.wrap (1024-pg)=1024-pg:=by rw [wrap_i64]<;>omega
 have w1':IntKind.i64.wrap 1023=1023:=by decide
 have hcase:(sz=0/\2<=pg/\pg<=4)\/(sz=2/\pg=1)\/(sz=4/\pg=1)\/(sz=8/\pg=1)\/(sz=16/\pg=1):=by rcases hsh with h|h<;>omega
 have hsz:=zU (show sz=0\/sz=2\/sz=4\/sz=8\/sz=16 from by rcases hsh with h|h<;>omega);clear hsh hp
 by_cases h1:fi<0
 ·have h':¬ zW.ok ⟨fi,pg,sz,al,mr,sw⟩:=fun e=>by have:0<=fi:=e.2.1;omega
  rcases hcase with ⟨rfl,e2,e3⟩|⟨rfl,rfl⟩|⟨rfl,rfl⟩|⟨rfl,rfl⟩|⟨rfl,rfl⟩
  all_goals
   refine fn rfl ?_;exact .inr ⟨id,rfl⟩
 by_cases h2:1024-pg<fi
 ·have h':¬ zW.ok ⟨fi,pg,sz,al,mr,sw⟩:=fun e=>by have:fi+pg<=1024:=e.2.2.1;omega
  rcases hcase with ⟨rfl,e2,e3⟩|⟨rfl,rfl⟩|⟨rfl,rfl⟩|⟨rfl,rfl⟩|⟨rfl,rfl⟩
  all_goals
   try simp only [Int.reduceSub] at h2
   refine fn rfl ?_;exact .inr ⟨id,rfl⟩
 have h3:=zU (show 0<=fi/\fi+pg<=1024 from ⟨by omega,by omega⟩);obtain ⟨sl,hsl0⟩: ∃sl,zbj sz=sl:=⟨_,rfl⟩
 have hsl:=zU hsl0;clear hsl0;rcases hcase with ⟨rfl,e2,e3⟩|⟨rfl,rfl⟩|⟨rfl,rfl⟩|⟨rfl,rfl⟩|⟨rfl,rfl⟩
 all_goals
  try simp only [Int.reduceSub] at h2
  refine fn rfl ?_;refine (zdH h.a.app h.wa h.na).mono ?_;rintro r _ ⟨hr,⟨g1,rfl⟩⟩;rcases hr with ⟨hr,rfl⟩|⟨hr,rfl⟩
  case inr=>
   have h':=zU hr;clear hr;refine am ?_;exact ⟨.inr ⟨fun e=>h'.down e.2.2.2.1,rfl⟩,_,rfl⟩
  have k1:=zU hr;clear hr;refine am ?_;refine (zdH h.k.app h.wk h.nk).mono ?_;rintro r _ ⟨hr,⟨g2,rfl⟩⟩;rcases hr with ⟨hr,rfl⟩|⟨hr,rfl⟩
  case inr=>
   have h':=zU hr;clear hr;refine am ?_;exact ⟨.inr ⟨fun e=>h'.down e.2.2.2.2.1,rfl⟩,_,rfl⟩
  have k2:=zU hr;clear hr;refine am ?_;refine (zrB hsz.down).mono ?_;rintro _ _ ⟨rfl,⟨g3,rfl⟩⟩;rw [hsl.down]
  by_cases k3:al.N=sl
  case neg=>
   have h':=zU k3;refine am ?_;exact ⟨.inr ⟨fun e=>h'.down (e.2.2.2.2.2.1.trans hsl.down),rfl⟩,_,rfl⟩
  have k3':=zU k3;have k3:=eq_true k3;refine am ?_;refine (zrB hsz.down).mono ?_;rintro _ _ ⟨rfl,⟨g4,rfl⟩⟩;rw [hsl.down]
  by_cases k4:mr.N=sl
  case neg=>
   have h':=zU k4;refine am ?_;exact ⟨.inr ⟨fun e=>h'.down (e.2.2.2.2.2.2.1.trans hsl.down),rfl⟩,_,rfl⟩
  have k4':=zU k4;have k4:=eq_true k4;refine am ?_;exact zus (x:=⟨fi,_,_,al,mr,sw⟩) h (by simp [put]) hs' h3.down k1.down k2.down (k3'.down.trans hsl.down.symm) (k4'.down.trans hsl.down.symm)
theorem zh6 {m:Mem}{sv:V}{n:Nat}{sp:Nat->zW}{va vm:Nat->V}(h:zh5 m sv n sp va vm) (hn:n<17592186044417):C S zi1 [sv] m (fun r m'=>okE (zdr n sp) r/\Grow m m'):=by
 have A:=h.s.ar
 by_cases h1:256<n
 ·have c1:((256:Int)<(n:Int))=True:=eq_true (by omega)
  have h2:¬ zdr n sp:=fun e=>by have:=e.1;omega
  clear h1;refine fn rfl ?_;exact ⟨.inr ⟨id,rfl⟩,Grow.refl _⟩
 have c1:((256:Int)<(n:Int))=False:=eq_false (by omega);refine fn rfl ?_;refine range (α:=Unit) n (fun _=>[(0,sv),(8,sv)]) (fun k _ M=>(∃g,M=m++g)/\ ∀i,i<k->(sp i).ok/\(0<i->(sp (i-1)).first+(sp (i-1)).pages<=(sp i).first)) () ⟨⟨[],by simp⟩,fun i hi=>absurd hi (Nat.not_lt_zero _)⟩ ?_ ?_
 ·rintro k ⟨⟩ fr _ hk F ⟨⟨g,rfl⟩,hj⟩
  have hj':=zU hj;clear hj;have e:=h.e k hk;have A1:=e.a.ar;have A2:=e.k.ar;refine am ?_;refine (zpe e.app).mono ?_;rintro r _ ⟨hr,⟨g2,rfl⟩⟩;rcases hr with ⟨hr,rfl⟩|⟨hr,rfl⟩
  case inr=>
   have h2:¬ zdr n sp:=fun e=>hr (e.2 k hk).1
   clear hr;refine am ?_;exact ⟨.inr ⟨id,rfl⟩,_,rfl⟩
  have hr':=zU hr;clear hr
  by_cases h0:0<k
  ·have c2:((0:Int)<(k:Int))=True:=eq_true (by omega)
   have w1:IntKind.i64.wrap ((k:Int)-1)=((k-1:Nat):Int):=by rw [wrap_i64]<;>omega
   have hk1:k-1<n:=by omega
   have w2:IntKind.i64.wrap ((sp (k-1)).first+(sp (k-1)).pages)=(sp (k-1)).first+(sp (k-1)).pages:=by
    have hp:=(hj'.down (k-1) (by omega)).1;have:=hp.2.1;have:=hp.2.2.1;have:1<=(sp (k-1)).pages/\(sp (k-1)).pages<=4:=by rcases hp.1 with h|h<;>omega
    rw [wrap_i64]<;>omega
   by_cases h3:(sp k).first<(sp (k-1)).first+(sp (k-1)).pages
   ·have h2:¬ zdr n sp:=fun e=>by have:=(e.2 k hk).2 h0;omega
    refine am ?_;exact ⟨.inr ⟨id,rfl⟩,_,rfl⟩
   ·refine am ?_
    refine ⟨(),zg,⟨_,rfl⟩,fun i hi=> ?_⟩
    by_cases hik:i=k
    ·subst hik;exact ⟨hr'.down,fun _=>by omega⟩
    ·exact hj'.down i (by omega)
  ·have c2:((0:Int)<(k:Int))=False:=eq_false (by omega)
   refine am ?_;refine ⟨(),zg,⟨_,rfl⟩,fun i hi=> ?_⟩
   by_cases hik:i=k
   ·subst hik;exact ⟨hr'.down,fun h=>absurd h h0⟩
   ·exact hj'.down i (by omega)
 ·rintro ⟨⟩ fr _ F ⟨⟨g,rfl⟩,hj⟩
  have h2:=zU (show zdr n sp from ⟨by omega,hj⟩);clear hj;refine am ?_;exact ⟨.inl ⟨h2.down,rfl⟩,_,rfl⟩
theorem zh7 {m:Mem}{v:V}{z n:Nat}{f:Nat->List V}(hv:Rd m v z n f):C S ziZ [.agg [v]] m (fun r m'=>okE (n<=16384) r/\Grow m m'):=by
 have A:=hv.ar
 by_cases h1:16384<n
 ·have c1:((16384:Int)<(n:Int))=True:=eq_true (by omega)
  refine fn rfl ?_;exact ⟨.inr ⟨by omega,rfl⟩,(Grow.refl _).app⟩
 ·have c1:((16384:Int)<(n:Int))=False:=eq_false (by omega)
  refine fn rfl ?_;exact ⟨.inl ⟨by omega,rfl⟩,(Grow.refl _).app⟩
theorem zh8 {m:Mem}{v:V}{n:Nat}{w:Nat->Nat}{N:Int}(hv:Rd m v 1 n (zz w)) (hw:w64 n w) (hn:n<17592186044417):C S zi0 [.agg [.int .i64 N,v]] m (fun r m'=>okE (bitsOk N n w) r/\Grow m m'):=by
 have A:=hv.ar;refine fn rfl ?_;refine (zdH hv.app hw hn).mono ?_;rintro r _ ⟨h,⟨g,rfl⟩⟩;refine am ?_;exact ⟨_,rfl⟩
structure zm where
 na:Nat
 a:Nat->Nat
 us:zrA
 ns:Nat
 sp:Nat->zW
structure zbQ (m:Mem) (aw uw sv:V) (va vm:Nat->V) (H:zm):Prop where
 a:Rd m aw 1 H.na (zz H.a)
 u:Rd m uw 1 H.us.n (zz H.us.w)
 s:zh5 m sv H.ns H.sp va vm
 wa:w64 H.na H.a
 wu:w64 H.us.n H.us.w
 la:H.na<17592186044417
 lu:H.us.n<17592186044417
 ls:H.ns<17592186044417
 ca:ziL aw
theorem zbQ.app {m g:Mem}{aw uw sv:V}{va vm:Nat->V}{H:zm}(h:zbQ m aw uw sv va vm H):zbQ (m++g) aw uw sv va vm H:=⟨h.a.app,h.u.app,h.s.app,h.wa,h.wu,h.la,h.lu,h.ls,h.ca⟩
abbrev zy (H:zm) (aw uw sv:V):List V:=[aw,.int .i64 H.us.N,uw,sv]
def zlt (sp:Nat->zW) (k i:Nat):Prop:= ∃j,j<k/\(sp j).first<=(i:Int)/\(i:Int)<(sp j).first+(sp j).pages
def zm.framed (H:zm):Prop:=H.na<=16384/\H.us.ok/\zdr H.ns H.sp/\1<=H.us.N/\(H.na:Int)=H.us.N*16/\(∀k,k<H.ns->1<=(H.sp k).first/\(H.sp k).first+(H.sp k).pages<=H.us.N)/\ ∀i:Nat,(i:Int)<H.us.N->(bit H.us.w i=true↔i=0\/zlt H.sp H.ns i)
theorem zxo {N:Int}{n i:Nat}{w:Nat->Nat}{b:Bool}(h:bitsOk N n w) (hw:w64 n w) (hi:(i:Int)<N):bitsOk N n (zbi w i b):=by
 obtain ⟨h1,h2,h3,h4⟩:=h;refine ⟨h1,h2,h3,fun k hk hk2=> ?_⟩;rw [zeH hw (by omega),if_neg (by omega)];exact h4 k hk hk2
theorem zut {N:Int}{n i:Nat}{w:Nat->Nat}(h:bitsOk N n w) (hw:w64 n w): ∀k,((i+k:Nat):Int)<=N->bitsOk N n (ziU w i k)
 |0,_=>h
 |k+1,hi=>zxo (zut h hw k (by omega)) (zfW hw k) (by omega)
theorem zxp (N:Nat) (h:N<=4096):bitsOk N ((N+63)/64) (fun _=>0):=⟨by omega,by omega,by omega,fun i _ _=>by simp [bit]⟩
theorem zjH {n:Nat}{a b:Nat->Nat}(ha:w64 n a) (hb:w64 n b):(∀i,i<n->a i=b i)↔ ∀i,i<64*n->bit a i=bit b i:=by
 constructor
 ·intro h i hi
  unfold bit;rw [h (i/64) (by omega)]
 ·intro h j hj
  apply Nat.eq_of_testBit_eq;intro k
  by_cases hk:k<64
  ·have:=h (64*j+k) (by omega)
   unfold bit at this
   rwa [show (64*j+k)/64=j by omega,show (64*j+k)%64=k by omega] at this
  ·have z: ∀{x:Nat},x<18446744073709551616->x.testBit k=false:=fun h=>Nat.testBit_lt_two_pow (Nat.lt_of_lt_of_le h (by exact Nat.pow_le_pow_right (n:=2) (by decide) (show 64<=k by omega)))
   rw [z (ha j hj),z (hb j hj)]
structure Want (H:zm) (k:Nat) (w:Nat->Nat):Prop where
 ww:w64 H.us.n w
 ok:bitsOk H.us.N H.us.n w
 b: ∀i:Nat,(i:Int)<H.us.N->(bit w i=true↔i=0\/zlt H.sp k i)
 s: ∀j,j<k->1<=(H.sp j).first/\(H.sp j).first+(H.sp j).pages<=H.us.N
theorem Want.next {H:zm}{k:Nat}{w:Nat->Nat}{f p:Nat}(h:Want H k w) (hf:(H.sp k).first=f) (hp:(H.sp k).pages=p) (h1:1<=f) (h2:((f+p:Nat):Int)<=H.us.N):Want H (k+1) (ziU w f p):=by
 obtain ⟨a1,a2,a3,a4⟩:=h.ok;refine ⟨zfW h.ww p,zut h.ok h.ww p h2,fun i hi=> ?_,fun j hj=> ?_⟩
 ·rw [zq9 h.ww p (by omega),Bool.or_eq_true,decide_eq_true_eq,h.b i hi]
  constructor
  ·rintro (e|e|⟨j,e1,e2,e3⟩)
   ·exact .inr ⟨k,by omega,by omega,by omega⟩
   ·exact .inl e
   ·exact .inr ⟨j,by omega,e2,e3⟩
  ·rintro (e|⟨j,e1,e2,e3⟩)
   ·exact .inr (.inl e)
   ·by_cases e:j=k
    ·subst e;exact .inl ⟨by omega,by omega⟩
    ·exact .inr (.inr ⟨j,by omega,e2,e3⟩)
 ·by_cases e:j=k
  ·subst e;omega
  ·exact h.s j (by omega)
theorem zuu {m:Mem}{P:Nat}{own:Bool}{aw uw sv ov:V}{va vm:Nat->V}{H:zm}(h:zbQ m aw uw sv va vm H) (hP:m[P]? =some (.cells own [[aw,.int .i64 H.us.N,uw,sv,ov]])):C S zec [.ptr P 0 0] m (fun r m'=>okB H.framed r/\Grow m m'):=by
 have A:=h.a.ar;have B:=h.u.ar;have D:=h.s.s.ar;refine fn rfl ?_;refine (zlr h.a).mono ?_;rintro r _ ⟨hr,⟨g1,rfl⟩⟩;rcases hr with ⟨hr,rfl⟩|⟨hr,rfl⟩
 case inr=>
  have h':=zU hr;clear hr;refine am ?_;exact ⟨.inr ⟨fun e=>h'.down e.1,rfl⟩,_,rfl⟩
 have k1:=zU hr;clear hr;refine am ?_;refine (zls h.u.app h.wu h.lu).mono ?_;rintro r _ ⟨hr,⟨g2,rfl⟩⟩;rcases hr with ⟨hr,rfl⟩|⟨hr,rfl⟩
 case inr=>
  have h':=zU hr;clear hr;refine am ?_;exact ⟨.inr ⟨fun e=>h'.down e.2.1,rfl⟩,_,rfl⟩
 have k2:=zU hr;clear hr;refine am ?_;refine (zlq h.s.app h.ls).mono ?_;rintro r _ ⟨hr,⟨g3,rfl⟩⟩;rcases hr with ⟨hr,rfl⟩|⟨hr,rfl⟩
 case inr=>
  have h':=zU hr;clear hr;refine am ?_;exact ⟨.inr ⟨fun e=>h'.down e.2.2.1,rfl⟩,_,rfl⟩
 have k3:=zU hr;clear hr
 by_cases h1:H.us.N<1
 ·refine am ?_
  exact ⟨.inr ⟨fun e=>by have:=e.2.2.2.1;omega,rfl⟩,_,rfl⟩
 have k2':=k2.down;obtain ⟨N,hN⟩: ∃N:Nat,H.us.N=N:=⟨H.us.N.toNat,by have:=k2'.1;omega⟩
 have hN4:N<=4096:=by have:=k2'.2.1;omega
 have hun:H.us.n=(N+63)/64:=by have:=k2'.2.2.1;omega
 clear k2';have w1:IntKind.i64.wrap ((N:Int)*16)=(N:Int)*16:=by rw [wrap_i64]<;>omega
 have hun':=zU hun;have h1':=zU h1;have cN:((N:Int)<1)=False:=eq_false (by omega);clear hun h1
 by_cases h2:(H.na:Int)=(N:Int)*16
 case neg=>
  have h2':=zU h2;refine am ?_;exact ⟨.inr ⟨fun e=>h2'.down (by have:=e.2.2.2.2.1;rw [hN] at this;exact this),rfl⟩,_,rfl⟩
 have k5:=zU h2;clear h2;have c5:((H.na:Int)=(N:Int)*16)=True:=eq_true k5.down;refine am ?_;refine (zx4 hN4).mono ?_;rintro _ _ ⟨g4,v1,rfl,rfl,hv1⟩;have c1:=hv1.cell;refine am ?_;have R:=hv1.rd (G:=[.cells true [[.int .i64 N,v1]]]);simp only [List.append_assoc,List.cons_append,List.nil_append] at R;refine (zzJ (i:=0) (b:=true) (w:=fun _=>0) (n:=(N+63)/64) (N:=(N:Nat)) R (fun i _=>Nat.zero_lt_succ _) (zxp N hN4) (by show (0:Int)<N;have:=h1'.down;omega)).mono ?_;rintro _ _ ⟨g5,v2,rfl,rfl,hv2⟩;have c2:=hv2.cell;clear R;refine am ?_;have hun:=hun'.down;have hW1:Want H 0 (zbi (fun _=>0) 0 true):=by
  have z:w64 ((N+63)/64) (fun _=>0):=fun i _=>Nat.zero_lt_succ _
  have hN1:1<=N:=by have:=h1'.down;omega
  refine ⟨hun▸zhJ z,by rw [hN,hun];exact zxo (zxp N hN4) z (by omega),fun i hi=> ?_,fun j hj=>absurd hj (Nat.not_lt_zero _)⟩;rw [zeH z (by omega)]
  by_cases e:i=0
  ·subst e;simp
  ·rw [if_neg e]
   have:bit (fun _=>0) i=false:=by simp [bit]
   rw [this];exact ⟨fun h=>by (cases h),fun h=>by rcases h with h|⟨j,h,_⟩;exact absurd h e;omega⟩
 have hW1':=zU hW1;clear hun hW1;have hls:=h.ls;refine range (α:=V×(Nat->Nat)) H.ns (fun _=>[(0,.ptr P 0 0),(3,.ptr (m.length+(g1.length+(g2.length+g3.length))) 0 0),(4,.ptr (m.length+(g1.length+(g2.length+(g3.length+(g4.length+1))))) 0 0),(71,sv)])
  (fun k x M=>(∃g,M=m++(g1++(g2++(g3++ .cells true [[.int .i64 N,uw]]::(g4++ .cells true [[.int .i64 N,x.1]]::g))))/\Iu (m.length+(g1.length+(g2.length+(g3.length+(g4.length+1))))+1) g x.1 ((N+63)/64) x.2)/\Want H k x.2) (v2,zbi (fun _=>0) 0 true) ⟨⟨g5,rfl,hv2.cast⟩,hW1'.down⟩ ?_ ?_
 ·rintro k ⟨v,w⟩ fr _ hk F ⟨⟨g,rfl,hv⟩,hW⟩
  dsimp only at hv hW;have hok:=(k3.down.2 k hk).1;obtain ⟨f,hf⟩: ∃f:Nat,(H.sp k).first=f:=⟨(H.sp k).first.toNat,by have:=hok.2.1;omega⟩
  have hpg:1<=(H.sp k).pages/\(H.sp k).pages<=4:=by rcases hok.1 with h|h<;>omega
  obtain ⟨p,hp⟩: ∃p:Nat,(H.sp k).pages=p:=⟨(H.sp k).pages.toNat,by omega⟩
  have hfp:f+p<=1024:=by have:=hok.2.2.1;omega
  have hp4:p<=4:=by omega
  clear hok hpg;have hW':=zU hW;clear hW;have e:=h.s.e k hk;have A1:=e.a.ar;have A2:=e.k.ar;have c:=hv.cell;refine am ?_;have hc:Iu (m++(g1++(g2++(g3++Blk.cells true [[.int .i64 N,uw]]::(g4++[Blk.cells true [[.int .i64 N,v]]]))))).length g v ((N+63)/64) w:=hv.cast;have R:=hc.rd (G:=[.cells true [zQ (H.sp k) (va k) (vm k)]]);simp only [List.append_assoc,List.cons_append,List.nil_append] at R;have hww:=hW'.down.ww;have hwk:=hW'.down.ok;rw [hun'.down] at hww hwk;rw [hN] at hwk;simp only [zQ,hf,hp] at R;refine (zx5 (i:=f) (k:=p) R hww hwk (by omega) (by omega)).mono ?_;rintro r _ ⟨g6,v',rfl,c',hr⟩;clear R hww hwk hc;rcases hr with ⟨h2,rfl,hv'⟩|⟨h2,rfl⟩
  case inr=>
   have h2':=zU h2;clear h2;refine am ?_;exact ⟨.inr ⟨fun e=>by have:=(e.2.2.2.2.2.1 k hk).2;have:=h2'.down;omega,rfl⟩,_,rfl⟩
  by_cases h3:f<1
  ·have c3:((f:Int)<1)=True:=eq_true (by omega)
   have h3':=zU h3;clear h3 h2;refine am ?_;exact ⟨.inr ⟨fun e=>by have:=(e.2.2.2.2.2.1 k hk).1;have:=h3'.down;omega,rfl⟩,_,rfl⟩
  ·have c3:((f:Int)<1)=False:=eq_false (by omega)
   have h3':=zU (And.intro h3 h2);clear h3 h2;refine am ?_;refine ⟨(v',ziU w f p),zg,⟨_,rfl,.pre g (.pre [_] hv'.cast)⟩,hW'.down.next hf hp (by have:=h3'.down.1;omega) (by have:=h3'.down.2;omega)⟩
 ·rintro ⟨v,w⟩ fr _ F ⟨⟨g,rfl,hv⟩,hW⟩
  dsimp only at hv hW;have hW':=zU hW;clear hW;have hc:Iu (m++(g1++(g2++(g3++Blk.cells true [[.int .i64 N,uw]]::(g4++[Blk.cells true [[.int .i64 N,v]]]))))).length g v ((N+63)/64) w:=hv.cast;have R:=hc.rd (G:=[]);simp only [List.append_assoc,List.cons_append,List.nil_append,List.append_nil] at R;refine am ?_;refine (zn1 R h.u.app (by omega)).mono ?_;rintro _ _ ⟨rfl,rfl⟩;have hun:=hun'.down;have hW:=hW'.down;have key:((N+63)/64=H.us.n/\ ∀i,i<(N+63)/64->w i=H.us.w i)↔H.framed:=by
   rw [<-hun];obtain ⟨a1,a2,a3,a4⟩:=hW.ok;obtain ⟨b1,b2,b3,b4⟩:=k2.down;constructor
   ·rintro ⟨_,e⟩
    have e':=(zjH hW.ww h.wu).1 e;refine ⟨k1.down,k2.down,k3.down,by have:=h1'.down;omega,by rw [hN];exact k5.down,hW.s,fun i hi=> ?_⟩;rw [<-e' i (by omega)];exact hW.b i hi
   ·intro e
    refine ⟨rfl,(zjH hW.ww h.wu).2 fun i hi=> ?_⟩
    by_cases hiN:(i:Int)<H.us.N
    ·have x1:=hW.b i hiN
     have x2:=e.2.2.2.2.2.2 i hiN;cases h1:bit w i<;>cases h2:bit H.us.w i<;>simp_all
    ·rw [a4 i (by omega) hi,b4 i (by omega) hi]
  clear hun hW
  by_cases hf:H.framed
  ·rw [decide_eq_true (key.2 hf)]
   have hf':=zU hf;clear key hf;refine am ?_;exact ⟨.inl ⟨hf'.down,rfl⟩,_,rfl⟩
  ·rw [decide_eq_false (fun e=>hf (key.1 e))]
   have hf':=zU hf;clear key hf;refine am ?_;exact ⟨.inr ⟨hf'.down,rfl⟩,_,rfl⟩
theorem zmV {m:Mem}{aw uw sv:V}{va vm:Nat->V}{H:zm}(h:zbQ m aw uw sv va vm H):C S zhO [.agg (zy H aw uw sv)] m (fun r m'=>okB H.framed r/\Grow m m'):=by
 have A:=h.a.ar;have B:=h.u.ar;have D:=h.s.s.ar;have hls:=h.ls;refine fn rfl ?_;refine (zh7 h.a.app).mono ?_;rintro r _ ⟨hr,⟨g1,rfl⟩⟩;rcases hr with ⟨hr,rfl⟩|⟨hr,rfl⟩
 case inr=>
  have h':=zU hr;clear hr;refine am ?_;exact ⟨.inr ⟨fun e=>h'.down e.1,rfl⟩,_,rfl⟩
 have k1:=zU hr;clear hr;refine am ?_;refine (zh8 h.u.app h.wu h.lu).mono ?_;rintro r _ ⟨hr,⟨g2,rfl⟩⟩;rcases hr with ⟨hr,rfl⟩|⟨hr,rfl⟩
 case inr=>
  have h':=zU hr;clear hr;refine am ?_;exact ⟨.inr ⟨fun e=>h'.down e.2.1,rfl⟩,_,rfl⟩
 have k2:=zU hr;clear hr;refine am ?_;refine (zh6 h.s.app h.ls).mono ?_;rintro r _ ⟨hr,⟨g3,rfl⟩⟩;rcases hr with ⟨hr,rfl⟩|⟨hr,rfl⟩
 case inr=>
  have h':=zU hr;clear hr;refine am ?_;exact ⟨.inr ⟨fun e=>h'.down e.2.2.1,rfl⟩,_,rfl⟩
 have k3:=zU hr;clear hr
 by_cases h1:H.us.N<1
 ·refine am ?_
  exact ⟨.inr ⟨fun e=>by have:=e.2.2.2.1;omega,rfl⟩,_,rfl⟩
 have k2':=k2.down;obtain ⟨N,hN⟩: ∃N:Nat,H.us.N=N:=⟨H.us.N.toNat,by have:=k2'.1;omega⟩
 have hN4:N<=4096:=by have:=k2'.2.1;omega
 have hun:H.us.n=(N+63)/64:=by have:=k2'.2.2.1;omega
 clear k2';have w1:IntKind.i64.wrap ((N:Int)*16)=(N:Int)*16:=by rw [wrap_i64]<;>omega
 have e0:zy H aw uw sv=[aw,.int .i64 N,uw,sv]:=by simp only [zy,hN]
 have hun':=zU hun;have h1':=zU h1;have cN:((N:Int)<1)=False:=eq_false (by omega);clear hun h1
 by_cases h2:(H.na:Int)=(N:Int)*16
 case neg=>
  have h2':=zU h2;refine am ?_;exact ⟨.inr ⟨fun e=>h2'.down (by have:=e.2.2.2.2.1;rw [hN] at this;exact this),rfl⟩,_,rfl⟩
 have k5:=zU h2;clear h2;have c5:((H.na:Int)=(N:Int)*16)=True:=eq_true k5.down;refine am ?_;have hbig:PLift (∀i,i<N->i<64*H.us.n/\H.us.n<1000000):=⟨fun i hi=>by have:=hun'.down;omega⟩
 refine (zbh (i:=0) h.u.app h.wu (by have:=h1'.down;exact (hbig.down 0 (by omega)).1) (by have:=hun'.down;omega)).mono ?_;rintro _ _ ⟨rfl,⟨g4,rfl⟩⟩;cases hb0:bit H.us.w 0 with
 |false=>
  refine am ?_;refine ⟨.inr ⟨fun e=> ?_,rfl⟩,_,rfl⟩;have:=(e.2.2.2.2.2.2 0 (by have:=h1'.down;omega)).2 (.inl rfl);rw [hb0] at this;cases this
 |true=>
 refine am ?_;have spOk:PLift (∀k,k<H.ns->0<=(H.sp k).first/\(H.sp k).first<=1024/\1<=(H.sp k).pages/\(H.sp k).pages<=4):=⟨fun k hk=>by
  have hok:=(k3.down.2 k hk).1;have hpg:1<=(H.sp k).pages/\(H.sp k).pages<=4:=by rcases hok.1 with h|h<;>omega
  have:=hok.2.1;have:=hok.2.2.1;omega⟩
 let I:=fun (j:Nat) (fr:Frame) (M:Mem)=> ∃i:Nat,1<=i/\i<=N/\j=N-i/\Has fr [(1,.ptr m.length 0 0),(3,.int .i64 (i:Nat))]/\(∃g,M=m++ .cells true [[aw,.int .i64 N,uw,sv]]::g)/\ ∀k,1<=k->k<i->(bit H.us.w k=true↔zlt H.sp H.ns k)
 refine zO I ?_ (N-1) ⟨1,by omega,by have:=h1'.down;omega,rfl,zg,⟨_,rfl⟩,fun k h1 h2=>by omega⟩;rintro j fr _ ⟨i,hi1,hi,rfl,F,⟨g,rfl⟩,hk⟩;have hk':=zU hk;clear hk
 by_cases h4:i<N
 ·have c3:((i:Int)<(N:Int))=True:=eq_true (by omega)
  refine into ?_;refine range (α:=Bool) H.ns (fun b=>[(1,.ptr m.length 0 0),(3,.int .i64 (i:Nat)),(4,.bool b),(58,sv)])
   (fun k b M=>(∃g,M=m++ .cells true [[aw,.int .i64 N,uw,sv]]::g)/\(b=true↔zlt H.sp k i)) false ⟨⟨_,rfl⟩,by simp [zlt]⟩ ?_ ?_
  ·rintro k b fr _ hk F ⟨⟨g,rfl⟩,hb⟩
   have hb':=zU hb;clear hb;have e:=h.s.e k hk;have A1:=e.a.ar;have A2:=e.k.ar;have so:=spOk.down k hk;have w2:IntKind.i64.wrap ((H.sp k).first+(H.sp k).pages)=(H.sp k).first+(H.sp k).pages:=by rw [wrap_i64]<;>omega
   clear so;cases b with
   |true=>
    refine am ?_;refine ⟨true,zg,⟨_,rfl⟩,?_⟩;obtain ⟨j,h5,h6⟩:=hb'.down.1 rfl;exact ⟨fun _=>⟨j,by omega,h6⟩,fun _=>rfl⟩
   |false=>
    have hno:¬ zlt H.sp k i:=fun e=>by have:=hb'.down.2 e;cases this
    have hno':=zU hno;clear hno
    by_cases h5:(H.sp k).first<=(i:Int)
    ·by_cases h6:(i:Int)<(H.sp k).first+(H.sp k).pages
     ·refine am ?_
      exact ⟨true,zg,⟨_,rfl⟩,fun _=>⟨k,by omega,h5,h6⟩,fun _=>rfl⟩
     ·refine am ?_
      refine ⟨false,zg,⟨_,rfl⟩,fun e=>(by cases e),?_⟩;rintro ⟨j,e1,e2⟩
      by_cases e:j=k
      ·subst e;exact absurd e2.2 h6
      ·exact absurd ⟨j,by omega,e2⟩ hno'.down
    ·refine am ?_
     refine ⟨false,zg,⟨_,rfl⟩,fun e=>(by cases e),?_⟩;rintro ⟨j,e1,e2⟩
     by_cases e:j=k
     ·subst e;exact absurd e2.1 h5
     ·exact absurd ⟨j,by omega,e2⟩ hno'.down
  ·rintro b fr _ F ⟨⟨g,rfl⟩,hb⟩
   have hb':=zU hb;clear hb;refine am ?_;refine (zbh (i:=i) h.u.app h.wu (hbig.down i h4).1 (hbig.down i h4).2).mono ?_;rintro _ _ ⟨rfl,⟨g5,rfl⟩⟩;have w4:IntKind.i64.wrap ((i:Int)+1)=((i+1:Nat):Int):=by rw [wrap_i64]<;>omega
   by_cases hbb:bit H.us.w i=b
   ·have hbb':=zU hbb
    rw [hbb];clear hbb;have e1:decide (b=b)=true:=decide_eq_true rfl;refine am ?_;refine ⟨_,by omega,i+1,by omega,by omega,rfl,zg,⟨_,rfl⟩,fun k h5 h6=> ?_⟩
    by_cases e:k=i
    ·subst e;rw [hbb'.down];exact hb'.down
    ·exact hk'.down k h5 (by omega)
   ·have e1:decide (bit H.us.w i=b)=false:=decide_eq_false hbb
    have hbb':=zU hbb;clear hbb;refine am ?_;refine ⟨.inr ⟨fun e=>hbb'.down ?_,rfl⟩,_,rfl⟩;have h7:=e.2.2.2.2.2.2 i (by omega);have h8:bit H.us.w i=true↔b=true:=h7.trans ⟨fun e=>hb'.down.2 (e.resolve_left (by omega)),fun e=> .inr (hb'.down.1 e)⟩;cases h9:bit H.us.w i<;>cases b<;>simp_all
 ·have c3:((i:Int)<(N:Int))=False:=eq_false (by omega)
  refine into ?_;refine range (α:=Unit) H.ns (fun _=>[(1,.ptr m.length 0 0),(89,sv)])
   (fun k _ M=>(∃g,M=m++ .cells true [[aw,.int .i64 N,uw,sv]]::g)/\ ∀j,j<k->1<=(H.sp j).first/\(H.sp j).first+(H.sp j).pages<=N) () ⟨⟨_,rfl⟩,fun j hj=>absurd hj (Nat.not_lt_zero _)⟩ ?_ ?_
  ·rintro k ⟨⟩ fr _ hk F ⟨⟨g,rfl⟩,hj⟩
   have hj':=zU hj;clear hj;have e:=h.s.e k hk;have A1:=e.a.ar;have A2:=e.k.ar;have so:=spOk.down k hk;have w2:IntKind.i64.wrap ((H.sp k).first+(H.sp k).pages)=(H.sp k).first+(H.sp k).pages:=by rw [wrap_i64]<;>omega
   clear so
   by_cases h5:(H.sp k).first<1
   ·refine am ?_
    exact ⟨.inr ⟨fun e=>by have:=(e.2.2.2.2.2.1 k hk).1;omega,rfl⟩,_,rfl⟩
   by_cases h6:(N:Int)<(H.sp k).first+(H.sp k).pages
   ·refine am ?_
    exact ⟨.inr ⟨fun e=>by have:=(e.2.2.2.2.2.1 k hk).2;omega,rfl⟩,_,rfl⟩
   refine am ?_;refine ⟨(),zg,⟨_,rfl⟩,fun j hj=> ?_⟩
   by_cases e:j=k
   ·subst e;omega
   ·exact hj'.down j (by omega)
  ·rintro ⟨⟩ fr _ F ⟨⟨g,rfl⟩,hj⟩
   have hj':=zU hj;clear hj;refine am ?_;refine ⟨.inl ⟨⟨k1.down,k2.down,k3.down,by have:=h1'.down;omega,by rw [hN];exact k5.down,fun k hk=>by rw [hN];exact hj'.down k hk,fun k hk=> ?_⟩,rfl⟩,_,rfl⟩
   by_cases e:k=0
   ·subst e;exact ⟨fun _=> .inl rfl,fun _=>hb0⟩
   ·rw [hk'.down k (by omega) (by omega)]
    exact ⟨.inr,fun h=>h.resolve_left e⟩
end Go.AM.G
