import Derived.Test.YtfhbhfogcgfeeaaGreatDoorHpB
import Derived.Test.YtfhbhfogcgfeeaaGreatDoorAmRead
set_option linter.unusedVariables false
set_option linter.unusedSimpArgs false
set_option maxRecDepth 100000
namespace Go.AM.G
open Go Go.AM
structure zpn where
 N:Int
 n:Nat
 w:Nat->Nat
structure zak where
 first:Int
 pages:Int
 size:Int
 al:zpn
 mr:zpn
 swept:Bool
abbrev zaS (x:zak) (va vm:V):List V:=[.int .i64 x.first,.int .i64 x.pages,.int .i64 x.size,.int .i64 x.al.N,va,.int .i64 x.mr.N,vm,.bool x.swept]
def zpn.ok (b:zpn):Prop:=bitsOk b.N b.n b.w
def okB (P:Prop) (r:V):Prop:=(P/\r= .bool true)\/(¬ P/\r= .bool false)
def shaped (p s:Int):Prop:=(s=0/\2<=p/\p<=4)\/((s=2\/s=4\/s=8\/s=16)/\p=1)
def zdV (s:Int):Int:=if s=0 then 1 else if s=2 then 8 else if s=4 then 4 else if s=8 then 2 else 1
def zak.sub (x:zak):Prop:= ∀i:Nat,(i:Int)<x.mr.N->bit x.mr.w i=true->bit x.al.w i=true
def zak.ok (x:zak):Prop:=shaped x.pages x.size/\0<=x.first/\x.first+x.pages<=1024/\x.al.ok/\x.mr.ok/\x.al.N=zdV x.size/\x.mr.N=zdV x.size/\x.sub
structure zom (m:Mem) (x:zak) (va vm:V):Prop where
 a:Rd m va 1 x.al.n (zG x.al.w)
 k:Rd m vm 1 x.mr.n (zG x.mr.w)
 wa:w64 x.al.n x.al.w
 wk:w64 x.mr.n x.mr.w
 na:x.al.n<17592186044417
 nk:x.mr.n<17592186044417
theorem zom.app {m g:Mem}{x:zak}{va vm:V}(h:zom m x va vm):zom (m++g) x va vm:=⟨h.a.app,h.k.app,h.wa,h.wk,h.na,h.nk⟩
theorem zrN {m:Mem}{p s:Int}:C S zfV [.int .i64 p,.int .i64 s] m (fun r m'=>okB (shaped p s) r/\Grow m m'):=by
 have G:=Grow.refl m
 by_cases h0:s=0
 ·subst h0
  by_cases h1:2<=p
  ·by_cases h2:p<=4
   ·refine fn rfl ?_
    exact .inl ⟨.inl ⟨rfl,h1,h2⟩,rfl⟩
   ·refine fn rfl ?_
    exact .inr ⟨fun h=>by rcases h with h|h<;>omega,rfl⟩
  ·refine fn rfl ?_
   exact .inr ⟨fun h=>by rcases h with h|h<;>omega,rfl⟩
 by_cases h1:s=2\/s=4\/s=8\/s=16
 case neg=>
  obtain ⟨a1,a2,a3,a4⟩:¬ s=2/\¬ s=4/\¬ s=8/\¬ s=16:=by omega
  clear h1;refine fn rfl ?_;refine into ?_;exact .inr ⟨fun h=>by rcases h with h|h<;>omega,rfl⟩
 by_cases h2:p=1
 ·subst h2
  rcases h1 with rfl|rfl|rfl|rfl
  all_goals
   refine fn rfl ?_;refine into ?_;exact .inl ⟨.inr ⟨by omega,rfl⟩,rfl⟩
 ·rcases h1 with rfl|rfl|rfl|rfl
  all_goals
   refine fn rfl ?_;refine into ?_;exact .inr ⟨fun h=>by rcases h with h|h<;>omega,rfl⟩
theorem zs4 {m:Mem}{s:Int}(hs:s=0\/s=2\/s=4\/s=8\/s=16):C S zgT [.int .i64 s] m (fun r m'=>r= .int .i64 (zdV s)/\Grow m m'):=by
 have G:=Grow.refl m;have e1:IntKind.i64.wrap ((16:Int).tdiv 2)=8:=by decide
 have e2:IntKind.i64.wrap ((16:Int).tdiv 4)=4:=by decide
 have e3:IntKind.i64.wrap ((16:Int).tdiv 8)=2:=by decide
 have e4:IntKind.i64.wrap ((16:Int).tdiv 16)=1:=by decide
 rcases hs with rfl|rfl|rfl|rfl|rfl
 all_goals
  refine fn rfl ?_;trivial
theorem zxR {n:Nat}{a b:Nat->Nat}(hb:w64 n b):(∀j,j<n->a j &&& b j=b j)↔ ∀i,i<64*n->bit b i=true->bit a i=true:=by
 constructor
 ·intro h i hi hbi
  have h1:=h (i/64) (by omega);unfold bit at hbi ⊢;rw [<-h1,Nat.testBit_and,Bool.and_eq_true] at hbi;exact hbi.1
 ·intro h j hj
  apply Nat.eq_of_testBit_eq;intro k;rw [Nat.testBit_and]
  by_cases hk:k<64
  ·have:=h (64*j+k) (by omega)
   unfold bit at this;rw [show (64*j+k)/64=j by omega,show (64*j+k)%64=k by omega] at this;cases h1:(b j).testBit k with
   |false=>rw [Bool.and_false]
   |true=>rw [this h1,Bool.true_and]
  ·have:(b j).testBit k=false:=Nat.testBit_lt_two_pow (Nat.lt_of_lt_of_le (hb j hj) (by exact Nat.pow_le_pow_right (n:=2) (by decide) (show 64<=k by omega)))
   rw [this,Bool.and_false]
theorem zak.sub_iff {x:zak}(hk:x.mr.ok) (hn:x.al.n=x.mr.n) (hw:w64 x.mr.n x.mr.w):(∀j,j<x.mr.n->x.al.w j &&& x.mr.w j=x.mr.w j)↔x.sub:=by
 rw [zxR hw];obtain ⟨k1,k2,k3,k4⟩:=hk;constructor
 ·intro h i hi
  exact h i (by omega)
 ·intro h i hi hb
  by_cases h1:(i:Int)<x.mr.N
  ·exact h i h1 hb
  ·rw [k4 i (by omega) hi] at hb;cases hb
theorem zs5 {m:Mem}{x:zak}{va vm:V}(h:zom m x va vm):C S zeF [.agg (zaS x va vm)] m (fun r m'=>okB x.ok r/\Grow m m'):=by
 have A:=h.a.ar;have B:=h.k.ar;refine fn rfl ?_;refine zrN.mono ?_;rintro r _ ⟨hs,⟨g1,rfl⟩⟩;rw [zaK];rcases hs with ⟨hs,rfl⟩|⟨hs,rfl⟩
 case inr=>
  have h':¬ x.ok:=fun e=>hs e.1
  clear hs;refine am ?_;exact ⟨.inr ⟨id,rfl⟩,_,rfl⟩
 have hp:1<=x.pages/\x.pages<=4:=by rcases hs with h|h<;>omega
 have hsz:x.size=0\/x.size=2\/x.size=4\/x.size=8\/x.size=16:=by rcases hs with h|h<;>omega
 have hs':id (shaped x.pages x.size):=hs;clear hs
 by_cases h1:x.first<0
 ·have h':¬ x.ok:=fun e=>by have:=e.2.1;omega
  clear hp hsz;refine am ?_;exact ⟨.inr ⟨id,rfl⟩,_,rfl⟩
 have w1:IntKind.i64.wrap (1024-x.pages)=1024-x.pages:=by rw [wrap_i64]<;>omega
 by_cases h2:1024-x.pages<x.first
 ·have h':¬ x.ok:=fun e=>by have:=e.2.2.1;omega
  clear hp hsz;refine am ?_;exact ⟨.inr ⟨id,rfl⟩,_,rfl⟩
 have h3:id (0<=x.first/\x.first+x.pages<=1024):=⟨by omega,by omega⟩
 have hsz':id (x.size=0\/x.size=2\/x.size=4\/x.size=8\/x.size=16):=hsz;clear hp hsz;refine am ?_;refine (zs4 hsz').mono ?_;rintro _ _ ⟨rfl,⟨g2,rfl⟩⟩;rw [zaK];refine am ?_;refine (zvd h.a.app h.k.app h.wa h.wk h.na h.nk).mono ?_;rintro r _ ⟨g3,rfl,hr⟩;rw [zaK];rcases hr with ⟨k1,k2,k3,v',rfl,hv'⟩|⟨hno,rfl⟩
 case inr=>
  have h':¬ x.ok:=fun e=>hno ⟨e.2.2.2.1,e.2.2.2.2.1,by have:=e.2.2.2.2.2.1;have:=e.2.2.2.2.2.2.1;omega⟩
  clear hno;refine am ?_;exact ⟨.inr ⟨id,rfl⟩,_,rfl⟩
 have c':=hv'.cell;have k12:id (x.al.ok/\x.mr.ok):=⟨k1,k2⟩
 have hnn:x.al.n=x.mr.n:=by have:=k1.2.2.1;have:=k2.2.2.1;omega
 clear k1 k2
 by_cases h4:x.al.N=zdV x.size
 case neg=>
  have h':¬ x.ok:=fun e=>h4 e.2.2.2.2.2.1
  clear k3 hnn;refine am ?_;exact ⟨.inr ⟨id,rfl⟩,_,rfl⟩
 have h5:x.mr.N=zdV x.size:=by omega
 have R:=hv'.rd (G:=[Blk.cells true [[V.int .i64 x.al.N,v']]]);simp only [List.append_assoc,List.cons_append] at R;have hsub:=zak.sub_iff k12.2 hnn h.wk;have h4':id (x.al.N=zdV x.size/\x.mr.N=zdV x.size):=⟨h4,h5⟩
 have e4:(x.al.N=zdV x.size)=True:=eq_true h4;have e5:(x.mr.N=zdV x.size)=True:=eq_true h5;have hnn':id (x.al.n=x.mr.n):=hnn;clear h4 h5 k3 hnn;refine am ?_;refine (zm4 R h.k.app (by have:=h.na;exact this)).mono ?_;rintro _ _ ⟨rfl,rfl⟩;rw [zaK];have hnn:x.al.n=x.mr.n:=hnn'
 by_cases hf:x.sub
 ·have h':id x.ok:=⟨hs',h3.1,h3.2,k12.1,k12.2,h4'.1,h4'.2,hf⟩
  rw [decide_eq_true (show x.al.n=x.mr.n/\ ∀i,i<x.al.n->x.al.w i &&& x.mr.w i=x.mr.w i from ⟨hnn,fun j hj=>hsub.2 hf j (by omega)⟩)];clear hsub hf hnn;refine am ?_;exact ⟨.inl ⟨h',rfl⟩,_,rfl⟩
 ·have h':¬ x.ok:=fun e=>hf e.2.2.2.2.2.2.2
  rw [decide_eq_false (show ¬ (x.al.n=x.mr.n/\ ∀i,i<x.al.n->x.al.w i &&& x.mr.w i=x.mr.w i) from fun e=>hf (hsub.1 fun j hj=>e.2 j (by omega)))];clear hsub hf hnn;refine am ?_;exact ⟨.inr ⟨id,rfl⟩,_,rfl⟩
structure znv (m:Mem) (sv:V) (n:Nat) (sp:Nat->zak) (va vm:Nat->V):Prop where
 s:Rd m sv 8 n (fun i=>zaS (sp i) (va i) (vm i))
 e: ∀i,i<n->zom m (sp i) (va i) (vm i)
theorem znv.app {m g:Mem}{sv:V}{n:Nat}{sp:Nat->zak}{va vm:Nat->V}(h:znv m sv n sp va vm):znv (m++g) sv n sp va vm:=⟨h.s.app,fun i hi=>(h.e i hi).app⟩
def ziv (n:Nat) (sp:Nat->zak):Prop:=n<=256/\ ∀i,i<n->(sp i).ok/\(0<i->(sp (i-1)).first+(sp (i-1)).pages<=(sp i).first)
theorem zwW {m:Mem}{x:zak}{va vm:V}(ha:va.isCell=true) (hb:vm.isCell=true) (h:x.ok):C S zgS [.agg (zaS x va vm)] m (fun r m'=>r= .int .i64 (x.first+x.pages)/\Grow m m'):=by
 have w:IntKind.i64.wrap (x.first+x.pages)=x.first+x.pages:=by
  have:=h.1;have:=h.2.1;have:=h.2.2.1;have:1<=x.pages/\x.pages<=4:=by rcases h.1 with h|h<;>omega
  rw [wrap_i64]<;>omega
 clear h;refine fn rfl ?_;exact (Grow.refl _).app
theorem zkS {m:Mem}{sv:V}{n:Nat}{sp:Nat->zak}{va vm:Nat->V}(h:znv m sv n sp va vm) (hn:n<17592186044417):C S zeE [sv] m (fun r m'=>okE (ziv n sp) r/\Grow m m'):=by
 have A:=h.s.ar
 by_cases h1:256<n
 ·have c1:((256:Int)<(n:Int))=True:=eq_true (by omega)
  have h2:¬ ziv n sp:=fun e=>by have:=e.1;omega
  clear h1;refine fn rfl ?_;exact ⟨.inr ⟨id,rfl⟩,Grow.refl _⟩
 have c1:((256:Int)<(n:Int))=False:=eq_false (by omega);refine fn rfl ?_;refine range (α:=Unit) n (fun _=>[(0,sv),(8,sv)]) (fun k _ M=>(∃g,M=m++g)/\ ∀i,i<k->(sp i).ok/\(0<i->(sp (i-1)).first+(sp (i-1)).pages<=(sp i).first)) () ⟨⟨[],by simp⟩,fun i hi=>absurd hi (Nat.not_lt_zero _)⟩ ?_ ?_
 ·rintro k ⟨⟩ fr _ hk F ⟨⟨g,rfl⟩,hj⟩
  have hj':id (∀i,i<k->(sp i).ok/\(0<i->(sp (i-1)).first+(sp (i-1)).pages<=(sp i).first)):=hj;clear hj;have e:=h.e k hk;have A1:=e.a.ar;have A2:=e.k.ar;refine am ?_;refine (zs5 e.app).mono ?_;rintro r _ ⟨hr,⟨g2,rfl⟩⟩;rcases hr with ⟨hr,rfl⟩|⟨hr,rfl⟩
  case inr=>
   have h2:¬ ziv n sp:=fun e=>hr (e.2 k hk).1
   clear hr;refine am ?_;exact ⟨.inr ⟨id,rfl⟩,_,rfl⟩
  have hr':id (sp k).ok:=hr;clear hr
  by_cases h0:0<k
  ·have c2:((0:Int)<(k:Int))=True:=eq_true (by omega)
   have w1:IntKind.i64.wrap ((k:Int)-1)=((k-1:Nat):Int):=by rw [wrap_i64]<;>omega
   have hk1:k-1<n:=by omega
   have e2:=h.e (k-1) hk1;have B1:=e2.a.ar;have B2:=e2.k.ar;have hp:=(hj' (k-1) (by omega)).1;have hp':id (sp (k-1)).ok:=hp;clear hp;refine am ?_;refine (zwW B1.2.1 B2.2.1 hp').mono ?_;rintro _ _ ⟨rfl,⟨g3,rfl⟩⟩
   by_cases h3:(sp k).first<(sp (k-1)).first+(sp (k-1)).pages
   ·have h2:¬ ziv n sp:=fun e=>by have:=(e.2 k hk).2 h0;omega
    refine am ?_;exact ⟨.inr ⟨id,rfl⟩,_,rfl⟩
   ·refine am ?_
    refine ⟨(),zh,⟨_,rfl⟩,fun i hi=> ?_⟩
    by_cases hik:i=k
    ·subst hik;exact ⟨hr',fun _=>by omega⟩
    ·exact hj' i (by omega)
  ·have c2:((0:Int)<(k:Int))=False:=eq_false (by omega)
   refine am ?_;refine ⟨(),zh,⟨_,rfl⟩,fun i hi=> ?_⟩
   by_cases hik:i=k
   ·subst hik;exact ⟨hr',fun h=>absurd h h0⟩
   ·exact hj' i (by omega)
 ·rintro ⟨⟩ fr _ F ⟨⟨g,rfl⟩,hj⟩
  have h2:id (ziv n sp):=⟨by omega,hj⟩
  clear hj;refine am ?_;exact ⟨.inl ⟨h2,rfl⟩,_,rfl⟩
theorem zkT {m:Mem}{v:V}{z n:Nat}{f:Nat->List V}(hv:Rd m v z n f):C S zi1 [.agg [v]] m (fun r m'=>okE (n<=16384) r/\Grow m m'):=by
 have A:=hv.ar
 by_cases h1:16384<n
 ·have c1:((16384:Int)<(n:Int))=True:=eq_true (by omega)
  refine fn rfl ?_;exact ⟨.inr ⟨by omega,rfl⟩,(Grow.refl _).app⟩
 ·have c1:((16384:Int)<(n:Int))=False:=eq_false (by omega)
  refine fn rfl ?_;exact ⟨.inl ⟨by omega,rfl⟩,(Grow.refl _).app⟩
theorem zkU {m:Mem}{v:V}{n:Nat}{w:Nat->Nat}{N:Int}(hv:Rd m v 1 n (zG w)) (hw:w64 n w) (hn:n<17592186044417):C S zfT [.agg [.int .i64 N,v]] m (fun r m'=>okE (bitsOk N n w) r/\Grow m m'):=by
 have A:=hv.ar;refine fn rfl ?_;refine (zbM hv.app hw hn).mono ?_;rintro r _ ⟨h,⟨g,rfl⟩⟩;refine am ?_;exact ⟨_,rfl⟩
theorem zrO (s:Int):1<=zdV s/\zdV s<=8:=by
  unfold zdV;repeat' split
  all_goals omega
structure zl where
 na:Nat
 a:Nat->Nat
 us:zpn
 ns:Nat
 sp:Nat->zak
structure zcY (m:Mem) (aw uw sv:V) (va vm:Nat->V) (H:zl):Prop where
 a:Rd m aw 1 H.na (zG H.a)
 u:Rd m uw 1 H.us.n (zG H.us.w)
 s:znv m sv H.ns H.sp va vm
 wa:w64 H.na H.a
 wu:w64 H.us.n H.us.w
 la:H.na<17592186044417
 lu:H.us.n<17592186044417
 ls:H.ns<17592186044417
 ca:ziN aw
theorem zcY.app {m g:Mem}{aw uw sv:V}{va vm:Nat->V}{H:zl}(h:zcY m aw uw sv va vm H):zcY (m++g) aw uw sv va vm H:=⟨h.a.app,h.u.app,h.s.app,h.wa,h.wu,h.la,h.lu,h.ls,h.ca⟩
abbrev zB (H:zl) (aw uw sv:V):List V:=[aw,.int .i64 H.us.N,uw,sv]
def zwX (sp:Nat->zak) (k i:Nat):Prop:= ∃j,j<k/\(sp j).first<=(i:Int)/\(i:Int)<(sp j).first+(sp j).pages
def zl.framed (H:zl):Prop:=H.na<=16384/\H.us.ok/\ziv H.ns H.sp/\1<=H.us.N/\(H.na:Int)=H.us.N*16/\(∀k,k<H.ns->1<=(H.sp k).first/\(H.sp k).first+(H.sp k).pages<=H.us.N)/\ ∀i:Nat,(i:Int)<H.us.N->(bit H.us.w i=true↔i=0\/zwX H.sp H.ns i)
theorem zuv {N:Int}{n i:Nat}{w:Nat->Nat}{b:Bool}(h:bitsOk N n w) (hw:w64 n w) (hi:(i:Int)<N):bitsOk N n (za7 w i b):=by
 obtain ⟨h1,h2,h3,h4⟩:=h;refine ⟨h1,h2,h3,fun k hk hk2=> ?_⟩;rw [za9 hw (by omega),if_neg (by omega)];exact h4 k hk hk2
theorem zrP {N:Int}{n i:Nat}{w:Nat->Nat}(h:bitsOk N n w) (hw:w64 n w): ∀k,((i+k:Nat):Int)<=N->bitsOk N n (ziV w i k)
 |0,_=>h
 |k+1,hi=>zuv (zrP h hw k (by omega)) (zgd hw k) (by omega)
theorem zuw (N:Nat) (h:N<=4096):bitsOk N ((N+63)/64) (fun _=>0):=⟨by omega,by omega,by omega,fun i _ _=>by simp [bit]⟩
theorem zjA {n:Nat}{a b:Nat->Nat}(ha:w64 n a) (hb:w64 n b):(∀i,i<n->a i=b i)↔ ∀i,i<64*n->bit a i=bit b i:=by
 constructor
 ·intro h i hi
  unfold bit;rw [h (i/64) (by omega)]
 ·intro h j hj
  apply Nat.eq_of_testBit_eq;intro k
  by_cases hk:k<64
  ·have:=h (64*j+k) (by omega)
   unfold bit at this
   rwa [show (64*j+k)/64=j by omega,show (64*j+k)%64=k by omega] at this
  ·have z: ∀{x:Nat},x<18446744073709551616->x.testBit k=false:=fun h=>Nat.testBit_lt_two_pow (Nat.lt_of_lt_of_le h (by exact Nat.pow_le_pow_right (n:=2) (by decide) (show 64<=k by omega)))
   rw [z (ha j hj),z (hb j hj)]
structure Want (H:zl) (k:Nat) (w:Nat->Nat):Prop where
 ww:w64 H.us.n w
 ok:bitsOk H.us.N H.us.n w
 b: ∀i:Nat,(i:Int)<H.us.N->(bit w i=true↔i=0\/zwX H.sp k i)
 s: ∀j,j<k->1<=(H.sp j).first/\(H.sp j).first+(H.sp j).pages<=H.us.N
theorem Want.next {H:zl}{k:Nat}{w:Nat->Nat}{f p:Nat}(h:Want H k w) (hf:(H.sp k).first=f) (hp:(H.sp k).pages=p) (h1:1<=f) (h2:((f+p:Nat):Int)<=H.us.N):Want H (k+1) (ziV w f p):=by
 obtain ⟨a1,a2,a3,a4⟩:=h.ok;refine ⟨zgd h.ww p,zrP h.ok h.ww p h2,fun i hi=> ?_,fun j hj=> ?_⟩
 ·rw [zo1 h.ww p (by omega),Bool.or_eq_true,decide_eq_true_eq,h.b i hi]
  constructor
  ·rintro (e|e|⟨j,e1,e2,e3⟩)
   ·exact .inr ⟨k,by omega,by omega,by omega⟩
   ·exact .inl e
   ·exact .inr ⟨j,by omega,e2,e3⟩
  ·rintro (e|⟨j,e1,e2,e3⟩)
   ·exact .inr (.inl e)
   ·by_cases e:j=k
    ·subst e;exact .inl ⟨by omega,by omega⟩
    ·exact .inr (.inr ⟨j,by omega,e2,e3⟩)
 ·by_cases e:j=k
  ·subst e;omega
  ·exact h.s j (by omega)
theorem zrQ {m:Mem}{P:Nat}{own:Bool}{aw uw sv ov:V}{va vm:Nat->V}{H:zl}(h:zcY m aw uw sv va vm H) (hP:m[P]? =some (.cells own [[aw,.int .i64 H.us.N,uw,sv,ov]])):C S zer [.ptr P 0 0] m (fun r m'=>okB H.framed r/\Grow m m'):=by
 have A:=h.a.ar;have B:=h.u.ar;have D:=h.s.s.ar;refine fn rfl ?_;refine (zkT h.a).mono ?_;rintro r _ ⟨hr,⟨g1,rfl⟩⟩;rcases hr with ⟨hr,rfl⟩|⟨hr,rfl⟩
 case inr=>
  have h':=zU hr;clear hr;refine am ?_;exact ⟨.inr ⟨fun e=>h'.down e.1,rfl⟩,_,rfl⟩
 have k1:=zU hr;clear hr;refine am ?_;refine (zkU h.u.app h.wu h.lu).mono ?_;rintro r _ ⟨hr,⟨g2,rfl⟩⟩;rcases hr with ⟨hr,rfl⟩|⟨hr,rfl⟩
 case inr=>
  have h':=zU hr;clear hr;refine am ?_;exact ⟨.inr ⟨fun e=>h'.down e.2.1,rfl⟩,_,rfl⟩
 have k2:=zU hr;clear hr;refine am ?_;refine (zkS h.s.app h.ls).mono ?_;rintro r _ ⟨hr,⟨g3,rfl⟩⟩;rcases hr with ⟨hr,rfl⟩|⟨hr,rfl⟩
 case inr=>
  have h':=zU hr;clear hr;refine am ?_;exact ⟨.inr ⟨fun e=>h'.down e.2.2.1,rfl⟩,_,rfl⟩
 have k3:=zU hr;clear hr
 by_cases h1:H.us.N<1
 ·refine am ?_
  exact ⟨.inr ⟨fun e=>by have:=e.2.2.2.1;omega,rfl⟩,_,rfl⟩
 have k2':=k2.down;obtain ⟨N,hN⟩: ∃N:Nat,H.us.N=N:=⟨H.us.N.toNat,by have:=k2'.1;omega⟩
 have hN4:N<=4096:=by have:=k2'.2.1;omega
 have hun:H.us.n=(N+63)/64:=by have:=k2'.2.2.1;omega
 clear k2';have w1:IntKind.i64.wrap ((N:Int)*16)=(N:Int)*16:=by rw [wrap_i64]<;>omega
 have hun':=zU hun;have h1':=zU h1;have cN:((N:Int)<1)=False:=eq_false (by omega);clear hun h1
 by_cases h2:(H.na:Int)=(N:Int)*16
 case neg=>
  have h2':=zU h2;refine am ?_;exact ⟨.inr ⟨fun e=>h2'.down (by have:=e.2.2.2.2.1;rw [hN] at this;exact this),rfl⟩,_,rfl⟩
 have k5:=zU h2;clear h2;have c5:((H.na:Int)=(N:Int)*16)=True:=eq_true k5.down;refine am ?_;refine (zvb hN4).mono ?_;rintro _ _ ⟨g4,v1,rfl,rfl,hv1⟩;have c1:=hv1.cell;refine am ?_;have R:=hv1.rd (G:=[.cells true [[.int .i64 N,v1]]]);simp only [List.append_assoc,List.cons_append,List.nil_append] at R;refine (zwV (i:=0) (b:=true) (w:=fun _=>0) (n:=(N+63)/64) (N:=(N:Nat)) R (fun i _=>Nat.zero_lt_succ _) (zuw N hN4) (by show (0:Int)<N;have:=h1'.down;omega)).mono ?_;rintro _ _ ⟨g5,v2,rfl,rfl,hv2⟩;have c2:=hv2.cell;clear R;refine am ?_;have hun:=hun'.down;have hW1:Want H 0 (za7 (fun _=>0) 0 true):=by
  have z:w64 ((N+63)/64) (fun _=>0):=fun i _=>Nat.zero_lt_succ _
  have hN1:1<=N:=by have:=h1'.down;omega
  refine ⟨hun▸zhS z,by rw [hN,hun];exact zuv (zuw N hN4) z (by omega),fun i hi=> ?_,fun j hj=>absurd hj (Nat.not_lt_zero _)⟩;rw [za9 z (by omega)]
  by_cases e:i=0
  ·subst e;simp
  ·rw [if_neg e]
   have:bit (fun _=>0) i=false:=by simp [bit]
   rw [this];exact ⟨fun h=>by (cases h),fun h=>by rcases h with h|⟨j,h,_⟩;exact absurd h e;omega⟩
 have hW1':=zU hW1;clear hun hW1;have hls:=h.ls;refine range (α:=V×(Nat->Nat)) H.ns (fun _=>[(0,.ptr P 0 0),(3,.ptr (m.length+(g1.length+(g2.length+g3.length))) 0 0),(4,.ptr (m.length+(g1.length+(g2.length+(g3.length+(g4.length+1))))) 0 0),(71,sv)])
  (fun k x M=>(∃g,M=m++(g1++(g2++(g3++ .cells true [[.int .i64 N,uw]]::(g4++ .cells true [[.int .i64 N,x.1]]::g))))/\Iu (m.length+(g1.length+(g2.length+(g3.length+(g4.length+1))))+1) g x.1 ((N+63)/64) x.2)/\Want H k x.2) (v2,za7 (fun _=>0) 0 true) ⟨⟨g5,rfl,hv2.cast⟩,hW1'.down⟩ ?_ ?_
 ·rintro k ⟨v,w⟩ fr _ hk F ⟨⟨g,rfl,hv⟩,hW⟩
  dsimp only at hv hW;have hok:=(k3.down.2 k hk).1;obtain ⟨f,hf⟩: ∃f:Nat,(H.sp k).first=f:=⟨(H.sp k).first.toNat,by have:=hok.2.1;omega⟩
  have hpg:1<=(H.sp k).pages/\(H.sp k).pages<=4:=by rcases hok.1 with h|h<;>omega
  obtain ⟨p,hp⟩: ∃p:Nat,(H.sp k).pages=p:=⟨(H.sp k).pages.toNat,by omega⟩
  have hfp:f+p<=1024:=by have:=hok.2.2.1;omega
  have hp4:p<=4:=by omega
  clear hok hpg;have hW':=zU hW;clear hW;have e:=h.s.e k hk;have A1:=e.a.ar;have A2:=e.k.ar;have c:=hv.cell;refine am ?_;have hc:Iu (m++(g1++(g2++(g3++Blk.cells true [[.int .i64 N,uw]]::(g4++[Blk.cells true [[.int .i64 N,v]]]))))).length g v ((N+63)/64) w:=hv.cast;have R:=hc.rd (G:=[.cells true [zaS (H.sp k) (va k) (vm k)]]);simp only [List.append_assoc,List.cons_append,List.nil_append] at R;have hww:=hW'.down.ww;have hwk:=hW'.down.ok;rw [hun'.down] at hww hwk;rw [hN] at hwk;simp only [zaS,hf,hp] at R;refine (zvc (i:=f) (k:=p) R hww hwk (by omega) (by omega)).mono ?_;rintro r _ ⟨g6,v',rfl,c',hr⟩;clear R hww hwk hc;rcases hr with ⟨h2,rfl,hv'⟩|⟨h2,rfl⟩
  case inr=>
   have h2':=zU h2;clear h2;refine am ?_;exact ⟨.inr ⟨fun e=>by have:=(e.2.2.2.2.2.1 k hk).2;have:=h2'.down;omega,rfl⟩,_,rfl⟩
  by_cases h3:f<1
  ·have c3:((f:Int)<1)=True:=eq_true (by omega)
   have h3':=zU h3;clear h3 h2;refine am ?_;exact ⟨.inr ⟨fun e=>by have:=(e.2.2.2.2.2.1 k hk).1;have:=h3'.down;omega,rfl⟩,_,rfl⟩
  ·have c3:((f:Int)<1)=False:=eq_false (by omega)
   have h3':=zU (And.intro h3 h2);clear h3 h2;refine am ?_;refine ⟨(v',ziV w f p),zh,⟨_,rfl,.pre g (.pre [_] hv'.cast)⟩,hW'.down.next hf hp (by have:=h3'.down.1;omega) (by have:=h3'.down.2;omega)⟩
 ·rintro ⟨v,w⟩ fr _ F ⟨⟨g,rfl,hv⟩,hW⟩
  dsimp only at hv hW;have hW':=zU hW;clear hW;have hc:Iu (m++(g1++(g2++(g3++Blk.cells true [[.int .i64 N,uw]]::(g4++[Blk.cells true [[.int .i64 N,v]]]))))).length g v ((N+63)/64) w:=hv.cast;have R:=hc.rd (G:=[]);simp only [List.append_assoc,List.cons_append,List.nil_append,List.append_nil] at R;refine am ?_;refine (zm4 R h.u.app (by omega)).mono ?_;rintro _ _ ⟨rfl,rfl⟩;have hun:=hun'.down;have hW:=hW'.down;have key:((N+63)/64=H.us.n/\ ∀i,i<(N+63)/64->w i=H.us.w i)↔H.framed:=by
   rw [<-hun];obtain ⟨a1,a2,a3,a4⟩:=hW.ok;obtain ⟨b1,b2,b3,b4⟩:=k2.down;constructor
   ·rintro ⟨_,e⟩
    have e':=(zjA hW.ww h.wu).1 e;refine ⟨k1.down,k2.down,k3.down,by have:=h1'.down;omega,by rw [hN];exact k5.down,hW.s,fun i hi=> ?_⟩;rw [<-e' i (by omega)];exact hW.b i hi
   ·intro e
    refine ⟨rfl,(zjA hW.ww h.wu).2 fun i hi=> ?_⟩
    by_cases hiN:(i:Int)<H.us.N
    ·have x1:=hW.b i hiN
     have x2:=e.2.2.2.2.2.2 i hiN;cases h1:bit w i<;>cases h2:bit H.us.w i<;>simp_all
    ·rw [a4 i (by omega) hi,b4 i (by omega) hi]
  clear hun hW
  by_cases hf:H.framed
  ·rw [decide_eq_true (key.2 hf)]
   have hf':=zU hf;clear key hf;refine am ?_;exact ⟨.inl ⟨hf'.down,rfl⟩,_,rfl⟩
  ·rw [decide_eq_false (fun e=>hf (key.1 e))]
   have hf':=zU hf;clear key hf;refine am ?_;exact ⟨.inr ⟨hf'.down,rfl⟩,_,rfl⟩
end Go.AM.G
