import Derived.Test.YtfhbhfogcgfeeaaGreatDoorHuJ
set_option linter.unusedVariables false
set_option linter.unusedSimpArgs false
set_option maxRecDepth 100000
namespace Go.AM.G
open Go Go.AM
def zpw (M:Nat):Nat->Nat->Option Nat
 |0,_=>none
 |k+1,f=>if M.testBit f=true then some f else zpw M k (f+1)
def zfd (M N f:Nat):Option Nat:=zpw M (N-f) f
theorem znL {M:Nat}: ∀{k f g:Nat},zpw M k f=some g->f<=g/\g<f+k/\M.testBit g=true/\ ∀j,f<=j->j<g->M.testBit j=false
 |0,_,_,h=>by cases h
 |k+1,f,g,h=>by
  unfold zpw at h
  split at h
  ·rename_i hb
   cases h;exact ⟨Nat.le_refl _,by omega,hb,fun j h1 h2=>by omega⟩
  ·rename_i hb
   obtain ⟨h1,h2,h3,h4⟩:=znL h;refine ⟨by omega,by omega,h3,fun j h5 h6=> ?_⟩
   by_cases e:j=f
   ·subst e;simpa using hb
   ·exact h4 j (by omega) h6
theorem zjF {M:Nat}: ∀{k f:Nat},zpw M k f=none-> ∀j,f<=j->j<f+k->M.testBit j=false
 |0,f,_,j,h1,h2=>by omega
 |k+1,f,h,j,h1,h2=>by
  unfold zpw at h
  split at h
  ·cases h
  ·rename_i hb
   by_cases e:j=f
   ·subst e;simpa using hb
   ·exact zjF h j (by omega) (by omega)
theorem zd0 {M N f g:Nat}(h:zfd M N f=some g):f<=g/\g<N/\M.testBit g=true/\ ∀j,f<=j->j<g->M.testBit j=false:=by
 obtain ⟨h1,h2,h3,h4⟩:=znL h;exact ⟨h1,by omega,h3,h4⟩
def zxh (x:Option Nat):V:=
 match x with
 |some g=> .tup [.int .i64 (g:Nat),.int .i64 0]
 |none=> .tup [.int .i64 0,.int .i64 3]
theorem znM {M f j:Nat}:(M >>> f <<< f).testBit j=(decide (f<=j)&&M.testBit j):=by
 rw [Nat.testBit_shiftLeft,Nat.testBit_shiftRight]
 by_cases h:f<=j
 ·simp [h,show f+(j-f)=j by omega]
 ·simp [h]
theorem zxX {x:Nat}(h0:x≠0) (hx:x<2^64):x.testBit (Lib.ctz 64 x)=true/\Lib.ctz 64 x<64/\ ∀j,j<Lib.ctz 64 x->x.testBit j=false:=by
 obtain ⟨m,hm,hk⟩:=Lib.ctzFrom_spec 64 x (by omega) hx;have e:Lib.ctz 64 x=Lib.ctzFrom 64 x:=by simp [Lib.ctz,h0]
 rw [e]
 generalize Lib.ctzFrom 64 x=k at hm hk ⊢
 subst hm;refine ⟨?_,hk,fun j hj=> ?_⟩
 ·rw [Nat.testBit_two_pow_mul]
  simp [Nat.testBit_zero]
 ·rw [Nat.testBit_two_pow_mul]
  simp;omega
theorem zvx {M N f:Nat}(hs:M<2^N) (hN:N<=48):(M >>> f <<< f=0->zfd M N f=none)/\(M >>> f <<< f≠0->zfd M N f=some (Lib.ctz 64 (M >>> f <<< f))):=by
 have hle:M >>> f <<< f<=M:=by
  rw [Nat.shiftLeft_eq,Nat.shiftRight_eq_div_pow];exact Nat.div_mul_le_self _ _
 have h48:(2:Nat)^N<=2^48:=Nat.pow_le_pow_right (by decide) hN;have hz: ∀j,N<=j->M.testBit j=false:=fun j hj=>Nat.testBit_lt_two_pow (Nat.lt_of_lt_of_le hs (Nat.pow_le_pow_right (by decide) hj))
 constructor
 ·intro h0
  cases hn:zfd M N f with
  |none=>rfl
  |some g=>
   obtain ⟨h1,h2,h3,h4⟩:=zd0 hn;have:=znM (M:=M) (f:=f) (j:=g);rw [h0] at this;simp [h1,h3] at this
 ·intro h0
  obtain ⟨b1,b2,b3⟩:=zxX h0 (Nat.lt_of_le_of_lt hle (Nat.lt_of_lt_of_le hs (Nat.le_trans h48 (by decide))))
  generalize Lib.ctz 64 (M >>> f <<< f)=c at b1 b2 b3 ⊢
  rw [znM] at b1;simp only [Bool.and_eq_true,decide_eq_true_eq] at b1;have hcN:c<N:=by
   apply Classical.byContradiction;intro h;have:=hz c (by omega);rw [this] at b1;cases b1.2
  cases hn:zfd M N f with
  |none=>
   have:=zjF hn c b1.1 (by omega);rw [this] at b1;cases b1.2
  |some g=>
   obtain ⟨h1,h2,h3,h4⟩:=zd0 hn;have e1:¬ c<g:=fun h=>by rw [h4 c b1.1 h] at b1;cases b1.2
   have e2:¬ g<c:=fun h=>by
    have:=b3 g h;rw [znM] at this;simp [h1,h3] at this
   rw [show g=c by omega]
theorem zBs {a k:Nat}(hk:k<64) (h:a <<< k<18446744073709551616):shI .shl .u64 (a:Int) (k:Int)=some (.int .u64 ((a <<< k:Nat):Int)):=by
 unfold shI;rw [if_neg (by omega)];have e:Nat.min (k:Int).toNat IntKind.u64.bits=k:=by
  show Nat.min (k:Int).toNat 64=k;rw [Int.toNat_natCast];exact Nat.min_eq_left (by omega)
 have e2:(a:Int)*2^k=((a <<< k:Nat):Int):=by rw [Nat.shiftLeft_eq];simp
 simp only [e,e2,un' h]
theorem zxY {m:Mem}{n:Nat}(hn:n<18446744073709551616):C S zR [.int .u64 (n:Nat)] m (fun r m'=>r= .int .i64 ((Go.Lib.ctz 64 n:Nat):Int)/\m'=m):=by
 refine ⟨1,_,_,?_,rfl,rfl⟩;show tTz [.int .u64 (n:Int)] m=_;simp only [tTz];rw [if_pos ⟨by omega,by omega⟩];simp
theorem znN {m:Mem}{N f M:Nat}(hs:zqc N M) (hf:f<=N):C S zlx [.agg [.int .i64 (N:Nat),.int .u64 (M:Nat)],.int .i64 (f:Nat)] m (fun r m'=>r=zxh (zfd M N f)/\Grow m m'):=by
 have hN:N<=48:=by have:=hs.2.1;omega
 have hM2:M<2^N:=by have:=hs.2.2;rwa [Int.toNat_natCast] at this
 have hM:M<18446744073709551616:=Nat.lt_of_lt_of_le hM2 (Nat.le_trans (Nat.pow_le_pow_right (by decide) hN) (by decide));have hle:M >>> f <<< f<=M:=by
  rw [Nat.shiftLeft_eq,Nat.shiftRight_eq_div_pow];exact Nat.div_mul_le_self _ _
 obtain ⟨l1,l2⟩:=zvx (f:=f) hM2 hN;have sr:=zrc (w:=M) (k:=f) hM (by omega);have sl:=zBs (a:=M >>> f) (k:=f) (by omega) (by omega);obtain ⟨L,eL⟩: ∃L,M >>> f <<< f=L:=⟨_,rfl⟩
 have hL:L<18446744073709551616:=by omega
 rw [eL] at sl l1 l2;obtain ⟨Q,eQ⟩: ∃Q,zfd M N f=Q:=⟨_,rfl⟩
 rw [eQ] at l1 l2 ⊢;have hs':=zU hs;have l1':=zU l1;have l2':=zU l2;have c1:((f:Int)<0)=False:=eq_false (by omega);have c2:((N:Int)<(f:Int))=False:=eq_false (by omega);clear hs l1 l2 hle eL eQ hM2;refine fn rfl ?_;refine (zcS hM).mono ?_;rintro _ _ ⟨⟨_,rfl⟩|⟨hn,_⟩,⟨g1,rfl⟩⟩
 case inr=>exact absurd hs'.down hn
 by_cases h0:L=0
 ·have c3:((L:Int)=0)=True:=eq_true (by omega)
  have e:=zU (l1'.down h0);clear h0;refine am ?_;rw [e.down];exact ⟨rfl,_,rfl⟩
 ·have c3:((L:Int)=0)=False:=eq_false (by omega)
  have e:=zU (l2'.down h0);clear h0;refine am ?_;refine (zxY hL).mono ?_;rintro _ _ ⟨rfl,rfl⟩;refine am ?_;rw [e.down];exact ⟨rfl,_,rfl⟩
theorem zl4 {m:Mem}{N M:Nat}{v:V}(hs:zqc N M) (hM:M<18446744073709551616) (hN:N<=48) (hv:Rd m v 1 1 (fun _=>[.int .i64 (N:Nat)])):
  C S zhW [.agg [.int .i64 (N:Nat),.int .u64 (M:Nat)],v] m (fun r m'=>r= .tup [.int .i64 0,.int .i64 9]/\Grow m m'):=by
 have A:=hv.ar;refine fn rfl ?_;refine (zcS hM).mono ?_;rintro _ _ ⟨⟨_,rfl⟩|⟨hn,_⟩,⟨g1,rfl⟩⟩
 case inr=>exact absurd hs hn
 have hs':=zU hs;clear hs;refine am ?_;refine range (α:=Unit) 1 (fun _=>[(2,.ptr m.length 0 0),(15,v),(7,.int .i64 0)]) (fun j _ M'=>j=0/\(∃g,M'=m++ .cells true [[.int .i64 (N:Nat),.int .u64 (M:Nat)]]::g)) () ⟨rfl,_,rfl⟩ ?_ ?_
 ·rintro j _ fr _ hj F ⟨rfl,g,rfl⟩
  have A:=(hv.app (g:= .cells true [[.int .i64 (N:Nat),.int .u64 (M:Nat)]]::g)).ar;have c1:((N:Int)<0)=False:=eq_false (by omega);have c2:((N:Int)<=(N:Int))=True:=eq_true (Int.le_refl _);have c4:((0:Nat):Int)=0:=rfl;have ix:zaB 1 v (.int .i64 0)=some (atp v 0 0):=A.2.2.2.1 .i64 0 (by omega);refine am ?_;exact ⟨_,rfl⟩
 ·rintro _ fr _ F ⟨h,_⟩
  omega
theorem zij {m:Mem}{N M:Nat}(hs:zqc N M) (hM:M<18446744073709551616) (hN:N<=48):
  C S zeY [.agg [.int .i64 (N:Nat),.int .u64 (M:Nat)],.int .i64 (N:Nat)] m (fun r m'=>r= .tup [.bool false,.int .i64 9]/\Grow m m'):=by
 have hs':=zU hs;clear hs;refine fn rfl ?_;refine am ?_;have hr:Rd (m++ .cells true [[.int .i64 (N:Nat),.int .u64 (M:Nat)]]::[.cells true [[.int .i64 (N:Nat)]]]) (.slice (m.length+1) 0 1 1 true 1) 1 1 (fun _=>[.int .i64 (N:Nat)]):=by
  refine .inl ?_;exact Sl.mk (els:=[[.int .i64 (N:Nat)]]) (own:=true) (by rw [zi];rfl)
 refine (zl4 hs'.down hM hN hr).mono ?_;rintro _ _ ⟨rfl,⟨g,rfl⟩⟩;refine am ?_;exact ⟨_,rfl⟩
structure zT where
 pc:Nat
 obj:Nat
 N:Int
 M:Nat
 f:Int
 to:Nat
 seen:Nat
deriving DecidableEq
def hand0:zT:=⟨0,0,0,0,0,0,0⟩
abbrev zH (x:zT):List V:=[.int .u8 (x.pc:Nat),.int .u64 (x.obj:Nat),.int .i64 x.N,.int .u64 (x.M:Nat),.int .i64 x.f,.int .u64 (x.to:Nat),.int .u64 (x.seen:Nat)]
abbrev hat (l:List zT) (i:Nat):zT:=l.getD i hand0
structure MiA where
 H:zl
 nm:Nat
 mw:Nat->Nat
 qs:List (List Nat)
 hs:List zT
abbrev zl.cs (H:zl):List Nat:=zdW (obs H H.ns)
def nwm (na:Nat):Nat:=(na+127)/128
def zl.swept (H:zl):Prop:= ∀i,i<H.ns->(H.sp i).swept=true
def zd1 (H:zl) (x:zT):Prop:=
 (x.pc=0/\x=hand0)\/(x.pc=1/\x.obj∈H.cs/\x=⟨1,x.obj,0,0,0,0,0⟩)\/
 (2<=x.pc/\x.pc<=5/\x.obj∈H.cs/\x.N=(H.a x.obj%256:Nat)/\x.M=unM (H.a x.obj)/\0<=x.f/\x.f<=x.N/\(x.seen=0\/x.pc=4)/\((x.pc=2/\x.to=0)\/(x.pc≠2/\x.f<x.N/\x.M.testBit x.f.toNat=true/\x.to∈H.cs)))
def zkv (H:zl) (nm:Nat) (mk:Nat->Nat):Prop:= ∀i,i<64*nm->bit mk i=true->2*i∈H.cs
def MiA.ok (X:MiA):Prop:=X.H.right/\gOk X.qs/\X.hs.length=X.qs.length/\X.nm=nwm X.H.na/\X.H.swept/\zkv X.H X.nm X.mw/\(∀a,a∈X.qs.flatten->a∈X.H.cs)/\ ∀i,i<X.hs.length->zd1 X.H (hat X.hs i)
structure zfi (m:Mem) (aw uw sv mv qv hv:V) (va vm vs:Nat->V) (X:MiA):Prop where
 h:zcY m aw uw sv va vm X.H
 k:Rd m mv 1 X.nm (zG X.mw)
 q:zii m qv vs X.qs
 d:Rd m hv 7 X.hs.length (fun i=>zH (hat X.hs i))
 wk:w64 X.nm X.mw
 lk:X.nm<17592186044417
 lq:X.qs.length*24<=140737488355328
 ll: ∀i,i<X.qs.length->(qat X.qs i).length<17592186044417
 ld:X.hs.length*56<=140737488355328
 ls:X.H.ns*96<=140737488355328
 ba:V.beq aw aw=true
 bu:V.beq uw uw=true
 bs:V.beq sv sv=true
 bm:V.beq mv mv=true
 bq:V.beq qv qv=true
 bh:V.beq hv hv=true
theorem zfi.app {m g:Mem} {aw uw sv mv qv hv:V}{va vm vs:Nat->V}{X:MiA}(h:zfi m aw uw sv mv qv hv va vm vs X):zfi (m++g) aw uw sv mv qv hv va vm vs X:=⟨h.h.app,h.k.app,h.q.app,h.d.app,h.wk,h.lk,h.lq,h.ll,h.ld,h.ls,h.ba,h.bu,h.bs,h.bm,h.bq,h.bh⟩
abbrev miV (X:MiA) (aw uw sv mv qv hv:V):List V:=[aw,.int .i64 X.H.us.N,uw,sv,mv,qv,hv]
theorem zL {M:Mem}{b:Nat}{y:Blk}(h:(M[b]?).isSome=true):(M.set b y)[b]? =some y:=by
 obtain ⟨z,hz⟩:=Option.isSome_iff_exists.1 h;exact zaU hz
theorem zd2 {M:Mem}{b c:Nat}{y:Blk}(h:(b=c)=False):(M.set b y)[c]? =M[c]? :=List.getElem?_set_ne (fun e=>by rw [e] at h;simp at h)
theorem set_set {M:Mem}{b:Nat}{x y:Blk}:(M.set b x).set b y=M.set b y:=List.set_set ..
theorem zxZ {a:Nat}:a/128=a/2/64:=by rw [Nat.div_div_eq_div_mul]
theorem zBt {a:Nat}:(a:Int).tdiv 128=((a/2/64:Nat):Int):=by rw [<-zxZ];exact zj0 (b:=128)
theorem q2 {a:Nat}:(a:Int).tdiv 2=((a/2:Nat):Int):=zj0 (b:=2)
theorem zfe {m:Mem}{a:Nat}(ha:a<18446744073709551616):C S zbW [.int .u64 (a:Nat)] m (fun r m'=>r= .tup [.int .i64 (a/2/64:Nat),.int .u64 (2^(a/2%64):Nat)]/\m'=m):=by
 have e1:=zBt (a:=a);have e2:=q2 (a:=a);have e3:=r64 (a:=a/2);have w1:=un' (a:=a/2/64) (by omega);have w2:=un' (a:=a/2) (by omega);have w3:=wn (a:=a/2/64) (by omega);have w4:=zyp (k:=a/2%64) (by omega);refine fn rfl ?_;trivial
theorem zx0 {w k:Nat}:w &&& 2^k=if w.testBit k=true then 2^k else 0:=by
 apply Nat.eq_of_testBit_eq;intro j;rw [Nat.testBit_and,Nat.testBit_two_pow]
 by_cases h:w.testBit k=true
 ·rw [if_pos h,Nat.testBit_two_pow]
  by_cases e:k=j
  ·subst e;simp [h]
  ·simp [e]
 ·rw [if_neg h]
  by_cases e:k=j
  ·subst e;simp at h;simp [h]
  ·simp [e]
theorem zjG {M:Mem}{P a n:Nat}{own:Bool} {c0 c1 c2 c3 mv c5 c6:V}{mk:Nat->Nat}(hP:M[P]? =some (.cells own [[c0,c1,c2,c3,mv,c5,c6]])) (hm:Rd M mv 1 n (zG mk)) (hw:w64 n mk) (ha:a<18446744073709551616) (hn:a/2/64<n):C S zbI [.ptr P 0 0,.int .u64 (a:Nat)] M (fun r M'=>r= .bool (bit mk (a/2))/\M'=M):=by
 have A:=hm.ar;have hk:=hw _ hn;have e1:=zwa (a:=mk (a/2/64)) (b:=2^(a/2%64)) hk;rw [zx0] at e1;obtain ⟨B,eB⟩: ∃B,bit mk (a/2)=B:=⟨_,rfl⟩
 have eB2:(mk (a/2/64)).testBit (a/2%64)=B:=eB;rw [eB2] at e1;rw [eB];clear eB eB2;refine fn rfl ?_;refine (zfe ha).mono ?_;rintro _ _ ⟨rfl,rfl⟩;cases B with
 |true=>
  rw [if_pos rfl] at e1;have c:(((2^(a/2%64):Nat):Int)=0)=False:=eq_false (by have:=Nat.two_pow_pos (a/2%64);omega);refine am ?_;trivial
 |false=>
  rw [if_neg (by decide)] at e1;have c:(((0:Nat):Int)=0)=True:=eq_true rfl;refine am ?_;trivial
theorem znO {M:Mem} {P a n b cap:Nat}{ex own:Bool} {c0 c1 c2 c3 c5 c6:V}{mk:Nat->Nat}(hP:M[P]? =some (.cells own [[c0,c1,c2,c3,.slice b 0 n cap ex 1,c5,c6]])) (hm:M[b]? =some (.cells true (zJ n (zG mk)))) (hw:w64 n mk) (ha:a<18446744073709551616) (hn:a/2/64<n):C S zdo [.ptr P 0 0,.int .u64 (a:Nat)] M (fun _ M'=>M'=M.set b (.cells true (zJ n (zG (za7 mk (a/2) true))))):=by
 have hk:=hw _ hn;have hp:2^(a/2%64)<18446744073709551616:=Nat.lt_of_lt_of_le (Nat.pow_lt_pow_right (by decide) (show a/2%64<64 by omega)) (by decide);have e1:=orN hk hp;have i1:= @zcx n (a/2/64) (zG mk);have i2:= @zdZ n (a/2/64) 1 (zG mk);have ix:= @zcT b 0 n cap (a/2/64) 1 ex .i64 hn;have e2:up (zG mk) (a/2/64) [.int .u64 ((mk (a/2/64) ||| 2^(a/2%64):Nat):Int)]=zG (za7 mk (a/2) true):=by
  rw [zpY];rfl
 refine fn rfl ?_;refine (zfe ha).mono ?_;rintro _ _ ⟨rfl,rfl⟩;refine am ?_;trivial
theorem zk4 {H:zl}{i:Nat}{o:ObA}: ∀{k},o∈zbA H i k-> ∃j,j<k/\o=zjB H i j
 |0,h=>by simp [zbA] at h
 |k+1,h=>by
  unfold zbA at h
  split at h
  ·rcases List.mem_append.1 h with h|h
   ·obtain ⟨j,hj,e⟩:=zk4 h
    exact ⟨j,by omega,e⟩
   ·exact ⟨k,by omega,by simpa using h⟩
  ·obtain ⟨j,hj,e⟩:=zk4 h
   exact ⟨j,by omega,e⟩
theorem zuA {H:zl}{o:ObA}: ∀{i},o∈obs H i-> ∃j k,j<i/\k<nsl (H.sp j)/\o=zjB H j k
 |0,h=>by simp [obs] at h
 |i+1,h=>by
  unfold obs at h;rcases List.mem_append.1 h with h|h
  ·obtain ⟨j,k,hj,e⟩:=zuA h
   exact ⟨j,k,by omega,e⟩
  ·obtain ⟨k,hk,e⟩:=zk4 h
   exact ⟨i,k,by omega,hk,e⟩
theorem zfJ {H:zl}(h:H.framed){a:Nat}(ha:a∈H.cs):a%2=0:=by
 obtain ⟨o,ho,_,rfl⟩:=znz.1 ha;obtain ⟨i,k,hi,hk,rfl⟩:=zuA ho;obtain ⟨f,p,s,n,F⟩:=h.at hi;show adr (H.sp i) k%2=0;rw [F.adr];rcases F.sh with ⟨rfl,_⟩|⟨h2,_,h3⟩
 ·omega
 ·have h8:=F.n8
  have h1:=F.n1;have he:s%2=0:=by
   rcases (show n=1\/n=2\/n=3\/n=4\/n=5\/n=6\/n=7\/n=8 by omega) with rfl|rfl|rfl|rfl|rfl|rfl|rfl|rfl<;>omega
  have:(k*s)%2=0:=by rw [Nat.mul_mod,he];simp
  omega
theorem zjH {H:zl}(h:H.right) (wa:w64 H.na H.a):H.cs.Pairwise (· < ·)/\H.cs.length<=2048:=⟨ziy (znA (h.2.1.wide h.1 wa).rises),Nat.le_trans zny (zeK h.1)⟩
theorem zxi {H:zl}(h:H.right) (wa:w64 H.na H.a){a:Nat}(ha:a∈H.cs):atV (obs H H.ns) a= .tup [.agg [.int .i64 (H.a a%256:Nat),.int .u64 (unM (H.a a):Nat)],.int .i64 0]:=by
 obtain ⟨h1,_,_,⟨o,ho,ew⟩,_⟩:=zl.right.cur h wa ha;unfold atV;rw [if_neg h1,ho,<-ew]
theorem zcR {H:zl}(h:H.right) (wa:w64 H.na H.a){a:Nat}(ha:a∈H.cs):a<16384/\a/2/64<nwm H.na:=by
 obtain ⟨_,h1,_⟩:=zl.right.cur h wa ha;have h2:=h.1.na;unfold nwm;omega
theorem zk5 {H:zl}(h:H.right) (wa:w64 H.na H.a){a:Nat}(ha:a∈H.cs):a≠0/\a+1+H.a a%256<=H.na/\zkf (H.a a)/\ ∀f,f<H.a a%256->(unM (H.a a)).testBit f=true->H.a (a+1+f)≠0->H.a (a+1+f)∈H.cs:=by
 obtain ⟨h1,h2,h3,_,h4⟩:=zl.right.cur h wa ha;exact ⟨h1,h2,h3,h4⟩
theorem ztr {P:Prop}{b:Bool}(h:b=true↔P):okB P (.bool b):=by
 cases b with
 |true=>exact .inl ⟨h.1 rfl,rfl⟩
 |false=>exact .inr ⟨fun e=>(by cases h.2 e),rfl⟩
abbrev bxV (H:zl) (aw uw sv c4 c5 c6:V):List V:=[aw,.int .i64 H.us.N,uw,sv,c4,c5,c6]
set_option maxHeartbeats 4000000 in
theorem zvy {M:Mem}{P:Nat}{own:Bool} {aw uw sv c4 c5 c6 yv:V}{va vm:Nat->V}{H:zl}{x:zT}(h:zcY M aw uw sv va vm H) (hR:H.right) (hP:M[P]? =some (.cells own [bxV H aw uw sv c4 c5 c6])) (hy:Nus M yv H.cs):C S zfr [.ptr P 0 0,yv,.agg (zH x)] M (fun r m'=>okB (zd1 H x) r/\Grow M m'):=by
 obtain ⟨hcs,hcl⟩:=zjH hR h.wa;have hat:=fun a ha=>zxi hR h.wa (a:=a) ha
 have hcur:=fun a ha=>zk5 hR h.wa (a:=a) ha
 obtain ⟨cs,ecs⟩: ∃cs,H.cs=cs:=⟨_,rfl⟩
 rw [ecs] at hcs hcl hat hcur hy;have A1:=h.a.ar.2.1;have A2:=h.u.ar.2.1;have A3:=h.s.s.ar.2.1;have A4:=hy.ar.2.1;obtain ⟨Q,eQ⟩: ∃Q,zd1 H x=Q:=⟨_,rfl⟩
 rw [eQ];obtain ⟨pc,obj,N,Mk,f,to,seen⟩:=x;have hQ:PLift (Q↔(pc=0/\(⟨pc,obj,N,Mk,f,to,seen⟩:zT)=hand0)\/(pc=1/\obj∈cs/\(⟨pc,obj,N,Mk,f,to,seen⟩:zT)=⟨1,obj,0,0,0,0,0⟩)\/
  (2<=pc/\pc<=5/\obj∈cs/\N=(H.a obj%256:Nat)/\Mk=unM (H.a obj)/\0<=f/\f<=N/\(seen=0\/pc=4)/\((pc=2/\to=0)\/(pc≠2/\f<N/\Mk.testBit f.toNat=true/\to∈cs)))):=⟨by rw [<-eQ,<-ecs];rfl⟩
 have hh:=zU h;have hy':=zU hy;have hR':=zU hR;have hcs':=zU hcs;have hat':=zU hat;have hcur':=zU hcur;clear eQ h hy hR hcs hat hcur ecs
 by_cases p0:pc=0
 ·subst p0
  refine fn rfl ?_;refine ⟨ztr ?_,_,rfl⟩;rw [hQ.down];simp [hand0]
 by_cases p1:pc=1
 ·subst p1
  refine fn rfl ?_;refine (zZ hy'.down.app hcs'.down (by omega)).mono ?_;rintro _ _ ⟨rfl,⟨g,rfl⟩⟩
  by_cases ho:obj∈cs
  ·have ho':=zU ho
   rw [decide_eq_true ho];clear ho;refine am ?_;refine ⟨ztr ?_,_,rfl⟩;rw [hQ.down];simp [ho'.down]
  ·have no:PLift (¬ Q):=⟨fun e=>by
    rcases hQ.down.1 e with e|e|e
    ·omega
    ·exact ho e.2.1
    ·omega⟩
   rw [decide_eq_false ho];clear ho;refine am ?_;exact ⟨.inr ⟨no.down,rfl⟩,_,rfl⟩
 by_cases p6:6<=pc
 ·have no:PLift (¬ Q):=⟨fun e=>by
   rcases hQ.down.1 e with e|e|e<;>omega⟩
  have d0:((pc:Int)=0)=False:=eq_false (by omega);have d1:((pc:Int)=1)=False:=eq_false (by omega);have d2:((pc:Int)=2)=False:=eq_false (by omega);have d3:((pc:Int)=3)=False:=eq_false (by omega);have d4:((pc:Int)=4)=False:=eq_false (by omega);have d5:((pc:Int)=5)=False:=eq_false (by omega);clear p0 p1 p6;refine fn rfl ?_;refine into ?_;exact ⟨.inr ⟨no.down,rfl⟩,_,rfl⟩
 have hp:pc=2\/pc=3\/pc=4\/pc=5:=by omega
 clear p0 p1 p6;have hQ2:PLift (Q↔obj∈cs/\N=(H.a obj%256:Nat)/\Mk=unM (H.a obj)/\0<=f/\f<=N/\(seen=0\/pc=4)/\((pc=2/\to=0)\/(pc≠2/\f<N/\Mk.testBit f.toNat=true/\to∈cs))):=⟨by
  rw [hQ.down];constructor
  ·rintro (e|e|e)
   ·omega
   ·omega
   ·exact e.2.2
  ·intro e
   exact .inr (.inr ⟨by omega,by omega,e⟩)⟩
 clear hQ
 by_cases ho:obj∈cs
 case neg=>
  have no:PLift (¬ Q):=⟨fun e=>ho (hQ2.down.1 e).1⟩
  have no2:=decide_eq_false ho;clear ho;rcases hp with rfl|rfl|rfl|rfl
  all_goals
   refine fn rfl ?_;refine into ?_;refine (zZ hy'.down.app hcs'.down (by omega)).mono ?_;rw [no2];rintro _ _ ⟨rfl,⟨g,rfl⟩⟩;refine am ?_;exact ⟨.inr ⟨no.down,rfl⟩,_,rfl⟩
 have ho':=zU ho;have yes:=decide_eq_true ho;obtain ⟨z0,z1,z2,z3⟩:=hcur'.down obj ho;have za:=hat'.down obj ho;have zs:zqc ((H.a obj%256:Nat):Int) (unM (H.a obj)):=⟨by omega,by have:=z2.2.1;omega,by rw [Int.toNat_natCast];exact z2.2.2⟩
 have zn:H.a obj%256<=48:=z2.2.1;have zs':=zU zs;obtain ⟨n,en⟩: ∃n,H.a obj%256=n:=⟨_,rfl⟩
 obtain ⟨w,ew⟩: ∃w,unM (H.a obj)=w:=⟨_,rfl⟩
 have zw:w<18446744073709551616:=ew▸zs7;have zat: ∀r,atR H obj r->r= .tup [.agg [.int .i64 (n:Nat),.int .u64 (w:Nat)],.int .i64 0]:=fun r hr=>by
  rcases hr with ⟨_,e⟩|⟨hn,_⟩
  ·rw [e,za,en,ew]
  ·exact absurd hR'.down hn
 have zat':=zU zat;rw [en,ew] at hQ2 zs';rw [en] at zn;clear ho z0 z1 z2 z3 za zs zat en ew;have go: ∀{T:V->Mem->Prop}{g:Mem},(∀g2,T (.tup [.agg [.int .i64 (n:Nat),.int .u64 (w:Nat)],.int .i64 0]) (M++g++g2))->C S zgg [.agg (zB H aw uw sv),.int .u64 (obj:Nat)] (M++g) T:=fun hT=>(zqy hh.down.app).mono fun r m' ⟨h1,g2,h2⟩=>by
  rw [zat'.down r h1,h2];exact hT g2
 have go':=PLift.up @go;clear go;have bf:=Bool.false_and;have bg:=Bool.and_false
 by_cases b1:N=(n:Int)
 case neg=>
  have e1:(N=(n:Int))=False:=eq_false b1;have no:PLift (¬ Q):=⟨fun e=>b1 (hQ2.down.1 e).2.1⟩
  clear b1;rcases hp with rfl|rfl|rfl|rfl
  all_goals
   refine fn rfl ?_;refine into ?_;refine (zZ hy'.down.app hcs'.down (by omega)).mono ?_;rw [yes];rintro _ _ ⟨rfl,⟨g,rfl⟩⟩;refine am ?_;refine go'.down fun g2=> ?_
   refine am ?_;exact ⟨.inr ⟨no.down,rfl⟩,_,rfl⟩
 have e1:(N=(n:Int))=True:=eq_true b1
 by_cases b2:Mk=w
 case neg=>
  have e2:((Mk:Int)=(w:Int))=False:=eq_false (by omega);have no:PLift (¬ Q):=⟨fun e=>b2 (hQ2.down.1 e).2.2.1⟩
  clear b1 b2;rcases hp with rfl|rfl|rfl|rfl
  all_goals
   refine fn rfl ?_;refine into ?_;refine (zZ hy'.down.app hcs'.down (by omega)).mono ?_;rw [yes];rintro _ _ ⟨rfl,⟨g,rfl⟩⟩;refine am ?_;refine go'.down fun g2=> ?_
   refine am ?_;exact ⟨.inr ⟨no.down,rfl⟩,_,rfl⟩
 subst b1 b2;clear e1;have e1:(((n:Nat):Int)=(n:Int))=True:=eq_true rfl;have e2:((Mk:Int)=(Mk:Int))=True:=eq_true rfl
 by_cases b3:f<0
 ·have e3:(f<0)=True:=eq_true b3
  have no:PLift (¬ Q):=⟨fun e=>by have:=(hQ2.down.1 e).2.2.2.1;omega⟩
  clear b3;rcases hp with rfl|rfl|rfl|rfl
  all_goals
   refine fn rfl ?_;refine into ?_;refine (zZ hy'.down.app hcs'.down (by omega)).mono ?_;rw [yes];rintro _ _ ⟨rfl,⟨g,rfl⟩⟩;refine am ?_;refine go'.down fun g2=> ?_
   refine am ?_;exact ⟨.inr ⟨no.down,rfl⟩,_,rfl⟩
 obtain ⟨k,rfl⟩: ∃k:Nat,f=k:=⟨f.toNat,by omega⟩
 have e3:((k:Int)<0)=False:=eq_false (by omega)
 by_cases b4:n<k
 ·have e4:((n:Int)<(k:Int))=True:=eq_true (by omega)
  have no:PLift (¬ Q):=⟨fun e=>by have:=(hQ2.down.1 e).2.2.2.2.1;omega⟩
  clear b3 b4;rcases hp with rfl|rfl|rfl|rfl
  all_goals
   refine fn rfl ?_;refine into ?_;refine (zZ hy'.down.app hcs'.down (by omega)).mono ?_;rw [yes];rintro _ _ ⟨rfl,⟨g,rfl⟩⟩;refine am ?_;refine go'.down fun g2=> ?_
   refine am ?_;exact ⟨.inr ⟨no.down,rfl⟩,_,rfl⟩
 have e4:((n:Int)<(k:Int))=False:=eq_false (by omega)
 by_cases b5:seen=0\/pc=4
 case neg=>
  have e5:((seen:Int)=0)=False:=eq_false (by omega);have no:PLift (¬ Q):=⟨fun e=>b5 (hQ2.down.1 e).2.2.2.2.2.1⟩
  have hp2:pc=2\/pc=3\/pc=5:=by omega
  clear b3 b4 b5 hp;rcases hp2 with rfl|rfl|rfl
  all_goals
   refine fn rfl ?_;refine into ?_;refine (zZ hy'.down.app hcs'.down (by omega)).mono ?_;rw [yes];rintro _ _ ⟨rfl,⟨g,rfl⟩⟩;refine am ?_;refine go'.down fun g2=> ?_
   refine am ?_;exact ⟨.inr ⟨no.down,rfl⟩,_,rfl⟩
 have hQ3:PLift (Q↔(pc=2/\to=0)\/(pc≠2/\k<n/\Mk.testBit k=true/\to∈cs)):=⟨by
  rw [hQ2.down];constructor
  ·intro e
   rcases e.2.2.2.2.2.2 with h|⟨h1,h2,h3,h4⟩
   ·exact .inl h
   ·exact .inr ⟨h1,by omega,by rw [Int.toNat_natCast] at h3;exact h3,h4⟩
  ·intro e
   refine ⟨ho'.down,rfl,rfl,by omega,by omega,b5,?_⟩;rcases e with h|⟨h1,h2,h3,h4⟩
   ·exact .inl h
   ·exact .inr ⟨h1,by omega,by rw [Int.toNat_natCast];exact h3,h4⟩⟩
 have b5':=zU b5;clear hQ2 b5
 by_cases p2:pc=2
 ·subst p2
  have s0:seen=0:=by have:=b5'.down;omega
  subst s0
  by_cases b6:to=0
  ·have e6:((to:Int)=0)=True:=eq_true (by omega)
   have y:PLift Q:=⟨hQ3.down.2 (.inl ⟨rfl,b6⟩)⟩
   clear b3 b4 b6;refine fn rfl ?_;refine into ?_;refine (zZ hy'.down.app hcs'.down (by omega)).mono ?_;rw [yes];rintro _ _ ⟨rfl,⟨g,rfl⟩⟩;refine am ?_;refine go'.down fun g2=> ?_
   refine am ?_;exact ⟨.inl ⟨y.down,rfl⟩,_,rfl⟩
  ·have e6:((to:Int)=0)=False:=eq_false (by omega)
   have no:PLift (¬ Q):=⟨fun e=>by
    rcases hQ3.down.1 e with h|h
    ·exact b6 h.2
    ·exact h.1 rfl⟩
   clear b3 b4 b6;refine fn rfl ?_;refine into ?_;refine (zZ hy'.down.app hcs'.down (by omega)).mono ?_;rw [yes];rintro _ _ ⟨rfl,⟨g,rfl⟩⟩;refine am ?_;refine go'.down fun g2=> ?_
   refine am ?_;exact ⟨.inr ⟨no.down,rfl⟩,_,rfl⟩
 have hp3:(pc=3/\seen=0)\/pc=4\/(pc=5/\seen=0):=by have:=b5'.down;omega
 have hQ4:PLift (Q↔k<n/\Mk.testBit k=true/\to∈cs):=⟨by
  rw [hQ3.down];constructor
  ·rintro (h|h)
   ·exact absurd h.1 p2
   ·exact h.2
  ·intro h
   exact .inr ⟨p2,h⟩⟩
 clear hQ3 p2 hp
 by_cases b7:k<n
 case neg=>
  obtain rfl:k=n:=by omega
  have no:PLift (¬ Q):=⟨fun e=>by have:=(hQ4.down.1 e).1;omega⟩
  clear b3 b4 b7
  by_cases sz:seen=0
  ·have e5:((seen:Int)=0)=True:=eq_true (by omega)
   have hp4:pc=3\/pc=4\/pc=5:=by omega
   clear sz hp3;rcases hp4 with rfl|rfl|rfl
   all_goals
    refine fn rfl ?_;refine into ?_;refine (zZ hy'.down.app hcs'.down (by omega)).mono ?_;rw [yes];rintro _ _ ⟨rfl,⟨g,rfl⟩⟩;refine am ?_;refine go'.down fun g2=> ?_
    refine am ?_;refine (zij zs'.down zw zn).mono ?_;rintro _ _ ⟨rfl,⟨g3,rfl⟩⟩;refine am ?_;exact ⟨.inr ⟨no.down,rfl⟩,_,rfl⟩
  ·have e5:((seen:Int)=0)=False:=eq_false (by omega)
   obtain rfl:pc=4:=by omega
   clear sz hp3;refine fn rfl ?_;refine into ?_;refine (zZ hy'.down.app hcs'.down (by omega)).mono ?_;rw [yes];rintro _ _ ⟨rfl,⟨g,rfl⟩⟩;refine am ?_;refine go'.down fun g2=> ?_
   refine am ?_;refine (zij zs'.down zw zn).mono ?_;rintro _ _ ⟨rfl,⟨g3,rfl⟩⟩;refine am ?_;exact ⟨.inr ⟨no.down,rfl⟩,_,rfl⟩
 have fin: ∀m',okB Q (.bool (Mk.testBit k&&decide (to∈cs)))/\Grow m' m':=fun m'=>⟨ztr (by rw [hQ4.down];simp [b7]),Grow.refl _⟩
 have fin':=zU fin;have tail: ∀{T:V->Mem->Prop}{g:Mem},(∀g2,T (.tup [.bool (Mk.testBit k),.int .i64 0]) (M++g++g2))->C S zeY [.agg [.int .i64 (n:Nat),.int .u64 (Mk:Nat)],.int .i64 (k:Nat)] (M++g) T:=fun hT=>(zn8 zs'.down zw b7 zn).mono fun r m' ⟨h1,g2,h2⟩=>by
  rw [h1,h2];exact hT g2
 have tail':=PLift.up @tail;clear fin tail b3 b4 b7;cases hb:Mk.testBit k with
 |false=>
  have no:PLift (¬ Q):=⟨fun e=>by have:=(hQ4.down.1 e).2.1;rw [hb] at this;cases this⟩
  rw [hb] at tail';clear hb
  by_cases sz:seen=0
  ·have e5:((seen:Int)=0)=True:=eq_true (by omega)
   have hp4:pc=3\/pc=4\/pc=5:=by omega
   clear sz hp3;rcases hp4 with rfl|rfl|rfl
   all_goals
    refine fn rfl ?_;refine into ?_;refine (zZ hy'.down.app hcs'.down (by omega)).mono ?_;rw [yes];rintro _ _ ⟨rfl,⟨g,rfl⟩⟩;refine am ?_;refine go'.down fun g2=> ?_
    refine am ?_;refine tail'.down fun g3=> ?_
    refine am ?_;exact ⟨.inr ⟨no.down,rfl⟩,_,rfl⟩
  ·have e5:((seen:Int)=0)=False:=eq_false (by omega)
   obtain rfl:pc=4:=by omega
   clear sz hp3;refine fn rfl ?_;refine into ?_;refine (zZ hy'.down.app hcs'.down (by omega)).mono ?_;rw [yes];rintro _ _ ⟨rfl,⟨g,rfl⟩⟩;refine am ?_;refine go'.down fun g2=> ?_
   refine am ?_;refine tail'.down fun g3=> ?_
   refine am ?_;exact ⟨.inr ⟨no.down,rfl⟩,_,rfl⟩
 |true=>
  have fin2:PLift (okB Q (.bool (decide (to∈cs)))):=⟨by have:=(fin'.down M).1;rw [hb,Bool.true_and] at this;exact this⟩
  rw [hb] at tail';clear hb
  by_cases sz:seen=0
  ·have e5:((seen:Int)=0)=True:=eq_true (by omega)
   have hp4:pc=3\/pc=4\/pc=5:=by omega
   clear sz hp3;rcases hp4 with rfl|rfl|rfl
   all_goals
    refine fn rfl ?_;refine into ?_;refine (zZ hy'.down.app hcs'.down (by omega)).mono ?_;rw [yes];rintro _ _ ⟨rfl,⟨g,rfl⟩⟩;refine am ?_;refine go'.down fun g2=> ?_
    refine am ?_;refine tail'.down fun g3=> ?_
    refine am ?_;refine (zZ hy'.down.app hcs'.down (by omega)).mono ?_;rintro _ _ ⟨rfl,⟨g4,rfl⟩⟩;refine am ?_;exact ⟨fin2.down,_,rfl⟩
  ·have e5:((seen:Int)=0)=False:=eq_false (by omega)
   obtain rfl:pc=4:=by omega
   clear sz hp3;refine fn rfl ?_;refine into ?_;refine (zZ hy'.down.app hcs'.down (by omega)).mono ?_;rw [yes];rintro _ _ ⟨rfl,⟨g,rfl⟩⟩;refine am ?_;refine go'.down fun g2=> ?_
   refine am ?_;refine tail'.down fun g3=> ?_
   refine am ?_;refine (zZ hy'.down.app hcs'.down (by omega)).mono ?_;rintro _ _ ⟨rfl,⟨g4,rfl⟩⟩;refine am ?_;exact ⟨fin2.down,_,rfl⟩
end Go.AM.G
