import Derived.Test.YtfhbhfogcgfeeaaGreatDoorHpA
set_option linter.unusedVariables false
set_option linter.unusedSimpArgs false
set_option maxRecDepth 100000
namespace Go.AM.G
open Go Go.AM
def okE (P:Prop) (r:V):Prop:=(P/\r= .int .i64 0)\/(¬ P/\r= .int .i64 2)
def bit (w:Nat->Nat) (i:Nat):Bool:=(w (i/64)).testBit (i%64)
def bitsOk (N:Int) (n:Nat) (w:Nat->Nat):Prop:=0<=N/\N<=4096/\(n:Int)=(N+63)/64/\ ∀i:Nat,N<=i->i<64*n->bit w i=false
def w64 (n:Nat) (w:Nat->Nat):Prop:= ∀i,i<n->w i<18446744073709551616
theorem zke {m:Mem}{v:V}{n i:Nat}{w:Nat->Nat}{N:Int}(hv:Rd m v 1 n (zG w)) (hw:w64 n w) (hi:i<64*n) (hn:n<1000000):C S zkQ [.agg [.int .i64 N,v],.int .i64 (i:Nat)] m (fun r m'=>r= .bool (bit w i)/\Grow m m'):=by
 have A:=hv.ar;have i1:i/64<n:=by omega
 have q:= @q64 i;have r:= @r64 i;have w1:=wn (a:=i/64) (by omega);have s1:=zrc (hw _ i1) (show i%64<64 by omega);have s2:=and1 (a:=w (i/64) >>> (i%64)) (by have:=hw _ i1;have:=Nat.shiftRight_le (w (i/64)) (i%64);omega);have c:=c64;have b:= @zwb (w (i/64)) (i%64);refine fn rfl ?_;exact ⟨rfl,(Grow.refl _).app⟩
theorem zva {a n:Nat}{w:Nat->Nat}(hn:n=(a+63)/64) (hk:0<a%64) (hw:w64 n w):w (n-1) >>> (a%64)=0↔ ∀i,a<=i->i<64*n->bit w i=false:=by
 constructor
 ·intro h i h1 h2
  have e:i/64=n-1:=by omega
  unfold bit;rw [e];have h3:(w (n-1) >>> (a%64)).testBit (i%64-a%64)=false:=by rw [h];simp
  rw [Nat.testBit_shiftRight] at h3;have e2:a%64+(i%64-a%64)=i%64:=by omega
  rwa [e2] at h3
 ·intro h
  apply Nat.eq_of_testBit_eq;intro j;rw [Nat.testBit_shiftRight,Nat.zero_testBit]
  by_cases hj:a%64+j<64
  ·have:=h (64*(n-1)+(a%64+j)) (by omega) (by omega)
   unfold bit at this;have e1:(64*(n-1)+(a%64+j))/64=n-1:=by omega
   have e2:(64*(n-1)+(a%64+j))%64=a%64+j:=by omega
   rwa [e1,e2] at this
  ·exact Nat.testBit_lt_two_pow (Nat.lt_of_lt_of_le (hw (n-1) (by omega)) (by exact Nat.pow_le_pow_right (n:=2) (by omega) (show 64<=a%64+j by omega)))
theorem zbM {m:Mem}{v:V}{n:Nat}{w:Nat->Nat}{N:Int}(hv:Rd m v 1 n (zG w)) (hw:w64 n w) (hn:n<17592186044417):C S zbd [.agg [.int .i64 N,v]] m (fun r m'=>okE (bitsOk N n w) r/\Grow m m'):=by
 have A:=hv.ar;have G:Grow m (m++[Blk.cells true [[V.int .i64 N,v]]]):=(Grow.refl _).app
 by_cases h0:N<0
 ·refine fn rfl ?_
  exact .inr ⟨fun h=>by have:=h.1;omega,rfl⟩
 by_cases h1:4096<N
 ·refine fn rfl ?_
  exact .inr ⟨fun h=>by have:=h.2.1;omega,rfl⟩
 obtain ⟨a,rfl⟩: ∃a:Nat,N=a:=⟨N.toNat,by omega⟩
 have w1:IntKind.i64.wrap ((a:Int)+64)=((a+64:Nat):Int):=by rw [wrap_i64]<;>omega
 have w2:IntKind.i64.wrap (((a+64:Nat):Int)-1)=((a+63:Nat):Int):=by rw [wrap_i64]<;>omega
 have w3:=wn (a:=(a+63)/64) (by omega);have q:= @q64 (a+63);have c:=c64
 by_cases h2:n=(a+63)/64
 case neg=>
  have h2':((n:Int)=(((a+63)/64:Nat):Int))=False:=eq_false (by omega);refine fn rfl ?_;exact .inr ⟨fun h=>h2 (by have:=h.2.2.1;omega),rfl⟩
 have h2':((n:Int)=(((a+63)/64:Nat):Int))=True:=eq_true (by omega);have r:= @r64 a
 by_cases h3:0<a%64
 case neg=>
  have h3':((0:Int)<((a%64:Nat):Int))=False:=eq_false (by omega);refine fn rfl ?_;exact .inl ⟨⟨by omega,by omega,by omega,fun i h4 h5=>by omega⟩,rfl⟩
 have h3':((0:Int)<((a%64:Nat):Int))=True:=eq_true (by omega);have n1:n-1<n:=by omega
 have w4:IntKind.i64.wrap ((n:Int)-1)=((n-1:Nat):Int):=by rw [wrap_i64]<;>omega
 have s1:=zrc (hw _ n1) (show a%64<64 by omega);have hl:=zva h2 h3 hw;clear h2
 by_cases h4:w (n-1) >>> (a%64)=0
 ·have h4':(((w (n-1) >>> (a%64):Nat):Int)=0)=True:=eq_true (by omega)
  have h5:=hl.1 h4;clear h4 hl;refine fn rfl ?_;exact .inl ⟨⟨by omega,by omega,by rw [h2'.mpr trivial];omega,fun i h6 h7=>h5 i (by omega) h7⟩,rfl⟩
 ·have h4':(((w (n-1) >>> (a%64):Nat):Int)=0)=False:=eq_false (by omega)
  have h5:¬ bitsOk a n w:=fun h=>h4 (hl.2 fun i h6 h7=>h.2.2.2 i (by omega) h7)
  clear h4 hl;refine fn rfl ?_;exact .inr ⟨id,rfl⟩
abbrev Iu (len:Nat) (g:Mem) (v:V) (n:Nat) (w:Nat->Nat):Prop:=In len g v 1 ((List.range n).map (zG w))
theorem zsZ {m:Mem}{v:V}{n:Nat}{w:Nat->Nat}(hv:Rd m v 1 n (zG w)) (hn:n<17592186044417):C S zF [v] m (fun r m'=> ∃g,m'=m++g/\Iu m.length g r n w):=by
 rcases hv with hv|⟨rfl,rfl⟩
 ·rcases hv.cases with ⟨rfl,he⟩|⟨b,i,len,cap,ex,rfl⟩
  ·refine fn rfl ?_
   exact ⟨[],by simp,.mk ⟨by rw [List.append_nil];exact hv,.inl rfl⟩⟩
  ·obtain ⟨v',m',a1,⟨g,rfl⟩,a3⟩:=zgC (zero:=[V.int .u64 0]) (bytes:=8) hv rfl (by decide) (by simp;omega)
   refine fn rfl ?_;exact ⟨g,rfl,.mk a3⟩
 ·refine fn rfl ?_
  exact ⟨.slice m.length 0 0 0 true 1,m++[.cells true []],by simp [zM,zde,zOk],[.cells true []],rfl,.mk ⟨Sl.mk (els:=[]) (own:=true) (by simp),.inr ⟨_,_,_,Nat.le_refl _,rfl,by simp⟩⟩⟩
theorem zgc {m:Mem}{v:V}{n:Nat}{w:Nat->Nat}{N:Int}(hv:Rd m v 1 n (zG w)) (hn:n<17592186044417):C S zcd [.agg [.int .i64 N,v]] m (fun r m'=> ∃g v',m'=m++g/\r= .agg [.int .i64 N,v']/\Iu m.length g v' n w):=by
 have A:=hv.ar;refine fn rfl ?_;refine (zsZ hv.app hn).mono ?_;rintro v' _ ⟨g,rfl,h⟩;have c:=h.cell;have c':=zcU c;rw [zaK];refine am ?_;exact ⟨_,v',rfl,rfl,.pre [_,_] (by simpa using h)⟩
def za7 (w:Nat->Nat) (i:Nat) (b:Bool):Nat->Nat:=up w (i/64) (if b=true then w (i/64) ||| 2^(i%64) else andNot (w (i/64)) (2^(i%64)))
theorem zs1 {a k j:Nat}(ha:a<18446744073709551616) (hj:j<64):(andNot a (2^k)).testBit j=(a.testBit j&& !decide (k=j)):=by
 unfold andNot;rw [BitVec.testBit_toNat];rw [BitVec.getLsbD_and,BitVec.getLsbD_not,BitVec.getLsbD_ofNat,BitVec.getLsbD_ofNat];simp [hj,Nat.testBit_two_pow]
theorem za9 {n i k:Nat}{w:Nat->Nat}{b:Bool}(hw:w64 n w) (hi:i<64*n):bit (za7 w i b) k=if k=i then b else bit w k:=by
 unfold bit za7
 by_cases h:k/64=i/64
 ·rw [h,zK]
  have hk:=hw (i/64) (by omega);cases b with
  |true=>
   rw [if_pos rfl,Nat.testBit_or,Nat.testBit_two_pow]
   by_cases e:k=i
   ·subst e;simp
   ·rw [if_neg e,decide_eq_false (show ¬ i%64=k%64 by omega),Bool.or_false]
  |false=>
   rw [if_neg (by decide),zs1 hk (by omega)]
   by_cases e:k=i
   ·subst e;simp
   ·rw [if_neg e,decide_eq_false (show ¬ i%64=k%64 by omega)];simp
 ·rw [zaM h,if_neg (fun e=>h (by rw [e]))]
theorem zhS {n i:Nat}{w:Nat->Nat}{b:Bool}(hw:w64 n w):w64 n (za7 w i b):=by
 intro j hj;unfold za7
 by_cases h:j=i/64
 ·subst h
  rw [zK];have hk:=hw _ hj
  split
  ·exact Nat.or_lt_two_pow (n:=64) hk (Nat.pow_lt_pow_right (by decide) (by omega))
  ·exact BitVec.isLt _
 ·rw [zaM h];exact hw j hj
theorem Iu.put {A g G:Mem}{v:V}{n p:Nat}{w:Nat->Nat}(h:Iu A.length g v n w) (hp:p<n) (x:Nat): ∃g',g.length=g'.length/\zbi (A++(g++G)) 1 (atp v p 0) (.int .u64 (x:Int))=some (A++(g'++G))/\Iu A.length g' v n (up w p x):=by
 rcases (h A rfl).cases with ⟨_,h2⟩|⟨b,cap,ex,h1,rfl,h3⟩
 ·have:=congrArg List.length h2;simp at this;omega
 have hbl:=(List.getElem?_eq_some_iff.1 h3).1;have hg:g[b-A.length]? =some (.cells true ((List.range n).map (zG w))):=by
  rw [List.getElem?_append_right h1] at h3;exact h3
 have hset: ∀(B:Mem) y,B.length=A.length->(B++g).set b y=B++g.set (b-A.length) y:=fun B y hB=>by rw [List.set_append_right _ _ (by omega),hB]
 refine ⟨g.set (b-A.length) (.cells true ((List.range n).map (zG (up w p x)))),by simp,?_,?_⟩
 ·have h4:(A++(g++G))[b]? =some (.cells true ((List.range n).map (zG w))):=by rw [<-List.append_assoc];exact zb h3
  have st:=zuN (n:=1) (len:=n) (cap:=cap) (z:=1) (ex:=ex) (x:=V.int .u64 (x:Int)) (i:=p) (el:=zG w p) h4 (by simp [hp]) rfl rfl rfl;have e:((List.range n).map (zG w)).length=n:=by simp
  rw [e,st,V.cells,map_set,zpY]
  ·rw [<-List.append_assoc,List.set_append_left _ _ hbl,hset A _ rfl,List.append_assoc]
  ·intro _ h;cases h
 ·intro B hB
  rw [<-hset B _ hB];have h5:((B++g).set b (.cells true ((List.range n).map (zG (up w p x)))))[b]? =some (.cells true ((List.range n).map (zG (up w p x)))):=List.getElem?_set_self (by simp at hbl ⊢; omega);refine .mk (.inr ⟨b,cap,ex,h1,by simp,h5⟩)
theorem Iu.rd {A g G:Mem}{v:V}{n:Nat}{w:Nat->Nat}(h:Iu A.length g v n w):Rd (A++(g++G)) v 1 n (zG w):=by
 rw [<-List.append_assoc];exact Rd.app (.inl (h A rfl).1)
theorem ziU {M A g G:Mem}{P n i:Nat}{own:Bool}{v:V}{w:Nat->Nat}{N:Int}{b:Bool}(h:Iu A.length g v n w) (hM:M=A++(g++G)) (hP:M[P]? =some (.cells own [[.int .i64 N,v]])) (hw:w64 n w) (hi:i<64*n) (hn:n<1000000):
  C S zel [.ptr P 0 0,.int .i64 (i:Nat),.bool b] M (fun _ m'=> ∃g',m'=A++(g'++G)/\g.length=g'.length/\Iu A.length g' v n (za7 w i b)):=by
 subst hM;have R:=(h.rd (G:=G)).ar;have i1:i/64<n:=by omega
 have q:= @q64 i;have r:= @r64 i;have w1:=wn (a:=i/64) (by omega);have c:=c64;have hk:=hw _ i1;have s:=zyp (k:=i%64) (by omega);have h2:(2^(i%64):Nat)<18446744073709551616:=Nat.lt_of_lt_of_le (Nat.pow_lt_pow_right (by decide) (show i%64<64 by omega)) (by decide);cases b with
 |true=>
  have o:=orN hk h2;obtain ⟨g',l,st,h'⟩:=h.put (G:=G) i1 (w (i/64) ||| 2^(i%64));refine fn rfl ?_;exact ⟨g',rfl,rfl,h'⟩
 |false=>
  have o:= @ztN (w (i/64)) (2^(i%64));obtain ⟨g',l,st,h'⟩:=h.put (G:=G) i1 (andNot (w (i/64)) (2^(i%64)));refine fn rfl ?_;exact ⟨g',rfl,rfl,h'⟩
theorem zvb {m:Mem}{n:Nat}(hn:n<=4096):C S zfv [.int .i64 (n:Nat)] m (fun r m'=> ∃g v,m'=m++g/\r= .tup [.agg [.int .i64 (n:Nat),v],.int .i64 0]/\Iu m.length g v ((n+63)/64) (fun _=>0)):=by
 have c1:((n:Int)<0)=False:=eq_false (by omega);have c2:((4096:Int)<(n:Int))=False:=eq_false (by omega);have w1:IntKind.i64.wrap ((n:Int)+64)=((n+64:Nat):Int):=by rw [wrap_i64]<;>omega
 have w2:IntKind.i64.wrap (((n+64:Nat):Int)-1)=((n+63:Nat):Int):=by rw [wrap_i64]<;>omega
 have w3:=wn (a:=(n+63)/64) (by omega);have q:= @q64 (n+63);have c:=c64;have hz:((0:Int)<=(((n+63)/64:Nat):Int))=True:=eq_true (by omega);have hr:((((n+63)/64:Nat):Int)<=(((n+63)/64:Nat):Int))=True:=eq_true (by omega);have rm:roomy ((n+63)/64) 8=true:=by simp [roomy];omega
 have e:List.replicate ((n+63)/64) [V.int .u64 0]=(List.range ((n+63)/64)).map (zG fun _=>0):=by simp [List.map_const']
 refine fn rfl ?_;refine ⟨_,_,rfl,rfl,.pre [_] ?_⟩;have:=In.one (els:=(List.range ((n+63)/64)).map (zG fun _=>0)) (len:=m.length+1) (cap:=(n+63)/64) (ex:=true) (z:=1)
 simpa using this
theorem zwV {m:Mem}{v:V}{n i:Nat}{w:Nat->Nat}{N:Int}{b:Bool}(hv:Rd m v 1 n (zG w)) (hw:w64 n w) (hok:bitsOk N n w) (hi:(i:Int)<N):
  C S zgR [.agg [.int .i64 N,v],.int .i64 (i:Nat),.bool b] m (fun r m'=> ∃g v',m'=m++g/\r= .tup [.agg [.int .i64 N,v'],.int .i64 0]/\Iu m.length g v' n (za7 w i b)):=by
 have A:=hv.ar;obtain ⟨k1,k2,k3,_⟩:=id hok;have c1:((i:Int)<0)=False:=eq_false (by omega);have c2:(N<=(i:Int))=False:=eq_false (by omega);have c3:((0:Int)=0)=True:=eq_true rfl;refine fn rfl ?_;refine (zbM hv.app hw (by omega)).mono ?_;rintro r _ ⟨h,⟨g1,rfl⟩⟩;rcases h with ⟨_,rfl⟩|⟨h,_⟩
 case inr=>exact absurd hok h
 rw [zaK];refine am ?_;refine (zgc hv.app (by omega)).mono ?_;rintro _ _ ⟨g2,v',rfl,rfl,h⟩;have c':=h.cell;rw [zaK];refine am ?_;refine (ziU (A:=m++(_::_::g1)) (g:=g2) (G:=[_]) (own:=true) (N:=N) h (by simp only [List.append_assoc,List.cons_append];rfl) (by simp) hw (by omega) (by omega)).mono ?_;rintro _ _ ⟨g3,rfl,hl,h'⟩;rw [zaK];refine am ?_;exact ⟨_,v',rfl,rfl,.pre [_,_] (.pre g1 (.app h'.cast))⟩
def ziV (w:Nat->Nat) (i:Nat):Nat->Nat->Nat
 |0=>w
 |k+1=>za7 (ziV w i k) (i+k) true
theorem zgd {n i:Nat}{w:Nat->Nat}(hw:w64 n w): ∀k,w64 n (ziV w i k)
 |0=>hw
 |k+1=>zhS (zgd hw k)
theorem zo1 {n i k:Nat}{w:Nat->Nat}(hw:w64 n w): ∀c,i+c<=64*n->bit (ziV w i c) k=(decide (i<=k/\k<i+c)||bit w k)
 |0,_=>by
  have:¬ (i<=k/\k<i+0):=by omega
  simp only [ziV,decide_eq_false this,Bool.false_or]
 |c+1,h=>by
  rw [ziV,za9 (zgd hw c) (by omega),zo1 hw c (by omega)]
  by_cases e:k=i+c
  ·have:i<=k/\k<i+(c+1):=by omega
   rw [if_pos e,decide_eq_true this,Bool.true_or]
  ·rw [if_neg e]
   congr 1
   exact decide_eq_decide.2 (by omega)
theorem zvc {m:Mem}{v:V}{n i k:Nat}{w:Nat->Nat}{N:Int}(hv:Rd m v 1 n (zG w)) (hw:w64 n w) (hok:bitsOk N n w) (hi:i<100000) (hk:k<100000):
  C S zhX [.agg [.int .i64 N,v],.int .i64 (i:Nat),.int .i64 (k:Nat),.bool true] m (fun r m'=> ∃g v',m'=m++g/\v'.isCell=true/\(((i+k:Nat):Int)<=N/\r= .tup [.agg [.int .i64 N,v'],.int .i64 0]/\Iu m.length g v' n (ziV w i k)\/N<((i+k:Nat):Int)/\r= .tup [.agg [.int .i64 N,v'],.int .i64 1])):=by
 have A:=hv.ar;obtain ⟨k1,k2,k3,_⟩:=id hok;have c1:((i:Int)<0)=False:=eq_false (by omega);have c1':((k:Int)<0)=False:=eq_false (by omega);have c3:((0:Int)=0)=True:=eq_true rfl;refine fn rfl ?_;refine (zbM hv.app hw (by omega)).mono ?_;rintro r _ ⟨h,⟨g1,rfl⟩⟩;rcases h with ⟨_,rfl⟩|⟨h,_⟩
 case inr=>exact absurd hok h
 rw [zaK];refine am ?_;refine (zgc hv.app (by omega)).mono ?_;rintro _ _ ⟨g2,v',rfl,rfl,h⟩;have c':=h.cell;have w1:IntKind.i64.wrap (N-(k:Int))=N-(k:Int):=by rw [wrap_i64]<;>omega
 rw [zaK]
 by_cases c4:N<(k:Int)
 ·refine am ?_
  exact ⟨_,_,rfl,c',.inr ⟨by omega,rfl⟩⟩
 by_cases c5:N-(k:Int)<(i:Int)
 ·refine am ?_
  exact ⟨_,_,rfl,c',.inr ⟨by omega,rfl⟩⟩
 refine am ?_;refine range (α:=Unit) k (fun _=>[(1,.int .i64 (i:Nat)),(3,.bool true),(8,.ptr (m.length+1) 0 0),(11,.ptr (m.length+(g1.length+(g2.length)+1+1)) 0 0)])
  (fun j _ M=> ∃g3,M=(m++(.cells true [[.int .i64 N,v]]:: .cells true [[.int .i64 0,.nils]]::g1))++(g3++[.cells true [[.int .i64 N,v']]])/\g2.length=g3.length/\Iu (m.length+(g1.length+1+1)) g3 v' n (ziV w i j)) () ⟨g2,by simp,rfl,h.cast⟩ ?_ ?_
 ·rintro j ⟨⟩ fr _ hj F ⟨g3,rfl,hl,h'⟩
  have w2:IntKind.i64.wrap ((i:Int)+(j:Int))=((i+j:Nat):Int):=by rw [wrap_i64]<;>omega
  refine am ?_;refine (ziU (i:=i+j) (A:=m++(_::_::g1)) (g:=g3) (G:=[_]) (own:=true) (N:=N) h'.cast (by simp only [List.append_assoc,List.cons_append];rfl) (by simp) (zgd hw j) (by omega) (by omega)).mono ?_;rintro _ _ ⟨g4,rfl,hl4,h4⟩;rw [zaK];refine am ?_;exact ⟨(),zh,g4,by simp,by omega,h4.cast⟩
 ·rintro ⟨⟩ fr _ F ⟨g3,rfl,hl,h'⟩
  refine am ?_;exact ⟨_,v',rfl,c',.inl ⟨by omega,rfl,.pre [_,_] (.pre g1 (.app h'.cast))⟩⟩
theorem zm4 {m:Mem}{v u:V}{n k:Nat}{w x:Nat->Nat}(hv:Rd m v 1 n (zG w)) (hu:Rd m u 1 k (zG x)) (hn:n<17592186044417):C S zbX [v,u] m (fun r m'=>r= .bool (decide (n=k/\ ∀i,i<n->w i=x i))/\m'=m):=by
 have A:=hv.ar;have B:=hu.ar
 by_cases h:n=k
 case neg=>
  have h1:((n:Int)=(k:Int))=False:=eq_false (by omega);have h2:(n=k/\ ∀i,i<n->w i=x i)=False:=eq_false fun e=>h e.1
  refine fn rfl ?_
  simp
 subst h;have h1:((n:Int)=(n:Int))=True:=eq_true rfl;refine fn rfl ?_;refine range (α:=Unit) n (fun _=>[(0,v),(1,u)]) (fun j _ M=>M=m/\ ∀i,i<j->w i=x i) () ⟨rfl,fun i hi=>absurd hi (Nat.not_lt_zero _)⟩ ?_ ?_
 ·rintro j ⟨⟩ fr _ hj F ⟨rfl,hj2⟩
  by_cases e:w j=x j
  ·have e':((w j:Int)=(x j:Int))=True:=eq_true (by omega)
   refine am ?_;exact ⟨(),zh,rfl,fun i hi=>by by_cases h:i=j;exact h▸e;exact hj2 i (by omega)⟩
  ·have e':((w j:Int)=(x j:Int))=False:=eq_false (by omega)
   refine am ?_;exact (decide_eq_false fun h=>e (h j hj)).symm
 ·rintro ⟨⟩ fr _ F ⟨rfl,hj2⟩
  have e2:id (∀i,i<n->w i=x i):=hj2;clear hj2;refine am ?_;exact (decide_eq_true (show ∀i,i<n->w i=x i from e2)).symm
def cls (w:Nat):Int:=if w<=2 then 0 else if w<=4 then 1 else if w<=8 then 2 else if w<=16 then 3 else -1
def siz (w:Nat):Nat:=if w<=2 then 2 else if w<=4 then 4 else if w<=8 then 8 else if w<=16 then 16 else 0
theorem zxP: ∀w:Nat,w<17->1<=w->(if ((Go.Lib.bitLen (w-1):Nat):Int)-1>0 then ((Go.Lib.bitLen (w-1):Nat):Int)-1 else 0)=cls w:=by decide+kernel
theorem zxQ (w:Nat):(cls w= -1/\siz w=0)\/(cls w=0/\siz w=2)\/(cls w=1/\siz w=4)\/(cls w=2/\siz w=8)\/(cls w=3/\siz w=16):=by
 unfold cls siz
 by_cases h1:w<=2
 ·simp [h1]
 by_cases h2:w<=4
 ·simp [h1,h2]
 by_cases h3:w<=8
 ·simp [h1,h2,h3]
 by_cases h4:w<=16
 ·simp [h1,h2,h3,h4]
 ·simp [h1,h2,h3,h4]
theorem ziW {m:Mem}{w:Nat}(h1:1<=w) (h2:w<=49):C S zjm [.int .i64 (w:Nat)] m (fun r m'=>r= .tup [.int .i64 (cls w),.int .i64 0]/\Grow m m'):=by
 have c1:((w:Int)<1)=False:=eq_false (by omega);have c2:((49:Int)<(w:Int))=False:=eq_false (by omega)
 by_cases h3:16<w
 ·have c3:((16:Int)<(w:Int))=True:=eq_true (by omega)
  have c4:cls w= -1:=by unfold cls;rw [if_neg (by omega),if_neg (by omega),if_neg (by omega),if_neg (by omega)]
  have G:=Grow.refl m;refine fn rfl ?_;trivial
 ·have c3:((16:Int)<(w:Int))=False:=eq_false (by omega)
  have w1:IntKind.i64.wrap ((w:Int)-1)=((w-1:Nat):Int):=by rw [wrap_i64]<;>omega
  have w2:=un' (a:=w-1) (by omega);have hb:Go.Lib.bitLen (w-1)<=64:=Go.Lib.bitLen_le _ 64 (by decide) (by omega);have w3:IntKind.i64.wrap (((Go.Lib.bitLen (w-1):Nat):Int)-1)=((Go.Lib.bitLen (w-1):Nat):Int)-1:=by rw [wrap_i64]<;>omega
  have e:=zxP w (by omega) h1;have G:=Grow.refl m;refine fn rfl ?_;refine (zhR (n:=w-1) (by omega)).mono ?_;rintro _ _ ⟨rfl,rfl⟩;rw [zaK];refine am ?_;trivial
theorem zlY {m:Mem}{w:Nat}:C S zkm [.int .i64 (cls w)] m (fun r m'=> ∃e,r= .tup [.int .i64 (siz w:Nat),.int .i64 e]/\Grow m m'):=by
 have G:=Grow.refl m;rcases zxQ w with ⟨a,b⟩|⟨a,b⟩|⟨a,b⟩|⟨a,b⟩|⟨a,b⟩
 ·rw [a,b]
  have c1:((-1:Int)<0)=True:=eq_true (by decide);refine fn rfl ?_;exact ⟨_,rfl⟩
 all_goals
  rw [a,b];refine fn rfl ?_;exact ⟨_,rfl,(Grow.refl _).app⟩
def npg (w:Nat):Nat:=(w+15)/16
theorem zkN {m:Mem}{w:Nat}(h1:1<=w) (h2:w<=49):C S ziY [.int .i64 (w:Nat)] m (fun r m'=>r= .tup [.int .i64 (npg w:Nat),.int .i64 0]/\Grow m m'):=by
 have w1:IntKind.i64.wrap ((w:Int)+16)=((w+16:Nat):Int):=by rw [wrap_i64]<;>omega
 have w2:IntKind.i64.wrap (((w+16:Nat):Int)-1)=((w+15:Nat):Int):=by rw [wrap_i64]<;>omega
 have q:(((w+15:Nat):Int)).tdiv 16=((npg w:Nat):Int):=zj0 (b:=16);have w3:=wn (a:=npg w) (by unfold npg;omega);refine fn rfl ?_;refine (ziW h1 h2).mono ?_;rintro _ _ ⟨rfl,G⟩;rw [zaK];refine am ?_;trivial
theorem zg5 {m:Mem}{w:Nat}(h1:1<=w) (h2:w<=49):C S zgQ [.int .i64 (w:Nat)] m (fun r m'=>r= .tup [.int .i64 (siz w:Nat),.int .i64 (npg w:Nat)]/\Grow m m'):=by
 refine fn rfl ?_;refine (ziW h1 h2).mono ?_;rintro _ _ ⟨rfl,G1⟩;rw [zaK];refine am ?_;refine zlY.mono ?_;rintro _ _ ⟨e,rfl,G2⟩;rw [zaK];refine am ?_;refine (zkN h1 h2).mono ?_;rintro _ _ ⟨rfl,G3⟩;rw [zaK];refine am ?_;exact (G1.trans G2).trans G3
theorem zyG {M N:Nat}(hM:M<18446744073709551616):Go.Lib.bitLen M<=N↔M<2^N:=by
 by_cases h0:M=0
 ·subst h0
  have:Go.Lib.bitLen 0=0:=rfl;rw [this];exact ⟨fun _=>Nat.two_pow_pos N,fun _=>Nat.zero_le _⟩
 ·obtain ⟨h1,h2,h3⟩:=Go.Lib.bitLenAux_bounds 64 M (by omega) h0
  constructor
  ·intro h
   exact Nat.lt_of_lt_of_le h3 (Nat.pow_le_pow_right (by decide) h)
  ·intro h
   refine Classical.byContradiction fun h4=> ?_
   have:2^N<=2^(Go.Lib.bitLenAux 64 M-1):=Nat.pow_le_pow_right (by decide) (by show N<=Go.Lib.bitLen M-1;omega);omega
def zqc (N:Int) (M:Nat):Prop:=0<=N/\N<=48/\M<2^N.toNat
theorem zcS {m:Mem}{N:Int}{M:Nat}(hM:M<18446744073709551616):C S zcp [.agg [.int .i64 N,.int .u64 (M:Nat)]] m (fun r m'=>okE (zqc N M) r/\Grow m m'):=by
 have G:Grow m (m++[Blk.cells true [[V.int .i64 N,V.int .u64 (M:Nat)]]]):=(Grow.refl _).app
 by_cases h0:N<0
 ·refine fn rfl ?_
  exact .inr ⟨fun h=>by have:=h.1;omega,rfl⟩
 by_cases h1:48<N
 ·refine fn rfl ?_
  exact .inr ⟨fun h=>by have:=h.2.1;omega,rfl⟩
 obtain ⟨a,rfl⟩: ∃a:Nat,N=a:=⟨N.toNat,by omega⟩
 have hl:=zyG (N:=a) hM;refine fn rfl ?_;refine (zsY hM).mono ?_;rintro _ _ ⟨rfl,rfl⟩;rw [zj4];refine ⟨by simp [zO,zQ,Arg.get,put,putO,zaq,part,V.beq],?_⟩
 by_cases h2:Go.Lib.bitLen M<=a
 ·have c1:((a:Int)<((Go.Lib.bitLen M:Nat):Int))=False:=eq_false (by omega)
  have h3:=hl.1 h2;clear hl h2;refine am ?_;exact .inl ⟨⟨by omega,by omega,by simpa using h3⟩,rfl⟩
 ·have c1:((a:Int)<((Go.Lib.bitLen M:Nat):Int))=True:=eq_true (by omega)
  have h3:¬ zqc a M:=fun h=>h2 (hl.2 (by simpa using h.2.2))
  clear hl h2;refine am ?_;exact .inr ⟨id,rfl⟩
def unM (w:Nat):Nat:=w/256%281474976710656
def zkf (w:Nat):Prop:=w/72057594037927936=165/\w%256<=48/\unM w<2^(w%256)
def UnR (w:Nat) (r:V):Prop:=(zkf w/\r= .tup [.agg [.int .i64 (w%256:Nat),.int .u64 (unM w:Nat)],.int .i64 0])\/(¬ zkf w/\r= .tup [.agg [.int .i64 0,.int .u64 0],.int .i64 2])
theorem zge {m:Mem}{w:Nat}(hw:w<18446744073709551616):C S zfU [.int .u64 (w:Nat)] m (fun r m'=>UnR w r/\Grow m m'):=by
 have a1:IntKind.u64.wrap ↑(BitVec.ofInt IntKind.u64.bits (w:Int) &&& BitVec.ofInt IntKind.u64.bits 255).toNat=((w%256:Nat):Int):=by
  have:=zwa (a:=w) (b:=255) hw;rw [show (255:Nat)=2^8-1 from rfl,Nat.and_two_pow_sub_one_eq_mod] at this;exact this
 have a2:=wn (a:=w%256) (by omega);have a3:shI .shl .u64 (w:Int) 8=some (.int .u64 ((w*256%18446744073709551616:Nat):Int)):=by
  unfold shI;rw [if_neg (by decide)];have:(w:Int)*2^(Nat.min (8:Int).toNat IntKind.u64.bits)=((w*256:Nat):Int):=by
   show (w:Int)*256=_;omega
  simp only [this,Option.some.injEq,V.int.injEq,true_and];rw [IntKind.wrap_u64];omega
 have a4:shI .shr .u64 ((w*256%18446744073709551616:Nat):Int) 16=some (.int .u64 ((unM w:Nat):Int)):=by
  have:=zrc (w:=w*256%18446744073709551616) (k:=16) (by omega) (by decide);have e:(w*256%18446744073709551616) >>> 16=unM w:=by rw [Nat.shiftRight_eq_div_pow];unfold unM;omega
  rw [e] at this;exact this
 have a5:shI .shr .u64 (w:Int) 56=some (.int .u64 ((w/72057594037927936:Nat):Int)):=by
  have:=zrc (w:=w) (k:=56) hw (by decide);rw [Nat.shiftRight_eq_div_pow] at this;exact this
 by_cases h1:w/72057594037927936=165
 case neg=>
  have c1:((((w/72057594037927936:Nat):Int))=165)=False:=eq_false (by omega);have h2:¬ zkf w:=fun h=>h1 h.1
  clear h1;refine fn rfl ?_;exact ⟨.inr ⟨h2,rfl⟩,(Grow.refl _).app⟩
 have c1:((((w/72057594037927936:Nat):Int))=165)=True:=eq_true (by omega);refine fn rfl ?_;refine (zcS (M:=unM w) (by unfold unM;omega)).mono ?_;rintro r _ ⟨h,⟨g,rfl⟩⟩;rw [zaK];rcases h with ⟨h,rfl⟩|⟨h,rfl⟩
 ·have h2:zkf w:=⟨h1,by have:=h.2.1;omega,by have:=h.2.2;rwa [Int.toNat_natCast] at this⟩
  clear h1;refine am ?_;exact ⟨.inl ⟨h2,rfl⟩,_,rfl⟩
 ·have h2:¬ zkf w:=fun h3=>h ⟨by omega,by have:=h3.2.1;omega,by rw [Int.toNat_natCast];exact h3.2.2⟩
  clear h1;refine am ?_;exact ⟨.inr ⟨h2,rfl⟩,_,rfl⟩
theorem zkg {m:Mem}{N:Int}{M f:Nat}(hM:M<18446744073709551616) (hf:f<64):C S zkR [.agg [.int .i64 N,.int .u64 (M:Nat)],.int .i64 (f:Nat)] m (fun r m'=>r= .bool (M.testBit f)/\Grow m m'):=by
 have s:=zrc hM hf;have a:=and1 (a:=M >>> f) (by have:=Nat.shiftRight_le M f;omega);have b:= @zwb M f;refine fn rfl ?_;exact (Grow.refl _).app
theorem zvd {m:Mem}{v u:V}{n k:Nat}{w x:Nat->Nat}{N K:Int}(hv:Rd m v 1 n (zG w)) (hu:Rd m u 1 k (zG x)) (hw:w64 n w) (hx:w64 k x) (hn:n<17592186044417) (hk:k<17592186044417):
  C S zly [.agg [.int .i64 N,v],.agg [.int .i64 K,u]] m (fun r m'=> ∃g,m'=m++g/\((bitsOk N n w/\bitsOk K k x/\N=K/\ ∃v',r= .tup [.agg [.int .i64 N,v'],.int .i64 0]/\Iu m.length g v' n (fun i=>w i &&& x i))\/(¬ (bitsOk N n w/\bitsOk K k x/\N=K)/\r= .tup [.agg [.int .i64 0,.nils],.int .i64 2]))):=by
 have A:=hv.ar;have B:=hu.ar;refine fn rfl ?_;refine (zbM hv.app hw hn).mono ?_;rintro r _ ⟨h,⟨g1,rfl⟩⟩;rw [zaK];rcases h with ⟨h,rfl⟩|⟨h,rfl⟩
 case inr=>
  have h':¬ (bitsOk N n w/\bitsOk K k x/\N=K):=fun e=>h e.1
  clear h;refine am ?_;exact ⟨_,rfl,.inr trivial⟩
 have h1:id (bitsOk N n w):=h;clear h;refine am ?_;refine (zbM hu.app hx hk).mono ?_;rintro r _ ⟨h,⟨g2,rfl⟩⟩;rw [zaK];rcases h with ⟨h,rfl⟩|⟨h,rfl⟩
 case inr=>
  have h':¬ (bitsOk N n w/\bitsOk K k x/\N=K):=fun e=>h e.2.1
  clear h;refine am ?_;exact ⟨_,rfl,.inr trivial⟩
 have h2:id (bitsOk K k x):=h;clear h
 by_cases hNK:N=K
 case neg=>
  have h':¬ (bitsOk N n w/\bitsOk K k x/\N=K):=fun e=>hNK e.2.2
  refine am ?_;exact ⟨_,rfl,.inr fun e=>e.2.2⟩
 subst hNK;have hnk:n=k:=by have a:=(show bitsOk N n w from h1).2.2.1;have b:=(show bitsOk N k x from h2).2.2.1;omega
 subst hnk;have c0:(N=N)=True:=eq_true rfl;refine am ?_;refine (zgc hv.app hn).mono ?_;rintro _ _ ⟨g3,v',rfl,rfl,h⟩;have c':=h.cell;rw [zaK];refine am ?_;refine range (α:=Unit) n (fun _=>[(3,.ptr (m.length+1) 0 0),(4,.ptr (m.length+(1+1)) 0 0),(28,u),(6,.ptr (m.length+(g1.length+(g2.length+g3.length)+1+1+1)) 0 0)])
  (fun j _ M=> ∃g,M=m++(.cells true [[.int .i64 N,v]]:: .cells true [[.int .i64 N,u]]:: .cells true [[.int .i64 0,.nils]]::(g1++(g2++(g++[.cells true [[.int .i64 N,v']]]))))/\g3.length=g.length/\Iu (m.length+(g1.length+g2.length+1+1+1)) g v' n (fun i=>if i<j then w i &&& x i else w i)) () ⟨g3,by simp,rfl,h.cast⟩ ?_ ?_
 ·rintro j ⟨⟩ fr _ hj F ⟨g,rfl,hl,h⟩
  have hc:Iu (m++(.cells true [[.int .i64 N,v]]:: .cells true [[.int .i64 N,u]]:: .cells true [[.int .i64 0,.nils]]::(g1++g2))).length g v' n (fun i=>if i<j then w i &&& x i else w i):=h.cast;have R:=hc.rd (G:=[.cells true [[.int .i64 N,v']]]);obtain ⟨g',l,st,h'⟩:=hc.put (G:=[.cells true [[.int .i64 N,v']]]) hj (w j &&& x j);simp only [List.append_assoc,List.cons_append] at R st;have A2:=R.ar;have e1:(if j<j then w j &&& x j else w j)=w j:=if_neg (Nat.lt_irrefl j);have e2:=zwa (b:=x j) (hw j hj);have l2:id (g.length=g'.length):=l;clear l;refine am ?_;refine ⟨(),zh,g',rfl,l2,?_⟩;have e3:up (fun i=>if i<j then w i &&& x i else w i) j (w j &&& x j)=fun i=>if i<j+1 then w i &&& x i else w i:=by
   funext i
   by_cases e:i=j
   ·subst e;rw [zK,if_pos (Nat.lt_succ_self i)]
   ·rw [zaM e]
    by_cases h3:i<j
    ·rw [if_pos h3,if_pos (by omega)]
    ·rw [if_neg h3,if_neg (by omega)]
  rw [e3] at h';exact h'.cast
 ·rintro ⟨⟩ fr _ F ⟨g,rfl,hl,h⟩
  have c2:=h.cell;have h3:Iu (m.length+(g1.length+g2.length+1+1+1)) g v' n (fun i=>w i &&& x i):=by
   have:(List.range n).map (zG fun i=>if i<n then w i &&& x i else w i)=(List.range n).map (zG fun i=>w i &&& x i):=List.map_congr_left fun i hi=>by
    have:=List.mem_range.1 hi;simp only [zG,if_pos this]
   unfold Iu at h ⊢;rw [<-this];exact h
  clear h;refine am ?_;exact ⟨_,rfl,.inl ⟨h1,h2,v',rfl,.pre [_,_,_] (.pre g1 (.pre g2 (.app h3.cast)))⟩⟩
end Go.AM.G
