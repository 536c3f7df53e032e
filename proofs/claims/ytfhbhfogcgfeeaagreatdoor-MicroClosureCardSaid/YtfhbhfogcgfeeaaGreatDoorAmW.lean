import Derived.Test.YtfhbhfogcgfeeaaGreatDoorAmDraw
set_option linter.unusedVariables false
set_option linter.unusedSimpArgs false
namespace Go.AM
open Go
def zeS (c c':zS):Prop:= ∀f a m r,c f a m=some r->c' f a m=some r
theorem zeS.refl (c:zS):zeS c c:=fun _ _ _ _ h=>h
def zhM (X:Told):Prop:= ∀f t,X f=some t-> ∀c c',zeS c c'-> ∀a m r,t c a m=some r->t c' a m=some r
structure Sys where
 F:Nat->Option ze
 X:Told
 mono:zhM X
section
variable {c c':zS}
theorem zu0 (h:zeS c c'){o:AOp} {tgt fr m r}(e:step c o tgt fr m=some r):step c' o tgt fr m=some r:=by
 cases o with
 |call f args=>
  simp only [step] at e ⊢
  split at e
  ·exact h _ _ _ _ e
  ·cases e
 |_=>exact e
theorem zoU (h:zeS c c'){o:zo} {base fr m r}(e:zeL c base o fr m=some r):zeL c' base o fr m=some r:=by
 unfold zeL at e ⊢
 split at e
 ·rename_i hw
  rw [if_pos hw]
  split at e
  case h_2=>cases e
  rename_i v m' hs
  rw [zu0 h hs];exact e
 ·rename_i hw
  rw [if_neg hw];exact e
theorem zfp (h:zeS c c'){base:Nat}: ∀{ops:List zo} {fr m r},zC c base ops fr m=some r->zC c' base ops fr m=some r
 | [],_,_,_,e=>e
 |o::ops,fr,m,r,e=>by
  simp only [zC] at e ⊢
  split at e
  case h_2=>cases e
  rename_i f1 m1 h1
  rw [zoU h h1];exact zfp h e
theorem zkJ {f g:Frame->Mem->Option (zar×Frame×Mem)}(hf: ∀fr m r,f fr m=some r->g fr m=some r): ∀{n k:Nat},n<=k-> ∀{fr m r},iter f n fr m=some r->iter g k fr m=some r
 |0,_,_,_,_,_,e=>by simp [iter] at e
 |n+1,k,hk,fr,m,r,e=>by
  obtain ⟨k,rfl⟩: ∃j,k=j+1:=⟨k-1,by omega⟩
  simp only [iter] at e ⊢
  split at e
  ·rename_i f1 m1 h1
   rw [hf _ _ _ h1];exact zkJ hf (by omega) e
  ·rename_i hne
   rw [hf _ _ _ e]
   split
   ·rename_i f1 m1 h1
    cases h1;exact absurd e (hne _ _)
   ·rfl
theorem zab (h:zeS c c'){n k:Nat}(hk:n<=k): ∀(a:zf) {fr m r},exec c n a fr m=some r->exec c' k a fr m=some r
 | .skip,_,_,_,e| .exit _,_,_,_,e| .ret,_,_,_,e=>by simpa [exec] using e
 | .region ops,fr,m,r,e=>by
  simp only [exec,Option.map_eq_some_iff] at e ⊢;obtain ⟨s,h1,h2⟩:=e;exact ⟨s,zfp h h1,h2⟩
 | .draw j ops,fr,m,r,e=>by
  simp only [exec,Option.map_eq_some_iff] at e ⊢;obtain ⟨s,h1,h2⟩:=e;exact ⟨s,zfp h h1,h2⟩
 | .seq a b,fr,m,r,e=>by
  simp only [exec] at e ⊢
  split at e
  ·rename_i f1 m1 h1
   rw [zab h hk a h1];exact zab h hk b e
  ·rename_i hne
   rw [zab h hk a e]
   split
   ·rename_i f1 m1 h1
    cases h1;exact absurd e (hne _ _)
   ·rfl
 | .cond x a b,fr,m,r,e=>by
  simp only [exec] at e ⊢
  split at e
  ·exact zab h hk a e
  ·exact zab h hk b e
  ·cases e
 | .block id a,fr,m,r,e=>by
  simp only [exec] at e ⊢
  split at e
  ·rename_i i f1 m1 h1
   rw [zab h hk a h1];exact e
  ·rename_i hne
   rw [zab h hk a e]
   split
   ·rename_i i f1 m1 h1
    cases h1;exact absurd e (hne _ _ _)
   ·rfl
 | .loop a,fr,m,r,e=>by
  simp only [exec] at e ⊢;exact zkJ (fun _ _ _ h1=>zab h hk a h1) hk e
end
theorem zmZ (S:Sys): ∀n,zeS (callN S.F S.X n) (callN S.F S.X (n+1))
 |0=>fun f a m r h=>by simp [callN] at h
 |n+1=>fun f a m r h=>by
  have ih:=zmZ S n;rw [callN] at h ⊢
  split at h
  ·rename_i t ht
   exact S.mono f t ht _ _ ih _ _ _ h
  split at h
  ·cases h
  rename_i fn hfn
  split at h
  case isFalse=>cases h
  rename_i hlen
  rw [if_pos hlen]
  split at h
  ·rename_i f1 m1 h1
   rw [zab ih (Nat.le_succ n) _ h1];exact h
  ·rename_i f1 m1 h1
   rw [zab ih (Nat.le_succ n) _ h1];exact h
  ·cases h
theorem zcH (S:Sys){n k:Nat}(h:n<=k):zeS (callN S.F S.X n) (callN S.F S.X k):=by
 induction h with
 |refl=>exact zeS.refl _
 |step _ ih=>exact fun f a m r e=>zmZ S _ f a m r (ih f a m r e)
abbrev Sys.call (S:Sys) (n:Nat):zS:=callN S.F S.X n
def W (S:Sys) (c:zf) (fr:Frame) (m:Mem) (Q:zar->Frame->Mem->Prop):Prop:= ∃n e fr' m',exec (S.call n) n c fr m=some (e,fr',m')/\Q e fr' m'
def O (S:Sys) (base:Nat) (ops:List zo) (fr:Frame) (m:Mem) (Q:Frame->Mem->Prop):Prop:= ∃n fr' m',zC (S.call n) base ops fr m=some (fr',m')/\Q fr' m'
def C (S:Sys) (f:Nat) (args:List V) (m:Mem) (Q:V->Mem->Prop):Prop:= ∃n v m',S.call n f args m=some (v,m')/\Q v m'
section
variable {S:Sys}{fr:Frame}{m:Mem}{Q:zar->Frame->Mem->Prop}{base:Nat}{K:Frame->Mem->Prop}
theorem W.mono {c:zf}{Q':zar->Frame->Mem->Prop}(h:W S c fr m Q) (hQ: ∀e fr m,Q e fr m->Q' e fr m):W S c fr m Q':=by
 obtain ⟨n,e,f,m',h1,h2⟩:=h;exact ⟨n,e,f,m',h1,hQ _ _ _ h2⟩
theorem O.mono {ops:List zo}{K':Frame->Mem->Prop}(h:O S base ops fr m K) (hQ: ∀fr m,K fr m->K' fr m):O S base ops fr m K':=by
 obtain ⟨n,f,m',h1,h2⟩:=h;exact ⟨n,f,m',h1,hQ _ _ h2⟩
theorem C.mono {f:Nat}{args:List V}{P P':V->Mem->Prop}(h:C S f args m P) (hQ: ∀v m,P v m->P' v m):C S f args m P':=by
 obtain ⟨n,v,m',h1,h2⟩:=h;exact ⟨n,v,m',h1,hQ _ _ h2⟩
theorem zsK:W S .skip fr m Q↔Q .normal fr m:=by
 simp only [W,exec,Option.some.injEq,Prod.mk.injEq];exact ⟨fun ⟨_,_,_,_,⟨a,b,c⟩,h⟩=>by subst a b c;exact h,fun h=>⟨0,_,_,_,⟨rfl,rfl,rfl⟩,h⟩⟩
theorem zsL {id:Nat}:W S (.exit id) fr m Q↔Q (.exit id) fr m:=by
 simp only [W,exec,Option.some.injEq,Prod.mk.injEq];exact ⟨fun ⟨_,_,_,_,⟨a,b,c⟩,h⟩=>by subst a b c;exact h,fun h=>⟨0,_,_,_,⟨rfl,rfl,rfl⟩,h⟩⟩
theorem zye:W S .ret fr m Q↔Q .ret fr m:=by
 simp only [W,exec,Option.some.injEq,Prod.mk.injEq];exact ⟨fun ⟨_,_,_,_,⟨a,b,c⟩,h⟩=>by subst a b c;exact h,fun h=>⟨0,_,_,_,⟨rfl,rfl,rfl⟩,h⟩⟩
def nrm (Q:zar->Frame->Mem->Prop) (fr:Frame) (m:Mem):Prop:=Q .normal fr m
theorem zp5:nrm Q fr m=Q .normal fr m:=rfl
theorem zj6 {ops:List zo}:W S (.region ops) fr m Q↔O S 0 ops fr m (nrm Q):=by
 constructor
 ·rintro ⟨n,e,f,m',h1,h2⟩
  simp only [exec,Option.map_eq_some_iff] at h1;obtain ⟨s,h1,h3⟩:=h1;cases h3;exact ⟨n,_,_,h1,h2⟩
 ·rintro ⟨n,f,m',h1,h2⟩
  exact ⟨n,.normal,f,m',by simp [exec,h1],h2⟩
theorem zwv {k:Nat}{ops:List zo}:W S (.draw k ops) fr m Q↔O S m.length ops fr (m++List.replicate k .dead) (nrm Q):=by
 constructor
 ·rintro ⟨n,e,f,m',h1,h2⟩
  simp only [exec,Option.map_eq_some_iff] at h1;obtain ⟨s,h1,h3⟩:=h1;cases h3;exact ⟨n,_,_,h1,h2⟩
 ·rintro ⟨n,f,m',h1,h2⟩
  exact ⟨n,.normal,f,m',by simp [exec,h1],h2⟩
def andThen (S:Sys) (b:zf) (Q:zar->Frame->Mem->Prop) (e:zar) (fr:Frame) (m:Mem):Prop:=
 match e with
 | .normal=>W S b fr m Q
 |e=>Q e fr m
theorem zdj {b:zf}:andThen S b Q .normal fr m=W S b fr m Q:=rfl
theorem zj7 {b:zf}{id:Nat}:andThen S b Q (.exit id) fr m=Q (.exit id) fr m:=rfl
theorem zlm {b:zf}:andThen S b Q .ret fr m=Q .ret fr m:=rfl
theorem zrh {a b:zf}:W S (.seq a b) fr m Q↔W S a fr m (andThen S b Q):=by
 constructor
 ·rintro ⟨n,e,f,m',h1,h2⟩
  simp only [exec] at h1
  split at h1
  ·rename_i f1 m1 h3
   exact ⟨n,_,_,_,h3,n,e,f,m',h1,h2⟩
  ·rename_i hne
   refine ⟨n,_,_,_,h1,?_⟩;cases e with
   |normal=>exact absurd h1 (hne _ _)
   |exit id=>exact h2
   |ret=>exact h2
 ·rintro ⟨n,e,f,m',h1,h2⟩
  cases e with
  |normal=>
   obtain ⟨k,e,f2,m2,h3,h4⟩:=h2;refine ⟨n+k,e,f2,m2,?_,h4⟩;simp only [exec];rw [zab (zcH S (Nat.le_add_right n k)) (Nat.le_add_right n k) a h1];exact zab (zcH S (Nat.le_add_left k n)) (Nat.le_add_left k n) b h3
  |exit id=>exact ⟨n,_,f,m',by simp [exec,h1],h2⟩
  |ret=>exact ⟨n,_,f,m',by simp [exec,h1],h2⟩
theorem zww {x:Arg}{a b:zf}:W S (.cond x a b) fr m Q↔ ∃t,x.get fr= .bool t/\(t=true->W S a fr m Q)/\(t=false->W S b fr m Q):=by
 constructor
 ·rintro ⟨n,e,f,m',h1,h2⟩
  simp only [exec] at h1
  split at h1
  ·rename_i h;exact ⟨true,h,fun _=>⟨n,e,f,m',h1,h2⟩,by simp⟩
  ·rename_i h;exact ⟨false,h,by simp,fun _=>⟨n,e,f,m',h1,h2⟩⟩
  ·cases h1
 ·rintro ⟨t,h,h1,h2⟩
  cases t with
  |true=>obtain ⟨n,e,f,m',h3,h4⟩:=h1 rfl;exact ⟨n,e,f,m',by simp [exec,h,h3],h4⟩
  |false=>obtain ⟨n,e,f,m',h3,h4⟩:=h2 rfl;exact ⟨n,e,f,m',by simp [exec,h,h3],h4⟩
theorem zp6 {x:Arg}{a b:zf}(h:x.get fr= .bool true):W S (.cond x a b) fr m Q↔W S a fr m Q:=by simp [zww,h]
theorem zmi {x:Arg}{a b:zf}(h:x.get fr= .bool false):W S (.cond x a b) fr m Q↔W S b fr m Q:=by simp [zww,h]
def zj8 (id:Nat) (Q:zar->Frame->Mem->Prop) (e:zar) (fr:Frame) (m:Mem):Prop:=
 match e with
 | .exit i=>if i=id then Q .normal fr m else Q (.exit i) fr m
 |e=>Q e fr m
theorem zj9 {id:Nat}:zj8 id Q .normal fr m=Q .normal fr m:=rfl
theorem zoV {id:Nat}:zj8 id Q .ret fr m=Q .ret fr m:=rfl
theorem zcX {id i:Nat}:zj8 id Q (.exit i) fr m=if i=id then Q .normal fr m else Q (.exit i) fr m:=rfl
theorem zp7 {id:Nat}{a:zf}:W S (.block id a) fr m Q↔W S a fr m (zj8 id Q):=by
 constructor
 ·rintro ⟨n,e,f,m',h1,h2⟩
  simp only [exec] at h1
  split at h1
  ·rename_i i f1 m1 h3
   refine ⟨n,_,_,_,h3,?_⟩;rw [zcX]
   split at h1
   all_goals
    rename_i hi
    cases h1;simp only [hi,if_true,if_false];exact h2
  ·rename_i hne
   refine ⟨n,_,_,_,h1,?_⟩;cases e with
   |normal=>exact h2
   |exit id=>exact absurd h1 (hne _ _ _)
   |ret=>exact h2
 ·rintro ⟨n,e,f,m',h1,h2⟩
  cases e with
  |normal=>exact ⟨n,_,f,m',by simp [exec,h1],h2⟩
  |ret=>exact ⟨n,_,f,m',by simp [exec,h1],h2⟩
  |exit i=>
   rw [zcX] at h2
   by_cases hi:i=id
   ·rw [if_pos hi] at h2
    exact ⟨n,_,f,m',by simp [exec,h1,hi],h2⟩
   ·rw [if_neg hi] at h2
    exact ⟨n,_,f,m',by simp [exec,h1,hi],h2⟩
theorem zW {c:zf}(I:Nat->Frame->Mem->Prop) (h: ∀k fr m,I k fr m->W S c fr m (fun e fr' m'=>match e with
  | .normal=> ∃j,j<k/\I j fr' m'
  |e=>Q e fr' m')): ∀(k:Nat){fr:Frame}{m:Mem},I k fr m->W S (.loop c) fr m Q:=by
 intro k
 induction k using Nat.strongRecOn with
 |_ k ih=>
  intro fr m hi;obtain ⟨n,e,f1,m1,h1,h2⟩:=h k fr m hi;cases e with
  |normal=>
   obtain ⟨j,hj,hi'⟩:=h2;obtain ⟨n2,e2,f2,m2,h3,h4⟩:=ih j hj hi';refine ⟨n+n2+1,e2,f2,m2,?_,h4⟩;simp only [exec,iter] at h3 ⊢;rw [zab (zcH S (show n<=n+n2+1 by omega)) (show n<=n+n2+1 by omega) c h1];exact zkJ (fun _ _ _ h=>zab (zcH S (show n2<=n+n2+1 by omega)) (show n2<=n+n2+1 by omega) c h) (show n2<=n+n2 by omega) h3
  |exit id=>
   refine ⟨n+1,.exit id,f1,m1,?_,h2⟩;simp only [exec,iter];rw [zab (zcH S (Nat.le_succ n)) (Nat.le_succ n) c h1]
  |ret=>
   refine ⟨n+1,.ret,f1,m1,?_,h2⟩;simp only [exec,iter];rw [zab (zcH S (Nat.le_succ n)) (Nat.le_succ n) c h1]
def zln (rs:List RV) (P:V->Mem->Prop) (e:zar) (fr:Frame) (m:Mem):Prop:=
 match e with
 | .exit _=>False
 |_=> ∃v,zbn rs fr m=some v/\P v m
theorem zoW {rs:List RV}{P:V->Mem->Prop}:zln rs P .ret fr m= ∃v,zbn rs fr m=some v/\P v m:=rfl
theorem zka {rs:List RV}{P:V->Mem->Prop}:zln rs P .normal fr m= ∃v,zbn rs fr m=some v/\P v m:=rfl
theorem zyu {f:Nat}{fn:ze}{args:List V}{P:V->Mem->Prop}(hX:S.X f=none) (hF:S.F f=some fn) (hl:args.length=fn.nparams) (h:W S fn.body (ziJ args) m (zln fn.results P)):C S f args m P:=by
 obtain ⟨n,e,fr,m',h1,h2⟩:=h;cases e with
 |exit id=>exact h2.elim
 |normal=>
  obtain ⟨v,h2,h3⟩:=h2;refine ⟨n+1,v,m',?_,h3⟩;simp only [Sys.call,callN,hX,hF,if_pos hl];rw [h1];simp [h2]
 |ret=>
  obtain ⟨v,h2,h3⟩:=h2;refine ⟨n+1,v,m',?_,h3⟩;simp only [Sys.call,callN,hX,hF,if_pos hl];rw [h1];simp [h2]
theorem zul:O S base [] fr m K↔K fr m:=by
 simp only [O,zC,Option.some.injEq,Prod.mk.injEq];exact ⟨fun ⟨_,_,_,⟨a,b⟩,h⟩=>by subst a b;exact h,fun h=>⟨0,_,_,⟨rfl,rfl⟩,h⟩⟩
theorem zwx {o:zo}{r:List zo}:O S base (o::r) fr m K↔O S base [o] fr m (fun fr m=>O S base r fr m K):=by
 constructor
 ·rintro ⟨n,f,m',h1,h2⟩
  simp only [zC] at h1
  split at h1
  case h_2=>cases h1
  rename_i f1 m1 h3
  exact ⟨n,f1,m1,by simp [zC,h3],n,f,m',h1,h2⟩
 ·rintro ⟨n,f,m',h1,k,f2,m2,h2,h3⟩
  simp only [zC] at h1
  split at h1
  case h_2=>cases h1
  rename_i f1 m1 h4
  cases h1;refine ⟨n+k,f2,m2,?_,h3⟩;simp only [zC];rw [zoU (zcH S (Nat.le_add_right n k)) h4];exact zfp (zcH S (Nat.le_add_left k n)) h2
def zwy:AOp->Bool
 | .call _ _=>false
 |_=>true
theorem zaV {d:Option Nat}{op:AOp}{t:Option Nat} {l}{r:List zo}(h:zwy op=true):O S base (⟨d,none,op,t,l⟩::r) fr m K↔ ∃v m',zu op (t.map (base+ ·)) fr m=some (v,m')/\zO l fr m'=true/\O S base r (putO fr d v) m' K:=by
 have hs: ∀c:zS,step c op (t.map (base+ ·)) fr m=zu op (t.map (base+ ·)) fr m:=by
  intro c;cases op<;>first|rfl|cases h
 rw [zwx];constructor
 ·rintro ⟨n,f,m',h1,h2⟩
  simp only [zC,zeL,zQ,if_true,hs] at h1
  split at h1
  case h_2=>cases h1
  rename_i f1 m1 h3
  cases h1
  split at h3
  case h_2=>cases h3
  rename_i v m2 h4
  split at h3
  case isFalse=>cases h3
  rename_i hc
  cases h3;exact ⟨v,_,h4,hc,h2⟩
 ·rintro ⟨v,m',h1,hc,h2⟩
  exact ⟨0,putO fr d v,m',by simp [zC,zeL,zQ,hs,h1,hc],h2⟩
theorem zp8 {d:Option Nat}{f:Arg}{as:List Arg}{t:Option Nat} {l}{r:List zo}{g:Nat}{first cap:List V}(hf:f.get fr= .fn g first cap):
  O S base (⟨d,none,.call f as,t,l⟩::r) fr m K↔C S g (first++(as.map (·.get fr)++cap)) m (fun v m'=>zO l fr m'=true/\O S base r (putO fr d v) m' K):=by
 rw [zwx];constructor
 ·rintro ⟨n,f,m',h1,h2⟩
  simp only [zC,zeL,zQ,if_true,step,hf] at h1
  split at h1
  case h_2=>cases h1
  rename_i f1 m1 h3
  cases h1
  split at h3
  case h_2=>cases h3
  rename_i v m2 h4
  split at h3
  case isFalse=>cases h3
  rename_i hc
  cases h3;exact ⟨n,v,_,h4,hc,h2⟩
 ·rintro ⟨n,v,m',h1,hc,h2⟩
  exact ⟨n,putO fr d v,m',by simp [zC,zeL,zQ,step,hf,h1,hc],h2⟩
theorem zy0 {d:Option Nat}{g:Nat}{w:Bool}{op:AOp}{t:Option Nat} {l}{r:List zo}(h:fr g= .bool w):O S base (⟨d,some (g,w),op,t,l⟩::r) fr m K↔O S base (⟨d,none,op,t,l⟩::r) fr m K:=by
 simp [O,zC,zeL,zQ,h]
theorem zyf {d:Option Nat}{g:Nat}{w:Bool}{op:AOp}{t:Option Nat} {l}{r:List zo}(h:fr g= .bool !w):O S base (⟨d,some (g,w),op,t,l⟩::r) fr m K↔O S base r (putO fr d undef) m K:=by
 simp [O,zC,zeL,zQ,h]
end
end Go.AM
