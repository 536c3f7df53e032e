import Derived.Test.YtfhbhfogcgfeeaaGreatDoorAmDraw
set_option linter.unusedVariables false
set_option linter.unusedSimpArgs false
namespace Go.AM
open Go
def zef (c c':zP):Prop:= ∀f a m r,c f a m=some r->c' f a m=some r
theorem zef.refl (c:zP):zef c c:=fun _ _ _ _ h=>h
def zgT (X:Told):Prop:= ∀f t,X f=some t-> ∀c c',zef c c'-> ∀a m r,t c a m=some r->t c' a m=some r
structure Sys where
 F:Nat->Option ze
 X:Told
 mono:zgT X
section
variable {c c':zP}
theorem zuH (h:zef c c'){o:AOp} {tgt fr m r}(e:step c o tgt fr m=some r):step c' o tgt fr m=some r:=by
 cases o with
 |call f args=>
  simp only [step] at e ⊢
  split at e
  ·exact h _ _ _ _ e
  ·cases e
 |_=>exact e
theorem zoh (h:zef c c'){o:zl} {base fr m r}(e:zdK c base o fr m=some r):zdK c' base o fr m=some r:=by
 unfold zdK at e ⊢
 split at e
 ·rename_i hw
  rw [if_pos hw]
  split at e
  case h_2=>cases e
  rename_i v m' hs
  rw [zuH h hs];exact e
 ·rename_i hw
  rw [if_neg hw];exact e
theorem zeG (h:zef c c'){base:Nat}: ∀{ops:List zl} {fr m r},zA c base ops fr m=some r->zA c' base ops fr m=some r
 | [],_,_,_,e=>e
 |o::ops,fr,m,r,e=>by
  simp only [zA] at e ⊢
  split at e
  case h_2=>cases e
  rename_i f1 m1 h1
  rw [zoh h h1];exact zeG h e
theorem zj3 {f g:Frame->Mem->Option (zal×Frame×Mem)}(hf: ∀fr m r,f fr m=some r->g fr m=some r): ∀{n k:Nat},n<=k-> ∀{fr m r},iter f n fr m=some r->iter g k fr m=some r
 |0,_,_,_,_,_,e=>by simp [iter] at e
 |n+1,k,hk,fr,m,r,e=>by
  obtain ⟨k,rfl⟩: ∃j,k=j+1:=⟨k-1,by omega⟩
  simp only [iter] at e ⊢
  split at e
  ·rename_i f1 m1 h1
   rw [hf _ _ _ h1];exact zj3 hf (by omega) e
  ·rename_i hne
   rw [hf _ _ _ e]
   split
   ·rename_i f1 m1 h1
    cases h1;exact absurd e (hne _ _)
   ·rfl
theorem zac (h:zef c c'){n k:Nat}(hk:n<=k): ∀(a:zf) {fr m r},exec c n a fr m=some r->exec c' k a fr m=some r
 | .skip,_,_,_,e| .exit _,_,_,_,e| .ret,_,_,_,e=>by simpa [exec] using e
 | .region ops,fr,m,r,e=>by
  simp only [exec,Option.map_eq_some_iff] at e ⊢;obtain ⟨s,h1,h2⟩:=e;exact ⟨s,zeG h h1,h2⟩
 | .draw j ops,fr,m,r,e=>by
  simp only [exec,Option.map_eq_some_iff] at e ⊢;obtain ⟨s,h1,h2⟩:=e;exact ⟨s,zeG h h1,h2⟩
 | .seq a b,fr,m,r,e=>by
  simp only [exec] at e ⊢
  split at e
  ·rename_i f1 m1 h1
   rw [zac h hk a h1];exact zac h hk b e
  ·rename_i hne
   rw [zac h hk a e]
   split
   ·rename_i f1 m1 h1
    cases h1;exact absurd e (hne _ _)
   ·rfl
 | .cond x a b,fr,m,r,e=>by
  simp only [exec] at e ⊢
  split at e
  ·exact zac h hk a e
  ·exact zac h hk b e
  ·cases e
 | .block id a,fr,m,r,e=>by
  simp only [exec] at e ⊢
  split at e
  ·rename_i i f1 m1 h1
   rw [zac h hk a h1];exact e
  ·rename_i hne
   rw [zac h hk a e]
   split
   ·rename_i i f1 m1 h1
    cases h1;exact absurd e (hne _ _ _)
   ·rfl
 | .loop a,fr,m,r,e=>by
  simp only [exec] at e ⊢;exact zj3 (fun _ _ _ h1=>zac h hk a h1) hk e
end
theorem zl5 (S:Sys): ∀n,zef (callN S.F S.X n) (callN S.F S.X (n+1))
 |0=>fun f a m r h=>by simp [callN] at h
 |n+1=>fun f a m r h=>by
  have ih:=zl5 S n;rw [callN] at h ⊢
  split at h
  ·rename_i t ht
   exact S.mono f t ht _ _ ih _ _ _ h
  split at h
  ·cases h
  rename_i fn hfn
  split at h
  case isFalse=>cases h
  rename_i hlen
  rw [if_pos hlen]
  split at h
  ·rename_i f1 m1 h1
   rw [zac ih (Nat.le_succ n) _ h1];exact h
  ·rename_i f1 m1 h1
   rw [zac ih (Nat.le_succ n) _ h1];exact h
  ·cases h
theorem zcq (S:Sys){n k:Nat}(h:n<=k):zef (callN S.F S.X n) (callN S.F S.X k):=by
 induction h with
 |refl=>exact zef.refl _
 |step _ ih=>exact fun f a m r e=>zl5 S _ f a m r (ih f a m r e)
abbrev Sys.call (S:Sys) (n:Nat):zP:=callN S.F S.X n
def W (S:Sys) (c:zf) (fr:Frame) (m:Mem) (Q:zal->Frame->Mem->Prop):Prop:= ∃n e fr' m',exec (S.call n) n c fr m=some (e,fr',m')/\Q e fr' m'
def O (S:Sys) (base:Nat) (ops:List zl) (fr:Frame) (m:Mem) (Q:Frame->Mem->Prop):Prop:= ∃n fr' m',zA (S.call n) base ops fr m=some (fr',m')/\Q fr' m'
def C (S:Sys) (f:Nat) (args:List V) (m:Mem) (Q:V->Mem->Prop):Prop:= ∃n v m',S.call n f args m=some (v,m')/\Q v m'
section
variable {S:Sys}{fr:Frame}{m:Mem}{Q:zal->Frame->Mem->Prop}{base:Nat}{K:Frame->Mem->Prop}
theorem W.mono {c:zf}{Q':zal->Frame->Mem->Prop}(h:W S c fr m Q) (hQ: ∀e fr m,Q e fr m->Q' e fr m):W S c fr m Q':=by
 obtain ⟨n,e,f,m',h1,h2⟩:=h;exact ⟨n,e,f,m',h1,hQ _ _ _ h2⟩
theorem O.mono {ops:List zl}{K':Frame->Mem->Prop}(h:O S base ops fr m K) (hQ: ∀fr m,K fr m->K' fr m):O S base ops fr m K':=by
 obtain ⟨n,f,m',h1,h2⟩:=h;exact ⟨n,f,m',h1,hQ _ _ h2⟩
theorem C.mono {f:Nat}{args:List V}{P P':V->Mem->Prop}(h:C S f args m P) (hQ: ∀v m,P v m->P' v m):C S f args m P':=by
 obtain ⟨n,v,m',h1,h2⟩:=h;exact ⟨n,v,m',h1,hQ _ _ h2⟩
theorem zsk:W S .skip fr m Q↔Q .normal fr m:=by
 simp only [W,exec,Option.some.injEq,Prod.mk.injEq];exact ⟨fun ⟨_,_,_,_,⟨a,b,c⟩,h⟩=>by subst a b c;exact h,fun h=>⟨0,_,_,_,⟨rfl,rfl,rfl⟩,h⟩⟩
theorem zsl {id:Nat}:W S (.exit id) fr m Q↔Q (.exit id) fr m:=by
 simp only [W,exec,Option.some.injEq,Prod.mk.injEq];exact ⟨fun ⟨_,_,_,_,⟨a,b,c⟩,h⟩=>by subst a b c;exact h,fun h=>⟨0,_,_,_,⟨rfl,rfl,rfl⟩,h⟩⟩
theorem zxO:W S .ret fr m Q↔Q .ret fr m:=by
 simp only [W,exec,Option.some.injEq,Prod.mk.injEq];exact ⟨fun ⟨_,_,_,_,⟨a,b,c⟩,h⟩=>by subst a b c;exact h,fun h=>⟨0,_,_,_,⟨rfl,rfl,rfl⟩,h⟩⟩
def nrm (Q:zal->Frame->Mem->Prop) (fr:Frame) (m:Mem):Prop:=Q .normal fr m
theorem zpp:nrm Q fr m=Q .normal fr m:=rfl
theorem zi7 {ops:List zl}:W S (.region ops) fr m Q↔O S 0 ops fr m (nrm Q):=by
 constructor
 ·rintro ⟨n,e,f,m',h1,h2⟩
  simp only [exec,Option.map_eq_some_iff] at h1;obtain ⟨s,h1,h3⟩:=h1;cases h3;exact ⟨n,_,_,h1,h2⟩
 ·rintro ⟨n,f,m',h1,h2⟩
  exact ⟨n,.normal,f,m',by simp [exec,h1],h2⟩
theorem zwg {k:Nat}{ops:List zl}:W S (.draw k ops) fr m Q↔O S m.length ops fr (m++List.replicate k .dead) (nrm Q):=by
 constructor
 ·rintro ⟨n,e,f,m',h1,h2⟩
  simp only [exec,Option.map_eq_some_iff] at h1;obtain ⟨s,h1,h3⟩:=h1;cases h3;exact ⟨n,_,_,h1,h2⟩
 ·rintro ⟨n,f,m',h1,h2⟩
  exact ⟨n,.normal,f,m',by simp [exec,h1],h2⟩
def andThen (S:Sys) (b:zf) (Q:zal->Frame->Mem->Prop) (e:zal) (fr:Frame) (m:Mem):Prop:=
 match e with
 | .normal=>W S b fr m Q
 |e=>Q e fr m
theorem zcR {b:zf}:andThen S b Q .normal fr m=W S b fr m Q:=rfl
theorem zi8 {b:zf}{id:Nat}:andThen S b Q (.exit id) fr m=Q (.exit id) fr m:=rfl
theorem zkC {b:zf}:andThen S b Q .ret fr m=Q .ret fr m:=rfl
theorem zqD {a b:zf}:W S (.seq a b) fr m Q↔W S a fr m (andThen S b Q):=by
 constructor
 ·rintro ⟨n,e,f,m',h1,h2⟩
  simp only [exec] at h1
  split at h1
  ·rename_i f1 m1 h3
   exact ⟨n,_,_,_,h3,n,e,f,m',h1,h2⟩
  ·rename_i hne
   refine ⟨n,_,_,_,h1,?_⟩;cases e with
   |normal=>exact absurd h1 (hne _ _)
   |exit id=>exact h2
   |ret=>exact h2
 ·rintro ⟨n,e,f,m',h1,h2⟩
  cases e with
  |normal=>
   obtain ⟨k,e,f2,m2,h3,h4⟩:=h2;refine ⟨n+k,e,f2,m2,?_,h4⟩;simp only [exec];rw [zac (zcq S (Nat.le_add_right n k)) (Nat.le_add_right n k) a h1];exact zac (zcq S (Nat.le_add_left k n)) (Nat.le_add_left k n) b h3
  |exit id=>exact ⟨n,_,f,m',by simp [exec,h1],h2⟩
  |ret=>exact ⟨n,_,f,m',by simp [exec,h1],h2⟩
theorem zwh {x:Arg}{a b:zf}:W S (.cond x a b) fr m Q↔ ∃t,x.get fr= .bool t/\(t=true->W S a fr m Q)/\(t=false->W S b fr m Q):=by
 constructor
 ·rintro ⟨n,e,f,m',h1,h2⟩
  simp only [exec] at h1
  split at h1
  ·rename_i h;exact ⟨true,h,fun _=>⟨n,e,f,m',h1,h2⟩,by simp⟩
  ·rename_i h;exact ⟨false,h,by simp,fun _=>⟨n,e,f,m',h1,h2⟩⟩
  ·cases h1
 ·rintro ⟨t,h,h1,h2⟩
  cases t with
  |true=>obtain ⟨n,e,f,m',h3,h4⟩:=h1 rfl;exact ⟨n,e,f,m',by simp [exec,h,h3],h4⟩
  |false=>obtain ⟨n,e,f,m',h3,h4⟩:=h2 rfl;exact ⟨n,e,f,m',by simp [exec,h,h3],h4⟩
theorem zpq {x:Arg}{a b:zf}(h:x.get fr= .bool true):W S (.cond x a b) fr m Q↔W S a fr m Q:=by simp [zwh,h]
theorem zlr {x:Arg}{a b:zf}(h:x.get fr= .bool false):W S (.cond x a b) fr m Q↔W S b fr m Q:=by simp [zwh,h]
def zi9 (id:Nat) (Q:zal->Frame->Mem->Prop) (e:zal) (fr:Frame) (m:Mem):Prop:=
 match e with
 | .exit i=>if i=id then Q .normal fr m else Q (.exit i) fr m
 |e=>Q e fr m
theorem zja {id:Nat}:zi9 id Q .normal fr m=Q .normal fr m:=rfl
theorem zoi {id:Nat}:zi9 id Q .ret fr m=Q .ret fr m:=rfl
theorem zcB {id i:Nat}:zi9 id Q (.exit i) fr m=if i=id then Q .normal fr m else Q (.exit i) fr m:=rfl
theorem zpr {id:Nat}{a:zf}:W S (.block id a) fr m Q↔W S a fr m (zi9 id Q):=by
 constructor
 ·rintro ⟨n,e,f,m',h1,h2⟩
  simp only [exec] at h1
  split at h1
  ·rename_i i f1 m1 h3
   refine ⟨n,_,_,_,h3,?_⟩;rw [zcB]
   split at h1
   all_goals
    rename_i hi
    cases h1;simp only [hi,if_true,if_false];exact h2
  ·rename_i hne
   refine ⟨n,_,_,_,h1,?_⟩;cases e with
   |normal=>exact h2
   |exit id=>exact absurd h1 (hne _ _ _)
   |ret=>exact h2
 ·rintro ⟨n,e,f,m',h1,h2⟩
  cases e with
  |normal=>exact ⟨n,_,f,m',by simp [exec,h1],h2⟩
  |ret=>exact ⟨n,_,f,m',by simp [exec,h1],h2⟩
  |exit i=>
   rw [zcB] at h2
   by_cases hi:i=id
   ·rw [if_pos hi] at h2
    exact ⟨n,_,f,m',by simp [exec,h1,hi],h2⟩
   ·rw [if_neg hi] at h2
    exact ⟨n,_,f,m',by simp [exec,h1,hi],h2⟩
theorem zai {c:zf}(I:Nat->Frame->Mem->Prop) (h: ∀k fr m,I k fr m->W S c fr m (fun e fr' m'=>match e with
  | .normal=> ∃j,j<k/\I j fr' m'
  |e=>Q e fr' m')): ∀(k:Nat){fr:Frame}{m:Mem},I k fr m->W S (.loop c) fr m Q:=by
 intro k
 induction k using Nat.strongRecOn with
 |_ k ih=>
  intro fr m hi;obtain ⟨n,e,f1,m1,h1,h2⟩:=h k fr m hi;cases e with
  |normal=>
   obtain ⟨j,hj,hi'⟩:=h2;obtain ⟨n2,e2,f2,m2,h3,h4⟩:=ih j hj hi';refine ⟨n+n2+1,e2,f2,m2,?_,h4⟩;simp only [exec,iter] at h3 ⊢;rw [zac (zcq S (show n<=n+n2+1 by omega)) (show n<=n+n2+1 by omega) c h1];exact zj3 (fun _ _ _ h=>zac (zcq S (show n2<=n+n2+1 by omega)) (show n2<=n+n2+1 by omega) c h) (show n2<=n+n2 by omega) h3
  |exit id=>
   refine ⟨n+1,.exit id,f1,m1,?_,h2⟩;simp only [exec,iter];rw [zac (zcq S (Nat.le_succ n)) (Nat.le_succ n) c h1]
  |ret=>
   refine ⟨n+1,.ret,f1,m1,?_,h2⟩;simp only [exec,iter];rw [zac (zcq S (Nat.le_succ n)) (Nat.le_succ n) c h1]
def zoj (rs:List RV) (P:V->Mem->Prop) (e:zal) (fr:Frame) (m:Mem):Prop:=
 match e with
 | .exit _=>False
 |_=> ∃v,zbc rs fr m=some v/\P v m
theorem zok {rs:List RV}{P:V->Mem->Prop}:zoj rs P .ret fr m= ∃v,zbc rs fr m=some v/\P v m:=rfl
theorem zjb {rs:List RV}{P:V->Mem->Prop}:zoj rs P .normal fr m= ∃v,zbc rs fr m=some v/\P v m:=rfl
theorem zx6 {f:Nat}{fn:ze}{args:List V}{P:V->Mem->Prop}(hX:S.X f=none) (hF:S.F f=some fn) (hl:args.length=fn.nparams) (h:W S fn.body (zhL args) m (zoj fn.results P)):C S f args m P:=by
 obtain ⟨n,e,fr,m',h1,h2⟩:=h;cases e with
 |exit id=>exact h2.elim
 |normal=>
  obtain ⟨v,h2,h3⟩:=h2;refine ⟨n+1,v,m',?_,h3⟩;simp only [Sys.call,callN,hX,hF,if_pos hl];rw [h1];simp [h2]
 |ret=>
  obtain ⟨v,h2,h3⟩:=h2;refine ⟨n+1,v,m',?_,h3⟩;simp only [Sys.call,callN,hX,hF,if_pos hl];rw [h1];simp [h2]
theorem ztU:O S base [] fr m K↔K fr m:=by
 simp only [O,zA,Option.some.injEq,Prod.mk.injEq];exact ⟨fun ⟨_,_,_,⟨a,b⟩,h⟩=>by subst a b;exact h,fun h=>⟨0,_,_,⟨rfl,rfl⟩,h⟩⟩
theorem zwi {o:zl}{r:List zl}:O S base (o::r) fr m K↔O S base [o] fr m (fun fr m=>O S base r fr m K):=by
 constructor
 ·rintro ⟨n,f,m',h1,h2⟩
  simp only [zA] at h1
  split at h1
  case h_2=>cases h1
  rename_i f1 m1 h3
  exact ⟨n,f1,m1,by simp [zA,h3],n,f,m',h1,h2⟩
 ·rintro ⟨n,f,m',h1,k,f2,m2,h2,h3⟩
  simp only [zA] at h1
  split at h1
  case h_2=>cases h1
  rename_i f1 m1 h4
  cases h1;refine ⟨n+k,f2,m2,?_,h3⟩;simp only [zA];rw [zoh (zcq S (Nat.le_add_right n k)) h4];exact zeG (zcq S (Nat.le_add_left k n)) h2
def zwj:AOp->Bool
 | .call _ _=>false
 |_=>true
theorem zaM {d:Option Nat}{op:AOp}{t:Option Nat} {l}{r:List zl}(h:zwj op=true):O S base (⟨d,none,op,t,l⟩::r) fr m K↔ ∃v m',zu op (t.map (base+ ·)) fr m=some (v,m')/\zM l fr m'=true/\O S base r (putO fr d v) m' K:=by
 have hs: ∀c:zP,step c op (t.map (base+ ·)) fr m=zu op (t.map (base+ ·)) fr m:=by
  intro c;cases op<;>first|rfl|cases h
 rw [zwi];constructor
 ·rintro ⟨n,f,m',h1,h2⟩
  simp only [zA,zdK,zO,if_true,hs] at h1
  split at h1
  case h_2=>cases h1
  rename_i f1 m1 h3
  cases h1
  split at h3
  case h_2=>cases h3
  rename_i v m2 h4
  split at h3
  case isFalse=>cases h3
  rename_i hc
  cases h3;exact ⟨v,_,h4,hc,h2⟩
 ·rintro ⟨v,m',h1,hc,h2⟩
  exact ⟨0,putO fr d v,m',by simp [zA,zdK,zO,hs,h1,hc],h2⟩
theorem zps {d:Option Nat}{f:Arg}{as:List Arg}{t:Option Nat} {l}{r:List zl}{g:Nat}{first cap:List V}(hf:f.get fr= .fn g first cap):
  O S base (⟨d,none,.call f as,t,l⟩::r) fr m K↔C S g (first++(as.map (·.get fr)++cap)) m (fun v m'=>zM l fr m'=true/\O S base r (putO fr d v) m' K):=by
 rw [zwi];constructor
 ·rintro ⟨n,f,m',h1,h2⟩
  simp only [zA,zdK,zO,if_true,step,hf] at h1
  split at h1
  case h_2=>cases h1
  rename_i f1 m1 h3
  cases h1
  split at h3
  case h_2=>cases h3
  rename_i v m2 h4
  split at h3
  case isFalse=>cases h3
  rename_i hc
  cases h3;exact ⟨n,v,_,h4,hc,h2⟩
 ·rintro ⟨n,v,m',h1,hc,h2⟩
  exact ⟨n,putO fr d v,m',by simp [zA,zdK,zO,step,hf,h1,hc],h2⟩
theorem zyB {d:Option Nat}{g:Nat}{w:Bool}{op:AOp}{t:Option Nat} {l}{r:List zl}(h:fr g= .bool w):O S base (⟨d,some (g,w),op,t,l⟩::r) fr m K↔O S base (⟨d,none,op,t,l⟩::r) fr m K:=by
 simp [O,zA,zdK,zO,h]
theorem zxP {d:Option Nat}{g:Nat}{w:Bool}{op:AOp}{t:Option Nat} {l}{r:List zl}(h:fr g= .bool !w):O S base (⟨d,some (g,w),op,t,l⟩::r) fr m K↔O S base r (putO fr d undef) m K:=by
 simp [O,zA,zdK,zO,h]
end
end Go.AM
