import Derived.Test.YtfhbhfogcgfeeaaGreatDoorAmW
set_option linter.unusedVariables false
set_option linter.unusedSimpArgs false
namespace Go.AM
open Go
def Kin (m m':Mem):Prop:= ∀(b:Nat) (els:List (List V)),m'[b]? =some (Blk.cells false els)->m[b]? =some (Blk.cells false els)
theorem Kin.refl (m:Mem):Kin m m:=fun _ _ h=>h
theorem Kin.trans {a b c:Mem}(h:Kin a b) (k:Kin b c):Kin a c:=fun i e x=>h i e (k i e x)
theorem Kin.set {m:Mem}{b:Nat}{x:Blk}(hx: ∀els,x≠ .cells false els):Kin m (m.set b x):=fun c els h=>by
 by_cases e:b=c
 ·subst e
  by_cases hl:b<m.length
  ·rw [List.getElem?_set_self hl] at h
   exact absurd (Option.some.inj h) (hx els)
  ·rw [List.getElem?_eq_none (by rw [List.length_set];omega)] at h
   cases h
 ·rwa [List.getElem?_set_ne e] at h
theorem Kin.push {m l:Mem}(hx: ∀x,x∈l-> ∀els,x≠ .cells false els):Kin m (m++l):=fun c els h=>by
 by_cases hl:c<m.length
 ·rwa [List.getElem?_append_left hl] at h
 ·rw [List.getElem?_append_right (by omega)] at h
  exact absurd rfl (hx _ (List.mem_of_getElem? h) els)
theorem Kin.push1 {m:Mem}{x:Blk}(hx: ∀els,x≠ .cells false els):Kin m (m++[x]):=Kin.push fun y hy=>by rw [List.mem_singleton.1 hy];exact hx
theorem ct {els:List (List V)}: ∀e,Blk.cells true els≠ .cells false e:=fun _ h=>by cases h
theorem cd: ∀e,Blk.dead≠ .cells false e:=fun _ h=>by cases h
theorem cm {es:List (Int×Int)}: ∀e,Blk.mp es≠ .cells false e:=fun _ h=>by cases h
section
variable {m m':Mem}{v:V}
theorem zr4 {n:Nat}{a x:V}(h:zaK m n a x=some m'):Kin m m':=by
 unfold zaK at h
 repeat' split at h
 all_goals first|(cases h;done)|(cases h;exact Kin.set ct)
theorem zr5 {tgt:Option Nat}{x:Blk}{b:Nat}(hx: ∀els,x≠ .cells false els) (h:zan m tgt x=some (b,m')):Kin m m':=by
 unfold zan at h
 repeat' split at h
 all_goals first|(cases h;done)|(cases h;exact Kin.push1 hx)|(cases h;exact Kin.set hx)
theorem zqr {z:List V}{by_:Nat}{x y:V}(h:zF m z by_ x y=some (v,m')):Kin m m':=by
 unfold zF at h
 repeat' split at h
 all_goals first|(cases h;done)|(cases h;exact Kin.refl _)|(cases h;exact Kin.push1 ct)|(cases h;exact Kin.set ct)|(cases h;exact (Kin.set cd).trans (Kin.push1 ct))
theorem zuu {z:Nat}{x y:V}(h:copyV m z x y=some (v,m')):Kin m m':=by
 unfold copyV at h
 split at h
 ·dsimp only at h
  repeat' split at h
  all_goals first|(cases h;done)|(cases h;exact Kin.refl _)|(cases h;exact Kin.set ct)
 ·cases h
theorem zr6 {z:List V}{x:V}(h:zdJ m z x=some (v,m')):Kin m m':=by
 unfold zdJ at h
 repeat' split at h
 all_goals first|(cases h;done)|(cases h;exact Kin.refl _)|(cases h;exact Kin.set ct)
theorem zuv {z:List V}{by_:Nat}{x y:V}(h:zhK m z by_ x y=some (v,m')):Kin m m':=by
 unfold zhK at h
 repeat' split at h
 all_goals first|(cases h;done)|(cases h;exact Kin.push1 ct)
theorem zvI {x k u:V}(h:zoZ m x k u=some m'):Kin m m':=by
 unfold zoZ at h
 repeat' split at h
 all_goals first|(cases h;done)|(cases h;exact Kin.set cm)
theorem zvJ {o:AOp}{tgt:Option Nat}{fr:Frame}(h:zu o tgt fr m=some (v,m')):Kin m m':=by
 have quiet: ∀{r:Option V},(r.map fun v=>(v,m))=some (v,m')->Kin m m':=fun hr=>by
  simp only [Option.map_eq_some_iff] at hr;obtain ⟨u,hu,e⟩:=hr;cases e;exact Kin.refl _
 have new: ∀{x:Blk}{f:Nat->V},(∀els,x≠ .cells false els)->((zan m tgt x).map fun y=>(f y.1,y.2))=some (v,m')->Kin m m':=fun hx hr=>by
  simp only [Option.map_eq_some_iff] at hr;obtain ⟨⟨b,m1⟩,hb,e⟩:=hr;cases e;exact zr5 hx hb
 cases o<;>simp only [zu] at h
 case alloc=>exact new (f:=fun b=> .ptr b 0 0) ct h
 case box=>
  split at h
  ·exact new (f:=fun b=> .ptr b 0 0) ct h
  ·cases h
 case bslice=>
  simp only [Option.bind_eq_some_iff] at h;obtain ⟨els,he,h⟩:=h;exact new (f:=fun b=> .slice b 0 _ _ true _) ct h
 case store=>
  simp only [Option.map_eq_some_iff] at h;obtain ⟨m1,hm,e⟩:=h;cases e;exact zr4 hm
 case mkslice=>
  split at h
  ·split at h
   ·exact new (f:=fun b=> .slice b 0 _ _ true _) ct h
   ·cases h
  ·cases h
 case appz=>exact zuv h
 case mkmap=>cases h;exact Kin.push1 cm
 case mapset=>
  simp only [Option.map_eq_some_iff] at h;obtain ⟨m1,hm,e⟩:=h;cases e;exact zvI hm
 case append=>exact zqr h
 case copy=>exact zuu h
 case clear=>exact zr6 h
 all_goals first
  |exact quiet h
  |(cases h;exact Kin.refl _)
  | (repeat' split at h
     all_goals first|exact quiet h|(cases h;done)|(cases h;exact Kin.refl _))
end
def zvK (call:zP):Prop:= ∀f args m v m',call f args m=some (v,m')->Kin m m'
def zo7 (X:Told):Prop:= ∀f t,X f=some t-> ∀call,zvK call-> ∀args m v m',t call args m=some (v,m')->Kin m m'
section
variable {call:zP}
theorem zvL (hc:zvK call){base:Nat}{o:zl}{fr fr':Frame}{m m':Mem}(h:zdK call base o fr m=some (fr',m')):Kin m m':=by
 unfold zdK at h
 split at h
 ·split at h
  ·rename_i u m1 hs
   split at h
   ·cases h
    unfold step at hs
    split at hs
    ·split at hs
     ·exact hc _ _ _ _ _ hs
     ·cases hs
    ·exact zvJ hs
   ·cases h
  ·cases h
 ·cases h;exact Kin.refl _
theorem zij (hc:zvK call){base:Nat}: ∀{l:List zl}{fr fr':Frame}{m m':Mem},zA call base l fr m=some (fr',m')->Kin m m'
 | [],fr,fr',m,m',h=>by
  simp only [zA,Option.some.injEq,Prod.mk.injEq] at h;obtain ⟨rfl,rfl⟩:=h;exact Kin.refl _
 |o::l,fr,fr',m,m',h=>by
  simp only [zA] at h
  split at h
  ·rename_i f1 m1 h1
   exact (zvL hc h1).trans (zij hc h)
  ·cases h
theorem zb0 (hc:zvK call) (n:Nat): ∀(c:zf){fr fr':Frame}{m m':Mem}{e:zal},exec call n c fr m=some (e,fr',m')->Kin m m'
 | .skip,fr,fr',m,m',e,h=>by simp only [exec,Option.some.injEq,Prod.mk.injEq] at h;obtain ⟨rfl,rfl,rfl⟩:=h;exact Kin.refl _
 | .ret,fr,fr',m,m',e,h=>by simp only [exec,Option.some.injEq,Prod.mk.injEq] at h;obtain ⟨rfl,rfl,rfl⟩:=h;exact Kin.refl _
 | .exit i,fr,fr',m,m',e,h=>by simp only [exec,Option.some.injEq,Prod.mk.injEq] at h;obtain ⟨rfl,rfl,rfl⟩:=h;exact Kin.refl _
 | .region ops,fr,fr',m,m',e,h=>by
  simp only [exec,Option.map_eq_some_iff] at h;obtain ⟨⟨f1,m1⟩,h1,e'⟩:=h;cases e';exact zij hc h1
 | .draw k ops,fr,fr',m,m',e,h=>by
  simp only [exec,Option.map_eq_some_iff] at h;obtain ⟨⟨f1,m1⟩,h1,e'⟩:=h;cases e';refine Kin.trans (Kin.push fun x hx els=> ?_) (zij hc h1);rw [(List.mem_replicate.1 hx).2];exact cd els
 | .seq a b,fr,fr',m,m',e,h=>by
  simp only [exec] at h
  split at h
  ·rename_i f1 m1 h1
   exact (zb0 hc n a h1).trans (zb0 hc n b h)
  ·exact zb0 hc n a h
 | .cond c a b,fr,fr',m,m',e,h=>by
  simp only [exec] at h
  split at h
  ·exact zb0 hc n a h
  ·exact zb0 hc n b h
  ·cases h
 | .block i c,fr,fr',m,m',e,h=>by
  simp only [exec] at h
  split at h
  ·rename_i i' f1 m1 h1
   have:=zb0 hc n c h1
   split at h<;>(cases h;exact this)
  ·exact zb0 hc n c h
 | .loop c,fr,fr',m,m',e,h=>by
  simp only [exec] at h;have key: ∀(k:Nat){fr:Frame}{m:Mem},iter (exec call n c) k fr m=some (e,fr',m')->Kin m m':=by
   intro k
   induction k with
   |zero=>intro fr m h;simp [iter] at h
   |succ k ih=>
    intro fr m h;simp only [iter] at h
    split at h
    ·rename_i f1 m1 h1
     exact (zb0 hc n c h1).trans (ih h)
    ·exact zb0 hc n c h
  exact key n h
end
theorem zn4 {F:Nat->Option ze}{X:Told}(hX:zo7 X): ∀n,zvK (callN F X n)
 |0=>fun f args m v m' h=>by simp [callN] at h
 |n+1=>fun f args m v m' h=>by
  have ih:=zn4 (F:=F) hX n;simp only [callN] at h
  split at h
  ·rename_i t ht
   exact hX f t ht _ ih args m v m' h
  split at h
  ·cases h
  split at h
  case isFalse=>cases h
  split at h
  ·rename_i f1 m1 h1
   simp only [Option.map_eq_some_iff] at h;obtain ⟨u,hu,e⟩:=h;cases e;exact zb0 ih n _ h1
  ·rename_i f1 m1 h1
   simp only [Option.map_eq_some_iff] at h;obtain ⟨u,hu,e⟩:=h;cases e;exact zb0 ih n _ h1
  ·cases h
theorem C.kin {S:Sys}(hX:zo7 S.X){f:Nat}{args:List V}{m:Mem}{Q:V->Mem->Prop}(h:C S f args m Q):C S f args m (fun r m'=>Q r m'/\Kin m m'):=by
 obtain ⟨n,v,m',e,q⟩:=h;exact ⟨n,v,m',e,q,zn4 hX n _ _ _ _ _ e⟩
end Go.AM
