import Derived.Test.YtfhbhfogcgfeeaaGreatDoorAmQ
set_option linter.unusedVariables false
set_option linter.unusedSimpArgs false
namespace Go.AM
open Go
def Dl (d m:Mem):Prop:=d.length=m.length/\ ∀i,i<d.length->d[i]? =some .dead\/d[i]? =m[i]?
theorem Dl.nil:Dl [] []:=⟨rfl,fun i h=>by simp at h⟩
theorem Dl.push {d m:Mem}(h:Dl d m) (x:Blk):Dl (d++[.dead]) (m++[x]):=by
 refine ⟨by simp [h.1],fun i hi=> ?_⟩
 by_cases e:i<d.length
 ·rw [List.getElem?_append_left e,List.getElem?_append_left (by have:=h.1;omega)]
  exact h.2 i e
 ·have:i=d.length:=by simp at hi;omega
  subst this;exact .inl (by simp)
theorem Dl.same {d m:Mem}(h:Dl d m) (x:Blk):Dl (d++[x]) (m++[x]):=by
 refine ⟨by simp [h.1],fun i hi=> ?_⟩
 by_cases e:i<d.length
 ·rw [List.getElem?_append_left e,List.getElem?_append_left (by have:=h.1;omega)]
  exact h.2 i e
 ·have:i=d.length:=by simp at hi;omega
  subst this;right;rw [List.getElem?_concat_length,h.1,List.getElem?_concat_length]
theorem Dl.set {d m:Mem}(h:Dl d m){k:Nat}(hk:d[k]? =some .dead) (x:Blk):Dl d (m.set k x):=by
 refine ⟨by simp [h.1],fun i hi=> ?_⟩
 by_cases e:i=k
 ·subst e;exact .inl hk
 ·rcases h.2 i hi with h1|h1
  ·exact .inl h1
  ·right;rw [h1,List.getElem?_set_ne (fun e'=>e e'.symm)]
theorem Dl.get {d m:Mem}(h:Dl d m){k:Nat}{x:Blk}(hk:d[k]? =some x) (hx:x≠ .dead):m[k]? =some x:=by
 rcases h.2 k (List.getElem?_eq_some_iff.1 hk).1 with h1|h1
 ·rw [hk] at h1;cases h1;exact absurd rfl hx
 ·rw [<-h1];exact hk
theorem Dl.callN {call:zS}(hc:zek call){f:Nat}{args:List V}{d m d':Mem}{v:V}(h:Dl d m) (e:call f args d=some (v,d')): ∃m',call f args m=some (v,m')/\(∀dd:Mem,Dl dd d'->(∀k:Nat,d[k]? =some .dead->dd[k]? =some .dead)->Dl dd m')/\ ∀k:Nat,d[k]? =some .dead->m'[k]? =m[k]? :=by
 have hdead: ∀k:Nat,d[k]? =some .dead->d'[k]? =some .dead:=fun k hk=>(hc _ _ _ _ _ k .dead hk e).1
 have key: ∀n,n<=d.length-> ∃m',call f args (m.take n++d.drop n)=some (v,m')/\m'.length=d'.length/\(∀k:Nat,d[k]? =some .dead->k<n->m'[k]? =m[k]?)/\ ∀k:Nat,(d[k]? =some .dead->¬ k<n)->m'[k]? =d'[k]? :=by
  intro n
  induction n with
  |zero=>
   intro _;exact ⟨d',by simpa using e,rfl,fun k _ h=>absurd h (Nat.not_lt_zero _),fun k _=>rfl⟩
  |succ n ih=>
   intro hn;obtain ⟨m',e1,e2,e3,e4⟩:=ih (by omega);have hnm:n<m.length:=by have:=h.1;omega
   have hsplit:m.take (n+1)++d.drop (n+1)=(m.take n++d.drop n).set n m[n]:=by
    have hl:(m.take n).length=n:=by simp;omega
    rw [List.set_append_right _ _ (by omega),hl,Nat.sub_self,List.drop_eq_getElem_cons (l:=d) (i:=n) (by omega),List.set_cons_zero,List.take_add_one,List.getElem?_eq_getElem hnm,List.append_assoc];rfl
   have hget:(m.take n++d.drop n)[n]? =d[n]? :=by
    have hl:(m.take n).length=n:=by simp;omega
    rw [List.getElem?_append_right (by omega),hl,Nat.sub_self,List.getElem?_drop,Nat.add_zero]
   by_cases hd:d[n]? =some .dead
   ·obtain ⟨f1,f2⟩:=hc _ _ _ _ _ n m[n] (hget.trans hd) e1
    refine ⟨m'.set n m[n],by rw [hsplit];exact f2,by simp [e2],fun k hk hlt=> ?_,fun k hk=> ?_⟩
    ·by_cases ek:k=n
     ·subst ek
      rw [List.getElem?_set_self (List.getElem?_eq_some_iff.1 f1).1,List.getElem?_eq_getElem hnm]
     ·rw [List.getElem?_set_ne (fun e'=>ek e'.symm)]
      exact e3 k hk (by omega)
    ·have ek:n≠k:=fun e'=>by subst e';exact hk hd (by omega)
     rw [List.getElem?_set_ne ek];exact e4 k fun h1 h2=>hk h1 (by omega)
   ·have hs:(m.take n++d.drop n).set n m[n]=m.take n++d.drop n:=by
     have hm:d[n]? =m[n]? :=(h.2 n (by omega)).resolve_left hd;have:(m.take n++d.drop n)[n]? =some m[n]:=by rw [hget,hm,List.getElem?_eq_getElem hnm]
     obtain ⟨hlt,hg⟩:=List.getElem?_eq_some_iff.1 this;rw [<-hg];exact List.set_getElem_self hlt
    refine ⟨m',by rw [hsplit,hs];exact e1,e2,fun k hk hlt=> ?_,fun k hk=> ?_⟩
    ·by_cases ek:k=n
     ·subst ek;exact absurd hk hd
     ·exact e3 k hk (by omega)
    ·exact e4 k fun h1 h2=>hk h1 (by omega)
 obtain ⟨m',e1,e2,e3,e4⟩:=key d.length (Nat.le_refl _);have ed:m.take d.length++d.drop d.length=m:=by rw [h.1,List.take_length,<-h.1,List.drop_length,List.append_nil]
 rw [ed] at e1;have hkl: ∀k:Nat,d[k]? =some .dead->k<d.length:=fun k hk=>(List.getElem?_eq_some_iff.1 hk).1
 refine ⟨m',e1,fun dd h1 h2=>⟨h1.1.trans e2.symm,fun i hi=> ?_⟩,fun k hk=>e3 k hk (hkl k hk)⟩
 by_cases hd:d[i]? =some .dead
 ·exact .inl (h2 i hd)
 ·rw [e4 i fun h3=>absurd h3 hd]
  exact h1.2 i hi
def zl7:List (List V)->List (List V)->Bool
 | [],[]=>true
 |a::l,b::k=>V.beqs a b&&zl7 l k
 |_,_=>false
theorem zmA: ∀{l k:List (List V)},zl7 l k=true->l=k
 | [],[],_=>rfl
 | [],_::_,h=>by cases h
 |_::_,[],h=>by cases h
 |a::l,b::k,h=>by
  simp only [zl7,Bool.and_eq_true] at h;rw [zim h.1,zmA h.2]
def zqU:Mem->Mem->Bool
 | [],_=>true
 | .dead::r,.dead::s=>zqU r s
 | .dead::_,_=>false
 |_::r,_::s=>zqU r s
 |_::_,[]=>false
theorem zqV: ∀{d m:Mem},zqU d m=true-> ∀k:Nat,d[k]? =some .dead->m[k]? =some .dead
 | [],_,_,k,hk=>by simp at hk
 |x::r,[],h,k,hk=>by
  cases x<;>cases h
 |x::r,y::s,h,k,hk=>by
  cases k with
  |zero=>
   simp only [List.getElem?_cons_zero,Option.some.injEq] at hk;subst hk;cases y with
   |dead=>rfl
   |cells o l=>cases h
   |mp es=>cases h
  |succ k=>
   have h2:zqU r s=true:=by
    cases x with
    |dead=>cases y with
     |dead=>exact h
     |cells o l=>cases h
     |mp es=>cases h
    |cells o l=>exact h
    |mp es=>exact h
   exact zqV h2 k (by simpa using hk)
def zmB:Blk->Blk->Bool
 | .cells o l,.cells o' l'=>o == o'&&zl7 l l'
 |_,_=>false
def dlB:Mem->Mem->Bool
 | [],[]=>true
 | .dead::r,_::s=>dlB r s
 |x::r,y::s=>zmB x y&&dlB r s
 |_,_=>false
theorem zvW: ∀{d m:Mem},dlB d m=true->Dl d m
 | [],[],_=>Dl.nil
 | [],_::_,h=>by cases h
 |x::r,[],h=>by cases x<;>cases h
 |x::r,y::s,h=>by
  have:dlB r s=true/\(x= .dead\/x=y):=by
   cases x with
   |dead=>exact ⟨h,.inl rfl⟩
   |mp es=>simp [dlB,zmB] at h
   |cells o l=>
    simp only [dlB,Bool.and_eq_true] at h;refine ⟨h.2,.inr ?_⟩;cases y with
    |cells o' l'=>
     have h1:=h.1;simp only [zmB,Bool.and_eq_true,beq_iff_eq] at h1;rw [h1.1,zmA h1.2]
    |dead=>simp [zmB] at h
    |mp es=>simp [zmB] at h
  have ih:=zvW this.1;refine ⟨by simp [ih.1],fun i hi=> ?_⟩;cases i with
  |zero=>
   rcases this.2 with rfl|rfl
   ·exact .inl rfl
   ·exact .inr rfl
  |succ i=>exact ih.2 i (by simpa using hi)
def zgB (x:Option (V×Mem)) (r:V) (d dd:Mem):Bool:=
 match x with
 |some (v,m)=>V.beq v r&&(dlB dd m&&zqU d dd)
 |none=>false
theorem stage {S:Sys}{F:Nat->Option ze}{P:Program}(hF:ziu P F) (hR:zmx S.X) (hS:S.F=F){n f:Nat}{args:List V}{d dd m:Mem}{r:V}(h:zgB (callN S.F S.X n f args d) r d dd=true) (hd:Dl d m):
  C S f args m (fun v m'=>v=r/\Dl dd m'/\ ∀k:Nat,d[k]? =some .dead->m'[k]? =m[k]?):=by
 cases e:callN S.F S.X n f args d with
 |none=>rw [e] at h;cases h
 |some y=>
  obtain ⟨v,d'⟩:=y;rw [e] at h;simp only [zgB,Bool.and_eq_true] at h;obtain ⟨m',h1,h2,h3⟩:=hd.callN (zmy (hS▸hF) hR n) e;exact ⟨n,v,m',h1,zss h.1,h2 dd (zvW h.2.1) (zqV h.2.2),h3⟩
variable [HasLay]
end Go.AM
