import Derived.Test.YtfhbhfogcgfeeaaGreatDoorAmSim
set_option linter.unusedVariables false
set_option linter.unusedSimpArgs false
namespace Go.AM
open Go
def atp (v:V) (i o:Nat):V:=
 match v with
 | .slice b j _ _ _ _=> .ptr b (j+i) o
 |_=> .ptr 0 0 o
theorem znV {v:V}{i o off:Nat}:zts off (atp v i o)=some (atp v i (o+off)):=by
 cases v<;>rfl
def Sl (m:Mem) (v:V) (z:Nat) (els:List (List V)):Prop:=elems m v=some els/\zOk v z=true
section
variable {m g:Mem}{v:V}{z:Nat}{els:List (List V)}{k:Option Nat}{i o:Nat}{el:List V}
theorem Sl.len (h:Sl m v z els):zfl v=some (.int .i64 els.length):=by
 obtain ⟨h,_⟩:=h;cases v with
 |nils=>simp only [elems,Option.some.injEq] at h;subst h;rfl
 |slice b i len cap ex z'=>
  simp only [elems] at h
  split at h
  case h_2=>cases h
  split at h
  case isFalse=>cases h
  rename_i hb
  simp only [Option.some.injEq] at h;subst h;simp only [zfl,List.length_take,List.length_drop,Option.some.injEq,V.int.injEq,true_and];omega
 |_=>simp [elems] at h
theorem Sl.get0 (h:Sl m v z els) (hi:i<els.length): ∃b j len cap ex own els0,v= .slice b j len cap ex z/\m[b]? =some (.cells own els0)/\els.length=len/\j+len<=els0.length/\els=(els0.drop j).take len:=by
 obtain ⟨h,hz⟩:=h;cases v with
 |nils=>simp only [elems,Option.some.injEq] at h;subst h;simp at hi
 |slice b j len cap ex z'=>
  simp only [elems] at h
  split at h
  case h_2=>cases h
  rename_i own els0 hb
  split at h
  case isFalse=>cases h
  rename_i hl
  simp only [Option.some.injEq] at h;simp only [zOk,decide_eq_true_eq] at hz;subst hz;exact ⟨b,j,len,cap,ex,own,els0,rfl,hb,by rw [<-h];simp;omega,hl,h.symm⟩
 |_=>simp [elems] at h
theorem Sl.index (h:Sl m v z els){ki:IntKind}{n:Int}(h0:0<=n) (hn:n<els.length):zaw z v (.int ki n)=some (atp v n.toNat 0):=by
 obtain ⟨b,j,len,cap,ex,own,els0,rfl,hb,hl,hl2,he⟩:=h.get0 (i:=n.toNat) (by omega);simp only [zaw,atp];rw [if_pos ⟨h0,by omega,trivial⟩]
theorem Sl.load (h:Sl m v z els) (hi:els[i]? =some el):zak m k (atp v i o)=part el o k:=by
 have hlt:=(List.getElem?_eq_some_iff.1 hi).1;obtain ⟨b,j,len,cap,ex,own,els0,rfl,hb,hl,hl2,he⟩:=h.get0 hlt;simp only [zak,atp,hb];have:els0[j+i]? =some el:=by
  rw [he,List.getElem?_take,List.getElem?_drop] at hi
  split at hi
  ·exact hi
  ·cases hi
 simp [this]
theorem zus (h:(elems m v).isSome=true):elems (m++g) v=elems m v:=by
 cases v with
 |slice b j len cap ex z'=>
  simp only [elems] at h ⊢;cases hb:m[b]? with
  |none=>simp [hb] at h
  |some x=>
   rw [List.getElem?_append_left (List.getElem?_eq_some_iff.1 hb).1,hb]
 |_=>rfl
theorem Sl.app (h:Sl m v z els):Sl (m++g) v z els:=⟨by rw [zus (by rw [h.1];rfl),h.1],h.2⟩
theorem znW {a:V}(h:(zak m k a).isSome=true):zak (m++g) k a=zak m k a:=by
 cases a with
 |ptr b i j=>
  simp only [zak] at h ⊢;cases hb:m[b]? with
  |none=>simp [hb] at h
  |some x=>rw [List.getElem?_append_left (List.getElem?_eq_some_iff.1 hb).1,hb]
 |_=>rfl
theorem zlJ {own:Bool}{j:Nat}:zak (m++[.cells own els]) k (.ptr m.length i j)=(els[i]?).bind fun el=>part el j k:=by
 simp [zak]
theorem zqi {n j:Nat}{x:V}:zaK (m++[.cells true els]) n (.ptr m.length i j) x=match els[i]? with
  |some el=>if x.cells.length=n/\j+n<=el.length/\x.cells.all V.isCell=true then some (m++[.cells true (els.set i (splice el j x.cells))]) else none
  |none=>none:=by
 simp only [zaK,List.getElem?_concat_length];cases els[i]? with
 |none=>rfl
 |some el=>simp only [List.set_append_right _ _ (Nat.le_refl _),Nat.sub_self,List.set_cons_zero]
theorem ziP {n j:Nat}{x:V}{el:List V}:zaK (m++[.cells true [el]]) n (.ptr m.length 0 j) x=if x.cells.length=n/\j+n<=el.length/\x.cells.all V.isCell=true then some (m++[.cells true [splice el j x.cells]]) else none:=by
 simp [zqi]
theorem zlK {n:Nat}{a x:V}(h:(zaK m n a x).isSome=true):zaK (m++g) n a x=(zaK m n a x).map (· ++g):=by
 cases a with
 |ptr b i j=>
  simp only [zaK] at h ⊢;cases hb:m[b]? with
  |none=>simp [hb] at h
  |some y=>
   have hlt:=(List.getElem?_eq_some_iff.1 hb).1;rw [List.getElem?_append_left hlt,hb];rw [hb] at h;cases y with
   |dead=>simp at h
   |mp es=>simp at h
   |cells own els=>
    cases own with
    |false=>simp at h
    |true=>
     simp only at h ⊢;cases he:els[i]? with
     |none=>simp [he] at h
     |some el=>
      rw [he] at h;simp only at h ⊢
      split
      ·simp [List.set_append_left _ _ hlt]
      ·rename_i hn;rw [if_neg hn] at h;cases h
 |_=>rfl
theorem znX:(m++List.replicate 1 Blk.dead)[m.length]? =some .dead:=by simp
theorem znY {x:Blk}:(m++List.replicate 1 Blk.dead).set m.length x=m++[x]:=by simp [List.set_append_right]
theorem zqj {sh:List Bool}{xs ys:List V}:eqV (.flat sh) (.agg xs) (.agg ys)=eqL sh xs ys:=rfl
theorem ztf:eqL [] [] []=some true:=rfl
theorem ztg {sh:List Bool}{xs ys:List V}{ik:IntKind}{a b:Int}:eqL (false::sh) (.int ik a::xs) (.int ik b::ys)=(eqL sh xs ys).map fun r=>decide (a=b)&&r:=by simp [eqL]
theorem zqk {sh:List Bool}{xs ys:List V}{a b:Bool}:eqL (true::sh) (.bool a::xs) (.bool b::ys)=(eqL sh xs ys).map fun r=>decide (a=b)&&r:=by simp [eqL]
theorem zql {a b:Bool}:eqV .bool (.bool a) (.bool b)=some (decide (a=b)):=rfl
theorem zqm:eqV .ptr .nilp .nilp=some true:=rfl
theorem zvD {b i j:Nat}:eqV .ptr (.ptr b i j) .nilp=some false:=rfl
theorem zqn:eqV .slice .nils .nils=some true:=rfl
theorem zvE {b i l c z:Nat}{e:Bool}:eqV .slice (.slice b i l c e z) .nils=some false:=rfl
theorem zvF:eqV .slice .emp .nils=some false:=rfl
theorem zqo:eqV .fn .nilf .nilf=some true:=rfl
theorem zvG {f:Nat}{a c:List V}:eqV .fn (.fn f a c) .nilf=some false:=rfl
theorem znZ {b:Bool}:(V.bool b).isCell=true:=id rfl
theorem zqp {k:IntKind}{n:Int}:(V.int k n).isCell=true:=id rfl
theorem zn0:V.nilp.isCell=true:=id rfl
theorem zqq {b i j:Nat}:(V.ptr b i j).isCell=true:=id rfl
theorem zn1:V.nils.isCell=true:=id rfl
theorem zfM {b i l c z:Nat}{e:Bool}:(V.slice b i l c e z).isCell=true:=id rfl
theorem zn2:V.nilf.isCell=true:=id rfl
theorem zth {f:Nat}{a c:List V}:(V.fn f a c).isCell=true:=id rfl
theorem zn3 {cs:List V}:(V.agg cs).cells=cs:=rfl
theorem zaL {v:V}(h:v.isCell=true):v.cells=[v]:=by cases v<;>first|rfl|cases h
theorem Sl.cell {v:V}{z:Nat}{els:List (List V)}(h:Sl m v z els):v.isCell=true:=by
 obtain ⟨h,_⟩:=h;cases v<;>first|rfl|simp [elems] at h
def Grow (m m':Mem):Prop:= ∃g,m'=m++g
theorem Grow.refl (m:Mem):Grow m m:=⟨[],by simp⟩
theorem Grow.app {m m':Mem}(h:Grow m m'){g:Mem}:Grow m (m'++g):=by
 obtain ⟨k,rfl⟩:=h;exact ⟨k++g,by simp⟩
theorem Grow.trans {a b c:Mem}(h:Grow a b) (k:Grow b c):Grow a c:=by
 obtain ⟨g,rfl⟩:=h;obtain ⟨g',rfl⟩:=k;exact ⟨g++g',by simp⟩
theorem Sl.grow {m':Mem}(h:Sl m v z els) (hg:Grow m m'):Sl m' v z els:=by
 obtain ⟨g,rfl⟩:=hg;exact h.app
end
def zbZ (B:Nat) (m:Mem) (v:V) (z:Nat) (els:List (List V)):Prop:=Sl m v z els/\(v= .nils\/ ∃b cap ex,B<=b/\v= .slice b 0 els.length cap ex z/\m[b]? =some (.cells true els))
theorem zb {m g:Mem}{b:Nat}{x:Blk}(h:m[b]? =some x):(m++g)[b]? =some x:=by
 rw [List.getElem?_append_left (List.getElem?_eq_some_iff.1 h).1,h]
theorem zbZ.app {B:Nat}{m g:Mem}{v:V}{z:Nat}{els:List (List V)}(h:zbZ B m v z els):zbZ B (m++g) v z els:=by
 refine ⟨h.1.app,h.2.imp id ?_⟩;rintro ⟨b,cap,ex,h1,h2,h3⟩;exact ⟨b,cap,ex,h1,h2,zb h3⟩
theorem zbZ.grow {B:Nat}{m m':Mem}{v:V}{z:Nat}{els:List (List V)}(h:zbZ B m v z els) (hg:Grow m m'):zbZ B m' v z els:=by
 obtain ⟨g,rfl⟩:=hg;exact h.app
theorem zbZ.weaken {B B':Nat}{m:Mem}{v:V}{z:Nat}{els:List (List V)}(h:zbZ B m v z els) (hB:B'<=B):zbZ B' m v z els:=by
 refine ⟨h.1,h.2.imp id ?_⟩;rintro ⟨b,cap,ex,h1,h2,h3⟩;exact ⟨b,cap,ex,by omega,h2,h3⟩
theorem Sl.mk0 {m:Mem}{b cap z:Nat}{ex own:Bool}{els:List (List V)}(h:m[b]? =some (.cells own els)):Sl m (.slice b 0 els.length cap ex z) z els:=by
 simp [Sl,elems,h,zOk]
theorem zbZ.mk {B:Nat}{m:Mem}{v:V}{z:Nat}{els:List (List V)}(h:(v= .nils/\els=[])\/ ∃b cap ex,B<=b/\v= .slice b 0 els.length cap ex z/\m[b]? =some (.cells true els)):zbZ B m v z els:=by
 rcases h with ⟨rfl,rfl⟩|⟨b,cap,ex,h1,rfl,h3⟩
 ·exact ⟨⟨rfl,rfl⟩,.inl rfl⟩
 ·exact ⟨Sl.mk0 h3,.inr ⟨b,cap,ex,h1,rfl,h3⟩⟩
theorem zbZ.cases {B:Nat}{m:Mem}{v:V}{z:Nat}{els:List (List V)}(h:zbZ B m v z els):(v= .nils/\els=[])\/ ∃b cap ex,B<=b/\v= .slice b 0 els.length cap ex z/\m[b]? =some (.cells true els):=by
 rcases h with ⟨h1,rfl|h2⟩
 ·have:=h1.1
  simp [elems] at this;exact .inl ⟨rfl,this⟩
 ·exact .inr h2
theorem zbZ.to {B:Nat}{m m':Mem}{v:V}{z:Nat}{els:List (List V)}(h:zbZ B m v z els) (hm: ∀b x,B<=b->m[b]? =some x->m'[b]? =some x):zbZ B m' v z els:=by
 rcases h.cases with h|⟨b,cap,ex,h1,h2,h3⟩
 ·exact zbZ.mk (.inl h)
 ·exact zbZ.mk (.inr ⟨b,cap,ex,h1,h2,hm b _ h1 h3⟩)
theorem Sl.mk {m:Mem}{b cap z:Nat}{ex own:Bool}{els:List (List V)}(h:m[b]? =some (.cells own els)):Sl m (.slice b 0 els.length cap ex z) z els:=by
 simp [Sl,elems,h,zOk]
theorem Grow.len {m m':Mem}(h:Grow m m'):m.length<=m'.length:=by
 obtain ⟨g,rfl⟩:=h
 simp
theorem Sl.cases {m:Mem}{v:V}{z:Nat}{els:List (List V)}(h:Sl m v z els):(v= .nils/\els=[])\/ ∃b i len cap ex,v= .slice b i len cap ex z:=by
 obtain ⟨h,hz⟩:=h;cases v with
 |nils=>simp [elems] at h;exact .inl ⟨rfl,h⟩
 |slice b i len cap ex z'=>
  simp [zOk] at hz;subst hz;exact .inr ⟨b,i,len,cap,ex,rfl⟩
 |_=>simp [elems] at h
theorem zfN {m:Mem}{v:V}{z:Nat}{els:List (List V)}{zero:List V}{bytes:Nat}(h:Sl m v z els) (hz:zero.length=z) (hb:0<bytes) (hr:els.length*bytes<=140737488355328):
  ∃v' m',zF (m++[.cells true []]) zero bytes (.slice m.length 0 0 0 true z) v=some (v',m')/\Grow m m'/\zbZ m.length m' v' z els:=by
 have hle:els.length<=els.length*bytes:=Nat.le_mul_of_pos_right _ hb;have h':=(h.app (g:=[.cells true []])).1;have hz':zOk v zero.length=true:=by rw [hz];exact h.2
 by_cases he:els=[]
 ·subst he
  refine ⟨.slice m.length 0 0 0 true z,m++[.cells true []],?_,(Grow.refl _).app,?_,.inr ⟨_,_,_,Nat.le_refl _,rfl,by simp⟩⟩
  ·have:=h.2;simp [zF,zfe h',hz,this]
  ·exact Sl.mk (els:=[]) (own:=true) (by simp)
 ·refine ⟨.slice (m++[Blk.cells true []]).length 0 els.length els.length false z,m++[.cells true []]++[.cells true els],?_,(Grow.refl _).app.app,?_,.inr ⟨_,_,_,?_,rfl,?_⟩⟩
  ·have h0:els.isEmpty=false:=by cases els<;>simp_all
   have h1:¬ els.length<=0:=by cases els<;>simp_all
   have:=h.2;simp [zF,zfe h',hz,h0,roomy,hr,Nat.le_trans hle hr,he,this]
  ·exact Sl.mk (own:=true) (by simp)
  ·simp
  ·simp
theorem zut {m:Mem} {b len cap z i n:Nat}{ex:Bool}{els:List (List V)}{el:List V}{x:V}(hb:m[b]? =some (.cells true els)) (hi:els[i]? =some el) (hl:el.length=n) (hx:x.cells.length=n) (hc:x.cells.all V.isCell=true):
  zaK m n (atp (.slice b 0 len cap ex z) i 0) x=some (m.set b (.cells true (els.set i x.cells))):=by
 simp only [zaK,atp,hb,Nat.zero_add,hi];rw [if_pos ⟨hx,by omega,hc⟩];simp [splice,hx,<-hl]
theorem Grow.set {m M:Mem}(h:Grow m M){B:Nat}(hB:m.length<=B) (x:Blk):Grow m (M.set B x):=by
 obtain ⟨g,rfl⟩:=h;exact ⟨g.set (B-m.length) x,by rw [List.set_append_right _ _ hB]⟩
theorem Grow.get {m M:Mem}(h:Grow m M){b:Nat}{x:Blk}(hb:m[b]? =some x):M[b]? =some x:=by
 obtain ⟨g,rfl⟩:=h;exact zb hb
theorem Sl.set_other {m:Mem}{v:V}{z bt:Nat}{els old new:List (List V)}{own own':Bool}(h:Sl m v z els) (hz: ∀el∈els,el.length=z) (hb:m[bt]? =some (.cells own old)) (ho: ∀el∈old,el.length≠z) (hn:new.length=old.length):Sl (m.set bt (.cells own' new)) v z els:=by
 refine ⟨?_,h.2⟩;have h1:=h.1;cases v with
 |slice b i len cap ex z'=>
  by_cases hbb:b=bt
  ·subst hbb
   simp only [elems,hb] at h1
   split at h1
   case isFalse=>cases h1
   rename_i hl
   simp only [Option.some.injEq] at h1;have hlt:=(List.getElem?_eq_some_iff.1 hb).1;have he:els=[]:=by
    rcases els with _|⟨e,r⟩
    ·rfl
    ·exfalso
     have hm:e∈old:=List.mem_of_mem_drop (List.mem_of_mem_take (h1▸List.mem_cons_self));exact ho e hm (hz e (by simp))
   subst he;have hlen:len=0:=by
    have:=congrArg List.length h1;simp at this;omega
   subst hlen;simp only [elems,List.getElem?_set_self hlt];rw [if_pos (by omega)]
   simp
  ·simp only [elems] at h1 ⊢
   rw [List.getElem?_set_ne (Ne.symm hbb)];exact h1
 |_=>exact h1
section
variable {M:Mem}{b j n:Nat}{own:Bool}{el:List V}{k:Option Nat}{x:V}
end
theorem zxH {n:Nat}{x:List V}:List.replicate (n+1) x=x::List.replicate n x:=rfl
theorem zxI {x:List V}:List.replicate 0 x=[]:=rfl
theorem zti {p:Prop} [Decidable p]:(!decide p)=decide (¬ p):=by by_cases h:p<;>simp [h]
theorem wrap_i64 {x:Int}(h1: -9223372036854775808<=x) (h2:x<9223372036854775808):IntKind.i64.wrap x=x:=by rw [IntKind.wrap_i64];omega
theorem wrap_u64 {x:Int}(h1:0<=x) (h2:x<18446744073709551616):IntKind.u64.wrap x=x:=by rw [IntKind.wrap_u64];omega
end Go.AM
namespace Go.AM
open Go
def Has (fr:Frame):List (Nat×V)->Prop
 | []=>True
 |(i,v)::r=>fr i=v/\Has fr r
theorem ziQ {fr:Frame}:Has fr []=True:=rfl
theorem zgK {fr:Frame}{i:Nat}{v:V}{r:List (Nat×V)}:Has fr ((i,v)::r)=(fr i=v/\Has fr r):=rfl
theorem Has.put {fr:Frame}{j:Nat}{x:V}: ∀{l:List (Nat×V)},Has fr l->(l.map (·.1)).contains j=false->Has (put fr j x) l
 | [],_,_=>trivial
 |(i,v)::l,h,hj=>by
  simp only [List.map_cons,List.contains_cons,Bool.or_eq_false_iff,beq_eq_false_iff_ne] at hj;exact ⟨by rw [zbJ,if_neg (fun e=>hj.1 e.symm)];exact h.1,h.2.put hj.2⟩
abbrev zvH (s i n t a b:Nat) (body:zf):zf:=(.seq (.region [⟨(some s),none,(.bin .lss (.t i) (.t n)),none,[]⟩]) (.seq (.cond (.t s) .skip (.exit a)) (.seq (.block b body) (.region [⟨(some t),none,(.bin .add (.t i) (.c (.int .i64 1))),none,[]⟩,⟨(some i),none,(.mv (.t t)),none,[]⟩]))))
def zlL (a b:Nat) (Q:zal->Frame->Mem->Prop) (K:Frame->Mem->Prop) (e:zal) (fr:Frame) (m:Mem):Prop:=
 match e with
 | .normal=>K fr m
 | .exit j=>if j=b then K fr m else if j=a then Q .normal fr m else Q (.exit j) fr m
 | .ret=>Q .ret fr m
theorem zhO {a b:Nat} {Q} {K}{fr:Frame}{m:Mem}:zlL a b Q K .normal fr m=K fr m:=rfl
theorem zlM {a b:Nat} {Q} {K}{fr:Frame}{m:Mem}:zlL a b Q K .ret fr m=Q .ret fr m:=rfl
theorem zgL {a b j:Nat} {Q} {K}{fr:Frame}{m:Mem}:zlL a b Q K (.exit j) fr m=if j=b then K fr m else if j=a then Q .normal fr m else Q (.exit j) fr m:=rfl
def zr3 {α:Type}(i n len:Nat) (L:α->List (Nat×V)) (P:Nat->α->Mem->Prop) (k:Nat) (fr:Frame) (m:Mem):Prop:= ∃x,Has fr ((i,.int .i64 (k:Nat))::(n,.int .i64 (len:Nat))::L x)/\P (k+1) x m
theorem zxb {S:Sys} {s i n t a b:Nat}{body c:zf}{fr:Frame}{m:Mem}{Q:zal->Frame->Mem->Prop}{α:Type}(len:Nat) (keys:List Nat) (L:α->List (Nat×V)) (P:Nat->α->Mem->Prop) (x0:α)
  (hc:c=zvH s i n t a b body) (hk: ∀x,(L x).map (·.1)=keys) (hd:(keys.contains s||keys.contains i||keys.contains t||s == i||s == n||t == i||t == n||i == n||a == b)=false) (hlen:len<2^62)
  (fi:fr i= .int .i64 0) (fn:fr n= .int .i64 (len:Nat)) (h0:Has fr (L x0)) (p0:P 0 x0 m)
  (step: ∀(k:Nat) (x:α) (fr:Frame) (m:Mem),k<len->Has fr ((i,.int .i64 (k:Nat))::(n,.int .i64 (len:Nat))::L x)->P k x m->W S body fr m (zlL a b Q (zr3 i n len L P k)))
  (fin: ∀(x:α) (fr:Frame) (m:Mem),Has fr (L x)->P len x m->Q .normal fr m):W S (.loop c) fr m (zi9 a Q):=by
 subst hc;simp only [Bool.or_eq_false_iff,beq_eq_false_iff_ne] at hd;obtain ⟨⟨⟨⟨⟨⟨⟨⟨d1,d2⟩,d3⟩,d4⟩,d5⟩,d6⟩,d7⟩,d8⟩,d9⟩:=hd;refine zai (fun (j:Nat) (fr:Frame) (m:Mem)=> ∃(k:Nat) (x:α),k<=len/\j=len-k/\fr i= .int .i64 (k:Nat)/\fr n= .int .i64 (len:Nat)/\Has fr (L x)/\P k x m) ?_ len ⟨0,x0,Nat.zero_le _,rfl,fi,fn,h0,p0⟩;rintro j fr m ⟨k,x,hkl,rfl,fi,fn,hF,hP⟩;have fl:fr n= .int .i64 (len:Int):=fn;rw [zqD,zi7,ztq];refine ⟨_,by rw [zhQ,zhQ,fi,fl,zpm],?_⟩;rw [ztU,zpp,zcR,zqD,zfk];have hs: ∀{v:V},Has (put fr s v) (L x):=hF.put (by rw [hk];exact d1)
 by_cases hkn:k<len
 ·have hlt:((k:Int)<(len:Int)):=by omega
  rw [zpq (by simp [zhQ,zbJ,hlt]),zsk,zcR,zqD,zpr];have hstep:=step k x (put fr s (.bool (decide ((k:Int)<(len:Int))))) m hkn ⟨by rw [zbJ,if_neg (fun e=>d4 e.symm)];exact fi,by rw [zbJ,if_neg (fun e=>d5 e.symm)];exact fn,hs⟩ hP;refine hstep.mono ?_;have kk: ∀fr' m',zr3 i n len L P k fr' m'->W S (.region [⟨(some t),none,(.bin .add (.t i) (.c (.int .i64 1))),none,[]⟩,⟨(some i),none,(.mv (.t t)),none,[]⟩]) fr' m' (fun e fr' m'=>match e with
    | .normal=> ∃j,j<len-k/\ ∃(k:Nat) (x:α),k<=len/\j=len-k/\fr' i= .int .i64 (k:Nat)/\fr' n= .int .i64 (len:Nat)/\Has fr' (L x)/\P k x m'
    |e=>zi9 a Q e fr' m'):=by
   rintro fr' m' ⟨x',⟨gi,gn,gF⟩,gP⟩;have gi':fr' i= .int .i64 (k:Int):=gi;have wi:IntKind.i64.wrap ((k:Int)+1)=((k+1:Nat):Int):=by rw [wrap_i64]<;>omega
   rw [zi7,ztq];refine ⟨_,by rw [zhQ,zvZ,gi',zpl,wi],?_⟩;rw [zx3,ztU,zpp,zhQ,zfk,zfk];refine ⟨len-(k+1),by omega,k+1,x',by omega,rfl,by simp [zbJ],?_,(gF.put (by rw [hk];exact d3)).put (by rw [hk];exact d2),gP⟩;rw [zbJ,if_neg (fun e=>d8 e.symm),zbJ,if_neg (fun e=>d7 e.symm)];exact gn
  rintro e fr' m' hq;cases e with
  |normal=>exact kk _ _ hq
  |ret=>exact hq
  |exit q=>
   rw [zgL] at hq;rw [zcB]
   split
   ·rename_i hqb
    rw [if_pos hqb] at hq;exact kk _ _ hq
   ·rename_i hqb
    rw [if_neg hqb] at hq;show zi9 a Q (.exit q) fr' m';rw [zcB];exact hq
 ·have hlt:¬ ((k:Int)<(len:Int)):=by omega
  have hke:k=len:=by omega
  subst hke;rw [zlr (by simp [zhQ,zbJ]),zsl];show zi9 a Q (.exit a) _ _;rw [zcB,if_pos rfl];exact fin x _ _ hs hP
end Go.AM
