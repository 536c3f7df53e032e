import Derived.Test.YtfhbhfogcgfeeaaGreatDoorAmSim
set_option linter.unusedVariables false
set_option linter.unusedSimpArgs false
namespace Go.AM
open Go
def atp (v:V) (i o:Nat):V:=
 match v with
 | .slice b j _ _ _ _=> .ptr b (j+i) o
 |_=> .ptr 0 0 o
theorem zox {v:V}{i o off:Nat}:ztQ off (atp v i o)=some (atp v i (o+off)):=by
 cases v<;>rfl
def Sl (m:Mem) (v:V) (z:Nat) (els:List (List V)):Prop:=elems m v=some els/\zOk v z=true
section
variable {m g:Mem}{v:V}{z:Nat}{els:List (List V)}{k:Option Nat}{i o:Nat}{el:List V}
theorem Sl.len (h:Sl m v z els):zhK v=some (.int .i64 els.length):=by
 obtain ⟨h,_⟩:=h;cases v with
 |nils=>simp only [elems,Option.some.injEq] at h;subst h;rfl
 |slice b i len cap ex z'=>
  simp only [elems] at h
  split at h
  case h_2=>cases h
  split at h
  case isFalse=>cases h
  rename_i hb
  simp only [Option.some.injEq] at h;subst h;simp only [zhK,List.length_take,List.length_drop,Option.some.injEq,V.int.injEq,true_and];omega
 |_=>simp [elems] at h
theorem Sl.get0 (h:Sl m v z els) (hi:i<els.length): ∃b j len cap ex own els0,v= .slice b j len cap ex z/\m[b]? =some (.cells own els0)/\els.length=len/\j+len<=els0.length/\els=(els0.drop j).take len:=by
 obtain ⟨h,hz⟩:=h;cases v with
 |nils=>simp only [elems,Option.some.injEq] at h;subst h;simp at hi
 |slice b j len cap ex z'=>
  simp only [elems] at h
  split at h
  case h_2=>cases h
  rename_i own els0 hb
  split at h
  case isFalse=>cases h
  rename_i hl
  simp only [Option.some.injEq] at h;simp only [zOk,decide_eq_true_eq] at hz;subst hz;exact ⟨b,j,len,cap,ex,own,els0,rfl,hb,by rw [<-h];simp;omega,hl,h.symm⟩
 |_=>simp [elems] at h
theorem Sl.index (h:Sl m v z els){ki:IntKind}{n:Int}(h0:0<=n) (hn:n<els.length):zaB z v (.int ki n)=some (atp v n.toNat 0):=by
 obtain ⟨b,j,len,cap,ex,own,els0,rfl,hb,hl,hl2,he⟩:=h.get0 (i:=n.toNat) (by omega);simp only [zaB,atp];rw [if_pos ⟨h0,by omega,trivial⟩]
theorem Sl.load (h:Sl m v z els) (hi:els[i]? =some el):zaq m k (atp v i o)=part el o k:=by
 have hlt:=(List.getElem?_eq_some_iff.1 hi).1;obtain ⟨b,j,len,cap,ex,own,els0,rfl,hb,hl,hl2,he⟩:=h.get0 hlt;simp only [zaq,atp,hb];have:els0[j+i]? =some el:=by
  rw [he,List.getElem?_take,List.getElem?_drop] at hi
  split at hi
  ·exact hi
  ·cases hi
 simp [this]
theorem zuM (h:(elems m v).isSome=true):elems (m++g) v=elems m v:=by
 cases v with
 |slice b j len cap ex z'=>
  simp only [elems] at h ⊢;cases hb:m[b]? with
  |none=>simp [hb] at h
  |some x=>
   rw [List.getElem?_append_left (List.getElem?_eq_some_iff.1 hb).1,hb]
 |_=>rfl
theorem Sl.app (h:Sl m v z els):Sl (m++g) v z els:=⟨by rw [zuM (by rw [h.1];rfl),h.1],h.2⟩
theorem zoy {a:V}(h:(zaq m k a).isSome=true):zaq (m++g) k a=zaq m k a:=by
 cases a with
 |ptr b i j=>
  simp only [zaq] at h ⊢;cases hb:m[b]? with
  |none=>simp [hb] at h
  |some x=>rw [List.getElem?_append_left (List.getElem?_eq_some_iff.1 hb).1,hb]
 |_=>rfl
theorem zmC {own:Bool}{j:Nat}:zaq (m++[.cells own els]) k (.ptr m.length i j)=(els[i]?).bind fun el=>part el j k:=by
 simp [zaq]
theorem zqW {n j:Nat}{x:V}:zbi (m++[.cells true els]) n (.ptr m.length i j) x=match els[i]? with
  |some el=>if x.cells.length=n/\j+n<=el.length/\x.cells.all V.isCell=true then some (m++[.cells true (els.set i (splice el j x.cells))]) else none
  |none=>none:=by
 simp only [zbi,List.getElem?_concat_length];cases els[i]? with
 |none=>rfl
 |some el=>simp only [List.set_append_right _ _ (Nat.le_refl _),Nat.sub_self,List.set_cons_zero]
theorem zjP {n j:Nat}{x:V}{el:List V}:zbi (m++[.cells true [el]]) n (.ptr m.length 0 j) x=if x.cells.length=n/\j+n<=el.length/\x.cells.all V.isCell=true then some (m++[.cells true [splice el j x.cells]]) else none:=by
 simp [zqW]
theorem zmD {n:Nat}{a x:V}(h:(zbi m n a x).isSome=true):zbi (m++g) n a x=(zbi m n a x).map (· ++g):=by
 cases a with
 |ptr b i j=>
  simp only [zbi] at h ⊢;cases hb:m[b]? with
  |none=>simp [hb] at h
  |some y=>
   have hlt:=(List.getElem?_eq_some_iff.1 hb).1;rw [List.getElem?_append_left hlt,hb];rw [hb] at h;cases y with
   |dead=>simp at h
   |mp es=>simp at h
   |cells own els=>
    cases own with
    |false=>simp at h
    |true=>
     simp only at h ⊢;cases he:els[i]? with
     |none=>simp [he] at h
     |some el=>
      rw [he] at h;simp only at h ⊢
      split
      ·simp [List.set_append_left _ _ hlt]
      ·rename_i hn;rw [if_neg hn] at h;cases h
 |_=>rfl
theorem zoz:(m++List.replicate 1 Blk.dead)[m.length]? =some .dead:=by simp
theorem zoA {x:Blk}:(m++List.replicate 1 Blk.dead).set m.length x=m++[x]:=by simp [List.set_append_right]
theorem zqX {sh:List Bool}{xs ys:List V}:eqV (.flat sh) (.agg xs) (.agg ys)=eqL sh xs ys:=rfl
theorem ztC:eqL [] [] []=some true:=rfl
theorem ztD {sh:List Bool}{xs ys:List V}{ik:IntKind}{a b:Int}:eqL (false::sh) (.int ik a::xs) (.int ik b::ys)=(eqL sh xs ys).map fun r=>decide (a=b)&&r:=by simp [eqL]
theorem zqY {sh:List Bool}{xs ys:List V}{a b:Bool}:eqL (true::sh) (.bool a::xs) (.bool b::ys)=(eqL sh xs ys).map fun r=>decide (a=b)&&r:=by simp [eqL]
theorem zqZ {a b:Bool}:eqV .bool (.bool a) (.bool b)=some (decide (a=b)):=rfl
theorem zq0:eqV .ptr .nilp .nilp=some true:=rfl
theorem zvX {b i j:Nat}:eqV .ptr (.ptr b i j) .nilp=some false:=rfl
theorem zq1:eqV .slice .nils .nils=some true:=rfl
theorem zvY {b i l c z:Nat}{e:Bool}:eqV .slice (.slice b i l c e z) .nils=some false:=rfl
theorem zvZ:eqV .slice .emp .nils=some false:=rfl
theorem zq2:eqV .fn .nilf .nilf=some true:=rfl
theorem zv0 {f:Nat}{a c:List V}:eqV .fn (.fn f a c) .nilf=some false:=rfl
theorem zoB {b:Bool}:(V.bool b).isCell=true:=id rfl
theorem zq3 {k:IntKind}{n:Int}:(V.int k n).isCell=true:=id rfl
theorem zoC:V.nilp.isCell=true:=id rfl
theorem zq4 {b i j:Nat}:(V.ptr b i j).isCell=true:=id rfl
theorem zoD:V.nils.isCell=true:=id rfl
theorem zmE {b i l c z:Nat}{e:Bool}:(V.slice b i l c e z).isCell=true:=id rfl
theorem zoE:V.nilf.isCell=true:=id rfl
theorem ztE {f:Nat}{a c:List V}:(V.fn f a c).isCell=true:=id rfl
theorem zoF {cs:List V}:(V.agg cs).cells=cs:=rfl
theorem zcU {v:V}(h:v.isCell=true):v.cells=[v]:=by cases v<;>first|rfl|cases h
theorem Sl.cell {v:V}{z:Nat}{els:List (List V)}(h:Sl m v z els):v.isCell=true:=by
 obtain ⟨h,_⟩:=h;cases v<;>first|rfl|simp [elems] at h
def Grow (m m':Mem):Prop:= ∃g,m'=m++g
theorem Grow.refl (m:Mem):Grow m m:=⟨[],by simp⟩
theorem Grow.app {m m':Mem}(h:Grow m m'){g:Mem}:Grow m (m'++g):=by
 obtain ⟨k,rfl⟩:=h;exact ⟨k++g,by simp⟩
theorem Grow.trans {a b c:Mem}(h:Grow a b) (k:Grow b c):Grow a c:=by
 obtain ⟨g,rfl⟩:=h;obtain ⟨g',rfl⟩:=k;exact ⟨g++g',by simp⟩
theorem Sl.grow {m':Mem}(h:Sl m v z els) (hg:Grow m m'):Sl m' v z els:=by
 obtain ⟨g,rfl⟩:=hg;exact h.app
end
def zcy (B:Nat) (m:Mem) (v:V) (z:Nat) (els:List (List V)):Prop:=Sl m v z els/\(v= .nils\/ ∃b cap ex,B<=b/\v= .slice b 0 els.length cap ex z/\m[b]? =some (.cells true els))
theorem zb {m g:Mem}{b:Nat}{x:Blk}(h:m[b]? =some x):(m++g)[b]? =some x:=by
 rw [List.getElem?_append_left (List.getElem?_eq_some_iff.1 h).1,h]
theorem zcy.app {B:Nat}{m g:Mem}{v:V}{z:Nat}{els:List (List V)}(h:zcy B m v z els):zcy B (m++g) v z els:=by
 refine ⟨h.1.app,h.2.imp id ?_⟩;rintro ⟨b,cap,ex,h1,h2,h3⟩;exact ⟨b,cap,ex,h1,h2,zb h3⟩
theorem zcy.grow {B:Nat}{m m':Mem}{v:V}{z:Nat}{els:List (List V)}(h:zcy B m v z els) (hg:Grow m m'):zcy B m' v z els:=by
 obtain ⟨g,rfl⟩:=hg;exact h.app
theorem zcy.weaken {B B':Nat}{m:Mem}{v:V}{z:Nat}{els:List (List V)}(h:zcy B m v z els) (hB:B'<=B):zcy B' m v z els:=by
 refine ⟨h.1,h.2.imp id ?_⟩;rintro ⟨b,cap,ex,h1,h2,h3⟩;exact ⟨b,cap,ex,by omega,h2,h3⟩
theorem Sl.mk0 {m:Mem}{b cap z:Nat}{ex own:Bool}{els:List (List V)}(h:m[b]? =some (.cells own els)):Sl m (.slice b 0 els.length cap ex z) z els:=by
 simp [Sl,elems,h,zOk]
theorem zcy.mk {B:Nat}{m:Mem}{v:V}{z:Nat}{els:List (List V)}(h:(v= .nils/\els=[])\/ ∃b cap ex,B<=b/\v= .slice b 0 els.length cap ex z/\m[b]? =some (.cells true els)):zcy B m v z els:=by
 rcases h with ⟨rfl,rfl⟩|⟨b,cap,ex,h1,rfl,h3⟩
 ·exact ⟨⟨rfl,rfl⟩,.inl rfl⟩
 ·exact ⟨Sl.mk0 h3,.inr ⟨b,cap,ex,h1,rfl,h3⟩⟩
theorem zcy.cases {B:Nat}{m:Mem}{v:V}{z:Nat}{els:List (List V)}(h:zcy B m v z els):(v= .nils/\els=[])\/ ∃b cap ex,B<=b/\v= .slice b 0 els.length cap ex z/\m[b]? =some (.cells true els):=by
 rcases h with ⟨h1,rfl|h2⟩
 ·have:=h1.1
  simp [elems] at this;exact .inl ⟨rfl,this⟩
 ·exact .inr h2
theorem zcy.to {B:Nat}{m m':Mem}{v:V}{z:Nat}{els:List (List V)}(h:zcy B m v z els) (hm: ∀b x,B<=b->m[b]? =some x->m'[b]? =some x):zcy B m' v z els:=by
 rcases h.cases with h|⟨b,cap,ex,h1,h2,h3⟩
 ·exact zcy.mk (.inl h)
 ·exact zcy.mk (.inr ⟨b,cap,ex,h1,h2,hm b _ h1 h3⟩)
theorem Sl.mk {m:Mem}{b cap z:Nat}{ex own:Bool}{els:List (List V)}(h:m[b]? =some (.cells own els)):Sl m (.slice b 0 els.length cap ex z) z els:=by
 simp [Sl,elems,h,zOk]
theorem Grow.len {m m':Mem}(h:Grow m m'):m.length<=m'.length:=by
 obtain ⟨g,rfl⟩:=h
 simp
theorem Sl.cases {m:Mem}{v:V}{z:Nat}{els:List (List V)}(h:Sl m v z els):(v= .nils/\els=[])\/ ∃b i len cap ex,v= .slice b i len cap ex z:=by
 obtain ⟨h,hz⟩:=h;cases v with
 |nils=>simp [elems] at h;exact .inl ⟨rfl,h⟩
 |slice b i len cap ex z'=>
  simp [zOk] at hz;subst hz;exact .inr ⟨b,i,len,cap,ex,rfl⟩
 |_=>simp [elems] at h
theorem zgC {m:Mem}{v:V}{z:Nat}{els:List (List V)}{zero:List V}{bytes:Nat}(h:Sl m v z els) (hz:zero.length=z) (hb:0<bytes) (hr:els.length*bytes<=140737488355328):
  ∃v' m',zM (m++[.cells true []]) zero bytes (.slice m.length 0 0 0 true z) v=some (v',m')/\Grow m m'/\zcy m.length m' v' z els:=by
 have hle:els.length<=els.length*bytes:=Nat.le_mul_of_pos_right _ hb;have h':=(h.app (g:=[.cells true []])).1;have hz':zOk v zero.length=true:=by rw [hz];exact h.2
 by_cases he:els=[]
 ·subst he
  refine ⟨.slice m.length 0 0 0 true z,m++[.cells true []],?_,(Grow.refl _).app,?_,.inr ⟨_,_,_,Nat.le_refl _,rfl,by simp⟩⟩
  ·have:=h.2;simp [zM,zf4 h',hz,this]
  ·exact Sl.mk (els:=[]) (own:=true) (by simp)
 ·refine ⟨.slice (m++[Blk.cells true []]).length 0 els.length els.length false z,m++[.cells true []]++[.cells true els],?_,(Grow.refl _).app.app,?_,.inr ⟨_,_,_,?_,rfl,?_⟩⟩
  ·have h0:els.isEmpty=false:=by cases els<;>simp_all
   have h1:¬ els.length<=0:=by cases els<;>simp_all
   have:=h.2;simp [zM,zf4 h',hz,h0,roomy,hr,Nat.le_trans hle hr,he,this]
  ·exact Sl.mk (own:=true) (by simp)
  ·simp
  ·simp
theorem zuN {m:Mem} {b len cap z i n:Nat}{ex:Bool}{els:List (List V)}{el:List V}{x:V}(hb:m[b]? =some (.cells true els)) (hi:els[i]? =some el) (hl:el.length=n) (hx:x.cells.length=n) (hc:x.cells.all V.isCell=true):
  zbi m n (atp (.slice b 0 len cap ex z) i 0) x=some (m.set b (.cells true (els.set i x.cells))):=by
 simp only [zbi,atp,hb,Nat.zero_add,hi];rw [if_pos ⟨hx,by omega,hc⟩];simp [splice,hx,<-hl]
theorem Grow.set {m M:Mem}(h:Grow m M){B:Nat}(hB:m.length<=B) (x:Blk):Grow m (M.set B x):=by
 obtain ⟨g,rfl⟩:=h;exact ⟨g.set (B-m.length) x,by rw [List.set_append_right _ _ hB]⟩
theorem Grow.get {m M:Mem}(h:Grow m M){b:Nat}{x:Blk}(hb:m[b]? =some x):M[b]? =some x:=by
 obtain ⟨g,rfl⟩:=h;exact zb hb
theorem Sl.set_other {m:Mem}{v:V}{z bt:Nat}{els old new:List (List V)}{own own':Bool}(h:Sl m v z els) (hz: ∀el∈els,el.length=z) (hb:m[bt]? =some (.cells own old)) (ho: ∀el∈old,el.length≠z) (hn:new.length=old.length):Sl (m.set bt (.cells own' new)) v z els:=by
 refine ⟨?_,h.2⟩;have h1:=h.1;cases v with
 |slice b i len cap ex z'=>
  by_cases hbb:b=bt
  ·subst hbb
   simp only [elems,hb] at h1
   split at h1
   case isFalse=>cases h1
   rename_i hl
   simp only [Option.some.injEq] at h1;have hlt:=(List.getElem?_eq_some_iff.1 hb).1;have he:els=[]:=by
    rcases els with _|⟨e,r⟩
    ·rfl
    ·exfalso
     have hm:e∈old:=List.mem_of_mem_drop (List.mem_of_mem_take (h1▸List.mem_cons_self));exact ho e hm (hz e (by simp))
   subst he;have hlen:len=0:=by
    have:=congrArg List.length h1;simp at this;omega
   subst hlen;simp only [elems,List.getElem?_set_self hlt];rw [if_pos (by omega)]
   simp
  ·simp only [elems] at h1 ⊢
   rw [List.getElem?_set_ne (Ne.symm hbb)];exact h1
 |_=>exact h1
section
variable {M:Mem}{b j n:Nat}{own:Bool}{el:List V}{k:Option Nat}{x:V}
end
theorem zx6 {n:Nat}{x:List V}:List.replicate (n+1) x=x::List.replicate n x:=rfl
theorem zx7 {x:List V}:List.replicate 0 x=[]:=rfl
theorem ztF {p:Prop} [Decidable p]:(!decide p)=decide (¬ p):=by by_cases h:p<;>simp [h]
theorem wrap_i64 {x:Int}(h1: -9223372036854775808<=x) (h2:x<9223372036854775808):IntKind.i64.wrap x=x:=by rw [IntKind.wrap_i64];omega
theorem wrap_u64 {x:Int}(h1:0<=x) (h2:x<18446744073709551616):IntKind.u64.wrap x=x:=by rw [IntKind.wrap_u64];omega
end Go.AM
namespace Go.AM
open Go
def Has (fr:Frame):List (Nat×V)->Prop
 | []=>True
 |(i,v)::r=>fr i=v/\Has fr r
theorem zjQ {fr:Frame}:Has fr []=True:=rfl
theorem zhx {fr:Frame}{i:Nat}{v:V}{r:List (Nat×V)}:Has fr ((i,v)::r)=(fr i=v/\Has fr r):=rfl
theorem Has.put {fr:Frame}{j:Nat}{x:V}: ∀{l:List (Nat×V)},Has fr l->(l.map (·.1)).contains j=false->Has (put fr j x) l
 | [],_,_=>trivial
 |(i,v)::l,h,hj=>by
  simp only [List.map_cons,List.contains_cons,Bool.or_eq_false_iff,beq_eq_false_iff_ne] at hj;exact ⟨by rw [zbU,if_neg (fun e=>hj.1 e.symm)];exact h.1,h.2.put hj.2⟩
abbrev zv1 (s i n t a b:Nat) (body:zf):zf:=(.seq (.region [⟨(some s),none,(.bin .lss (.t i) (.t n)),none,[]⟩]) (.seq (.cond (.t s) .skip (.exit a)) (.seq (.block b body) (.region [⟨(some t),none,(.bin .add (.t i) (.c (.int .i64 1))),none,[]⟩,⟨(some i),none,(.mv (.t t)),none,[]⟩]))))
def zmF (a b:Nat) (Q:zar->Frame->Mem->Prop) (K:Frame->Mem->Prop) (e:zar) (fr:Frame) (m:Mem):Prop:=
 match e with
 | .normal=>K fr m
 | .exit j=>if j=b then K fr m else if j=a then Q .normal fr m else Q (.exit j) fr m
 | .ret=>Q .ret fr m
theorem ziM {a b:Nat} {Q} {K}{fr:Frame}{m:Mem}:zmF a b Q K .normal fr m=K fr m:=rfl
theorem zmG {a b:Nat} {Q} {K}{fr:Frame}{m:Mem}:zmF a b Q K .ret fr m=Q .ret fr m:=rfl
theorem zhy {a b j:Nat} {Q} {K}{fr:Frame}{m:Mem}:zmF a b Q K (.exit j) fr m=if j=b then K fr m else if j=a then Q .normal fr m else Q (.exit j) fr m:=rfl
def zsv {α:Type}(i n len:Nat) (L:α->List (Nat×V)) (P:Nat->α->Mem->Prop) (k:Nat) (fr:Frame) (m:Mem):Prop:= ∃x,Has fr ((i,.int .i64 (k:Nat))::(n,.int .i64 (len:Nat))::L x)/\P (k+1) x m
theorem zxy {S:Sys} {s i n t a b:Nat}{body c:zf}{fr:Frame}{m:Mem}{Q:zar->Frame->Mem->Prop}{α:Type}(len:Nat) (keys:List Nat) (L:α->List (Nat×V)) (P:Nat->α->Mem->Prop) (x0:α)
  (hc:c=zv1 s i n t a b body) (hk: ∀x,(L x).map (·.1)=keys) (hd:(keys.contains s||keys.contains i||keys.contains t||s == i||s == n||t == i||t == n||i == n||a == b)=false) (hlen:len<2^62)
  (fi:fr i= .int .i64 0) (fn:fr n= .int .i64 (len:Nat)) (h0:Has fr (L x0)) (p0:P 0 x0 m)
  (step: ∀(k:Nat) (x:α) (fr:Frame) (m:Mem),k<len->Has fr ((i,.int .i64 (k:Nat))::(n,.int .i64 (len:Nat))::L x)->P k x m->W S body fr m (zmF a b Q (zsv i n len L P k)))
  (fin: ∀(x:α) (fr:Frame) (m:Mem),Has fr (L x)->P len x m->Q .normal fr m):W S (.loop c) fr m (zj8 a Q):=by
 subst hc;simp only [Bool.or_eq_false_iff,beq_eq_false_iff_ne] at hd;obtain ⟨⟨⟨⟨⟨⟨⟨⟨d1,d2⟩,d3⟩,d4⟩,d5⟩,d6⟩,d7⟩,d8⟩,d9⟩:=hd;refine zW (fun (j:Nat) (fr:Frame) (m:Mem)=> ∃(k:Nat) (x:α),k<=len/\j=len-k/\fr i= .int .i64 (k:Nat)/\fr n= .int .i64 (len:Nat)/\Has fr (L x)/\P k x m) ?_ len ⟨0,x0,Nat.zero_le _,rfl,fi,fn,h0,p0⟩;rintro j fr m ⟨k,x,hkl,rfl,fi,fn,hF,hP⟩;have fl:fr n= .int .i64 (len:Int):=fn;rw [zrh,zj6,ztO];refine ⟨_,by rw [ziO,ziO,fi,fl,zp2],?_⟩;rw [zul,zp5,zdj,zrh,zga];have hs: ∀{v:V},Has (put fr s v) (L x):=hF.put (by rw [hk];exact d1)
 by_cases hkn:k<len
 ·have hlt:((k:Int)<(len:Int)):=by omega
  rw [zp6 (by simp [ziO,zbU,hlt]),zsK,zdj,zrh,zp7];have hstep:=step k x (put fr s (.bool (decide ((k:Int)<(len:Int))))) m hkn ⟨by rw [zbU,if_neg (fun e=>d4 e.symm)];exact fi,by rw [zbU,if_neg (fun e=>d5 e.symm)];exact fn,hs⟩ hP;refine hstep.mono ?_;have kk: ∀fr' m',zsv i n len L P k fr' m'->W S (.region [⟨(some t),none,(.bin .add (.t i) (.c (.int .i64 1))),none,[]⟩,⟨(some i),none,(.mv (.t t)),none,[]⟩]) fr' m' (fun e fr' m'=>match e with
    | .normal=> ∃j,j<len-k/\ ∃(k:Nat) (x:α),k<=len/\j=len-k/\fr' i= .int .i64 (k:Nat)/\fr' n= .int .i64 (len:Nat)/\Has fr' (L x)/\P k x m'
    |e=>zj8 a Q e fr' m'):=by
   rintro fr' m' ⟨x',⟨gi,gn,gF⟩,gP⟩;have gi':fr' i= .int .i64 (k:Int):=gi;have wi:IntKind.i64.wrap ((k:Int)+1)=((k+1:Nat):Int):=by rw [wrap_i64]<;>omega
   rw [zj6,ztO];refine ⟨_,by rw [ziO,zwe,gi',zp1,wi],?_⟩;rw [zyr,zul,zp5,ziO,zga,zga];refine ⟨len-(k+1),by omega,k+1,x',by omega,rfl,by simp [zbU],?_,(gF.put (by rw [hk];exact d3)).put (by rw [hk];exact d2),gP⟩;rw [zbU,if_neg (fun e=>d8 e.symm),zbU,if_neg (fun e=>d7 e.symm)];exact gn
  rintro e fr' m' hq;cases e with
  |normal=>exact kk _ _ hq
  |ret=>exact hq
  |exit q=>
   rw [zhy] at hq;rw [zcX]
   split
   ·rename_i hqb
    rw [if_pos hqb] at hq;exact kk _ _ hq
   ·rename_i hqb
    rw [if_neg hqb] at hq;show zj8 a Q (.exit q) fr' m';rw [zcX];exact hq
 ·have hlt:¬ ((k:Int)<(len:Int)):=by omega
  have hke:k=len:=by omega
  subst hke;rw [zmi (by simp [ziO,zbU]),zsL];show zj8 a Q (.exit a) _ _;rw [zcX,if_pos rfl];exact fin x _ _ hs hP
end Go.AM
