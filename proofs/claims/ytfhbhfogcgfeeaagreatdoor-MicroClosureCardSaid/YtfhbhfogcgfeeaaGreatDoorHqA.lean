import Derived.Test.YtfhbhfogcgfeeaaGreatDoorHpV
set_option linter.unusedVariables false
set_option linter.unusedSimpArgs false
set_option maxRecDepth 100000
namespace Go.AM.G
open Go Go.AM
theorem zrW: ∀{l k:List Nat},l.Pairwise (· < ·)->k.Pairwise (· < ·)->(∀x,x∈l↔x∈k)->l=k
 | [],[],_,_,_=>rfl
 | [],b::k,_,_,h=>by have:=(h b).2 (by simp);simp at this
 |a::l,[],_,_,h=>by have:=(h a).1 (by simp);simp at this
 |a::l,b::k,h1,h2,h=>by
  rw [List.pairwise_cons] at h1 h2;have e:a=b:=by
   rcases List.mem_cons.1 ((h a).1 (by simp)) with e|ha
   ·exact e
   ·rcases List.mem_cons.1 ((h b).2 (by simp)) with e|hb
    ·exact e.symm
    ·have:=h1.1 b hb;have:=h2.1 a ha;omega
  subst e
  congr 1
  refine zrW h1.2 h2.2 fun x=> ?_
  constructor
  ·intro hx
   rcases List.mem_cons.1 ((h x).1 (List.mem_cons_of_mem _ hx)) with e|hk
   ·have:=h1.1 x hx;omega
   ·exact hk
  ·intro hx
   rcases List.mem_cons.1 ((h x).2 (List.mem_cons_of_mem _ hx)) with e|hk
   ·have:=h2.1 x hx;omega
   ·exact hk
def cl:List Nat->List Nat
 | []=>[]
 | [a]=>[a]
 |a::b::r=>if a=b then cl (b::r) else a::cl (b::r)
theorem zqz {x:Nat}: ∀{l:List Nat},x∈cl l↔x∈l
 | []=>Iff.rfl
 | [a]=>Iff.rfl
 |a::b::r=>by
  unfold cl
  split
  ·rename_i e
   rw [zqz,e,List.mem_cons (a:=x) (b:=b) (l:=b::r)];exact ⟨.inr,fun h=>by rcases h with h|h;exact h▸List.mem_cons_self;exact h⟩
  ·rw [List.mem_cons,zqz,List.mem_cons (a:=x) (b:=a)]
theorem ziw: ∀{l:List Nat},l.Pairwise (· <= ·)->(cl l).Pairwise (· < ·)
 | [],_=>List.Pairwise.nil
 | [a],_=>by simp [cl]
 |a::b::r,h=>by
  have h2:=List.pairwise_cons.1 h;unfold cl
  split
  ·exact ziw h2.2
  ·rename_i hne
   rw [List.pairwise_cons];refine ⟨fun x hx=> ?_,ziw h2.2⟩;have hx':=zqz.1 hx;have h3:=List.pairwise_cons.1 h2.2;have hab:=h2.1 b (by simp);rcases List.mem_cons.1 hx' with e|hx'
   ·omega
   ·have:=h3.1 x hx';omega
theorem zml {a b:Nat}: ∀{l:List Nat},cl (l++[a,b])=if a=b then cl (l++[a]) else cl (l++[a])++[b]
 | []=>by
  show cl [a,b]=_;unfold cl
  split
  ·rename_i e;subst e;rfl
  ·rfl
 | [c]=>by
  show cl (c::a::[b])=if a=b then cl [c,a] else cl [c,a]++[b]
  have ih:= @zml a b [];simp only [List.nil_append] at ih;unfold cl
  split
  ·exact ih
  ·rw [ih];split<;>rfl
 |c::d::l=>by
  have ih:= @zml a b (d::l);simp only [List.cons_append] at ih ⊢;rw [cl,cl]
  split
  ·exact ih
  ·rw [ih];split<;>rfl
abbrev zBp (l:List Nat):List (List V):=l.map fun p:Nat=>[V.int .i64 (p:Int)]
def nx (l:List Nat) (i:Nat):Nat:=l.getD i 0
theorem zjD {l:List Nat}{i:Nat}(h:i<l.length):l[i]? =some (nx l i):=by simp [nx,List.getD_eq_getElem?_getD,h]
theorem zkX {α:Type}{f:Nat->α}{l:List Nat}:l.map f=(List.range l.length).map fun i=>f (nx l i):=by
 apply List.ext_getElem?;intro i;simp only [List.getElem?_map,List.getElem?_range]
 by_cases h:i<l.length
 ·rw [zjD h];simp [h]
 ·simp [h]
abbrev Nus (m:Mem) (v:V) (l:List Nat):Prop:=Rd m v 1 l.length (fun i=>[.int .u64 (nx l i:Nat)])
abbrev Nis (m:Mem) (v:V) (l:List Nat):Prop:=Rd m v 1 l.length (fun i=>[.int .i64 (nx l i:Nat)])
theorem Nis.of {m:Mem}{v:V}{l:List Nat}(h:Sl m v 1 (zBp l)):Nis m v l:= .inl (zkX (f:=fun p:Nat=>[V.int .i64 (p:Int)]) (l:=l)▸h)
theorem Nus.of {m:Mem}{v:V}{l:List Nat}(h:Sl m v 1 (zD l)):Nus m v l:= .inl (zkX (f:=fun p:Nat=>[V.int .u64 (p:Int)]) (l:=l)▸h)
theorem zaH {l:List Nat}{i:Nat}(h:i<l.length):nx l i∈l:=List.mem_of_getElem? (zjD h)
theorem zeA {l:List Nat}{a:Nat}(h:a∈l): ∃i,i<l.length/\nx l i=a:=by
 obtain ⟨i,hi,e⟩:=List.getElem_of_mem h;exact ⟨i,hi,by simp [nx,List.getD_eq_getElem?_getD,hi,e]⟩
theorem zix {l:List Nat}(h:l.Pairwise (· < ·)){p q:Nat}(hp:p<q) (hq:q<l.length):nx l p<nx l q:=by
 have:=List.pairwise_iff_getElem.1 h p q (by omega) hq hp
 simpa [nx,List.getD_eq_getElem?_getD,hq,show p<l.length by omega] using this
theorem zlP {m:Mem}{a:Nat}:C S zas [.int .u64 (a:Nat)] m (fun r m'=>r= .bool false/\Grow m m'):=by
 have G:=Grow.refl m;refine fn rfl ?_;trivial
theorem zpq {m:Mem}{a b:Nat}:C S zq [.int .u64 (a:Nat),.int .u64 (b:Nat)] m (fun r m'=>r= .bool (decide (a<b))/\Grow m m'):=by
 have e:decide (a<b)=decide ((a:Int)<(b:Int)):=decide_eq_decide.2 (by omega);rw [e];refine fn rfl ?_;refine zjC.mono ?_;rintro _ _ ⟨rfl,⟨g1,rfl⟩⟩;refine am ?_;exact ⟨_,rfl⟩
theorem znz {l:List ObA}{a:Nat}:a∈zdW l↔ ∃o,o∈l/\o.cur=true/\o.addr=a:=by
 induction l with
 |nil=>simp [zdW]
 |cons o l ih=>
  unfold zdW
  split
  ·rename_i h
   rw [List.mem_cons,ih];constructor
   ·rintro (rfl|⟨o',h1,h2⟩)
    ·exact ⟨o,by simp,h,rfl⟩
    ·exact ⟨o',List.mem_cons_of_mem _ h1,h2⟩
   ·rintro ⟨o',h1,h2,h3⟩
    rcases List.mem_cons.1 h1 with rfl|h1
    ·exact .inl h3.symm
    ·exact .inr ⟨o',h1,h2,h3⟩
  ·rename_i h
   rw [ih];constructor
   ·rintro ⟨o',h1,h2⟩
    exact ⟨o',List.mem_cons_of_mem _ h1,h2⟩
   ·rintro ⟨o',h1,h2,h3⟩
    rcases List.mem_cons.1 h1 with rfl|h1
    ·exact absurd h2 h
    ·exact ⟨o',h1,h2,h3⟩
theorem zrX {l:List ObA}{a:Nat}:a∈zdW l↔(fnd l a).isSome=true:=by
 rw [znz];unfold fnd;rw [List.find?_isSome];constructor
 ·rintro ⟨o,h1,h2,h3⟩
  exact ⟨o,h1,by simp [h2,h3]⟩
 ·rintro ⟨o,h1,h2⟩
  simp only [Bool.and_eq_true,beq_iff_eq] at h2;exact ⟨o,h1,h2.2,h2.1⟩
theorem ziy: ∀{l:List ObA},l.Pairwise (fun a b=>a.addr<b.addr)->(zdW l).Pairwise (· < ·)
 | [],_=>List.Pairwise.nil
 |o::l,h=>by
  rw [List.pairwise_cons] at h;unfold zdW
  split
  ·rw [List.pairwise_cons]
   refine ⟨fun x hx=> ?_,ziy h.2⟩;obtain ⟨o',h1,_,rfl⟩:=znz.1 hx;exact h.1 o' h1
  ·exact ziy h.2
theorem znA {l:List ObA}(h:rises l):l.Pairwise (fun a b=>a.addr<b.addr):=by
 rw [List.pairwise_iff_getElem];intro i j hi hj hij;have:=h i j hij hj
 simpa [ob,List.getD_eq_getElem?_getD,hi,hj] using this
theorem zl.right.cur {H:zl}(h:H.right) (wa:w64 H.na H.a){a:Nat}(ha:a∈zdW (obs H H.ns)):a≠0/\a+1+H.a a%256<=H.na/\zkf (H.a a)/\(∃o,fnd (obs H H.ns) a=some o/\o.w=H.a a)/\ ∀f,f<H.a a%256->(unM (H.a a)).testBit f=true->H.a (a+1+f)≠0->H.a (a+1+f)∈zdW (obs H H.ns):=by
 have hw:=h.2.1.wide h.1 wa;have hs:=zrX.1 ha;obtain ⟨o,ho⟩:=Option.isSome_iff_exists.1 hs;obtain ⟨h1,h2,h3⟩:=zyI ho;obtain ⟨i,hi,rfl⟩:=zw0 h3;obtain ⟨c1,c2,c3,c4⟩:=hw.c i hi;have hb:=hw.b i hi;rw [h1] at c1 c3 hb;have hn:(ob (obs H H.ns) i).n=H.a a%256:=by show (ob (obs H H.ns) i).w%256=_;rw [c3]
 rw [hn] at hb;refine ⟨by omega,by omega,c3▸c2,⟨_,ho,c3⟩,fun f hf hbit hne=> ?_⟩;have hr:=h.2.2.1 i hi h2 f (by rw [hn];exact hf) (by rw [c3];exact hbit);rw [h1] at hr;rcases hr with hr|hr
 ·exact absurd hr hne
 ·exact zrX.2 hr
end Go.AM.G
