import Derived.Test.YtfhbhfogcgfeeaaGreatDoorHpP
set_option linter.unusedVariables false
set_option linter.unusedSimpArgs false
set_option maxRecDepth 100000
namespace Go.AM.G
open Go Go.AM
def bs (n:Nat) (t:Nat->Bool):List (List V):=(List.range n).map fun i=>[.bool (t i)]
def zia (l:List ObA) (a:Nat):V:=
 if a=0 then .tup [.agg zOb,.int .i64 7] else match fnd l a with
 |some o=> .tup [.agg (obV o),.int .i64 0]
 |none=> .tup [.agg zOb,.int .i64 10]
def atV (l:List ObA) (a:Nat):V:=
 if a=0 then .tup [.agg [.int .i64 0,.int .u64 0],.int .i64 7] else match fnd l a with
 |some o=> .tup [.agg [.int .i64 (o.w%256:Nat),.int .u64 (unM o.w:Nat)],.int .i64 0]
 |none=> .tup [.agg [.int .i64 0,.int .u64 0],.int .i64 10]
def atR (H:zl) (a:Nat) (r:V):Prop:=(H.right/\r=atV (obs H H.ns) a)\/(¬ H.right/\r= .tup [.agg [.int .i64 0,.int .u64 0],.int .i64 2])
theorem zvh {M:Mem}{P a:Nat}{own:Bool} {aw nn uw sv ov:V}{l:List ObA}(hP:M[P]? =some (.cells own [[aw,nn,uw,sv,ov]])) (hv:Obs M ov l) (hr:rises l) (hl:l.length<1000000):C S zb0 [.ptr P 0 0,.int .u64 (a:Nat)] M (fun r m'=>r=zia l a/\Grow M m'):=by
 have hr':=zU hr;clear hr;refine fn rfl ?_;refine (zpo (own:=own) (aw:=aw) (nn:=nn) (uw:=uw) (sv:=sv) (ov:=ov) (zb hP) hv.app hr'.down hl).mono ?_;rintro _ _ ⟨rfl,⟨g,rfl⟩⟩
 by_cases h0:a=0
 ·subst h0
  have e1:zia l 0= .tup [.agg zOb,.int .i64 7]:=rfl;have c1:((0:Nat):Int)=0:=rfl;cases hf:fnd l 0 with
  |some o=>
   have f1:zrR (some o)= .tup [.agg (obV o),.bool true]:=rfl;refine am ?_;exact ⟨_,rfl⟩
  |none=>
   have f1:zrR none= .tup [.agg zOb,.bool false]:=rfl;refine am ?_;exact ⟨_,rfl⟩
 ·have c1:((a:Int)=0)=False:=eq_false (by omega)
  cases hf:fnd l a with
  |some o=>
   have f1:zrR (some o)= .tup [.agg (obV o),.bool true]:=rfl;have e1:zia l a= .tup [.agg (obV o),.int .i64 0]:=by unfold zia;rw [if_neg h0,hf]
   clear h0;refine am ?_;exact ⟨_,rfl⟩
  |none=>
   have f1:zrR none= .tup [.agg zOb,.bool false]:=rfl;have e1:zia l a= .tup [.agg zOb,.int .i64 10]:=by unfold zia;rw [if_neg h0,hf]
   clear h0;refine am ?_;exact ⟨_,rfl⟩
theorem zqy {m:Mem}{aw uw sv:V}{va vm:Nat->V}{H:zl}{a:Nat}(h:zcY m aw uw sv va vm H):C S zgg [.agg (zB H aw uw sv),.int .u64 (a:Nat)] m (fun r m'=>atR H a r/\Grow m m'):=by
 have A:=h.a.ar;have B:=h.u.ar;have D:=h.s.s.ar;refine fn rfl ?_;refine (zkW h.app).mono ?_;rintro _ _ (⟨hr,rfl,g,ov,rfl,hG⟩|⟨hr,rfl,⟨g,rfl⟩⟩)
 case inr=>
  have hr':=zU hr;clear hr;refine am ?_;exact ⟨.inr ⟨hr'.down,rfl⟩,_,rfl⟩
 obtain ⟨l,el⟩: ∃l,obs H H.ns=l:=⟨_,rfl⟩
 have hw:=hr.2.1.wide hr.1 h.wa;have hol:=zeK hr.1;rw [el] at hG hw hol;have hr':=zU hr;have hw':=zU hw;have hO:Obs (m++ .cells true [zB H aw uw sv]:: .cells true [[.int .i64 0,.int .u64 0]]:: .cells true [zB H aw uw sv]:: .cells true [[aw,.int .i64 H.us.N,uw,sv,ov]]::g) ov l:=by
  have:=Gw.obs (G:=[]) (A:=m++[.cells true [zB H aw uw sv],.cells true [[.int .i64 0,.int .u64 0]],.cells true [zB H aw uw sv],.cells true [[aw,.int .i64 H.us.N,uw,sv,ov]]]) hG.cast
  simpa only [List.append_assoc,List.cons_append,List.nil_append,List.append_nil] using this
 clear hG hr hw;obtain ⟨R,hR⟩: ∃R:V->Prop,R=atR H a:=⟨_,rfl⟩
 have hR':PLift (R (atV l a)):=⟨by rw [hR];exact .inl ⟨hr'.down,by rw [el]⟩⟩
 rw [<-hR];clear hR el;refine am ?_;refine (zvh (P:=m.length+(1+1+1)) (own:=true) (aw:=aw) (nn:= .int .i64 H.us.N) (uw:=uw) (sv:=sv) (ov:=ov) (l:=l) zh hO hw'.down.rises (by omega)).mono ?_;rintro _ _ ⟨rfl,⟨g2,rfl⟩⟩
 by_cases h0:a=0
 ·have e1:zia l a= .tup [.agg zOb,.int .i64 7]:=if_pos h0
  have e2:atV l a= .tup [.agg [.int .i64 0,.int .u64 0],.int .i64 7]:=if_pos h0;rw [e2] at hR';clear h0 e2;refine am ?_;exact ⟨hR'.down,_,rfl⟩
 ·cases hf:fnd l a with
  |some o=>
   have e1:zia l a= .tup [.agg (obV o),.int .i64 0]:=by unfold zia;rw [if_neg h0,hf]
   have e2:atV l a= .tup [.agg [.int .i64 (o.w%256:Nat),.int .u64 (unM o.w:Nat)],.int .i64 0]:=by unfold atV;rw [if_neg h0,hf]
   rw [e2] at hR';clear h0 e2;refine am ?_;exact ⟨hR'.down,_,rfl⟩
  |none=>
   have e1:zia l a= .tup [.agg zOb,.int .i64 10]:=by unfold zia;rw [if_neg h0,hf]
   have e2:atV l a= .tup [.agg [.int .i64 0,.int .u64 0],.int .i64 10]:=by unfold atV;rw [if_neg h0,hf]
   rw [e2] at hR';clear h0 e2;refine am ?_;exact ⟨hR'.down,_,rfl⟩
def zdW:List ObA->List Nat
 | []=>[]
 |o::l=>if o.cur=true then o.addr::zdW l else zdW l
theorem zny {l:List ObA}:(zdW l).length<=l.length:=by
 induction l with
 |nil=>exact Nat.le_refl _
 |cons o l ih=>
  unfold zdW
  split<;>simp<;>omega
abbrev zD (l:List Nat):List (List V):=l.map fun a=>[V.int .u64 (a:Nat)]
def zyL (H:zl) (m:Mem) (r:V) (m':Mem):Prop:=(H.right/\ ∃g v,m'=m++g/\r= .tup [v,.int .i64 0]/\Gw m.length g v 1 (zD (zdW (obs H H.ns))))\/(¬ H.right/\r= .tup [.nils,.int .i64 2]/\Grow m m')
theorem zrU {M:Mem}{c w:Nat}{own:Bool}{each:V}{Q:Mem->Prop}(h:M[c]? =some (.cells own [[each]])) (hc:each.isCell=true) (hQ:CV S each [.int .u64 (w:Nat)] M (fun _ M'=>Q M')):C S zi0 [.int .u64 (w:Nat),.ptr c 0 0] M (fun r M'=>r= .bool true/\Q M'):=by
 have hQ':=zU hQ;clear hQ;refine fn rfl ?_;refine zfG hQ'.down ?_;rintro r M' h;have h':=zU h;clear h;refine am ?_;exact h'.down
theorem zvi {m:Mem}{aw uw sv:V}{va vm:Nat->V}{H:zl}{a:Nat}{each:V}{T:Mem->Nat->Mem->Prop}(h:zcY m aw uw sv va vm H) (ha:a+1+H.a a%256<=H.na) (hu:zkf (H.a a)) (hna:H.na<1000000) (hc:each.isCell=true)
  (q0: ∀I,T I 0 (m++I))
  (hQ: ∀I f M,T I f M->(∀j y,I[j]? =some y->M[m.length+j]? =some y)/\Rd M aw 1 H.na (zG H.a))
  (hG: ∀I f M g,T I f M->T I f (M++g))
  (skip: ∀I f M,f<H.a a%256->(unM (H.a a)).testBit f=false->T I f M->T I (f+1) M)
  (step: ∀I f M,f<H.a a%256->(unM (H.a a)).testBit f=true->T I f M->CV S each [.int .u64 (H.a (a+1+f):Nat)] M (fun _ M'=>T I (f+1) M')):
  C S zhU [.agg (zB H aw uw sv),.int .u64 (a:Nat),each] m (fun _ M'=> ∃I,T I (H.a a%256) M'):=by
 have A:=h.a.ar;have B:=h.u.ar;have D:=h.s.s.ar;have lt:a<H.na:=by omega
 have wlt:=zU (h.wa _ lt);obtain ⟨w,ew⟩: ∃w,H.a a=w:=⟨_,rfl⟩
 have ew':=zU ew;rw [ew] at wlt ha hu;have hu':=zU hu;have q0':=zU q0;have hQ':=zU hQ;have hG':=zU hG;have skip':=zU skip;have step':=zU step;clear q0 hQ hG skip step hu;refine fn rfl ?_;refine (zge wlt.down).mono ?_;rintro _ _ ⟨⟨_,rfl⟩|⟨hn,_⟩,⟨g,rfl⟩⟩
 case inr=>exact absurd hu'.down hn
 have hn48:w%256<=48:=hu'.down.2.1;refine am ?_;obtain ⟨o,eo⟩: ∃o:ObA,o=⟨0,0,a,w,false⟩:=⟨_,rfl⟩
 have eV:[V.int .i64 0,.int .i64 0,.int .u64 (a:Nat),.int .i64 (w%256:Nat),.int .u64 (unM w:Nat),.bool false]=obV o:=by rw [eo];rfl
 rw [eV];obtain ⟨I,hI⟩: ∃I:Mem,I= .cells true [zB H aw uw sv]:: .cells true [[each]]::(g++ .cells true [[.int .i64 (w%256:Nat),.int .u64 (unM w:Nat)]]:: .cells true [[aw,.int .i64 H.us.N,uw,sv,.nils]]:: .cells true [obV o]::[]):=⟨_,rfl⟩
 have oa:o.addr=a:=by rw [eo]
 have ow:o.w=w:=by rw [eo]
 have i1:I[1]? =some (.cells true [[each]]):=by rw [hI];rfl
 have i2:I[g.length+3]? =some (.cells true [[aw,.int .i64 H.us.N,uw,sv,.nils]]):=by rw [hI];exact zh
 have i3:I[g.length+4]? =some (.cells true [obV o]):=by rw [hI];exact zh
 refine (zpp (P:=m.length+(g.length+3)) (o:=o) (T:=fun f M=>T I f M) (R:=fun _=>False) (na:=H.na) (a:=H.a) ?_ hna ?_ zs7 rfl ?_ ?_ (fun f M g h=>hG'.down I f M g h) ?_ ?_).mono ?_
 ·show o.addr+1+o.w%256<=H.na
  rw [oa,ow];exact ha
 ·show o.w%256<=48
  rw [ow];exact hn48
 ·have:=q0'.down I
  rw [hI] at this ⊢
  simpa only [List.append_assoc,List.cons_append,List.nil_append] using this
 ·intro f M hT
  obtain ⟨h1,h2⟩:=hQ'.down I f M hT;refine ⟨?_,true,aw,.int .i64 H.us.N,uw,sv,.nils,h1 _ _ i2,h2⟩;have:=h1 _ _ i3
  simpa only [List.length_append,List.length_cons,List.length_nil] using this
 ·intro f M hf hb hT
  have hf:f<o.w%256:=hf;rw [ow] at hf hb;exact skip'.down I f M (by rw [ew'.down];exact hf) (by rw [ew'.down];exact hb) hT
 ·intro f M hf hb hT
  have hf:f<o.w%256:=hf;rw [ow] at hf hb;rw [oa];obtain ⟨h1,h2⟩:=hQ'.down I f M hT;exact C.mono (zrU (h1 _ _ i1) hc (step'.down I f M (by rw [ew'.down];exact hf) (by rw [ew'.down];exact hb) hT)) fun r M' h=> .inl h
 ·rintro r M (⟨_,hT⟩|⟨_,hT⟩)
  ·have hT:T I (o.w%256) M:=hT
   rw [ow] at hT;have hT':=zU hT;clear hT;refine am ?_;exact ⟨I,hT'.down⟩
  ·exact hT.elim
theorem zrV: ∀l:List ObA,zkd (l.map obV)=zD (zdW l)
 | []=>rfl
 |o::l=>by
  have ih:=zrV l;show zkd (obV o::l.map obV)=zD (if o.cur=true then o.addr::zdW l else zdW l);cases h:o.cur with
  |true=>
   rw [if_pos rfl];show zkd ([.int .i64 (o.sp:Nat),.int .i64 (o.slot:Nat),.int .u64 (o.addr:Nat),.int .i64 (o.w%256:Nat),.int .u64 (unM o.w:Nat),.bool o.cur]::l.map obV)=_;rw [h,zkd,ih];rfl
  |false=>
   rw [if_neg (by decide)];show zkd ([.int .i64 (o.sp:Nat),.int .i64 (o.slot:Nat),.int .u64 (o.addr:Nat),.int .i64 (o.w%256:Nat),.int .u64 (unM o.w:Nat),.bool o.cur]::l.map obV)=_;rw [h,zkd,ih]
   all_goals (intros;rename_i e;simp at e)
theorem zgY {m:Mem}{aw uw sv:V}{va vm:Nat->V}{H:zl}(h:zcY m aw uw sv va vm H):C S zaW [.agg (zB H aw uw sv)] m (fun r m'=>zyL H m r m'):=by
 obtain ⟨n,v,m1,e,hq⟩:=zkW h;have e:callN S.F S.X n zba [.agg (zB H aw uw sv)] m=some (v,m1):=e;have key: ∀r m2,zkM (callN S.F S.X n) [.agg (zB H aw uw sv)] m=some (r,m2)->zyL H m r m2->C S zaW [.agg (zB H aw uw sv)] m (fun r m'=>zyL H m r m'):=fun r m2 e2 hr=>⟨n+1,r,m2,e2,hr⟩
 have hiH:zxO [.agg (zB H aw uw sv)]=true:=by
  have A:=h.a.ar.2.1;have B:=h.u.ar.2.1;have D:=h.s.s.ar.2.1;simp only [zxO,zB,A,B,D,Bool.and_true,Bool.and_eq_true];exact ⟨trivial,rfl⟩
 rcases hq with ⟨hr,rfl,g,ov,rfl,hG⟩|⟨hr,rfl,hg⟩
 ·obtain ⟨l,el⟩: ∃l,obs H H.ns=l:=⟨_,rfl⟩
  have hol:=zeK hr.1;rw [el] at hG hol;have hS:=Gw.sl (G:=[]) (A:=m++[.cells true [zB H aw uw sv],.cells true [[aw,.int .i64 H.us.N,uw,sv,ov]]]) hG.cast;simp only [List.append_assoc,List.cons_append,List.nil_append,List.append_nil] at hS;have hP:(m++ .cells true [zB H aw uw sv]:: .cells true [[aw,.int .i64 H.us.N,uw,sv,ov]]::g)[m.length+1]? =some (.cells true [[aw,.int .i64 H.us.N,uw,sv,ov]]):=zh;have hall:(l.map obV).all isO=true:=by
   rw [List.all_eq_true];intro x hx;obtain ⟨o,_,rfl⟩:=List.mem_map.1 hx;rfl
  have e1: ∀{y},(match zkd (l.map obV) with
     | []=>some (.tup [.nils,.int .i64 0],m++ .cells true [zB H aw uw sv]:: .cells true [[aw,.int .i64 H.us.N,uw,sv,ov]]::g)
     |a::r=>some (.tup [.slice (m++ .cells true [zB H aw uw sv]:: .cells true [[aw,.int .i64 H.us.N,uw,sv,ov]]::g).length 0 (r.length+1) (r.length+1) false 1,.int .i64 0],(m++ .cells true [zB H aw uw sv]:: .cells true [[aw,.int .i64 H.us.N,uw,sv,ov]]::g)++[.cells true (a::r)]))=some y->zkM (callN S.F S.X n) [.agg (zB H aw uw sv)] m=some y:=by
   intro y hy;unfold zkM;rw [if_pos hiH,e];simp only [hP,hS.1];rw [if_pos ⟨hall,by rw [List.length_map];omega,hS.2⟩];exact hy
  rw [zrV] at e1;cases hc:zD (zdW l) with
  |nil=>
   rw [hc] at e1;refine key _ _ (e1 rfl) (.inl ⟨hr,_,.nils,rfl,rfl,?_⟩);rw [el,hc];exact .inl ⟨rfl,rfl⟩
  |cons a r=>
   rw [hc] at e1;refine key _ _ (e1 rfl) (.inl ⟨hr,.cells true [zB H aw uw sv]:: .cells true [[aw,.int .i64 H.us.N,uw,sv,ov]]::(g++[.cells true (a::r)]),_,by simp,rfl,?_⟩);rw [el,hc];refine .inr ⟨g.length+2,by simp<;>omega,?_⟩;show (g++[Blk.cells true (a::r)])[g.length]? =_
   simp
 ·refine key _ _ ?_ (.inr ⟨hr,rfl,hg⟩)
  unfold zkM;rw [if_pos hiH,e];rfl
end Go.AM.G
