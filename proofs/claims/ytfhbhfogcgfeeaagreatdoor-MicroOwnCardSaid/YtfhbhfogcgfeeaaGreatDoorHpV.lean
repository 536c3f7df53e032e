import Derived.Test.YtfhbhfogcgfeeaaGreatDoorHpP
set_option linter.unusedVariables false
set_option linter.unusedSimpArgs false
set_option maxRecDepth 100000
namespace Go.AM.G
open Go Go.AM
def bs (n:Nat) (t:Nat->Bool):List (List V):=(List.range n).map fun i=>[.bool (t i)]
def zhf (l:List ObA) (a:Nat):V:=
 if a=0 then .tup [.agg zOb,.int .i64 7] else match fnd l a with
 |some o=> .tup [.agg (obV o),.int .i64 0]
 |none=> .tup [.agg zOb,.int .i64 10]
def atV (l:List ObA) (a:Nat):V:=
 if a=0 then .tup [.agg [.int .i64 0,.int .u64 0],.int .i64 7] else match fnd l a with
 |some o=> .tup [.agg [.int .i64 (o.w%256:Nat),.int .u64 (unM o.w:Nat)],.int .i64 0]
 |none=> .tup [.agg [.int .i64 0,.int .u64 0],.int .i64 10]
def atR (H:zm) (a:Nat) (r:V):Prop:=(H.right/\r=atV (obs H H.ns) a)\/(¬ H.right/\r= .tup [.agg [.int .i64 0,.int .u64 0],.int .i64 2])
theorem zuW {M:Mem}{P a:Nat}{own:Bool} {aw nn uw sv ov:V}{l:List ObA}(hP:M[P]? =some (.cells own [[aw,nn,uw,sv,ov]])) (hv:Obs M ov l) (hr:rises l) (hl:l.length<1000000):C S zbR [.ptr P 0 0,.int .u64 (a:Nat)] M (fun r m'=>r=zhf l a/\Grow M m'):=by
 have hr':=zU hr;clear hr;refine fn rfl ?_;refine (zoL (own:=own) (aw:=aw) (nn:=nn) (uw:=uw) (sv:=sv) (ov:=ov) (zb hP) hv.app hr'.down hl).mono ?_;rintro _ _ ⟨rfl,⟨g,rfl⟩⟩
 by_cases h0:a=0
 ·subst h0
  have e1:zhf l 0= .tup [.agg zOb,.int .i64 7]:=rfl;have c1:((0:Nat):Int)=0:=rfl;cases hf:fnd l 0 with
  |some o=>
   have f1:zrg (some o)= .tup [.agg (obV o),.bool true]:=rfl;refine am ?_;exact ⟨_,rfl⟩
  |none=>
   have f1:zrg none= .tup [.agg zOb,.bool false]:=rfl;refine am ?_;exact ⟨_,rfl⟩
 ·have c1:((a:Int)=0)=False:=eq_false (by omega)
  cases hf:fnd l a with
  |some o=>
   have f1:zrg (some o)= .tup [.agg (obV o),.bool true]:=rfl;have e1:zhf l a= .tup [.agg (obV o),.int .i64 0]:=by unfold zhf;rw [if_neg h0,hf]
   clear h0;refine am ?_;exact ⟨_,rfl⟩
  |none=>
   have f1:zrg none= .tup [.agg zOb,.bool false]:=rfl;have e1:zhf l a= .tup [.agg zOb,.int .i64 10]:=by unfold zhf;rw [if_neg h0,hf]
   clear h0;refine am ?_;exact ⟨_,rfl⟩
theorem zpQ {m:Mem}{aw uw sv:V}{va vm:Nat->V}{H:zm}{a:Nat}(h:zdo m aw uw sv va vm H):C S zfq [.agg (z8 H aw uw sv),.int .u64 (a:Nat)] m (fun r m'=>atR H a r/\Grow m m'):=by
 have A:=h.a.ar;have B:=h.u.ar;have D:=h.s.s.ar;refine fn rfl ?_;refine (zkg h.app).mono ?_;rintro _ _ (⟨hr,rfl,g,ov,rfl,hG⟩|⟨hr,rfl,⟨g,rfl⟩⟩)
 case inr=>
  have hr':=zU hr;clear hr;refine am ?_;exact ⟨.inr ⟨hr'.down,rfl⟩,_,rfl⟩
 obtain ⟨l,el⟩: ∃l,obs H H.ns=l:=⟨_,rfl⟩
 have hw:=hr.2.1.wide hr.1 h.wa;have hol:=zhz hr.1;rw [el] at hG hw hol;have hr':=zU hr;have hw':=zU hw;have hO:Obs (m++ .cells true [z8 H aw uw sv]:: .cells true [[.int .i64 0,.int .u64 0]]:: .cells true [z8 H aw uw sv]:: .cells true [[aw,.int .i64 H.us.N,uw,sv,ov]]::g) ov l:=by
  have:=Gw.obs (G:=[]) (A:=m++[.cells true [z8 H aw uw sv],.cells true [[.int .i64 0,.int .u64 0]],.cells true [z8 H aw uw sv],.cells true [[aw,.int .i64 H.us.N,uw,sv,ov]]]) hG.cast
  simpa only [List.append_assoc,List.cons_append,List.nil_append,List.append_nil] using this
 clear hG hr hw;obtain ⟨R,hR⟩: ∃R:V->Prop,R=atR H a:=⟨_,rfl⟩
 have hR':PLift (R (atV l a)):=⟨by rw [hR];exact .inl ⟨hr'.down,by rw [el]⟩⟩
 rw [<-hR];clear hR el;refine am ?_;refine (zuW (P:=m.length+(1+1+1)) (own:=true) (aw:=aw) (nn:= .int .i64 H.us.N) (uw:=uw) (sv:=sv) (ov:=ov) (l:=l) zi hO hw'.down.rises (by omega)).mono ?_;rintro _ _ ⟨rfl,⟨g2,rfl⟩⟩
 by_cases h0:a=0
 ·have e1:zhf l a= .tup [.agg zOb,.int .i64 7]:=if_pos h0
  have e2:atV l a= .tup [.agg [.int .i64 0,.int .u64 0],.int .i64 7]:=if_pos h0;rw [e2] at hR';clear h0 e2;refine am ?_;exact ⟨hR'.down,_,rfl⟩
 ·cases hf:fnd l a with
  |some o=>
   have e1:zhf l a= .tup [.agg (obV o),.int .i64 0]:=by unfold zhf;rw [if_neg h0,hf]
   have e2:atV l a= .tup [.agg [.int .i64 (o.w%256:Nat),.int .u64 (unM o.w:Nat)],.int .i64 0]:=by unfold atV;rw [if_neg h0,hf]
   rw [e2] at hR';clear h0 e2;refine am ?_;exact ⟨hR'.down,_,rfl⟩
  |none=>
   have e1:zhf l a= .tup [.agg zOb,.int .i64 10]:=by unfold zhf;rw [if_neg h0,hf]
   have e2:atV l a= .tup [.agg [.int .i64 0,.int .u64 0],.int .i64 10]:=by unfold atV;rw [if_neg h0,hf]
   rw [e2] at hR';clear h0 e2;refine am ?_;exact ⟨hR'.down,_,rfl⟩
def ze9:List ObA->List Nat
 | []=>[]
 |o::l=>if o.cur=true then o.addr::ze9 l else ze9 l
theorem zwD {l:List ObA}:(ze9 l).length<=l.length:=by
 induction l with
 |nil=>exact Nat.le_refl _
 |cons o l ih=>
  unfold ze9
  split<;>simp<;>omega
abbrev zJ (l:List Nat):List (List V):=l.map fun a=>[V.int .u64 (a:Nat)]
def zym (H:zm) (m:Mem) (r:V) (m':Mem):Prop:=(H.right/\ ∃g v,m'=m++g/\r= .tup [v,.int .i64 0]/\Gw m.length g v 1 (zJ (ze9 (obs H H.ns))))\/(¬ H.right/\r= .tup [.nils,.int .i64 2]/\Grow m m')
theorem zrj: ∀l:List ObA,zje (l.map obV)=zJ (ze9 l)
 | []=>rfl
 |o::l=>by
  have ih:=zrj l;show zje (obV o::l.map obV)=zJ (if o.cur=true then o.addr::ze9 l else ze9 l);cases h:o.cur with
  |true=>
   rw [if_pos rfl];show zje ([.int .i64 (o.sp:Nat),.int .i64 (o.slot:Nat),.int .u64 (o.addr:Nat),.int .i64 (o.w%256:Nat),.int .u64 (unM o.w:Nat),.bool o.cur]::l.map obV)=_;rw [h,zje,ih];rfl
  |false=>
   rw [if_neg (by decide)];show zje ([.int .i64 (o.sp:Nat),.int .i64 (o.slot:Nat),.int .u64 (o.addr:Nat),.int .i64 (o.w%256:Nat),.int .u64 (unM o.w:Nat),.bool o.cur]::l.map obV)=_;rw [h,zje,ih]
   all_goals (intros;rename_i e;simp at e)
theorem zjN {m:Mem}{aw uw sv:V}{va vm:Nat->V}{H:zm}(h:zdo m aw uw sv va vm H):C S zbd [.agg (z8 H aw uw sv)] m (fun r m'=>zym H m r m'):=by
 obtain ⟨n,v,m1,e,hq⟩:=zkg h;have e:callN S.F S.X n zaZ [.agg (z8 H aw uw sv)] m=some (v,m1):=e;have key: ∀r m2,zjf (callN S.F S.X n) [.agg (z8 H aw uw sv)] m=some (r,m2)->zym H m r m2->C S zbd [.agg (z8 H aw uw sv)] m (fun r m'=>zym H m r m'):=fun r m2 e2 hr=>⟨n+1,r,m2,e2,hr⟩
 have hiH:zxq [.agg (z8 H aw uw sv)]=true:=by
  have A:=h.a.ar.2.1;have B:=h.u.ar.2.1;have D:=h.s.s.ar.2.1;simp only [zxq,z8,A,B,D,Bool.and_true,Bool.and_eq_true];exact ⟨trivial,rfl⟩
 rcases hq with ⟨hr,rfl,g,ov,rfl,hG⟩|⟨hr,rfl,hg⟩
 ·obtain ⟨l,el⟩: ∃l,obs H H.ns=l:=⟨_,rfl⟩
  have hol:=zhz hr.1;rw [el] at hG hol;have hS:=Gw.sl (G:=[]) (A:=m++[.cells true [z8 H aw uw sv],.cells true [[aw,.int .i64 H.us.N,uw,sv,ov]]]) hG.cast;simp only [List.append_assoc,List.cons_append,List.nil_append,List.append_nil] at hS;have hP:(m++ .cells true [z8 H aw uw sv]:: .cells true [[aw,.int .i64 H.us.N,uw,sv,ov]]::g)[m.length+1]? =some (.cells true [[aw,.int .i64 H.us.N,uw,sv,ov]]):=zi;have hall:(l.map obV).all isO=true:=by
   rw [List.all_eq_true];intro x hx;obtain ⟨o,_,rfl⟩:=List.mem_map.1 hx;rfl
  have e1: ∀{y},(match zje (l.map obV) with
     | []=>some (.tup [.nils,.int .i64 0],m++ .cells true [z8 H aw uw sv]:: .cells true [[aw,.int .i64 H.us.N,uw,sv,ov]]::g)
     |a::r=>some (.tup [.slice (m++ .cells true [z8 H aw uw sv]:: .cells true [[aw,.int .i64 H.us.N,uw,sv,ov]]::g).length 0 (r.length+1) (r.length+1) false 1,.int .i64 0],(m++ .cells true [z8 H aw uw sv]:: .cells true [[aw,.int .i64 H.us.N,uw,sv,ov]]::g)++[.cells true (a::r)]))=some y->zjf (callN S.F S.X n) [.agg (z8 H aw uw sv)] m=some y:=by
   intro y hy;unfold zjf;rw [if_pos hiH,e];simp only [hP,hS.1];rw [if_pos ⟨hall,by rw [List.length_map];omega,hS.2⟩];exact hy
  rw [zrj] at e1;cases hc:zJ (ze9 l) with
  |nil=>
   rw [hc] at e1;refine key _ _ (e1 rfl) (.inl ⟨hr,_,.nils,rfl,rfl,?_⟩);rw [el,hc];exact .inl ⟨rfl,rfl⟩
  |cons a r=>
   rw [hc] at e1;refine key _ _ (e1 rfl) (.inl ⟨hr,.cells true [z8 H aw uw sv]:: .cells true [[aw,.int .i64 H.us.N,uw,sv,ov]]::(g++[.cells true (a::r)]),_,by simp,rfl,?_⟩);rw [el,hc];refine .inr ⟨g.length+2,by simp<;>omega,?_⟩;show (g++[Blk.cells true (a::r)])[g.length]? =_
   simp
 ·refine key _ _ ?_ (.inr ⟨hr,rfl,hg⟩)
  unfold zjf;rw [if_pos hiH,e];rfl
end Go.AM.G
