import Derived.Test.YtfhbhfogcgfeeaaGreatDoorAmFrame
import Derived.Orders
set_option linter.unusedVariables false
set_option linter.unusedSimpArgs false
namespace Go.AM
open Go
mutual
theorem zss: ∀{a b:V},V.beq a b=true->a=b
 | .bool a,b,h=>by cases b<;>simp [V.beq] at h;subst h;rfl
 | .int k a,b,h=>by cases b<;>simp [V.beq] at h;obtain ⟨rfl,rfl⟩:=h;rfl
 | .nilp,b,h=>by cases b<;>simp [V.beq] at h;rfl
 | .ptr x i j,b,h=>by cases b<;>simp [V.beq] at h;obtain ⟨⟨rfl,rfl⟩,rfl⟩:=h;rfl
 | .nils,b,h=>by cases b<;>simp [V.beq] at h;rfl
 | .emp,b,h=>by cases b<;>simp [V.beq] at h
 | .slice x i l c e z,b,h=>by cases b<;>simp [V.beq] at h;obtain ⟨⟨⟨⟨⟨rfl,rfl⟩,rfl⟩,rfl⟩,rfl⟩,rfl⟩:=h;rfl
 | .nilf,b,h=>by cases b<;>simp [V.beq] at h;rfl
 | .mp x,b,h=>by cases b<;>simp [V.beq] at h;subst h;rfl
 | .fn f x y,b,h=>by
  cases b<;>simp [V.beq] at h
  obtain ⟨⟨rfl,h1⟩,h2⟩:=h;rw [zim h1,zim h2]
 | .agg x,b,h=>by
  cases b<;>simp [V.beq] at h
  rw [zim h]
 | .tup x,b,h=>by
  cases b<;>simp [V.beq] at h
  rw [zim h]
theorem zim: ∀{a b:List V},V.beqs a b=true->a=b
 | [],b,h=>by cases b<;>simp [V.beqs] at h;rfl
 |x::xs,b,h=>by
  cases b<;>simp [V.beqs] at h
  rw [zss h.1,zim h.2]
end
section
variable {fr fr':Frame}{m m':Mem}{d:Option Nat}{v u:V}
theorem zt {l l':List Nat}(h:noSlot d l=true) (hs: ∀x∈l',x∈l):noSlot d l'=true:=by
 cases d with
 |none=>rfl
 |some i=>
  simp only [noSlot,Bool.not_eq_true',List.contains_eq_mem,decide_eq_false_iff_not] at h ⊢;exact fun hm=>h (hs i hm)
theorem zeP {i:Nat}{l:List Nat}(h:noSlot (some i) l=true):i∉l:=by
 simpa only [noSlot,Bool.not_eq_true',List.contains_eq_mem,decide_eq_false_iff_not] using h
theorem zjb {i:Nat}(h:noSlot d [i]=true):putO fr d v i=fr i:=by
 cases d with
 |none=>rfl
 |some j=>
  have:=zeP h;simp only [List.mem_singleton] at this;simp only [putO,put];rw [if_neg (fun e=>this e.symm)]
theorem get_put {a:Arg}(h:noSlot d a.slots=true):a.get (putO fr d v)=a.get fr:=by
 cases a with
 |t i=>exact zjb h
 |c v=>rfl
theorem zjM: ∀{l:List Arg},noSlot d (l.flatMap Arg.slots)=true->l.map (·.get (putO fr d v))=l.map (·.get fr)
 | [],_=>rfl
 |a::l,h=>by
  simp only [List.flatMap_cons] at h;simp only [List.map_cons];rw [get_put (zt h (fun x hx=>by simp [hx])),zjM (zt h (fun x hx=>by simp [hx]))]
theorem zpI {o:Option Arg}(h:noSlot d (zjL o)=true):o.map (·.get (putO fr d v))=o.map (·.get fr):=by
 cases o with
 |none=>rfl
 |some a=>simp only [Option.map_some];rw [get_put h]
theorem zvN {o:AOp}{tgt:Option Nat}(h:noSlot d o.slots=true):zu o tgt (putO fr d v) m=zu o tgt fr m:=by
 cases o<;>simp only [AOp.slots] at h<;>simp only [zu]
 case mv=>rw [get_put h]
 case nilck=>rw [get_put h]
 case pick=>rw [get_put (zt h (fun x hx=>by simp [hx])),get_put (zt h (fun x hx=>by simp [hx])),get_put (zt h (fun x hx=>by simp [hx]))]
 case box=>rw [get_put h]
 case build z ps=>
  have:ps.map (fun p=>(p.1,p.2.1,p.2.2.get (putO fr d v)))=ps.map (fun p=>(p.1,p.2.1,p.2.2.get fr)):=by
   induction ps with
   |nil=>rfl
   |cons p ps ih=>
    simp only [List.flatMap_cons] at h;simp only [List.map_cons];rw [get_put (zt h (fun x hx=>by simp [hx])),ih (zt h (fun x hx=>by simp [hx]))]
  rw [this]
 case bslice z n ps=>
  have:ps.map (fun p=>(p.1,p.2.get (putO fr d v)))=ps.map (fun p=>(p.1,p.2.get fr)):=by
   induction ps with
   |nil=>rfl
   |cons p ps ih=>
    simp only [List.flatMap_cons] at h;simp only [List.map_cons];rw [get_put (zt h (fun x hx=>by simp [hx])),ih (zt h (fun x hx=>by simp [hx]))]
  rw [this]
 case load=>rw [get_put h]
 case un=>rw [get_put h]
 case conv=>rw [get_put h]
 case fieldAddr=>rw [get_put h]
 case field=>rw [get_put h]
 case extract=>rw [get_put h]
 case len=>rw [get_put h]
 case cap=>rw [get_put h]
 case mlen=>rw [get_put h]
 case mapset=>rw [get_put (zt h (fun x hx=>by simp [hx])),get_put (zt h (fun x hx=>by simp [hx])),get_put (zt h (fun x hx=>by simp [hx]))]
 case clear=>rw [get_put h]
 case mkfn=>rw [zjM (zt h (fun x hx=>by simp [hx])),zjM (zt h (fun x hx=>by simp [hx]))]
 case slice=>
  rw [get_put (zt h (fun x hx=>by simp [hx])),zpI (zt h (fun x hx=>by simp [hx])),zpI (zt h (fun x hx=>by simp [hx])),zpI (zt h (fun x hx=>by simp [hx]))]
 all_goals first
  |rfl
  |rw [get_put (zt h (fun x hx=>by simp [hx])),get_put (zt h (fun x hx=>by simp [hx]))]
theorem zvO {call:zS}{o:AOp}{tgt:Option Nat}(h:noSlot d o.slots=true):step call o tgt (putO fr d v) m=step call o tgt fr m:=by
 cases o
 case call f as=>
  simp only [AOp.slots] at h;simp only [step];rw [get_put (zt h (fun x hx=>by simp [hx])),zjM (zt h (fun x hx=>by simp [hx]))]
 all_goals
  simp only [step];exact zvN h
theorem wanted_put {g:Option (Nat×Bool)}(h:noSlot d (zpF g)=true):zQ g (putO fr d v)=zQ g fr:=by
 cases g with
 |none=>rfl
 |some p=>
  obtain ⟨t,want⟩:=p;simp only [zQ];rw [zjb h]
theorem zxt {l:List (Option (Nat×Bool)×Nat×Option Nat×Arg)}(h:noSlot d (zb8 l)=true):zO l (putO fr d v) m=zO l fr m:=by
 induction l with
 |nil=>rfl
 |cons c l ih=>
  obtain ⟨g,i,k,a⟩:=c;simp only [zb8,List.flatMap_cons] at h;have h1:noSlot d (zb8 l)=true:=zt h (fun x hx=>by simp only [zb8] at hx;simp [hx]);have ih:=ih h1;simp only [zO,List.all_cons] at ih ⊢;rw [ih,wanted_put (zt h (fun x hx=>by simp [hx])),get_put (zt h (fun x hx=>by simp [hx])),zjb (zt h (fun x hx=>by simp at hx;simp [hx]))]
def val (call:zS) (base:Nat) (o:zo) (fr:Frame) (m:Mem):Option (V×Mem):=
 if zQ o.g fr then
  match step call o.op (o.res.map (base+ ·)) fr m with
  |some (v,m')=>if zO o.chk fr m' then some (v,m') else none
  |none=>none
 else some (undef,m)
theorem zqP {call:zS}{base:Nat}{o:zo}:zeL call base o fr m=(val call base o fr m).map fun p=>(putO fr o.dst p.1,p.2):=by
 unfold zeL val
 split
 ·generalize step call o.op (Option.map (fun x=>base+x) o.res) fr m=r
  cases r with
  |none=>rfl
  |some p=>
   simp only
   split<;>rfl
 ·rfl
theorem ztz {call:zS}{base:Nat}{o:zo}(h:noSlot d (o.reads++zb8 o.chk)=true):val call base o (putO fr d v) m=val call base o fr m:=by
 unfold val;simp only [zo.reads] at h;rw [wanted_put (zt h (fun x hx=>by simp [hx])),zvO (zt h (fun x hx=>by simp [hx]))]
 split
 ·split
  ·rw [zxt (zt h (fun x hx=>by simp [hx]))]
  ·rfl
 ·rfl
theorem zou {o:AOp}(h:zbC o= .pure){tgt:Option Nat}(hp:zu o tgt fr m=some (v,m')):m'=m/\ ∀(M:Mem) (tgt':Option Nat),zu o tgt' fr M=some (v,M):=by
 have quiet: ∀{r:Option V},(r.map fun v=>(v,m))=some (v,m')->m'=m/\ ∀(M:Mem),(r.map fun v=>(v,M))=some (v,M):=by
  intro r hr;simp only [Option.map_eq_some_iff] at hr;obtain ⟨u,hu,e⟩:=hr;cases e;exact ⟨rfl,fun M=>by rw [hu];rfl⟩
 cases o<;>simp only [zbC,reduceCtorEq] at h<;>simp only [zu] at hp ⊢
 case mv=>cases hp;exact ⟨rfl,fun _ _=>rfl⟩
 case nilck=>split at hp<;>cases hp;exact ⟨rfl,fun _ _=>by simp only [*]⟩
 case pick=>split at hp<;>cases hp;exact ⟨rfl,fun _ _=>by simp only [*]⟩
 case build=>exact ⟨(quiet hp).1,fun M _=>(quiet hp).2 M⟩
 case bin=>exact ⟨(quiet hp).1,fun M _=>(quiet hp).2 M⟩
 case eq=>exact ⟨(quiet hp).1,fun M _=>(quiet hp).2 M⟩
 case ne=>exact ⟨(quiet hp).1,fun M _=>(quiet hp).2 M⟩
 case un=>exact ⟨(quiet hp).1,fun M _=>(quiet hp).2 M⟩
 case conv=>split at hp<;>cases hp;exact ⟨rfl,fun _ _=>by simp only [*]⟩
 case mkfn=>cases hp;exact ⟨rfl,fun _ _=>rfl⟩
 case slice=>
  split at hp
  ·rename_i hc;exact ⟨(quiet hp).1,fun M _=>by rw [if_pos hc];exact (quiet hp).2 M⟩
  ·cases hp
 case fieldAddr=>split at hp<;>cases hp;exact ⟨rfl,fun _ _=>by simp only [*]⟩
 case field=>
  split at hp
  ·exact ⟨(quiet hp).1,fun M _=>(quiet hp).2 M⟩
  ·cases hp
 case indexAddr=>
  split at hp
  ·split at hp<;>cases hp;exact ⟨rfl,fun _ _=>by simp [*]⟩
  ·cases hp
 case indexArr=>
  split at hp
  ·split at hp<;>cases hp;exact ⟨rfl,fun _ _=>by simp [*]⟩
  ·cases hp
 case extract=>
  split at hp
  ·exact ⟨(quiet hp).1,fun M _=>(quiet hp).2 M⟩
  ·cases hp
 case len=>split at hp<;>cases hp<;>exact ⟨rfl,fun _ _=>by simp only [*]⟩
 case cap=>split at hp<;>cases hp<;>exact ⟨rfl,fun _ _=>by simp only [*]⟩
 case min=>split at hp<;>cases hp;exact ⟨rfl,fun _ _=>by simp only [*]⟩
 case max=>split at hp<;>cases hp;exact ⟨rfl,fun _ _=>by simp only [*]⟩
theorem zst {o:AOp}(h:zbC o= .alloc){id:Nat}(hp:zu o (some id) fr m=some (v,m')): ∃blk,m'=m.set id blk/\ ∀(M:Mem),M[id]? =some .dead->zu o (some id) fr M=some (v,M.set id blk):=by
 have new: ∀{x:Blk}{f:Nat->V},((zaE m (some id) x).map fun y=>(f y.1,y.2))=some (v,m')-> ∃blk,m'=m.set id blk/\ ∀(M:Mem),M[id]? =some .dead->((zaE M (some id) x).map fun y=>(f y.1,y.2))=some (v,M.set id blk):=by
  intro x f hr;simp only [zaE,Option.map_eq_some_iff] at hr;obtain ⟨⟨b,m1⟩,hb,e⟩:=hr
  split at hb
  ·cases hb
   cases e;exact ⟨x,rfl,fun M hM=>by simp [zaE,hM]⟩
  ·cases hb
 cases o<;>simp only [zbC,reduceCtorEq] at h<;>simp only [zu] at hp ⊢
 case alloc=>exact new (f:=fun b=> .ptr b 0 0) hp
 case box=>
  split at hp
  ·rename_i hc
   obtain ⟨blk,h1,h2⟩:=new (f:=fun b=> .ptr b 0 0) hp;exact ⟨blk,h1,fun M hM=>by rw [if_pos hc];exact h2 M hM⟩
  ·cases hp
 case bslice=>
  simp only [Option.bind_eq_some_iff] at hp;obtain ⟨els,he,hp⟩:=hp;obtain ⟨blk,h1,h2⟩:=new (f:=fun b=> .slice b 0 _ _ true _) hp;exact ⟨blk,h1,fun M hM=>by rw [he];exact h2 M hM⟩
 case mkslice=>
  split at hp
  ·split at hp
   ·rename_i hx hy hc
    obtain ⟨blk,h1,h2⟩:=new (f:=fun b=> .slice b 0 _ _ true _) hp;exact ⟨blk,h1,fun M hM=>by rw [if_pos hc];exact h2 M hM⟩
   ·cases hp
  ·cases hp
structure Less (o' o:zo):Prop where
 dst:o'.dst=o.dst
 g:o'.g=o.g
 op:o'.op=o.op
 res:o'.res=o.res
 chk: ∀c∈o'.chk,c∈o.chk
theorem Less.refl (o:zo):Less o o:=⟨rfl,rfl,rfl,rfl,fun _ h=>h⟩
theorem Less.trans {a b c:zo}(h:Less a b) (k:Less b c):Less a c:=⟨h.dst.trans k.dst,h.g.trans k.g,h.op.trans k.op,h.res.trans k.res,fun x hx=>k.chk x (h.chk x hx)⟩
def strike (d:Option Nat) (o:zo):zo:={ o with chk:=o.chk.filter fun c=>noSlot d (zb8 [c]) }
theorem zld (d:Option Nat) (o:zo):Less (strike d o) o:=⟨rfl,rfl,rfl,rfl,fun _ h=>(List.mem_filter.1 h).1⟩
theorem zpJ (d:Option Nat) (o:zo):noSlot d (zb8 (strike d o).chk)=true:=by
 cases d with
 |none=>rfl
 |some i=>
  simp only [noSlot,Bool.not_eq_true',List.contains_eq_mem,decide_eq_false_iff_not];intro h;simp only [zb8,List.mem_flatMap] at h;obtain ⟨c,hc,hi⟩:=h;have:=(List.mem_filter.1 hc).2;have:=zeP this;exact this (by simp only [zb8,List.mem_flatMap];exact ⟨c,by simp,hi⟩)
theorem zvP {l l':List (Option (Nat×Bool)×Nat×Option Nat×Arg)}(h: ∀c∈l',c∈l) (hk:zO l fr m=true):zO l' fr m=true:=by
 simp only [zO,List.all_eq_true] at hk ⊢;exact fun c hc=>hk c (h c hc)
theorem zvQ {call:zS}{base:Nat}{o o':zo}(h:Less o' o){r:V×Mem}(hv:val call base o fr m=some r):val call base o' fr m=some r:=by
 unfold val at hv ⊢;rw [h.g,h.op,h.res]
 split at hv
 ·rename_i hw
  rw [if_pos hw]
  split at hv
  ·split at hv
   ·rename_i hc
    rw [if_pos (zvP h.chk hc)];exact hv
   ·cases hv
  ·cases hv
 ·rename_i hw
  rw [if_neg hw];exact hv
theorem zuH {d e:Option Nat}(h:noSlot e d.toList=true):putO (putO fr d v) e u=putO (putO fr e u) d v:=by
 cases d with
 |none=>rfl
 |some i=>
  cases e with
  |none=>rfl
  |some j=>
   have:=zeP h;simp only [Option.toList_some,List.mem_singleton] at this
   funext k
   simp only [putO,put]
   by_cases h1:k=j
   ·subst h1;rw [if_pos rfl,if_neg this,if_pos rfl]
   ·by_cases h2:k=i
    ·subst h2;rw [if_neg h1,if_pos rfl,if_pos rfl]
    ·rw [if_neg h1,if_neg h2,if_neg h2,if_neg h1]
theorem zpK {a b:Cls}(h:zsq a b=true):a= .pure\/b= .pure\/(a= .load/\b= .load)\/(a= .load/\b= .eff)\/b= .alloc:=by
 cases a<;>cases b<;>simp [zsq] at h ⊢
theorem zf6 {o:AOp}(h:zbC o≠ .eff){call:zS}{tgt:Option Nat}:step call o tgt fr m=zu o tgt fr m:=by
 cases o<;>first|rfl|(simp [zbC] at h)
theorem swap {call:zS}(hfr:zek call){base k:Nat}{x i:zo}(hx:zdT k x=true) (hi:zdT k i=true) (hind:zms x i=true) (hres:zcG x i=true){fr:Frame}{m m1 m2:Mem}{v u:V}
  (hpend: ∀j,i.res=some j->m[base+j]? =some .dead) (h1:val call base x fr m=some (v,m1)) (h2:val call base i (putO fr x.dst v) m1=some (u,m2)):
  ∃m1',val call base (strike x.dst i) fr m=some (u,m1')/\val call base x (putO fr i.dst u) m1'=some (v,m2)/\putO (putO fr x.dst v) i.dst u=putO (putO fr i.dst u) x.dst v:=by
 simp only [zms,Bool.and_eq_true] at hind;obtain ⟨hcls,hap,hck⟩:=hind;simp only [zsr,Bool.and_eq_true] at hap;obtain ⟨ap1,ap2,ap3⟩:=hap;simp only [zdT,Bool.and_eq_true,Bool.or_eq_true,beq_iff_eq,List.isEmpty_iff] at hx hi;obtain ⟨hx1,hx2,hx3⟩:=hx;obtain ⟨hi1,hi2,hi3⟩:=hi;have g2:val call base (strike x.dst i) fr m1=some (u,m2):=by
  have:=zvQ (zld x.dst i) h2
  rwa [ztz (by
   have h3:=zpJ x.dst i;cases hd:x.dst with
   |none=>rfl
   |some d=>
    rw [hd] at h3 ap1;have h4:=zeP h3;have h5:=zeP ap1;simp only [noSlot,Bool.not_eq_true',List.contains_eq_mem,decide_eq_false_iff_not,List.mem_append];rintro (h|h)
    ·exact h5 h
    ·exact h4 h)] at this
 have gx: ∀M,val call base x (putO fr i.dst u) M=val call base x fr M:=fun M=>ztz ap2
 have gc:putO (putO fr x.dst v) i.dst u=putO (putO fr i.dst u) x.dst v:=zuH ap3
 suffices h: ∃m1',val call base (strike x.dst i) fr m=some (u,m1')/\val call base x fr m1'=some (v,m2) by
  obtain ⟨m1',h3,h4⟩:=h;exact ⟨m1',h3,by rw [gx];exact h4,gc⟩
 have unw: ∀{o:zo}{fr:Frame},¬ zQ o.g fr=true-> ∀M,val call base o fr M=some (undef,M):=by
  intro o fr h M;unfold val;rw [if_neg h]
 by_cases wx:zQ x.g fr=true
 case neg=>
  rw [unw wx] at h1;cases h1;exact ⟨m2,g2,unw wx m2⟩
 by_cases wi:zQ (strike x.dst i).g fr=true
 case neg=>
  rw [unw wi] at g2;cases g2;exact ⟨m,unw wi m,h1⟩
 have ex: ∀{o:zo}{fr:Frame}{M M':Mem}{a:V},zQ o.g fr=true->val call base o fr M=some (a,M')->step call o.op (o.res.map (base+ ·)) fr M=some (a,M')/\zO o.chk fr M'=true:=by
  intro o fr M M' a hw h;unfold val at h;rw [if_pos hw] at h
  split at h
  ·rename_i hs
   split at h
   ·rename_i hc
    cases h;exact ⟨hs,hc⟩
   ·cases h
  ·cases h
 have mk: ∀{o:zo}{fr:Frame}{M M':Mem}{a:V},zQ o.g fr=true->step call o.op (o.res.map (base+ ·)) fr M=some (a,M')->zO o.chk fr M'=true->val call base o fr M=some (a,M'):=by
  intro o fr M M' a hw hs hc;unfold val;rw [if_pos hw,hs];simp only [hc,if_true]
 obtain ⟨sx,cx⟩:=ex wx h1;obtain ⟨si,ci⟩:=ex wi g2;have hio:(strike x.dst i).op=i.op:=rfl;have hir:(strike x.dst i).res=i.res:=rfl;rw [hio,hir] at si;have nochk: ∀{o:zo}{fr:Frame}{M:Mem},o.chk=[]->zO o.chk fr M=true:=by
  intro o fr M h;rw [h];rfl
 have schk:i.chk=[]->(strike x.dst i).chk=[]:=by intro h;simp [strike,h]
 rcases zpK hcls with hc|hc|⟨hc,hd⟩|⟨hc,hd⟩|hc
 ·have hne:zbC x.op≠ .eff:=by rw [hc];simp
  have hk:x.chk=[]:=hx1.resolve_left (by simpa using hne);rw [zf6 hne] at sx;obtain ⟨rfl,hall⟩:=zou hc sx;exact ⟨m2,g2,mk wx (by rw [zf6 hne];exact hall m2 _) (nochk hk)⟩
 ·have hne:zbC i.op≠ .eff:=by rw [hc];simp
  have hk:i.chk=[]:=hi1.resolve_left (by simpa using hne);rw [zf6 hne] at si;obtain ⟨rfl,hall⟩:=zou hc si;exact ⟨m,mk wi (by rw [hio,zf6 hne];exact hall m _) (nochk (schk hk)),h1⟩
 ·have hl: ∀{o:AOp}{tgt:Option Nat}{M M':Mem}{a:V},zbC o= .load->step call o tgt fr M=some (a,M')->M'=M:=by
   intro o tgt M M' a h hs;cases o<;>simp only [zbC,reduceCtorEq] at h
   simp only [step,zu,Option.map_eq_some_iff] at hs;obtain ⟨_,_,e⟩:=hs;cases e;rfl
  obtain rfl:=hl hc sx;obtain rfl:=hl hd si;exact ⟨_,g2,h1⟩
 ·have hk:x.chk=[]:=hx1.resolve_left (by rw [hc];simp)
  simp only [hc,hd,beq_self_eq_true,Bool.and_self,Bool.not_true,Bool.false_or] at hck;cases hxo:x.op with
  |load kk a=>
   cases hxd:x.dst with
   |none=>simp [zeO,hxo,hxd] at hck
   |some d=>
    cases a with
    |c c=>simp [zeO,hxo] at hck
    |t a=>
     simp only [zeO,hxo,hxd,List.any_eq_true] at hck;obtain ⟨⟨g',d',k',a'⟩,hmem,hh⟩:=hck;cases a' with
     |c c=>simp at hh
     |t b=>
      simp only [Bool.and_eq_true,beq_iff_eq] at hh;obtain ⟨⟨⟨rfl,rfl⟩,rfl⟩,rfl⟩:=hh;rw [hxo] at sx;simp only [step,zu,Option.map_eq_some_iff] at sx;obtain ⟨v',hl,e⟩:=sx;cases e;have wi':zQ i.g (putO fr x.dst v)=true:=by rw [wanted_put (zt ap1 (fun y hy=>by simp [zo.reads,hy]))];exact wi
      have c2:=(ex wi' h2).2;simp only [zO,List.all_eq_true] at c2;have c3:=c2 _ hmem;have hsl:noSlot x.dst x.reads=true:=hx2.resolve_left (by rw [hc];simp);have hb:(Arg.t b).get (putO fr (some d') v)=(Arg.t b).get fr:=by
       rw [hxd] at hsl;exact get_put (zt hsl (fun y hy=>by simp only [zo.reads,hxo,AOp.slots,List.mem_append];exact .inr hy))
      have hg:zQ x.g (putO fr (some d') v)=true:=by
       rw [hxd] at hsl;rw [wanted_put (zt hsl (fun y hy=>by simp [zo.reads,hy]))];exact wx
      have hval:putO fr (some d') v d'=v:=by simp [putO,put]
      simp only [hxd] at c3;rw [hg,hb,hval] at c3;simp only [Bool.not_true,Bool.false_or] at c3
      split at c3
      ·rename_i v2 hv2
       have:=zss c3;subst this;refine ⟨m2,(by rw [hxd] at g2;exact g2),mk wx ?_ (nochk hk)⟩;rw [hxo];simp only [step,zu,hv2,Option.map_some]
      ·cases c3
  |_=>rw [hxo] at hc;simp [zbC] at hc
 ·have hne:zbC i.op≠ .eff:=by rw [hc];simp
  have hk:i.chk=[]:=hi1.resolve_left (by simpa using hne);cases hr:i.res with
  |none=>rw [hr] at hi3;simp [hc] at hi3
  |some j=>
   rw [hr] at si;simp only [Option.map_some] at si;rw [zf6 hne] at si;obtain ⟨blk,rfl,hall⟩:=zst hc si;have hd:=hpend j hr;have ht:x.res.map (base+ ·)≠some (base+j):=by
    intro e;simp only [zcG,hr,Bool.or_eq_true,Option.isNone_iff_eq_none,bne_iff_ne,ne_eq] at hres;rcases hres with h|h
    ·rw [h] at e;cases e
    ·cases hxr:x.res with
     |none=>rw [hxr] at e;cases e
     |some t=>
      rw [hxr] at e h;simp at e h;omega
   obtain ⟨k1,k2⟩:=ztA (blk:=blk) hfr hd ht sx;refine ⟨m.set (base+j) blk,mk wi ?_ (nochk (schk hk)),mk wx k2 (zvU k1 cx)⟩;rw [hio,hir,hr];simp only [Option.map_some];rw [zf6 hne];exact hall m hd
end
end Go.AM
namespace Go.AM
open Go
section
variable {call:zS}{base k:Nat}
theorem ziK {l1 l2:List zo}{fr:Frame}{m:Mem}{r:Frame×Mem}(h:zC call base (l1++l2) fr m=some r):
  ∃s:Frame×Mem,zC call base l1 fr m=some s/\zC call base l2 s.1 s.2=some r:=by
 induction l1 generalizing fr m with
 |nil=>exact ⟨(fr,m),rfl,h⟩
 |cons o l1 ih=>
  simp only [List.cons_append,zC] at h ⊢
  split at h
  ·rename_i f1 m1 h1
   obtain ⟨s,h2,h3⟩:=ih h;exact ⟨s,h2,h3⟩
  ·cases h
end
section
variable {call:zS}{base k:Nat}
theorem zhw {l1 l2:List zo}{fr:Frame}{m:Mem}{s r:Frame×Mem}(h:zC call base l1 fr m=some s) (h':zC call base l2 s.1 s.2=some r):zC call base (l1++l2) fr m=some r:=by
 induction l1 generalizing fr m with
 |nil=>simp only [zC,Option.some.injEq] at h;subst h;exact h'
 |cons o l1 ih=>
  simp only [List.cons_append,zC] at h ⊢
  split at h
  ·rename_i f1 m1 h1
   exact ih h
  ·cases h
end
section
variable {call:zS}{base k:Nat}
theorem zov {o:zo}{fr:Frame}{m:Mem}{s:Frame×Mem}(h:zeL call base o fr m=some s): ∃v,val call base o fr m=some (v,s.2)/\s.1=putO fr o.dst v:=by
 rw [zqP,Option.map_eq_some_iff] at h;obtain ⟨⟨v,m'⟩,h1,rfl⟩:=h;exact ⟨v,h1,rfl⟩
end
section
variable {call:zS}{base k:Nat}
theorem zow {o:zo}{fr:Frame}{m m':Mem}{v:V}(h:val call base o fr m=some (v,m')):zeL call base o fr m=some (putO fr o.dst v,m'):=by
 rw [zqP,h];rfl
end
section
variable {call:zS}{base k:Nat}
theorem zqQ {z i i':zo}{d:Option Nat}(h:zeO z i=true) (hs:noSlot d (zpF z.g++(z.dst.toList++z.op.slots))=true) (hi:i'=strike d i):zeO z i'=true:=by
 subst hi;cases hzo:z.op with
 |load kk a=>
  cases a with
  |c c=>simp [zeO,hzo] at h
  |t a=>
   cases hzd:z.dst with
   |none=>simp [zeO,hzo,hzd] at h
   |some e=>
    simp only [zeO,hzo,hzd,List.any_eq_true] at h ⊢;obtain ⟨c,hc,hh⟩:=h;refine ⟨c,List.mem_filter.2 ⟨hc,?_⟩,hh⟩;obtain ⟨g',d',k',a'⟩:=c;cases a' with
    |c c=>simp at hh
    |t b=>
     simp only [Bool.and_eq_true,beq_iff_eq] at hh;obtain ⟨⟨⟨rfl,rfl⟩,rfl⟩,rfl⟩:=hh;refine zt hs (fun x hx=> ?_);simp only [zb8,List.flatMap_cons,List.flatMap_nil,List.append_nil,List.mem_append,List.mem_cons,Arg.slots,List.not_mem_nil,or_false] at hx;simp only [List.mem_append,hzd,hzo,AOp.slots,Arg.slots,Option.toList_some,List.mem_singleton];rcases hx with hx|hx|hx
     ·exact .inl hx
     ·exact .inr (.inl hx)
     ·exact .inr (.inr hx)
 |_=>simp [zeO,hzo] at h
end
section
variable {call:zS}{base k:Nat}
theorem zn5 {d:Option Nat}{i:zo}(h:zdT k i=true):zdT k (strike d i)=true:=by
 simp only [zdT,Bool.and_eq_true,Bool.or_eq_true] at h ⊢;refine ⟨?_,h.2⟩;rcases h.1 with h1|h1
 ·exact .inl h1
 ·right
  simp only [List.isEmpty_iff] at h1 ⊢;simp [strike,h1]
end
section
variable {call:zS}{base k:Nat}
theorem zkE {α:Type}{pre post p s:List α}{x i:α}(h:pre++post=p++x::s): ∃p' s',pre++i::post=p'++x::s'/\(∀z∈p,z∈p')/\(∀z∈s,z∈s'):=by
 induction pre generalizing p with
 |nil=>exact ⟨i::p,s,by simp at h;simp [h],fun z hz=>by simp [hz],fun z hz=>hz⟩
 |cons a pre ih=>
  cases p with
  |nil=>
   simp only [List.cons_append,List.nil_append,List.cons.injEq] at h;obtain ⟨rfl,rfl⟩:=h;exact ⟨[],pre++i::post,rfl,by simp,fun z hz=>by
    rcases List.mem_append.1 hz with hz|hz
    ·simp [hz]
    ·simp [hz]⟩
  |cons b p=>
   simp only [List.cons_append,List.cons.injEq] at h;obtain ⟨rfl,h⟩:=h;obtain ⟨p',s',h1,h2,h3⟩:=ih h;exact ⟨a::p',s',by simp [h1],fun z hz=>by
    rcases List.mem_cons.1 hz with rfl|hz
    ·simp
    ·simp [h2 z hz],h3⟩
end
section
variable {call:zS}{base k:Nat}
theorem bubble (hfr:zek call): ∀(n:Nat){pre:List zo}{i:zo}{fr:Frame}{m:Mem}{r:Frame×Mem},pre.length=n->zdT k i=true->(∀x∈pre,zdT k x=true/\zms x i=true/\zcG x i=true)->
  (∀p x s,pre=p++x::s-> ∀z∈p,steady z x=true)->(∀j,i.res=some j->m[base+j]? =some .dead)->zC call base (pre++[i]) fr m=some r->
  ∃i',Less i' i/\zC call base (i'::pre) fr m=some r
 |0,pre,i,fr,m,r,hn,_,_,_,_,h=>by
  obtain rfl:=List.eq_nil_of_length_eq_zero hn;exact ⟨i,Less.refl i,h⟩
 |n+1,pre,i,fr,m,r,hn,hi,hx,hst,hpend,h=>by
  obtain ⟨p,x,rfl⟩: ∃p x,pre=p++[x]:=by
   rcases List.eq_nil_or_concat pre with h|⟨p,x,h⟩
   ·subst h;simp at hn
   ·exact ⟨p,x,by simpa using h⟩
  have hpn:p.length=n:=by simpa using hn
  obtain ⟨lx,ix,rx⟩:=hx x (by simp);rw [List.append_assoc] at h;obtain ⟨⟨f1,m1⟩,h1,h2⟩:=ziK h;simp only [List.singleton_append,zC] at h2
  split at h2
  case h_2=>cases h2
  rename_i f2 m2 hrx
  split at h2
  case h_2=>cases h2
  rename_i f3 m3 hri
  cases h2;obtain ⟨v,vx,e1⟩:=zov hrx;obtain ⟨u,vi,e2⟩:=zov hri;simp only at vx e1 vi e2;subst e1;have hpend1: ∀j,i.res=some j->m1[base+j]? =some .dead:=by
   intro j hj;refine (zin (blk:= .dead) hfr (hpend j hj) ?_ h1).1;intro o ho t hto e;have hh:=(hx o (by simp [ho])).2.2;simp only [zcG,hj,hto,Bool.or_eq_true,Option.isNone_some,Bool.false_eq_true,bne_iff_ne,ne_eq,false_or,Option.some.injEq] at hh;omega
  obtain ⟨m1',g1,g2,g3⟩:=swap hfr lx hi ix rx hpend1 vx vi;have e2:f3=putO (putO f1 (strike x.dst i).dst u) x.dst v:=by rw [e2];exact g3
  have g2':zeL call base x (putO f1 (strike x.dst i).dst u) m1'=some (f3,m3):=by rw [e2];exact zow g2
  have h3:zC call base (p++[strike x.dst i]) fr m=some (putO f1 (strike x.dst i).dst u,m1'):=by
   refine zhw h1 ?_;simp only [zC,zow g1]
  have hzz: ∀z∈p,zdT k z=true/\zms z (strike x.dst i)=true/\zcG z (strike x.dst i)=true:=by
   intro z hz;obtain ⟨lz,iz,rz⟩:=hx z (by simp [hz]);refine ⟨lz,?_,rz⟩;have hsz:=hst p x [] rfl z hz;simp only [zms,Bool.and_eq_true,Bool.or_eq_true,zsr] at iz ⊢;obtain ⟨i1,⟨i2,i3,i4⟩,i5⟩:=iz;refine ⟨i1,⟨i2,i3,i4⟩,?_⟩;rcases i5 with i5|i5
   ·exact .inl i5
   ·right
    refine zqQ i5 ?_ rfl;have hzl:zbC z.op= .load:=by
     cases hzo:z.op<;>first|rfl|(simp [zeO,hzo] at i5)
    simp only [steady,hzl,bne_self_eq_false,Bool.false_or] at hsz;refine zt hsz (fun y hy=> ?_);simp only [zo.reads,List.mem_append] at hy ⊢;rcases hy with hy|hy|hy
    ·exact .inl (.inl hy)
    ·exact .inr hy
    ·exact .inl (.inr hy)
  obtain ⟨i',l1,l2⟩:=bubble hfr n (pre:=p) (i:=strike x.dst i) hpn (zn5 hi) hzz (fun p' y s e z hz=>hst p' y (s++[x]) (by rw [e];simp) z hz) (fun j hj=>hpend j hj) h3;refine ⟨i',l1.trans (zld _ _),?_⟩;have:i'::(p++[x])=(i'::p)++[x]:=by simp
  rw [this];refine zhw l2 ?_;simp only [zC,g2']
end
section
variable {call:zS}{base k:Nat}
structure Rest (P:Program) (N:Nat) (ops:Array Oper) (bs:List Nat) (k:Nat) (c:List (Nat×zo)):Prop where
 comp: ∀x∈c,∃o,ops[x.1]? =some o/\zot N o.dst=some x.2.dst/\zmr N ops o.guard=some x.2.g/\zmq P N o=some x.2.op
 lone: ∀x∈c,zdT k x.2=true
 pairs: ∀p x s,c=p++x::s-> ∀z∈p,zmt bs z x=true
 nodup: ∀p x s,c=p++x::s-> ∀z,z∈p\/z∈s->z.1≠x.1
 ahead: ∀p x s,c=p++x::s-> ∀o,ops[x.1]? =some o-> ∀e∈zjK o,(∀z∈x::s,z.1≠e)/\e<ops.size
 closed: ∀j,j<ops.size->(∀z∈c,z.1≠j)-> ∀z∈c,(bs.getD j 0).testBit z.1=false
end
section
variable {call:zS}{base k:Nat}
theorem Rest.less {P:Program}{N:Nat}{ops:Array Oper}{bs:List Nat}{k:Nat}{pre post:List (Nat×zo)}{i:Nat×zo}(h:Rest P N ops bs k (pre++i::post)) (hbit: ∀z∈pre++post,(bs.getD i.1 0).testBit z.1=false):Rest P N ops bs k (pre++post):=by
 have sub: ∀z∈pre++post,z∈pre++i::post:=fun z hz=>by
  rcases List.mem_append.1 hz with hz|hz
  ·simp [hz]
  ·simp [hz]
 refine ⟨fun x hx=>h.comp x (sub x hx),fun x hx=>h.lone x (sub x hx),fun p x s e z hz=> ?_,fun p x s e z hz=> ?_,fun p x s e o ho e' he=> ?_,fun j hj hz z hzm=> ?_⟩
 ·obtain ⟨p',s',h1,h2,h3⟩:=zkE (i:=i) e
  exact h.pairs p' x s' h1 z (h2 z hz)
 ·obtain ⟨p',s',h1,h2,h3⟩:=zkE (i:=i) e
  exact h.nodup p' x s' h1 z (hz.imp (h2 z) (h3 z))
 ·obtain ⟨p',s',h1,h2,h3⟩:=zkE (i:=i) e
  obtain ⟨a1,a2⟩:=h.ahead p' x s' h1 o ho e' he;refine ⟨fun z hz=>a1 z ?_,a2⟩;rcases List.mem_cons.1 hz with rfl|hz
  ·simp
  ·simp [h3 z hz]
 ·by_cases e:i.1=j
  ·subst e;exact hbit z hzm
  ·refine h.closed j hj (fun y hy=> ?_) z (sub z hzm)
   rcases List.mem_append.1 hy with hy|hy
   ·exact hz y (by simp [hy])
   ·rcases List.mem_cons.1 hy with rfl|hy
    ·exact e
    ·exact hz y (by simp [hy])
end
variable [HasLay]
section
variable {call:zS}{base k:Nat}
end
theorem zkF {P:Program}{N:Nat}{ops:Array Oper}{bs:List Nat}{call:zS}(hcall:za8 P call) (hfr:zek call) (hbits:bitsOk ops.toList bs=true){base k:Nat}{Q:Exit->Act->World->Prop}{fr':Frame}{m':Mem}:
  ∀(n:Nat){c:List (Nat×zo)}{listed:Array Bool}{φ:Phi}{fr:Frame}{m:Mem}{A:Act}{w:World},c.length=n->Rest P N ops bs k c->listed.size=ops.size->(∀j,j<ops.size->(listed.getD j true=false↔ ∃x∈c,x.1=j))->
  (∀x∈c,∀t,x.2.res=some t->m[base+t]? =some .dead/\φ (base+t)=none)->zC call base (c.map (·.2)) fr m=some (fr',m')->St φ m w->RF φ N fr A->
  (∀φ' A' w',zgH (base<= ·) φ m w φ' m' w'->RF φ' N fr' A'->Q .normal A' w')->wpAny P .any ops Q n listed A w
 |0,c,listed,φ,fr,m,A,w,hn,hR,hsz,hl,hpend,hrun,hst,hA,hQ=>by
  obtain rfl:=List.eq_nil_of_length_eq_zero hn;simp only [List.map_nil,zC,Option.some.injEq,Prod.mk.injEq] at hrun;obtain ⟨rfl,rfl⟩:=hrun;refine ⟨?_,hQ φ A w ((Stp.refl hst).weaken (fun _ h=>h.elim)) hA⟩;simp only [Region.ready,List.filter_eq_nil_iff,List.mem_range,Bool.and_eq_true,Bool.not_eq_true',not_and];intro j hj hf;obtain ⟨x,hx,_⟩:=(hl j hj).1 hf;simp at hx
 |n+1,c,listed,φ,fr,m,A,w,hn,hR,hsz,hl,hpend,hrun,hst,hA,hQ=>by
  have getD_eq: ∀j,j<ops.size->listed.getD j false=listed.getD j true:=by
   intro j hj;have:j<listed.size:=by omega
   simp [Array.getD,this]
  refine ⟨fun hnil=> ?_,fun i hi=> ?_⟩
  ·cases c with
   |nil=>simp at hn
   |cons y c=>
    exfalso;obtain ⟨o,ho,_⟩:=hR.comp y (by simp);have hy:y.1<ops.size:=(Array.getElem?_eq_some_iff.1 ho).1;have hmem:y.1∈Region.ready .any ops listed:=by
     simp only [Region.ready,List.mem_filter,List.mem_range,Bool.and_eq_true,Bool.not_eq_true'];refine ⟨hy,(hl y.1 hy).2 ⟨y,by simp,rfl⟩,?_⟩;rw [ho];simp only [Option.map_some,Option.getD_some,Array.all_eq_true'];intro e he;cases hb:Region.binds .any e with
     |false=>rfl
     |true=>
      have hedge:e.on∈zjK o:=by
       simp only [zjK,List.mem_map,List.mem_filter];exact ⟨e,⟨by simpa using he,hb⟩,rfl⟩
      obtain ⟨h1,h2⟩:=hR.ahead [] y c rfl o ho e.on hedge;simp only [Bool.not_true,Bool.false_or];rw [getD_eq _ h2];cases hv:listed.getD e.on true with
      |true=>rfl
      |false=>
       obtain ⟨x,hx,hxe⟩:=(hl e.on h2).1 hv;exact absurd hxe (h1 x hx)
    rw [hnil] at hmem;simp at hmem
  ·simp only [Region.ready,List.mem_filter,List.mem_range,Bool.and_eq_true,Bool.not_eq_true'] at hi
   obtain ⟨hilt,hiun,hiedge⟩:=hi;obtain ⟨x,hx,rfl⟩:=(hl i hilt).1 hiun;obtain ⟨pre,post,rfl⟩:=List.append_of_mem hx;obtain ⟨o,ho,c1,c2,c3⟩:=hR.comp x (by simp);rw [ho] at hiedge;simp only [Option.map_some,Option.getD_some,Array.all_eq_true'] at hiedge;have hedge: ∀e∈zjK o,(∀z∈pre++x::post,z.1≠e)/\e<ops.size:=by
    intro e he;have he':=he;simp only [zjK,List.mem_map,List.mem_filter] at he;obtain ⟨ed,⟨hm,hb⟩,rfl⟩:=he;have hlt:=(hR.ahead pre x post rfl o ho ed.on he').2;have:=hiedge ed (by simpa using hm);rw [hb] at this;simp only [Bool.not_true,Bool.false_or] at this;rw [getD_eq _ hlt] at this;refine ⟨fun z hz e=> ?_,hlt⟩;have:=(hl ed.on hlt).2 ⟨z,hz,e⟩
    simp_all
   have hbit: ∀z∈pre++x::post,(bs.getD x.1 0).testBit z.1=false:=by
    intro z hz;cases hv:(bs.getD x.1 0).testBit z.1 with
    |false=>rfl
    |true=>
     exfalso;obtain ⟨oz,hoz,_⟩:=hR.comp z hz;have hzlt:z.1<ops.size:=(Array.getElem?_eq_some_iff.1 hoz).1;simp only [bitsOk,List.all_eq_true] at hbits;have hin:(o,x.1)∈ops.toList.zipIdx:=by
      rw [List.mem_zipIdx_iff_getElem?]
      simpa using ho
     have:=hbits (o,x.1) hin z.1 (by simpa using hzlt);rw [hv] at this;simp only [Bool.not_true,Bool.false_or,List.any_eq_true,Bool.or_eq_true,beq_iff_eq] at this;obtain ⟨e,he,h⟩:=this;obtain ⟨h1,h2⟩:=hedge e he;rcases h with h|h
     ·exact h1 z hz h.symm
     ·have:=hR.closed e h2 h1 z hz
      rw [h] at this;cases this
   have hind: ∀z∈pre,zdT k z.2=true/\zms z.2 x.2=true/\zcG z.2 x.2=true:=by
    intro z hz;have hp:=hR.pairs pre x post rfl z hz;simp only [zmt,Bool.and_eq_true,Bool.or_eq_true] at hp;obtain ⟨h1,_,h3⟩:=hp;refine ⟨hR.lone z (by simp [hz]),?_,h3⟩;rcases h1 with h1|h1
    ·rw [hbit z (by simp [hz])] at h1;cases h1
    ·exact h1
   have hmap:(pre++x::post).map (·.2)=(pre.map (·.2)++[x.2])++post.map (·.2):=by simp
   rw [hmap] at hrun;obtain ⟨⟨fa,ma⟩,hr1,hr2⟩:=ziK hrun;obtain ⟨x',hless,hr3⟩:=bubble (k:=k) hfr pre.length (pre:=pre.map (·.2)) (i:=x.2) (by simp) (hR.lone x (by simp)) (fun z hz=>by
     obtain ⟨z',hz',rfl⟩:=List.mem_map.1 hz;exact hind z' hz') (fun p y s e z hz=>by
     obtain ⟨p',ys,e1,e2,e3⟩:=List.map_eq_append_iff.1 e;cases ys with
     |nil=>simp at e3
     |cons y' s'=>
      simp only [List.map_cons,List.cons.injEq] at e3;obtain ⟨rfl,rfl⟩:=e3;subst e2;obtain ⟨z',hz',rfl⟩:=List.mem_map.1 hz;have hp:=hR.pairs p' y' (s'++x::post) (by rw [e1];simp) z' hz';simp only [zmt,Bool.and_eq_true] at hp;exact hp.2.1) (fun j hj=>(hpend x (by simp) j hj).1) hr1
   simp only [zC] at hr3
   split at hr3
   case h_2=>cases hr3
   rename_i f1 m1 hrx
   have hrest:zC call base ((pre++post).map (·.2)) f1 m1=some (fr',m'):=by
    rw [List.map_append];exact zhw hr3 hr2
   obtain ⟨hd,hdl⟩:=zrg c1;have hR':Rest P N ops bs k (pre++post):=hR.less (fun z hz=>hbit z (by
    rcases List.mem_append.1 hz with hz|hz
    ·simp [hz]
    ·simp [hz]))
   have hlen':(pre++post).length=n:=by simp at hn ⊢; omega
   have hne: ∀z∈pre++post,z.1≠x.1:=fun z hz=>hR.nodup pre x post rfl z (List.mem_append.1 hz)
   have hl': ∀j,j<ops.size->((listed.setIfInBounds x.1 true).getD j true=false↔ ∃y∈pre++post,y.1=j):=by
    intro j hj
    by_cases e:j=x.1
    ·subst e
     constructor
     ·intro h
      have:x.1<listed.size:=by omega
      simp [Array.getD,this] at h
     ·rintro ⟨y,hy,e⟩
      exact absurd e (hne y hy)
    ·have h1:(listed.setIfInBounds x.1 true).getD j true=listed.getD j true:=by
      simp [Array.getD_eq_getD_getElem?,Array.getElem?_setIfInBounds_ne (Ne.symm e)]
     rw [h1,hl j hj];constructor
     ·rintro ⟨y,hy,rfl⟩
      rcases List.mem_append.1 hy with hy|hy
      ·exact ⟨y,by simp [hy],rfl⟩
      ·rcases List.mem_cons.1 hy with rfl|hy
       ·exact absurd rfl e
       ·exact ⟨y,by simp [hy],rfl⟩
     ·rintro ⟨y,hy,rfl⟩
      rcases List.mem_append.1 hy with hy|hy
      ·exact ⟨y,by simp [hy],rfl⟩
      ·exact ⟨y,by simp [hy],rfl⟩
   have hres: ∀y∈pre++post,∀t,y.2.res=some t-> ∀j,x.2.res=some j->j≠t:=by
    intro y hy t ht j hj e;subst e;have h3:zcG y.2 x.2=true\/zcG x.2 y.2=true:=by
     rcases List.mem_append.1 hy with hy|hy
     ·left
      have hp:=hR.pairs pre x post rfl y hy;simp only [zmt,Bool.and_eq_true] at hp;exact hp.2.2
     ·right
      obtain ⟨s1,s2,rfl⟩:=List.append_of_mem hy;have hp:=hR.pairs (pre++x::s1) y s2 (by simp) x (by simp);simp only [zmt,Bool.and_eq_true] at hp;exact hp.2.2
    simp [zcG,ht,hj] at h3
   have hpend': ∀{φ1:Phi},(∀b,b<m.length->¬ (x'.res.map (base+ ·)=some b)->φ b=none->φ1 b=none)-> ∀y∈pre++post,∀t,y.2.res=some t->m1[base+t]? =some .dead/\φ1 (base+t)=none:=by
    intro φ1 hold y hy t ht;obtain ⟨h1,h2⟩:=hpend y (by
     rcases List.mem_append.1 hy with hy|hy
     ·simp [hy]
     ·simp [hy]) t ht
    have hnt: ∀j,x'.res=some j->base+j≠base+t:=by
     intro j hj;have:=hres y hy t ht j (by rw [<-hless.res];exact hj);omega
    refine ⟨(ztB (blk:= .dead) hfr h1 hnt hrx).1,hold _ (List.getElem?_eq_some_iff.1 h1).1 ?_ h2⟩;intro e;cases hr:x'.res with
    |none=>rw [hr] at e;cases e
    |some j=>rw [hr] at e;simp at e;exact hnt j hr (by rw [e])
   unfold wpOp;rw [ho];simp only;unfold zeL at hrx;rw [zj5 c2 hA,<-hless.g]
   split at hrx
   ·rename_i hw
    rw [if_pos hw];left
    split at hrx
    case h_2=>cases hrx
    rename_i v m2 hs
    split at hrx
    case isFalse=>cases hrx
    cases hrx;rw [hless.op] at hs;refine zmX hcall c3 hst hA (tgt:=x'.res.map (base+ ·)) (fun b hb=> ?_) hs ?_
    ·rw [hless.res] at hb
     cases hr:x.2.res with
     |none=>rw [hr] at hb;cases hb
     |some t=>
      rw [hr] at hb;simp at hb;rw [<-hb];exact (hpend x (by simp) t hr).2
    ·intro φ1 w1 cv hstp hv
     rw [hless.dst,hd] at hrest;exact zkF hcall hfr hbits n hlen' hR' (by simpa using hsz) hl' (hpend' hstp.old) hrest hstp.st ((hA.ext hstp.ext).putO hdl hv) (fun φ' A' w' h1 h2=>hQ φ' A' w' ((hstp.weaken (fun b hb=>by
      cases hr:x'.res with
      |none=>rw [hr] at hb;cases hb
      |some t=>rw [hr] at hb;simp at hb;omega)).trans h1) h2)
   ·rename_i hw
    rw [if_neg hw];cases hrx;rw [hless.dst,hd] at hrest;exact zkF hcall hfr hbits n hlen' hR' (by simpa using hsz) hl' (hpend' (fun b _ _ h=>h)) hrest hst (hA.undef hdl) hQ
end Go.AM
namespace Go.AM
open Go
theorem zmv {aops:List zo}{bs:List Nat}: ∀{order prev:List Nat}{k:Nat}{x:Nat×zo},x∈layOut aops bs prev k order-> ∃o,aops[x.1]? =some o/\x.2.dst=o.dst/\x.2.g=o.g/\x.2.op=o.op
 | [],_,_,x,h=>by simp [layOut] at h
 |y::r,prev,k,x,h=>by
  simp only [layOut] at h
  split at h
  case h_2=>simp at h
  rename_i o ho
  split at h
  all_goals
   rcases List.mem_cons.1 h with rfl|h
   ·exact ⟨o,ho,rfl,rfl,rfl⟩
   ·exact zmv h
theorem zqR {α β:Type}{f:α->Option β}: ∀{l:List α}{r:List β},l.mapM f=some r-> ∀{i:Nat}{y:β},r[i]? =some y-> ∃x,l[i]? =some x/\f x=some y
 | [],r,h,i,y,hy=>by simp at h;subst h;simp at hy
 |a::l,r,h,i,y,hy=>by
  simp only [List.mapM_cons,Option.bind_eq_bind,Option.bind_eq_some_iff,Option.pure_def,Option.some.injEq] at h;obtain ⟨b,hb,r',hr,rfl⟩:=h;cases i with
  |zero=>simp at hy;subst hy;exact ⟨a,rfl,hb⟩
  |succ i=>simpa using zqR hr (i:=i) (by simpa using hy)
theorem zjN {bs:List Nat}: ∀{l:List (Nat×zo)},zpG bs l=true-> ∀p x s,l=p++x::s-> ∀z∈p,zmt bs z x=true
 | [],_,p,x,s,e,z,hz=>by simp at e
 |a::l,h,p,x,s,e,z,hz=>by
  simp only [zpG,Bool.and_eq_true,List.all_eq_true] at h;cases p with
  |nil=>simp at hz
  |cons b p=>
   simp only [List.cons_append,List.cons.injEq] at e;obtain ⟨rfl,e⟩:=e;rcases List.mem_cons.1 hz with rfl|hz
   ·exact h.1 x (by rw [e];simp)
   ·exact zjN h.2 p x s e z hz
theorem zeC: ∀{l:List Nat},zpH l=true-> ∀p x s,l=p++x::s-> ∀z,z∈p\/z∈s->z≠x
 | [],_,p,x,s,e,z,hz=>by simp at e
 |a::l,h,p,x,s,e,z,hz=>by
  simp only [zpH,Bool.and_eq_true,Bool.not_eq_true',List.contains_eq_mem,decide_eq_false_iff_not] at h;cases p with
  |nil=>
   simp only [List.nil_append,List.cons.injEq] at e;obtain ⟨rfl,rfl⟩:=e;rcases hz with hz|hz
   ·simp at hz
   ·intro e;subst e;exact h.1 hz
  |cons b p=>
   simp only [List.cons_append,List.cons.injEq] at e;obtain ⟨rfl,e⟩:=e;rcases hz with hz|hz
   ·rcases List.mem_cons.1 hz with rfl|hz
    ·intro e';exact h.1 (by rw [e,e'];simp)
    ·exact zeC h.2 p x s e z (.inl hz)
   ·exact zeC h.2 p x s e z (.inr hz)
theorem ziL {ops:Array Oper}: ∀{l prev:List Nat},zl6 ops prev l=true-> ∀p x s,l=p++x::s-> ∀o,ops[x]? =some o-> ∀e∈zjK o,e∈prev++p
 | [],prev,_,p,x,s,e,o,ho,i,hi=>by simp at e
 |a::l,prev,h,p,x,s,e,o,ho,i,hi=>by
  simp only [zl6,Bool.and_eq_true] at h;cases p with
  |nil=>
   simp only [List.nil_append,List.cons.injEq] at e;obtain ⟨rfl,rfl⟩:=e;have h1:=h.1;rw [ho] at h1;simp only [List.all_eq_true] at h1
   simpa using h1 i hi
  |cons b p=>
   simp only [List.cons_append,List.cons.injEq] at e;obtain ⟨rfl,e⟩:=e;have:=ziL h.2 p x s e o ho i hi;simp only [List.append_assoc,List.mem_append,List.mem_cons,List.not_mem_nil,or_false] at this ⊢;rcases this with h|h|h
   ·exact .inl h
   ·exact .inr (.inl h)
   ·exact .inr (.inr h)
variable [HasLay]
theorem zyl {P:Program}{call:zS}(hm:P.follows .mixedOrders=true) (hcall:za8 P call) (hfr:zek call):zsH P call:=by
 intro N id ops k al hc φ fr m A w fr' m' Q hrun hst hA hQ;unfold zmu at hc;simp only [Option.bind_eq_bind,Option.bind_eq_some_iff,Option.pure_def] at hc;obtain ⟨aops,haops,hc⟩:=hc
 generalize hbs:before ops=bs at hc
 generalize hord:canon bs (aops.map fun o=>zbC o.op) ops.size=order at hc
 generalize hl:layOut aops bs [] 0 order=l at hc
 split at hc
 case isFalse=>cases hc
 rename_i hchk
 simp only [Bool.and_eq_true,List.all_eq_true,List.mem_range,decide_eq_true_eq,beq_iff_eq] at hchk;obtain ⟨⟨⟨hlen,hcov⟩,hnod⟩,⟨hlt,hfst⟩,⟨hah,hbo⟩,⟨hpa,hlo⟩,_⟩:=hchk;simp only [Option.some.injEq,Prod.mk.injEq] at hc;obtain ⟨hk,rfl⟩:=hc;rw [hk] at hlo;have hsplit: ∀{p:List (Nat×zo)} {x s},l=p++x::s->order=p.map (·.1)++x.1::s.map (·.1):=fun e=>by rw [<-hfst,e];simp
 have hcov': ∀j,j<ops.size-> ∃x∈l,x.1=j:=fun j hj=>by
  have:=hcov j hj;rw [<-hfst] at this
  simpa using this
 refine wp_region_any hm ?_;have h1:=Stp.keep hst k;have h2:Stp φ (m++List.replicate k .dead) w φ (m++List.replicate k .dead) { w with drawn:=w.drawn+1 }:=Stp.same h1.st rfl rfl rfl rfl;refine zkF (base:=m.length) (k:=k) (ops:=ops) (bs:=bs) (N:=N) hcall hfr hbo ops.size (c:=l) hlen ?_ (by simp) ?_ ?_ hrun h2.st hA ?_
 ·skip
  refine ⟨fun x hx=> ?_,fun x hx=>hlo x hx,zjN hpa,fun p x s e z hz=> ?_,fun p x s e o ho e' he=> ?_,fun j hj hn=> ?_⟩
  ·rw [<-hl] at hx
   obtain ⟨o,g1,g2,g3,g4⟩:=zmv hx;obtain ⟨o',g5,g6⟩:=zqR haops g1;simp only [zeN,Option.bind_eq_bind,Option.bind_eq_some_iff,Option.pure_def,Option.some.injEq] at g6;obtain ⟨d,e1,g,e2,op,e3,rfl⟩:=g6;exact ⟨o',by simpa using g5,by rw [g2];exact e1,by rw [g3];exact e2,by rw [g4];exact e3⟩
  ·refine zeC hnod _ _ _ (hsplit e) z.1 ?_
   rcases hz with hz|hz
   ·exact .inl (List.mem_map.2 ⟨z,hz,rfl⟩)
   ·exact .inr (List.mem_map.2 ⟨z,hz,rfl⟩)
  ·have hin:=ziL hah _ _ _ (hsplit e) o ho e' he
   simp only [List.nil_append,List.mem_map] at hin;obtain ⟨y,hy,rfl⟩:=hin;refine ⟨fun z hz=> ?_,?_⟩
   ·obtain ⟨p1,p2,rfl⟩:=List.append_of_mem hy
    intro hzy;refine zeC hnod (p1.map (·.1)) y.1 (p2.map (·.1)++x.1::s.map (·.1)) (by rw [hsplit e];simp) z.1 (.inr ?_) hzy;rcases List.mem_cons.1 hz with rfl|hz
    ·simp
    ·simp only [List.mem_append,List.mem_cons,List.mem_map]
     exact .inr (.inr ⟨z,hz,rfl⟩)
   ·refine hlt y.1 ?_
    rw [hsplit e];simp only [List.mem_append,List.mem_map];exact .inl ⟨y,hy,rfl⟩
  ·obtain ⟨x,hx,e⟩:=hcov' j hj
   exact absurd e (hn x hx)
 ·intro j hj
  constructor
  ·exact fun _=>hcov' j hj
  ·intro _
   simp [Array.getD,hj]
 ·intro x hx t ht
  have:=hlo x hx;simp only [zdT,ht,Bool.and_eq_true,decide_eq_true_eq] at this;have htk:=this.2.2.1;refine ⟨?_,hst.fresh _ (by omega)⟩;rw [List.getElem?_append_right (by omega)];simp [List.getElem?_replicate,htk]
 ·intro φ' A' w' h3 h4
  have h5:zgH (m.length<= ·) φ m w φ' m' w':=(zgH.weaken (fun _ h=>h.elim) (h1.trans h2)).trans h3;exact hQ φ' A' w' { h5 with old:=fun b hb _=>h5.old b hb (by omega) } h4
theorem zqS {P:Program}{F:Nat->Option ze}{X:Told}(hm:P.follows .mixedOrders=true) (hF:ziu P F) (hX:zp4 P X) (hR:zmx X): ∀n,za8 P (callN F X n):=
 zll hF hX (fun n h=>zyl hm h (zmy hF hR n))
end Go.AM
