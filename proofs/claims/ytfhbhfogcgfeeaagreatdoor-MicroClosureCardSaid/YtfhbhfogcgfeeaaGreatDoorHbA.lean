import Derived.RangeFuncNested
import Derived.RangeFuncLeaves
import Derived.Shelf.Abstract
import Derived.WalkKit
import Derived.OwnWalkIn
import Derived.TacticsInMore
import Derived.LoopNIn
import Derived.LoopIn
import Derived.Test.YtfhbhfogcgfeeaaGreatDoorProg
set_option linter.unusedVariables false
set_option linter.unusedSimpArgs false
set_option maxRecDepth 100000
namespace Go.Proofs
open Go.RowKit Go.Shelf
attribute [local go_sem] Oper.semAt_some
structure Row where
 c0:Int
 c1:Int
 addr:Int
 c3:Int
 c4:Int
 cur:Bool
def Row.cs (r:Row):List Value:=[.int .i64 r.c0,.int .i64 r.c1,.int .u64 r.addr,.int .i64 r.c3,.int .u64 r.c4,.bool r.cur]
def zae:List Row->List Row
 | []=>[]
 |r::l=>if r.cur=true then r::zae l else zae l
set_option maxHeartbeats 1000000 in
theorem zri (F:Fence) (n:Nat) (h5:F.fn 94) (hro:F.round=none) (p0:Option Addr) (w:World):
  CallsIn F n Tryz.prog 94 #[.pointer p0] w fun e w'=>e= .returned (.func (.func 148) #[] #[.pointer (some ⟨w.heap.size,0,none⟩)])/\w'=w.alloc (.cells #[.pointer p0] 145):=by
 refine callsIn_of_wp Tryz.func94 rfl h5 ?_ hro;simp only [Tryz.ntmps94,List.size_toArray,List.length_cons,List.length_nil,Nat.reduceAdd,Nat.reduceSub,Array.replicate_succ,Array.replicate_zero,List.push_toArray,List.append_toArray,List.nil_append,List.cons_append]
 gi_wp2
 go_ret
 exact ⟨rfl,rfl⟩
def zhN (W:World) (b o:Nat) (L:List Row):Prop:= ∀i r,L[i]? =some r-> ∀j u,r.cs[j]? =some u->W.cell? ⟨b,o+i*6+j,none⟩=some u
theorem zhN.below {n₀:Nat}{A B:World}(h:Below n₀ A B){b o:Nat}{L:List Row}(hb:b<n₀) (hr:zhN A b o L):zhN B b o L:=fun i r hi j u hj=>(h.cell (p:=⟨b,o+i*6+j,none⟩) hb).trans (hr i r hi j u hj)
theorem zkb (r:Row): ∀L:List Row,zae (L++[r])=if r.cur=true then zae L++[r] else zae L
 | []=>by simp [zae]
 |x::L=>by
  simp only [List.cons_append,zae,zkb r L]
  split<;>split<;>rfl
theorem zm0: ∀L:List Row,(zae L).length<=L.length
 | []=>Nat.le_refl _
 |x::L=>by
  have:=zm0 L;simp only [zae]
  split<;>simp<;>omega
theorem zhO: ∀{L M:List Row},L <+: M->zae L <+: zae M
 | [],_,_=>List.nil_prefix
 |x::L,[],h=>by simp at h
 |x::L,y::M,h=>by
  rw [List.cons_prefix_cons] at h;obtain ⟨rfl,h⟩:=h;simp only [zae]
  split
  ·exact List.cons_prefix_cons.2 ⟨rfl,zhO h⟩
  ·exact zhO h
theorem zu1 {L:List Row}{i:Nat}{r:Row}(h:L[i]? =some r):L.take (i+1)=L.take i++[r]:=by
 rw [List.take_add_one,h];rfl
def leftOf (n:Nat):Value->Nat
 | .int _ k=>((n:Int)-k).toNat
 |_=>0
set_option maxHeartbeats 1000000 in
theorem zxG (F:Fence) (n:Nat) (h6:F.fn 148) (hro:F.round=none) (hn:1<=n) (l Bn n₀ pb po rb ro cap:Nat) (adr:Option Addr) (L:List Row) (J Jx:List Row->World->Prop)
  (hY: ∀pre x W,J pre W->pre.length<L.length->YieldAt F (n-1) Tryz.prog l #[.agg x.cs.toArray] W fun e W'=>
   (e= .returned (.bool true)/\J (pre++[x]) W'/\Below n₀ W W')\/(e= .returned (.bool false)/\Jx (pre++[x]) W'))
  (W:World) (hBn:W.cell? ⟨Bn,0,none⟩=some (.pointer (some ⟨pb,po,none⟩))) (hov:W.cell? ⟨pb,po+4,none⟩=some (.slice adr L.length cap)) (ha:0<L.length->adr=some ⟨rb,ro,none⟩) (hL:zhN W rb ro L) (hlt:L.length<1000000) (hrb:rb<n₀) (hn₀:n₀<=W.heap.size) (h0:J [] W) (hJ:AbidesFrom W.heap.size J):
  CallsIn F n Tryz.prog 148 #[.func (.yield l) #[] #[],.pointer (some ⟨Bn,0,none⟩)] W fun e W'=>(∃v,e= .returned v)/\
   ((∃ys,ys=zae L/\J ys W')\/(∃pre,pre <+: zae L/\Jx pre W')):=by
 refine callsIn_of_wp Tryz.func148 rfl h6 ?_ hro;simp only [Tryz.ntmps148,List.size_toArray,List.length_cons,List.length_nil,Nat.reduceAdd,Nat.reduceSub,Array.replicate_succ,Array.replicate_zero,List.push_toArray,List.append_toArray,List.nil_append,List.cons_append]
 gi_wp2
 gi_loopw [10] (fun p wr=> ∃i:Nat,p= .int .i64 (i:Int)/\i<=L.length/\J (zae (L.take i)) wr/\Below n₀ W wr)
  (fun p _=>leftOf L.length p)
 case atStart=>
  exact ⟨0,rfl,Nat.zero_le _,h0,Below.refl _ _⟩
 case round=>
  obtain ⟨i,rfl,hi,hJi,hB⟩:=hrel
  by_cases hlast:i=L.length
  ·subst hlast
   gi_wp2
   go_end0
   rw [List.take_length] at hJi;exact ⟨⟨_,rfl⟩,.inl ⟨_,rfl,hJi⟩⟩
  ·have hil:i<L.length:=by omega
   obtain rfl:=ha (by omega);obtain ⟨r,hr⟩: ∃r,L[i]? =some r:=⟨_,List.getElem?_eq_getElem hil⟩
   have hrow:=(hL.below hB hrb) i r hr;have hsn:=zkb r (L.take i);rw [<-zu1 hr] at hsn;have hle:(zae (L.take i)).length<L.length:=by have:=zm0 (L.take i);rw [List.length_take] at this;omega
   obtain ⟨x0,x1,x2,x3,x4,cur⟩:=r;have r0:wr.cell? ⟨rb,ro+i*6,none⟩=some (.int .i64 x0):=hrow 0 _ rfl;have r1:wr.cell? ⟨rb,ro+i*6+1,none⟩=some (.int .i64 x1):=hrow 1 _ rfl;have r2:wr.cell? ⟨rb,ro+i*6+2,none⟩=some (.int .u64 x2):=hrow 2 _ rfl;have r3:wr.cell? ⟨rb,ro+i*6+3,none⟩=some (.int .i64 x3):=hrow 3 _ rfl;have r4:wr.cell? ⟨rb,ro+i*6+4,none⟩=some (.int .u64 x4):=hrow 4 _ rfl;have r5:wr.cell? ⟨rb,ro+i*6+5,none⟩=some (.bool cur):=hrow 5 _ rfl;have c1:((i:Int)<(L.length:Int))=True:=eq_true (by omega);have hJ2:J (zae (L.take i)) (wr.alloc (.cells #[.int .i64 x0,.int .i64 x1,.int .u64 x2,.int .i64 x3,.int .u64 x4,.bool cur] 152)):=hJ _ wr _ none hJi (World.grownBy_alloc wr _ none) (fun r e=>by cases e);have hB2:Below n₀ W (wr.alloc (.cells #[.int .i64 x0,.int .i64 x1,.int .u64 x2,.int .i64 x3,.int .u64 x4,.bool cur] 152)):=hB.alloc (Nat.le_trans hn₀ hB.size) _;cases cur with
   |false=>
    simp only [Bool.false_eq_true,if_false] at hsn
    gi_wp2
    refine ⟨fun f h=>(by cases h),?_⟩
    gi_wp2
    go_roundw
    case rel=>exact ⟨i+1,rfl,by omega,by rw [hsn];exact hJ2,hB2⟩
    case measure=>simp only [leftOf];omega
   |true=>
    obtain ⟨fn,tmps,assign,body,hy,hR⟩:=hY _ ⟨x0,x1,x2,x3,x4,true⟩ _ hJ2 hle;have hy:(Instr.yield l #[Value.agg #[.int .i64 x0,.int .i64 x1,.int .u64 x2,.int .i64 x3,.int .u64 x4,.bool true]]).run Tryz.prog (wr.alloc (.cells #[.int .i64 x0,.int .i64 x1,.int .u64 x2,.int .i64 x3,.int .u64 x4,.bool true] 152))=_:=hy;simp only [if_true] at hsn
    gi_wp2
    refine hR.mono ?_;rintro e W3 (⟨rfl,hJ3,hk3⟩|⟨rfl,hJx3⟩)
    ·gi_wp2
     go_roundw
     case rel=>exact ⟨i+1,rfl,by omega,by rw [hsn];exact hJ3,hB2.trans hk3⟩
     case measure=>simp only [leftOf];omega
    ·gi_wp2
     refine bodyPost_ret (results_none rfl _ _ _) rfl ?_;exact ⟨⟨_,rfl⟩,.inr ⟨_,by rw [<-hsn];exact zhO (List.take_prefix _ _),hJx3⟩⟩
attribute [local go_sem] Oper.semAt_some
def ziT (L:List Row):List Value:=L.map fun r=> .int .u64 r.addr
theorem zsM (F:Fence) (n:Nat) (h6:F.fn 148) (hro:F.round=none) (hn:1<=n) (Bn n₀ pb po rb ro cap:Nat) (adr:Option Addr) (L:List Row) (w:World) (hBn:Bn<w.heap.size) (hc:w.cell? ⟨Bn,0,none⟩=some (.pointer (some ⟨pb,po,none⟩))) (hpb:pb<w.heap.size)
  (hov:w.cell? ⟨pb,po+4,none⟩=some (.slice adr L.length cap)) (ha:0<L.length->adr=some ⟨rb,ro,none⟩) (hL:zhN w rb ro L) (hlt:L.length<1000000) (hrb:rb<n₀) (hn₀:n₀<=w.heap.size):
  SeqStopsK F n Tryz.prog 148 #[.pointer (some ⟨Bn,0,none⟩)] (fun x:Row=> #[Value.agg x.cs.toArray]) (Below n₀) (fun ys=>ys=zae L) (fun pre=>pre <+: zae L) L.length w:=fun l J Jx W hW hJ _ hY h0=>
 zxG F n h6 hro hn l Bn n₀ pb po rb ro cap adr L J Jx hY W ((hW.cell (p:=⟨Bn,0,none⟩) hBn).trans hc) ((hW.cell (p:=⟨pb,po+4,none⟩) hpb).trans hov) ha (hL.below hW (by omega)) hlt hrb (Nat.le_trans hn₀ hW.size) h0 hJ
theorem zxH (w:World) (x:Value) (t:TypeId): ∀j u,[x][j]? =some u->(w.alloc (.cells #[x] t)).cell? ((⟨w.heap.size,0,none⟩:Addr).add j)=some u:=by
 intro j u h
 match j,h with
 |0,h=>cases h;simp [Addr.add]
theorem zwz (w:World) (c:Array Value) (t:TypeId){j:Nat}{v:Value}(h:c[j]? =some v):(w.alloc (.cells c t)).cell? ⟨w.heap.size,j,none⟩=some v:=by
 unfold World.cell?;have:=World.alloc_heap_new w (.cells c t);rw [this];exact h
set_option maxHeartbeats 4000000 in
theorem zsN (F:Fence) (n:Nat) (h11:F.fn 36) (h35:F.fn 93) (h36:F.fn 94) (h68:F.fn 148) (hro:F.round=none) (hn:6<=n) (c0 c1 c2 c3:Value) (w:World) (o0:c0.oneCell'=true) (o1:c1.oneCell'=true) (o2:c2.oneCell'=true) (o3:c3.oneCell'=true) (Q:Ending->World->Prop)
  (hopen:CallsIn F (n-1) Tryz.prog 93 #[.agg #[c0,c1,c2,c3]] (w.alloc (.cells #[c0,c1,c2,c3] 31)) fun e w1=>(∃k:Int,e= .returned (.tuple #[.pointer none,.int .i64 k])/\k≠0/\Q (.returned (.tuple #[.slice none 0 0,.int .i64 k])) w1)\/
   (∃(pb po rb ro cap:Nat) (adr:Option Addr) (L:List Row),e= .returned (.tuple #[.pointer (some ⟨pb,po,none⟩),.int .i64 0])/\w1.cell? ⟨pb,po+4,none⟩=some (.slice adr L.length cap)/\(0<L.length->adr=some ⟨rb,ro,none⟩)/\zhN w1 rb ro L/\L.length<1000000/\rb<w1.heap.size/\pb<w1.heap.size/\
    ∀v W',W'.ownsRow w1.heap.size 60 1 v (zae L).length (ziT (zae L))->(zae L=[]->v= .slice none 0 0)->Below w1.heap.size w1 W'->Q (.returned (.tuple #[v,.int .i64 0])) W')):
  CallsIn F n Tryz.prog 36 #[.agg #[c0,c1,c2,c3]] w Q:=by
 have h1:1<=n:=by omega
 obtain ⟨i0,hi,hz0,hz1,hz2⟩:=info_parts (P:=Tryz.prog) (e:=60) (z:= .int .u64 0) (size:=1) (bytes:=8) (by kernel_rfl);refine callsIn_of_wp_marks Tryz.func36 rfl h11 ?_ hro;simp only [Tryz.ntmps36,List.size_toArray,List.length_cons,List.length_nil,Nat.reduceAdd,Nat.reduceSub,Array.replicate_succ,Array.replicate_zero,List.push_toArray,List.append_toArray,List.nil_append,List.cons_append]
 gi_wp2_with (first
  |(gi_at_call 93;refine hopen.mono ?_;rintro e w1 (⟨k,rfl,hk,hQ⟩|⟨pb,po,rb,ro,cap,adr,L,rfl,hov,ha,hL,hlt,hrb,hpb,hQ⟩))
  |(gi_at_call 94;refine (zri F (n-1) h36 hro _ _).mono ?_;rintro e w' ⟨rfl,rfl⟩))
 ·refine ⟨_,results_tmp2 (t:=2) (u:=3) rfl _ _ _,?_⟩
  exact hQ
 have bO:=(Boxed.new w1 22 (.slice none 0 0)).alloc (.cells #[.pointer (some ⟨pb,po,none⟩)] 145);have bS:=Boxed.new (w1.alloc (.cells #[.slice none 0 0] 22)) 145 (.pointer (some ⟨pb,po,none⟩));simp only [World.size_alloc] at bS;have hB0:Below w1.heap.size w1 ((w1.alloc (.cells #[.slice none 0 0] 22)).alloc (.cells #[.pointer (some ⟨pb,po,none⟩)] 145)):=((Below.refl _ w1).alloc (Nat.le_refl _) _).alloc (by simp) _;have hsz:((w1.alloc (.cells #[.slice none 0 0] 22)).alloc (.cells #[.pointer (some ⟨pb,po,none⟩)] 145)).heap.size=w1.heap.size+2:=by simp
 try simp only [World.size_alloc]
 obtain ⟨W0,hW0⟩: ∃W0,(w1.alloc (.cells #[.slice none 0 0] 22)).alloc (.cells #[.pointer (some ⟨pb,po,none⟩)] 145)=W0:=⟨_,rfl⟩
 rw [hW0] at bO bS hB0 hsz ⊢;clear hW0;refine wpIn_rangeFunc_ownH hro h1 (gf:=148) (lb:= #[.pointer (some ⟨w1.heap.size+1,0,none⟩)]) rfl h68 (enters_of Tryz.func148 (by kernel_rfl) rfl)
  (zsM F (n-1) h68 hro (by omega) (w1.heap.size+1) w1.heap.size pb po rb ro cap adr L W0 (by omega) bS.cell (by omega) ((hB0.cell (p:=⟨pb,po+4,none⟩) hpb).trans hov) ha (hL.below hB0 hrb) hlt hrb (by omega)) belowK_t (belowK_b (by omega)) (Below.refl _ _) (fun _=>rfl)
  (fun pre W=>(∃v,Boxed W w1.heap.size 22 v/\W.ownsRow w1.heap.size 60 1 v pre.length (ziT pre)/\(pre=[]->v= .slice none 0 0))/\Below w1.heap.size w1 W)
  (fun _ _ _=>False)
  (OwnFrom.and (Own.from (holdsRow_own _ _ _ _ _ (fun pre:List Row=>pre.length) ziT (fun pre v=>pre=[]->v= .slice none 0 0)) _) (ownFrom_below (Nat.le_refl _) (by omega)))
  (fun _ _ _ _ _ hs _ _=>hs)
  ⟨⟨_,bO,World.ownsRow_nil _ _ _ _,fun _=>rfl⟩,hB0⟩
  (fun x a' W=> ∃Bx,W.cell? ⟨Bx,2,none⟩=some (.int .u64 x.addr)/\a'={ tmps:= #[.agg #[c0,c1,c2,c3],.pointer (some ⟨w.heap.size,0,none⟩),.slice none 0 0,.int .i64 0,.pointer (some ⟨pb,po,none⟩),.int .i64 0,.pointer (some ⟨w1.heap.size,0,none⟩),.pointer (some ⟨Bx,0,none⟩),.tuple #[.pointer (some ⟨pb,po,none⟩),.int .i64 0],.agg #[c0,c1,c2,c3],.tuple #[.pointer (some ⟨pb,po,none⟩),.int .i64 0],.pointer (some ⟨pb,po,none⟩),.int .i64 0,.int .i64 0,.bool false,undef,.pointer (some ⟨pb,po,none⟩),.func (.func 148) #[] #[.pointer (some ⟨w1.heap.size+1,0,none⟩)],.agg x.cs.toArray,undef,undef,undef,undef,undef,undef],defers:=[] })
  (fun x a' _ X Y row hs hg hr=>by obtain ⟨Bx,h2,h3⟩:=hs;exact ⟨Bx,cell_kept h2 hg (fun r e=>(hr r e).2),h3⟩)
  ?assign ?body ?done ?stop
 case assign=>
  rintro l pre x W K hi hK;obtain ⟨x0,x1,x2,x3,x4,cur⟩:=x;obtain ⟨⟨v,bv,hrow,hz⟩,hB1⟩:=hi;simp only [Row.cs] at hK ⊢
  gi_wp2
  exact hK _ _ ((KeepsOthers.alloc _ _).from _) ((Below.refl _ W).alloc hB1.size _) ⟨⟨v,bv.alloc _,hrow.alloc _,hz⟩,hB1.alloc hB1.size _⟩ ⟨W.heap.size,zwz W _ _ (j:=2) rfl,rfl⟩
 case body=>
  rintro l pre x a' W hl _ ⟨⟨v,bv,hrow,_⟩,hB1⟩ ⟨Bx,hx,rfl⟩ hlt';have cS:=bv.cell;have fS:=bv.frozen;have hsW:=hB1.size;have hll:pre.length<1000000:=by omega
  gi_wp2_with (first
   | (gi_at_builtin;refine wpListIn_append_own _ rfl _ _ 22 rfl w1.heap.size 60 i0 (.int .u64 0) 1 8 Tryz.underlying22 hi hz0 hz1 hz2 rfl (by decide) _ _ _ rfl (hrow.alloc _) ⟨W.heap.size,0,none⟩ 1 1 [.int .u64 x.addr] rfl rfl (zxH _ _ _) (by simp [Value.oneCell']) (by unfold maxLen;omega) (by omega) (by simp;omega) ?_;intro v' w3 hown' hg3 hnil3
      obtain ⟨hb1,hb2,hb3,hk3,hbl3⟩:=Boxed.appended bv (by decide) hrow hsW (Nat.le_refl _) hown' hg3;obtain ⟨g,cap',rfl⟩:=ownsRow_succ hown';have cS3:=hb1.cell;have fS3:=hb1.frozen;simp only [Act.put,List.setIfInBounds_toArray,List.set_cons_succ,List.set_cons_zero])
   |gi_in)
  have hrow4:(w3.setCell ⟨w1.heap.size,0,none⟩ (.slice (some ⟨g,0,none⟩) (pre.length+1) cap')).ownsRow w1.heap.size 60 1 (.slice (some ⟨g,0,none⟩) (pre.length+1) cap') (pre++[x]).length (ziT (pre++[x])):=by
   have e:ziT (pre++[x])=ziT pre++[.int .u64 x.addr]:=by simp [ziT]
   rw [e,List.length_append];exact hb3
  exact ⟨hk3.from _,hbl3,⟨_,hb2,hrow4,fun e=>(by simp at e)⟩,hB1.trans hbl3⟩
 case done=>
  rintro D zs W hD rfl ⟨⟨v,bv,hrow,hz⟩,hB1⟩ hK;have cS:=bv.cell
  gi_wp2
  refine ⟨by simp,.inl ⟨_,_,rfl,run_takeDeferred hK,?_⟩⟩;refine ⟨_,results_tmp2 (t:=2) (u:=3) rfl _ _ _,?_⟩;exact hQ v _ (ownsRow_putObj hrow _ hK rfl) hz (hB1.trans (belowK_b (w:=w1) (Nat.le_refl _) W D _ _ (by omega) hK rfl rfl))
 case stop=>
  rintro D c pre W _ _ h _;exact h.elim
end Go.Proofs
