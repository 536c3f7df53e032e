import Derived.Test.YtfhbhfogcgfeeaaGreatDoorHbA
import Derived.Test.YtfhbhfogcgfeeaaGreatDoorHpA
import Derived.Test.YtfhbhfogcgfeeaaGreatDoorAmRead
import Derived.Test.YtfhbhfogcgfeeaaGreatDoorRows
import Derived.Test.YtfhbhfogcgfeeaaGreatDoorHbI
set_option linter.unusedVariables false
set_option linter.unusedSimpArgs false
set_option maxRecDepth 100000
namespace Go.AM.G
open Go Go.AM Go.Proofs Go.RowKit
def zdJ (el:List V):Row:=
 match el with
 | [.int .i64 a,.int .i64 b,.int .u64 c,.int .i64 d,.int .u64 e,.bool f]=>⟨a,b,c,d,e,f⟩
 |_=>⟨0,0,0,0,0,false⟩
theorem zp9 {el:List V}(h:isO el=true):el=[.int .i64 (zdJ el).c0,.int .i64 (zdJ el).c1,.int .u64 (zdJ el).addr,.int .i64 (zdJ el).c3,.int .u64 (zdJ el).c4,.bool (zdJ el).cur]:=by
 unfold isO at h
 split at h
 ·rfl
 ·cases h
theorem zum {φ:Phi}: ∀L:List Row,Rs φ (L.map fun r=>[V.int .u64 r.addr]).flatten (ziT L)
 | []=>Rs.nil
 |r::L=>by
  show Rs φ (V.int .u64 r.addr::(L.map fun r=>[V.int .u64 r.addr]).flatten) (Value.int .u64 r.addr::ziT L);exact Rs.cons R.int (zum L)
theorem zyv {φ:Phi}{el:List V}(h:isO el=true){l:List Value}(hr:Rs φ el l):l=(zdJ el).cs:=by
 rw [zp9 h] at hr;simp only [Rs,R] at hr;obtain ⟨_,_,rfl,rfl,_,_,rfl,rfl,_,_,rfl,rfl,_,_,rfl,rfl,_,_,rfl,rfl,_,_,rfl,rfl,rfl⟩:=hr;rfl
theorem zoX: ∀{els:List (List V)},els.all isO=true->zkd els=(zae (els.map zdJ)).map fun r=>[.int .u64 r.addr]
 | [],_=>rfl
 |el::els,h=>by
  simp only [List.all_cons,Bool.and_eq_true] at h;have ih:=zoX h.2;have he:=zp9 h.1
  generalize zdJ el=r at he
  subst he;obtain ⟨a,b,c,d,e,f⟩:=r;cases f with
  |true=>show [_]::zkd els=_;rw [ih];rfl
  |false=>show zkd els=_;rw [ih];rfl
variable [HasLay]
theorem zxI {φ:Phi}{m:Mem}{w:World}(hst:St φ m w){ov:V}{c:Value}(hr:R φ ov c){els:List (List V)}(he:elems m ov=some els) (hz:zOk ov 6=true) (ho:els.all isO=true):
  ∃(adr:Option Addr) (cap rb ro:Nat),c= .slice adr (els.map zdJ).length cap/\(0<(els.map zdJ).length->adr=some ⟨rb,ro,none⟩)/\zhN w rb ro (els.map zdJ)/\(0<(els.map zdJ).length->rb<w.heap.size):=by
 cases ov with
 |nils=>
  simp only [elems,Option.some.injEq] at he;subst he;simp only [R] at hr;subst hr;exact ⟨none,0,0,0,rfl,fun h=>(by simp at h),fun i r h=>(by simp at h),fun h=>(by simp at h)⟩
 |emp=>
  simp only [elems] at he
  try cases he
 |slice b i len cap ex z=>
  simp only [zOk,beq_iff_eq,decide_eq_true_eq] at hz;simp only [R] at hr;obtain ⟨p,a,cap',hp,hze,rfl,_,_,_,hlc,ha,_⟩:=hr;have hz6:z=6:=by first|exact hz|(exact hz.symm)
  subst hz6;simp only [elems] at he
  split at he
  case h_2=>cases he
  rename_i own E hE
  split at he
  case isFalse=>cases he
  rename_i hil
  simp only [Option.some.injEq] at he;subst he;have hlen:((E.drop i).take len).length=len:=by rw [List.length_take,List.length_drop];omega
  obtain ⟨p',hp',hbr⟩:=hst.blk b own E hE;rw [hp] at hp';cases hp';refine ⟨_,cap',p.blk,a,by rw [List.length_map,hlen],fun _=>rfl,?_,fun _=>hbr.lt⟩;intro k r hk j u hj;rw [List.getElem?_map,Option.map_eq_some_iff] at hk;obtain ⟨el,hel,rfl⟩:=hk;have hkl:k<len:=by have:=(List.getElem?_eq_some_iff.1 hel).1;omega
  have hao:a=p.base+i*6:=by rcases ha with h|h<;>omega
  have hio:isO el=true:=List.all_eq_true.1 ho el (List.mem_of_getElem? hel);have hE2:E[i+k]? =some el:=by
   rw [List.getElem?_take,if_pos hkl,List.getElem?_drop] at hel;exact hel
  have hl6:el.length=6:=by rw [zp9 hio];rfl
  have hload:zaq m (some 6) (.ptr b (i+k) 0)=some (.agg el):=by
   simp only [zaq,hE,hE2,Option.bind_some,part,Nat.zero_add,hl6,Nat.le_refl,if_true,List.drop_zero];rw [List.take_of_length_le (by omega)]
  have hR:R φ (.ptr b (i+k) 0) (.pointer (some ⟨p.blk,p.base+(i+k)*p.esz+0,none⟩)):=by simp only [R];exact ⟨p,hp,rfl⟩
  obtain ⟨B,off,e1,l,hl,hcell,hRl⟩:=zhA hst hR hload;simp only [Value.pointer.injEq,Option.some.injEq,Addr.mk.injEq] at e1;obtain ⟨rfl,rfl,_⟩:=e1;simp only [R] at hRl;obtain ⟨l',e2,hRl⟩:=hRl;have e3:l=l':=by simpa using e2
  subst e3;have hlr:=zyv hio hRl;rw [<-hlr] at hj;have:=hcell j u hj;rw [addr_add] at this;rw [<-this,hze,hao]
  congr 2
  rw [Nat.add_mul];omega
 |_=>cases he
set_option maxHeartbeats 1000000 in
theorem zwA {call:zS}(hc:za8 Tryz.prog call){args:List V}{m m':Mem}{v:V}(e:zkM call args m=some (v,m')):zfP Tryz.prog zaW args m v m':=by
 unfold zkM at e
 split at e
 case isFalse=>cases e
 rename_i hi
 refine ⟨⟨_,Tryz.func36,rfl,by decide⟩,fun φ w cargs hst hr=> ?_⟩;unfold zxO at hi
 split at hi
 case h_2=>cases hi
 rename_i va vb vc vd
 simp only [Bool.and_eq_true] at hi;obtain ⟨⟨⟨i0,i1⟩,i2⟩,i3⟩:=hi;have hr':=hr;simp only [Rs,R] at hr;obtain ⟨_,_,rfl,⟨l,rfl,c0,_,rfl,r0,c1,_,rfl,r1,c2,_,rfl,r2,c3,_,rfl,r3,rfl⟩,rfl⟩:=hr;have hwb:Below w.heap.size w (w.alloc (.cells #[c0,c1,c2,c3] 31)):=(Below.refl _ w).alloc (Nat.le_refl _) _;have hs0:=Stp.below hst hwb;refine callsIn_wide.1 (zsN Fence.wide 6 trivial trivial trivial trivial rfl (Nat.le_refl _) c0 c1 c2 c3 w (r0.cell i0) (r1.cell i1) (r2.cell i2) (r3.cell i3) (fun e w'=> ∃φ' cv,e= .returned cv/\Stp φ m w φ' m' w'/\R φ' v cv) ((callsIn_wide (n:=5)).2 ?_));cases hcall:call zba [.agg [va,vb,vc,vd]] m with
 |none=>rw [hcall] at e;cases e
 |some y=>
  obtain ⟨v1,m1⟩:=y;rw [hcall] at e;obtain ⟨_,hopen⟩:=hc _ _ _ _ _ hcall;refine (hopen φ _ _ hs0.st hr').mono ?_;rintro e1 w1 ⟨φ1,cv,rfl,hs1,hcv⟩;have hs:=hs0.trans hs1
  split at e
  ·rename_i k m2 heq
   simp only [Option.some.injEq,Prod.mk.injEq] at heq;obtain ⟨rfl,rfl⟩:=heq
   split at e
   ·cases e
   rename_i hk
   cases e;simp only [R,Rs] at hcv;obtain ⟨_,rfl,_,_,rfl,rfl,_,_,rfl,rfl,rfl⟩:=hcv;exact .inl ⟨k,rfl,hk,φ1,_,rfl,hs,by simp only [R,Rs];exact ⟨_,rfl,_,_,rfl,rfl,_,_,rfl,rfl,rfl⟩⟩
  ·rename_i P m2 heq
   simp only [Option.some.injEq,Prod.mk.injEq] at heq;obtain ⟨rfl,rfl⟩:=heq
   split at e
   case h_2=>cases e
   rename_i own s0 s1 s2 s3 ov hP
   split at e
   case h_2=>cases e
   rename_i els hels
   split at e
   case isFalse=>cases e
   rename_i hall
   obtain ⟨ho,hlt,hz⟩:=hall;simp only [R,Rs] at hcv;obtain ⟨_,rfl,_,_,rfl,⟨p,hp,rfl⟩,_,_,rfl,rfl,rfl⟩:=hcv;have hload:zaq m1 none (.ptr P 0 4)=some ov:=by
    simp only [zaq,hP];rfl
   have hR:R φ1 (.ptr P 0 4) (.pointer (some ⟨p.blk,p.base+0*p.esz+0+4,none⟩)):=by simp only [R];exact ⟨p,hp,rfl⟩
   obtain ⟨B,off,e1,c,hcell,hRc⟩:=zhA hs1.st hR hload;simp only [Value.pointer.injEq,Option.some.injEq,Addr.mk.injEq] at e1;obtain ⟨rfl,rfl,_⟩:=e1;obtain ⟨adr,cap,rb,ro,rfl,ha,hrows,hrb⟩:=zxI hs1.st hRc hels hz ho;obtain ⟨p',hp',hbr⟩:=hs1.st.blk P own _ hP;rw [hp] at hp';cases hp';have hcv:=zoX ho;obtain ⟨rb',ro',ha',hrows',hrb'⟩: ∃rb' ro',(0<(els.map zdJ).length->adr=some ⟨rb',ro',none⟩)/\zhN w1 rb' ro' (els.map zdJ)/\rb'<w1.heap.size:=by
    by_cases h0:0<(els.map zdJ).length
    ·exact ⟨rb,ro,ha,hrows,hrb h0⟩
    ·refine ⟨p.blk,0,fun h=>absurd h h0,fun i r h=> ?_,hbr.lt⟩
     have:=(List.getElem?_eq_some_iff.1 h).1;omega
   refine .inr ⟨p.blk,p.base+0*p.esz+0,rb',ro',cap,adr,els.map zdJ,rfl,hcell,ha',hrows',by simpa using hlt,hrb',hbr.lt,fun v2 W' hrow hnil hbel=> ?_⟩
   generalize zae (els.map zdJ)=L at hcv hrow hnil
   cases L with
   |nil=>
    rw [hcv] at e;cases e;rw [hnil rfl];exact ⟨φ1,_,rfl,hs.trans (Stp.below hs.st hbel),by simp only [R,Rs];exact ⟨_,rfl,_,_,rfl,rfl,_,_,rfl,rfl,rfl⟩⟩
   |cons r L=>
    rw [hcv] at e;simp only [List.map_cons] at e;cases e;obtain ⟨hxl,hrow|⟨g,cp,cur,rfl,hg1,hg2,hg3,hg4,hg5,hg6⟩⟩:=hrow
    ·have:=hrow.2;simp at this
    have hb:=Stp.behind hs.st hbel (els:=(r::L).map fun r=>[V.int .u64 r.addr]) (z:=1) (fun el hel=>by
     obtain ⟨x,_,rfl⟩:=List.mem_map.1 hel;exact ⟨rfl,fun v hv=>by simp at hv;subst hv;rfl⟩) hg1 hg2 (a:=ziT (r::L)) (y:=cur.toList.drop ((r::L).length*1)) (by rw [<-hg6,List.take_append_drop]) (zum (r::L))
    refine ⟨_,_,rfl,hs.trans hb,?_⟩;simp only [R,Rs];refine ⟨_,rfl,_,_,rfl,⟨_,0,cp,Phi.set_same _ _ _,rfl,?_,?_,?_,hg4,?_,.inl (by simp),?_⟩,_,_,rfl,rfl,rfl⟩
    ·simp
    ·simpa using hg3
    ·intro h;cases h
    ·simpa using hg3
    ·show 0+cp*1<=cur.size
     omega
  ·cases e
end Go.AM.G
set_option maxRecDepth 1000000
namespace Go.AM.G
open Go Go.AM Go.Proofs Go.Sort Go.RowKit Go.Shelf Go.Lib
theorem zoY {a:List V}{m:Mem}{v:V}{m':Mem}(e:zqb a m=some (v,m')): ∃n:Int,a=[.int .u64 n]/\0<=n/\n<=18446744073709551615/\v= .int .i64 ((Go.Lib.bitLen n.toNat:Nat):Int)/\m'=m:=by
 unfold zqb at e
 split at e
 ·rename_i n
  split at e
  ·rename_i h
   cases e;exact ⟨n,rfl,h.1,h.2,rfl,rfl⟩
  ·cases e
 ·cases e
theorem zrj {a:List V}{m:Mem}{v:V}{m':Mem}(e:tTz a m=some (v,m')): ∃n:Int,a=[.int .u64 n]/\0<=n/\n<=18446744073709551615/\v= .int .i64 ((Go.Lib.ctz 64 n.toNat:Nat):Int)/\m'=m:=by
 unfold tTz at e
 split at e
 ·rename_i n
  split at e
  ·rename_i h
   cases e;exact ⟨n,rfl,h.1,h.2,rfl,rfl⟩
  ·cases e
 ·cases e
theorem zyw {a:List V}{m:Mem}{v:V}{m':Mem}{f:Nat}(hf:f=zaG\/f=zbc) (e:zqb a m=some (v,m')):zfP Tryz.prog f a m v m':=by
 obtain ⟨n,rfl,h0,h1,rfl,rfl⟩:=zoY e;rcases hf with rfl|rfl
 ·refine ⟨⟨_,Tryz.func174,rfl,by decide⟩,fun φ w cargs hst hr=> ?_⟩
  simp only [Rs,R] at hr;obtain ⟨c,r,rfl,rfl,rfl⟩:=hr;refine (HbLay.bits_Len n w h0 h1).mono ?_;rintro e w' ⟨rfl,rfl⟩;exact ⟨φ,_,rfl,Stp.refl hst,by simp only [R]⟩
 ·refine ⟨⟨_,Tryz.func157,rfl,by decide⟩,fun φ w cargs hst hr=> ?_⟩
  simp only [Rs,R] at hr;obtain ⟨c,r,rfl,rfl,rfl⟩:=hr;refine (HbLay.bits_Len64 n w h0 h1).mono ?_;rintro e w' ⟨rfl,rfl⟩;exact ⟨φ,_,rfl,Stp.refl hst,by simp only [R]⟩
theorem zy1 {a:List V}{m:Mem}{v:V}{m':Mem}(e:tTz a m=some (v,m')):zfP Tryz.prog zR a m v m':=by
 obtain ⟨n,rfl,h0,h1,rfl,rfl⟩:=zrj e;refine ⟨⟨_,Tryz.func198,rfl,by decide⟩,fun φ w cargs hst hr=> ?_⟩;simp only [Rs,R] at hr;obtain ⟨c,r,rfl,rfl,rfl⟩:=hr;obtain ⟨_,⟨c,e,fr,hc,htab⟩,_⟩:=hst.lay rfl;have hc:w.heap[0]? =some (.cells c e fr):=hc;have hT:TabAt 0 Lib.deBruijn64tab w:=fun j hj=>by
  unfold World.cell?;simp only [hc];exact htab j hj
 obtain ⟨k,rfl⟩: ∃k:Nat,n=k:=⟨n.toNat,by omega⟩
 refine (HbLay.bits_Zeros k (by omega) w hT).mono ?_;rintro e w' ⟨rfl,rfl⟩;exact ⟨φ,_,rfl,Stp.refl hst,by simp only [R,Int.toNat_natCast]⟩
theorem zun:zp4 Tryz.prog X0:=by
 intro f t h call hc args m v m' e;unfold X0 at h
 split at h
 ·rename_i hf
  cases h;exact zyw hf e
 split at h
 ·rename_i hf
  cases h;subst hf;exact zwA hc e
 split at h
 ·rename_i hf
  cases h;subst hf;exact zy1 e
 ·cases h
end Go.AM.G
