import Derived.Deep.Slices
import Derived.ChangeSame
import Derived.Test.YtfhbhfogcgfeeaaGreatDoorAmMem
import Derived.WalkKit
import Derived.ProofKit
import Derived.OpenShut
import Derived.ChangeOld
import Derived.Below
import Derived.SizedLaws
import Derived.Deep.Strs
set_option linter.unusedVariables false
set_option linter.unusedSimpArgs false
namespace Go.AM
open Go
theorem zwc {p:Program}{fits:TypeId->Bool}{d:Nat}{e:TypeId}{count off n:Nat}(h:rowAt p fits d e count off n=true):off<=count*p.cellsOf e:=by
 cases d with
 |zero=>simp [rowAt] at h
 |succ d=>
  simp only [rowAt] at h
  split at h
  ·cases h
  ·rename_i hs
   have hdm:=Nat.div_add_mod off (p.cellsOf e);have hml:=Nat.mod_lt off (Nat.pos_of_ne_zero hs);simp only [Bool.or_eq_true,Bool.and_eq_true,beq_iff_eq,decide_eq_true_eq] at h;rcases h with ⟨⟨h1,h2⟩,_⟩|⟨h1,_⟩
   ·have:p.cellsOf e*(off/p.cellsOf e)<=p.cellsOf e*count:=Nat.mul_le_mul_left _ (by omega)
    rw [Nat.mul_comm count];omega
   ·have:p.cellsOf e*(off/p.cellsOf e+1)<=p.cellsOf e*count:=Nat.mul_le_mul_left _ (by omega)
    rw [Nat.mul_comm count];rw [Nat.mul_add] at this;omega
theorem zmR {w:World}{a:Addr}{c:Array Value}{t:TypeId}{fr:Nat×Nat}{cap z:Nat}{φ:Phi}(hs:a.spot=none) (hc:w.heap[a.block]? =some (.cells c t fr)) (E:Nat->List V)
  (hE: ∀i,i<cap-> ∃cs,w.cells? 0 (a.add (i*z)) z=some cs/\Rs φ (E i) cs): ∀n,n<=cap->Rs φ (((List.range n).map E).flatten) ((c.toList.drop a.off).take (n*z))/\(0<n*z->a.off+n*z<=c.size)
 |0,_=>by simp [Rs]
 |n+1,hn=>by
  obtain ⟨h1,h2⟩:=zmR hs hc E hE n (by omega);obtain ⟨cs,g1,g2⟩:=hE n (by omega);obtain ⟨_,gl,gc⟩:=World.cells?_some g1;have gc': ∀j,j<z->c[a.off+n*z+j]? =cs[j]? :=by
   intro j hj;have:=gc j hj;rw [Deep.add_add] at this;rw [<-this];unfold World.cell? Addr.add
   by_cases h0:n*z+j=0
   ·rw [if_pos h0,hc]
    simp only [hs,Option.isSome_none,Bool.false_eq_true,if_false]
    congr 1
    omega
   ·rw [if_neg h0]
    simp only [hc,Option.isSome_none,Bool.false_eq_true,if_false]
    congr 1
    omega
  have hcs:((c.toList.drop a.off).drop (n*z)).take z=cs:=by
   apply List.ext_getElem?;intro j
   by_cases hj:j<z
   ·rw [List.getElem?_take,if_pos hj,List.getElem?_drop,List.getElem?_drop,<-gc' j hj]
    simp [Nat.add_assoc]
   ·rw [List.getElem?_take,if_neg hj,List.getElem?_eq_none (by omega)]
  have e:(n+1)*z=n*z+z:=Nat.succ_mul n z;refine ⟨?_,?_⟩
  ·rw [List.range_succ,List.map_append,List.flatten_append,e,List.take_add]
   refine Rs.append h1 ?_;rw [hcs]
   simpa using g2
  ·intro _
   rw [e]
   by_cases hz:z=0
   ·subst hz
    omega
   ·have h3:=gc' (z-1) (by omega)
    rw [List.getElem?_eq_getElem (show z-1<cs.length by omega)] at h3;have:=(Array.getElem?_eq_some_iff.1 h3).1;omega
def RO (m:Mem):Prop:=(∀(b:Nat) (els:List (List V)),m[b]? ≠some (.cells true els))/\ ∀(b:Nat) (es:List (Int×Int)),m[b]? ≠some (.mp es)
theorem RO.nil:RO []:=⟨fun b els h=>by simp at h,fun b els h=>by simp at h⟩
theorem RO.owned {m:Mem}(h:RO m){φ:Phi}{B:Nat}:¬ zoL φ m B:=by
 rintro (⟨b,els,p,h1,_,_⟩|⟨b,els,p,h1,_,_⟩)
 ·exact h.1 b els h1
 ·exact h.2 b els h1
section
open Go.ChangeShapes Go.WideShapes Go.ChangeAt Go.RowKit
theorem zwd {w:World}{a:Addr}{z:Nat}{cs:List Value}(hz:0<z) (h:w.cells? 0 (a.add (0*z)) z=some cs):a.spot=none/\ ∃c t fr,w.heap[a.block]? =some (.cells c t fr)/\a.off<=c.size:=by
 obtain ⟨_,hl,hc⟩:=World.cells?_some h;have h0:=hc 0 hz;rw [List.getElem?_eq_getElem (show 0<cs.length by omega)] at h0;have e:(a.add (0*z)).add 0=a:=by simp [Addr.add]
 rw [e] at h0;unfold World.cell? at h0
 split at h0
 ·rename_i c t fr hh
  split at h0
  ·cases h0
  ·rename_i hs
   have:=(Array.getElem?_eq_some_iff.1 h0).1;refine ⟨?_,c,t,fr,hh,by omega⟩;cases hsp:a.spot with
   |none=>rfl
   |some x=>rw [hsp] at hs;simp at hs
 ·cases h0
end
section
open Go.ChangeShapes Go.WideShapes Go.ChangeAt Go.RowKit
theorem zhI {H:Type}{P:Program}{e:TypeId}{d:DataW H}: ∀{ds:List (DataW H)},d∈ds-> ∀n∈DataW.weights P e d,n∈DataW.weightsAll P e ds
 |x::r,hd,n,hn=>by
  rw [DataW.weightsAll];rcases List.mem_cons.1 hd with rfl|h
  ·exact List.mem_append.2 (.inl hn)
  ·exact List.mem_append.2 (.inr (zhI h n hn))
end
section
open Go.ChangeShapes Go.WideShapes Go.ChangeAt Go.RowKit
end
section
open Go.ChangeShapes Go.WideShapes Go.ChangeAt Go.RowKit
end
section
open Go.ChangeShapes Go.WideShapes Go.ChangeAt Go.RowKit
theorem Rs.cons {φ:Phi}{v:V}{c:Value}{vs:List V}{cs:List Value}(h:R φ v c) (k:Rs φ vs cs):Rs φ (v::vs) (c::cs):=by simp only [Rs];exact ⟨c,cs,rfl,h,k⟩
end
section
open Go.ChangeShapes Go.WideShapes Go.ChangeAt Go.RowKit
theorem Rs.nil {φ:Phi}:Rs φ [] []:=by simp [Rs]
end
section
open Go.ChangeShapes Go.WideShapes Go.ChangeAt Go.RowKit
theorem R.int {φ:Phi}{k:IntKind}{n:Int}:R φ (.int k n) (.int k n):=by simp [R]
end
section
open Go.ChangeShapes Go.WideShapes Go.ChangeAt Go.RowKit
theorem R.bool {φ:Phi}{b:Bool}:R φ (.bool b) (.bool b):=by simp [R]
end
section
open Go.ChangeShapes Go.WideShapes Go.ChangeAt Go.RowKit
end
theorem zoI {p:Program}: ∀{d:Nat}{e:TypeId}{count off:Nat}{u:TypeId}{n:Nat},liesAt p d e count off u n=true->off<=count*p.cellsOf e
 |0,_,_,_,_,_,h=>by simp [liesAt] at h
 |d+1,e,count,off,u,n,h=>by
  simp only [liesAt,Bool.or_eq_true] at h;rcases h with h|h
  ·exact zwc h
  ·split at h
   ·exact zoI h
   ·cases h
theorem zoJ {P:Program}{w:World}{r:Reach}{base:Nat}{a:Addr}{e:TypeId}{n:Nat}(h:w.has P r base a e n):a.spot=none/\ ∃c t fr,w.heap[a.block]? =some (.cells c t fr)/\a.off<=c.size:=by
 obtain ⟨_,hs,row,cells,h1,h2⟩:=h;refine ⟨hs,?_⟩;unfold World.shape? at h1
 split at h1
 ·rename_i c t fr hc
  simp only [Option.some.injEq,Prod.mk.injEq] at h1;obtain ⟨rfl,rfl⟩:=h1;refine ⟨c,t,fr,hc,Nat.le_trans (zoI h2) (Nat.div_mul_le_self _ _)⟩
 ·cases h1
def ziN (v:V):Prop:=
 match v with
 | .slice _ _ len cap _ _=>len<=cap
 |_=>True
variable [HasLay]
theorem St.nil (w:World) (hl:Lay (fun _=>none) [] w):St (fun _=>none) [] w:=⟨⟨fun _ _=>rfl,fun b own els hb=>by simp at hb,fun b els b' own' els' p p' hb=>by simp at hb,fun b es hb=>by simp at hb,fun b es b' es' p p' hb=>by simp at hb⟩,hl⟩
theorem zjg {w:World}{φ0:Phi}{m0:Mem}(hst:St φ0 m0 w) (hno:RO m0){a:Addr}{c:Array Value}{t:TypeId}{fr:Nat×Nat}{len cap z:Nat}(hz:0<z) (hs:a.spot=none) (hc:w.heap[a.block]? =some (.cells c t fr)) (hoff:a.off<=c.size) (hl:len<=cap) (hm:cap<=maxLen) (E:Nat->List V) (hEz: ∀i,i<cap->(E i).length=z/\ ∀v∈E i,v.isCell=true)
  (hE: ∀φ,Ext φ0 φ-> ∀i,i<cap-> ∃cs,w.cells? 0 (a.add (i*z)) z=some cs/\Rs φ (E i) cs):
  ∃φ:Phi,Ext φ0 φ/\St φ (m0++[.cells false ((List.range cap).map E)]) w/\RO (m0++[.cells false ((List.range cap).map E)])/\R φ (.slice m0.length 0 len cap true z) (.slice (some a) len cap)/\elems (m0++[.cells false ((List.range cap).map E)]) (.slice m0.length 0 len cap true z)=some ((List.range len).map E):=by
 have hnew:φ0 m0.length=none:=hst.fresh _ (Nat.le_refl _);have hext:Ext φ0 (φ0.set m0.length ⟨a.block,a.off,z,c.size⟩):=Phi.set_ext _ hnew;have hself:(φ0.set m0.length ⟨a.block,a.off,z,c.size⟩) m0.length=some ⟨a.block,a.off,z,c.size⟩:=by simp [Phi.set]
 have hro:RO (m0++[.cells false ((List.range cap).map E)]):=by
  constructor
  all_goals
   intro b els hb
   by_cases h:b<m0.length
   ·rw [List.getElem?_append_left h] at hb
    first|exact hno.1 b els hb|exact hno.2 b els hb
   ·rw [List.getElem?_append_right (by omega)] at hb
    cases hbb:b-m0.length with
    |zero=>rw [hbb] at hb;simp at hb
    |succ n=>rw [hbb] at hb;simp at hb
 refine ⟨φ0.set m0.length ⟨a.block,a.off,z,c.size⟩,hext,⟨⟨?_,?_,?_,fun b es hb=>absurd hb (hro.2 b es),fun b es b' es' p p' hb=>absurd hb (hro.2 b es)⟩,fun e=>⟨(hst.lay e).1,(hst.lay e).2.1,hro.owned⟩⟩,hro,?_,?_⟩
 ·intro b hb
  simp at hb;simp only [Phi.set];rw [if_neg (by omega)];exact hst.fresh b (by omega)
 ·intro b own els hb
  by_cases h:b<m0.length
  ·rw [List.getElem?_append_left h] at hb
   obtain ⟨p,hp,hr⟩:=hst.blk b own els hb;exact ⟨p,hext _ _ hp,hr.world hext rfl⟩
  ·have hbl:b=m0.length:=by
    have:=(List.getElem?_eq_some_iff.1 hb).1;simp at this;omega
   subst hbl;simp only [List.getElem?_concat_length,Option.some.injEq,Blk.cells.injEq] at hb;obtain ⟨rfl,rfl⟩:=hb;refine ⟨_,hself,?_,?_⟩
   ·intro el hel
    simp only [List.mem_map,List.mem_range] at hel;obtain ⟨i,hi,rfl⟩:=hel;exact hEz i hi
   ·refine ⟨c,t,fr,c.toList.take a.off,(c.toList.drop a.off).take (cap*z),(c.toList.drop a.off).drop (cap*z),hc,rfl,(fun h=>by cases h),?_,?_,?_⟩
    ·rw [List.take_append_drop,List.take_append_drop]
    ·simp [hoff]
    ·exact (zmR hs hc E (hE _ hext) cap (Nat.le_refl _)).1
 ·intro b els b' own' els' p p' hb
  exact absurd hb (hro.1 b els)
 ·simp only [R]
  refine ⟨⟨a.block,a.off,z,c.size⟩,a.off,cap,hself,rfl,?_,Nat.le_refl _,fun _=>rfl,hm,hl,.inl (by simp),?_⟩
  ·obtain ⟨b,o,s⟩:=a
   simp only at hs;subst hs;rfl
  ·by_cases h0:cap=0
   ·subst h0;simpa using hoff
   ·exact (zmR hs hc E (hE _ (Ext.refl _)) cap (Nat.le_refl _)).2 (Nat.mul_pos (by omega) hz)
 ·simp only [elems,List.getElem?_concat_length,List.length_map,List.length_range,Nat.zero_add,hl,if_true,List.drop_zero,<-List.map_take,List.take_range,Nat.min_eq_left hl]
open Go.ChangeShapes Go.WideShapes Go.ChangeAt Go.RowKit
theorem zpZ {H:Type}{enc:TypeId×Value->H}{P:Program}{W:World}{base n:Nat}{t e:TypeId}{c0:Value}{y0:DataW H×List MemPlace}(ht:P.underlying t=some (.slice e)){z:Nat}(hz:P.cellsOf e=z) (hz0:0<z) (hok:Cell.okWide P W .any base t c0) (g:DataW.trod enc P W 0 (fun _=>true) true n t [c0]=some y0)
  {α:Type} [Inhabited α] (p:α->Prop) (E:α->List V) (hEz: ∀x,(E x).length=z/\ ∀v∈E x,v.isCell=true) (helem: ∀(k:Nat) (cs:List Value) x,cs.length=z->DataW.trod enc P W 0 (fun _=>true) true k e cs=some x-> ∃q:α,p q/\ ∀φ,Rs φ (E q) cs)
  {φ0:Phi}{m0:Mem}(hst:St φ0 m0 W) (hno:RO m0):
  ∃(u:V) (l:List α) (φ:Phi) (m:Mem),Ext φ0 φ/\Grow m0 m/\St φ m W/\RO m/\R φ u c0/\Sl m u z (l.map E)/\(∀s∈l,p s)/\(l=[]\/ ∃D sp,y0.1= .slice D sp/\D.length=l.length)/\ziN u:=by
 rcases Deep.open_slice ht g with ⟨hc,hy⟩|⟨a,len,cap,mm,n',D,Pl,hc,_,hl,hmx,hmm,hy,hel⟩
 ·simp only [List.cons.injEq,and_true] at hc
  subst hc;exact ⟨.nils,[],φ0,m0,Ext.refl _,Grow.refl _,hst,hno,by simp [R],⟨rfl,rfl⟩,by simp,.inl rfl,trivial⟩
 ·simp only [List.cons.injEq,and_true] at hc
  subst hc;simp only [if_true] at hmm;subst hmm;have hhas:W.has P .any base a e mm:=by
   simp only [Cell.okWide,ht,Cell.ok] at hok;exact hok.2.2
  obtain ⟨hs,c,t',fr,hc,hoff⟩:=zoJ hhas;obtain ⟨q,hq⟩:=Deep.choose_lt (α:=α) (n:=mm) (p:=fun i s=> ∃cs',W.cells? 0 (a.add (i*z)) z=some cs'/\p s/\ ∀φ,Rs φ (E s) cs') (fun i hi=>by
   obtain ⟨cs',e1,e2⟩:=hel i hi;rw [hz] at e1;have hlen:cs'.length=z:=(World.cells?_some e1).2.1;obtain ⟨q,hq⟩:=helem _ cs' _ hlen e2;exact ⟨q,cs',e1,hq⟩)
  obtain ⟨φ,s0,s1,s2,s3,s4⟩:=zjg hst hno (t:=t') (fr:=fr) (E:=fun i=>E (q i)) (z:=z) hz0 hs hc hoff hl hmx (fun i _=>hEz _) (fun φ _ i hi=>by obtain ⟨cs',a1,_,a2⟩:=hq i hi;exact ⟨cs',a1,a2 φ⟩);refine ⟨_,(List.range len).map q,φ,_,s0,(Grow.refl _).app,s1,s2,s3,⟨by rw [s4,List.map_map];rfl,by simp [zOk]⟩,?_,.inr ⟨_,_,by rw [hy],by simp⟩,hl⟩;intro s hs;obtain ⟨i,hi,rfl⟩:=List.mem_map.1 hs;obtain ⟨_,_,h,_⟩:=hq i (by have:=List.mem_range.1 hi;omega);exact h
theorem zhJ {H:Type}{enc:TypeId×Value->H}{P:Program}{W:World}{n:Nat}{t e:TypeId}{c0:Value}{y0:DataW H×List MemPlace}(ht:P.underlying t=some (.slice e)){z:Nat}(hz:P.cellsOf e=z) (hz0:0<z) (g:DataW.trod enc P W 0 (fun _=>true) true n t [c0]=some y0)
  {α:Type} [Inhabited α] (E:α->List V) (hEz: ∀x,(E x).length=z/\ ∀v∈E x,v.isCell=true) (helem: ∀(k:Nat) (cs:List Value) x,cs.length=z->DataW.trod enc P W 0 (fun _=>true) true k e cs=some x-> ∃q:α,∀φ,Rs φ (E q) cs)
  {φ0:Phi}{m0:Mem}(hst:St φ0 m0 W) (hno:RO m0):
  ∃(u:V) (l:List α) (φ:Phi) (m:Mem),Ext φ0 φ/\Grow m0 m/\St φ m W/\RO m/\R φ u c0/\(Sl m u z (l.map E)\/(l.map E=[]/\u= .emp))/\(l=[]\/ ∃D sp,y0.1= .slice D sp/\D.length=l.length)/\ziN u:=by
 rcases Deep.open_slice ht g with ⟨hc,hy⟩|⟨a,len,cap,mm,n',D,Pl,hc,_,hl,hmx,hmm,hy,hel⟩
 ·simp only [List.cons.injEq,and_true] at hc
  subst hc;exact ⟨.nils,[],φ0,m0,Ext.refl _,Grow.refl _,hst,hno,by simp [R],.inl ⟨rfl,rfl⟩,.inl rfl,trivial⟩
 ·simp only [List.cons.injEq,and_true] at hc
  subst hc;simp only [if_true] at hmm;subst hmm
  by_cases hcap:mm=0
  ·subst hcap
   have hlen:len=0:=by omega
   subst hlen;exact ⟨.emp,[],φ0,m0,Ext.refl _,Grow.refl _,hst,hno,by simp only [R];exact ⟨a,rfl⟩,.inr ⟨rfl,rfl⟩,.inl rfl,trivial⟩
  ·obtain ⟨cs0,h0,_⟩:=hel 0 (by omega)
   rw [hz] at h0;obtain ⟨hs,c,t',fr,hc,hoff⟩:=zwd hz0 h0;obtain ⟨q,hq⟩:=Deep.choose_lt (α:=α) (n:=mm) (p:=fun i s=> ∃cs',W.cells? 0 (a.add (i*z)) z=some cs'/\ ∀φ,Rs φ (E s) cs') (fun i hi=>by
    obtain ⟨cs',e1,e2⟩:=hel i hi;rw [hz] at e1;have hlen:cs'.length=z:=(World.cells?_some e1).2.1;obtain ⟨q,hq⟩:=helem _ cs' _ hlen e2;exact ⟨q,cs',e1,hq⟩)
   obtain ⟨φ,s0,s1,s2,s3,s4⟩:=zjg hst hno (t:=t') (fr:=fr) (E:=fun i=>E (q i)) (z:=z) hz0 hs hc hoff hl hmx (fun i _=>hEz _) (fun φ _ i hi=>by obtain ⟨cs',a1,a2⟩:=hq i hi;exact ⟨cs',a1,a2 φ⟩);refine ⟨_,(List.range len).map q,φ,_,s0,(Grow.refl _).app,s1,s2,s3,.inl ⟨by rw [s4,List.map_map];rfl,by simp [zOk]⟩,.inr ⟨_,_,by rw [hy],by simp⟩,hl⟩
theorem zoK {W:World}{φ0:Phi}{m0:Mem}(hst:St φ0 m0 W) (hno:RO m0) (Q:Nat->Phi->Mem->List V->Prop) (hQ: ∀{i φ m φ' m' ev},Q i φ m ev->Ext φ φ'->Grow m m'->Q i φ' m' ev): ∀n:Nat,
  (∀i,i<n-> ∀φ m,Ext φ0 φ->Grow m0 m->St φ m W->RO m-> ∃ev φ' m',Ext φ φ'/\Grow m m'/\St φ' m' W/\RO m'/\Q i φ' m' ev)-> ∃(E:Nat->List V) (φ:Phi) (m:Mem),Ext φ0 φ/\Grow m0 m/\St φ m W/\RO m/\ ∀i,i<n->Q i φ m (E i)
 |0,_=>⟨fun _=>[],φ0,m0,Ext.refl _,Grow.refl _,hst,hno,fun i h=>by omega⟩
 |n+1,h=>by
  obtain ⟨E,φ,m,a1,a2,a3,a4,a5⟩:=zoK hst hno Q hQ n (fun i hi=>h i (by omega));obtain ⟨ev,φ',m',b1,b2,b3,b4,b5⟩:=h n (by omega) φ m a1 a2 a3 a4;refine ⟨fun i=>if i=n then ev else E i,φ',m',a1.trans b1,a2.trans b2,b3,b4,fun i hi=> ?_⟩
  by_cases hin:i=n
  ·subst hin;simpa using b5
  ·simp only [if_neg hin];exact hQ (a5 i (by omega)) b1 b2
end Go.AM
