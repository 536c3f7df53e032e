import Derived.Test.YtfhbhfogcgfeeaaGreatDoorHuG
import Derived.Test.YtfhbhfogcgfeeaaGreatDoorHkBa
set_option linter.unusedVariables false
set_option linter.unusedSimpArgs false
set_option maxRecDepth 100000
namespace Go.AM.G
open Go Go.AM
def GrC (lo:Nat) (M:Mem) (v:V) (vs:Nat->V) (qs:List (List Nat)):Prop:=(qs=[]/\v= .nils)\/ ∃b,v= .slice b 0 qs.length qs.length false 1/\GrO lo M b vs qs
theorem GrC.cell {lo:Nat}{M:Mem}{v:V}{vs:Nat->V}{qs:List (List Nat)}(h:GrC lo M v vs qs):v.isCell=true:=by
 rcases h with ⟨_,rfl⟩|⟨b,rfl,_⟩<;>rfl
theorem GrC.beq {lo:Nat}{M:Mem}{v:V}{vs:Nat->V}{qs:List (List Nat)}(h:GrC lo M v vs qs):V.beq v v=true:=by
 rcases h with ⟨_,rfl⟩|⟨b,rfl,_⟩
 ·rfl
 ·simp [V.beq]
theorem GrC.r {m M:Mem}{lo:Nat}{v:V}{vs:Nat->V}{qs:List (List Nat)}(h:GrC lo M v vs qs) (hl:m.length<=lo) (hg:Grow m M):GrR m M v qs:=by
 rcases h with ⟨rfl,rfl⟩|⟨b,rfl,h⟩
 ·exact .nil hg
 ·exact h.r hl hg
theorem GrC.to {lo:Nat}{M M':Mem}{v:V}{vs:Nat->V}{qs:List (List Nat)}(h:GrC lo M v vs qs) (k: ∀c y,lo<=c->M[c]? =some y->M'[c]? =some y):GrC lo M' v vs qs:=h.imp id fun ⟨b,e,h⟩=>⟨b,e,h.to k⟩
theorem GrC.row {lo:Nat}{M:Mem}{v:V}{vs:Nat->V}{qs:List (List Nat)}(h:GrC lo M v vs qs):(v= .nils/\zH qs.length (fun i=>[vs i])=[])\/ ∃b,v= .slice b 0 (zH qs.length (fun i=>[vs i])).length (zH qs.length (fun i=>[vs i])).length false 1/\M[b]? =some (.cells true (zH qs.length (fun i=>[vs i]))):=by
 rcases h with ⟨rfl,rfl⟩|⟨b,rfl,h⟩
 ·exact .inl ⟨rfl,rfl⟩
 ·exact .inr ⟨b,by simp,h.row⟩
theorem zq4 {m:Mem}{v u:V}{vs us:Nat->V}{qs rs:List (List Nat)}(h:zf7 m v vs qs) (k:zf7 m u us rs) (hn:qs.length<17592186044417) (hl: ∀i,i<qs.length->(qat qs i).length<17592186044417):C S zjb [.agg [v],.agg [u]] m (fun r m'=>r= .bool (decide (qs=rs))/\Grow m m'):=by
 have A:=h.s.ar;have B:=k.s.ar;have hh:=zU h;have kk:=zU k;have hl':=zU hl;obtain ⟨Q,eQ⟩: ∃Q,decide (qs=rs)=Q:=⟨_,rfl⟩
 have eQ':=zU eQ;rw [eQ];clear h k eQ hl
 by_cases c:qs.length=rs.length
 case neg=>
  have c1:((qs.length:Int)=(rs.length:Int))=False:=eq_false (by omega);have e:PLift (Q=false):=⟨by rw [<-eQ'.down];exact decide_eq_false fun e=>c (by rw [e])⟩
  clear c;refine fn rfl ?_;exact ⟨e.down.symm,_,rfl⟩
 have c1:((qs.length:Int)=(rs.length:Int))=True:=eq_true (by omega);have c':=zU c;clear c;refine fn rfl ?_;refine range (α:=Unit) qs.length (fun _=>[(2,.ptr m.length 0 0),(3,.ptr (m.length+1) 0 0)]) (fun j _ M=>(∃g,M=m++ .cells true [[v]]:: .cells true [[u]]::g)/\ ∀i,i<j->qat qs i=qat rs i) () ⟨⟨_,rfl⟩,fun i h=>absurd h (Nat.not_lt_zero _)⟩ ?_ ?_
 ·rintro j _ fr _ hj F ⟨⟨g,rfl⟩,hj2⟩
  have h1:=hh.down.app (g:= .cells true [[v]]:: .cells true [[u]]::g);have k1:=kk.down.app (g:= .cells true [[v]]:: .cells true [[u]]::g);have h2:=h1.s.ar;have k2:=k1.s.ar;have h3:=h1.e j hj;have hjr:j<rs.length:=by have:=c'.down;omega
  have k3:=k1.e j hjr;have h4:=h3.ar.2.1;have k4:=k3.ar.2.1;have k5:=k2.2.2.2.1 .i64 j hjr;have k6:=fun o k=>k2.2.2.2.2 j o k hjr
  have SW:=zlP (w:=nx (qat qs j)) (x:=nx (qat rs j)) h3 k3 (by have:=hl'.down j hj;omega);have SW':=zU SW;have hj2':=zU hj2;clear A B h1 k1 h3 k3 SW hj2;refine am ?_;refine SW'.down.mono ?_;rintro _ _ ⟨rfl,rfl⟩
  by_cases e:qat qs j=qat rs j
  ·have d:decide ((qat qs j).length=(qat rs j).length/\ ∀i,i<(qat qs j).length->nx (qat qs j) i=nx (qat rs j) i)=true:=decide_eq_true (by rw [e];exact ⟨rfl,fun _ _=>rfl⟩)
   rw [d];have e':=zU e;clear d e;refine am ?_;refine ⟨(),zh,⟨_,rfl⟩,fun i hi=> ?_⟩
   by_cases e:i=j
   ·rw [e];exact e'.down
   ·exact hj2'.down i (by omega)
  ·have d:decide ((qat qs j).length=(qat rs j).length/\ ∀i,i<(qat qs j).length->nx (qat qs j) i=nx (qat rs j) i)=false:=decide_eq_false fun ⟨h1,h2⟩=>e (by
    rw [<-zj2 (l:=qat qs j),<-zj2 (l:=qat rs j),<-h1];exact List.map_congr_left fun i hi=>h2 i (List.mem_range.1 hi))
   rw [d];have e2:PLift (Q=false):=⟨by rw [<-eQ'.down];exact decide_eq_false fun h=>e (by rw [h])⟩
   clear d e;refine am ?_;exact ⟨e2.down.symm,_,rfl⟩
 ·rintro _ fr _ F ⟨⟨g,rfl⟩,hj2⟩
  have e2:PLift (Q=true):=⟨by
   rw [<-eQ'.down];refine decide_eq_true (List.ext_getElem c'.down fun i h1 h2=> ?_);have:=hj2 i h1
   simpa [qat,List.getD_eq_getElem?_getD,h1,h2] using this⟩
  clear hj2;refine am ?_;exact ⟨e2.down.symm,_,rfl⟩
end Go.AM.G
