import Derived.Test.YtfhbhfogcgfeeaaGreatDoorAmDraw
import Derived.Shelf.SlSortCmp.WholeK
import Derived.Below
set_option linter.unusedVariables false
set_option linter.unusedSimpArgs false
namespace Go.AM
open Go
variable [HasLay]
theorem zsJ {P:Program}{f:FuncId}{args:List V}{v:V}{m1:Mem}(h:zfP P f args [] v m1) (ha: ∀φ cargs,Rs φ args cargs->Rs (fun _=>none) args cargs) (hv: ∀φ φ' cv,R φ v cv->R φ' v cv) (m:Mem):zfP P f args m v m:=by
 obtain ⟨he,h⟩:=h;refine ⟨he,fun φ w cargs hst hr=> ?_⟩;have h0:St (fun _=>none) [] w:=⟨⟨fun _ _=>rfl,fun b own els hb=>by simp at hb,fun b els b' own' els' p p' hb=>by simp at hb,fun b es hb=>by simp at hb,fun b es b' es' p p' hb=>by simp at hb⟩,hst.lay.nil⟩
 refine (h _ w cargs h0 (ha _ _ hr)).mono ?_;rintro e w' ⟨φ',cv,rfl,hs,hc⟩;have hfr: ∀B,B<w.heap.size->w'.heap[B]? =w.heap[B]? :=fun B hB=>(hs.frame B hB (by rintro (⟨b,els,p,hb,_⟩|⟨b,els,p,hb,_⟩)<;>simp at hb)).1
 obtain ⟨M1,M2,_⟩:=hst.maps (w':=w') (Ext.refl _) (fun _ _ h=>h) (fun B _ _ g=>(hfr B (Array.getElem?_eq_some_iff.1 g).1).trans g);refine ⟨φ,_,rfl,zfo.to hst ⟨Ext.refl _,⟨hst.fresh,fun b own els hb=> ?_,hst.excl,M1,M2⟩,Nat.le_refl _,hs.size,hs.os,hs.tape,hs.output,fun B hB hO=>⟨hfr B hB,hO⟩,fun _ _ _ h=>h⟩,hv _ _ _ hc⟩;obtain ⟨p,hp,hr⟩:=hst.blk b own els hb;exact ⟨p,hp,hr.world (Ext.refl _) (hfr _ hr.lt)⟩
theorem zuZ {P:Program}{f:FuncId}{m1:Mem}(h:zfP P f [] [] (.bool true) m1) (m:Mem):zfP P f [] m (.bool true) m:=zsJ h (fun _ _ h=>h) (fun _ _ _ h=>by simp only [R] at h ⊢; exact h) m
end Go.AM
namespace Go.AM
open Go
section
open Go.Sort
end
section
open Go.Sort
end
section
open Go.Sort
end
section
open Go.Sort
end
section
open Go.Sort
end
variable [HasLay]
open Go.Sort
end Go.AM
namespace Go.AM
open Go
variable [HasLay]
open Go.Sort
end Go.AM
namespace Go.AM
open Go Go.RowKit
variable [HasLay]
theorem Stp.below {φ:Phi}{m:Mem}{w w':World}(h:St φ m w) (hb:Below w.heap.size w w'):Stp φ m w φ m w':=by
 obtain ⟨M1,M2,_⟩:=h.maps (w':=w') (Ext.refl _) (fun _ _ h=>h) (fun B _ _ g=>(hb.block B (Array.getElem?_eq_some_iff.1 g).1).trans g);refine zfo.to h ⟨Ext.refl _,⟨h.fresh,fun b own els hb'=> ?_,h.excl,M1,M2⟩,Nat.le_refl _,hb.size,hb.os,hb.tape,hb.output,fun B hB hO=>⟨hb.block B hB,hO⟩,fun _ _ _ h=>h⟩;obtain ⟨p,hp,hr⟩:=h.blk b own els hb';exact ⟨p,hp,hr.world (Ext.refl _) (hb.block _ hr.lt)⟩
theorem Stp.behind {φ:Phi}{m:Mem}{w w':World}(h:St φ m w) (hbl:Below w.heap.size w w'){els:List (List V)}{z:Nat}(hwf:Wf z els){g:Nat}{c:Array Value}{e:TypeId}{a y:List Value}(hg:w.heap.size<=g)
  (hw:w'.heap[g]? =some (.cells c e (0,0))) (hc:c.toList=a++y) (ha:Rs φ els.flatten a):
  Stp φ m w (φ.set m.length ⟨g,0,z,c.size⟩) (m++[.cells true els]) w':=by
 have hn:=h.fresh m.length (Nat.le_refl _);have he:=Phi.set_ext ⟨g,0,z,c.size⟩ hn;have hold: ∀B,B<w.heap.size->w'.heap[B]? =w.heap[B]? :=hbl.block;have hlt: ∀{b own els p},m[b]? =some (.cells own els)->φ b=some p->p.blk<w.heap.size:=by
  intro b own els p hb hp;obtain ⟨q,hq,hr⟩:=h.blk b own els hb;rw [hp] at hq;cases hq;exact hr.lt
 obtain ⟨M1,M2,M3⟩:=h.maps (w':=w') (m':=m++[.cells true els]) he (fun b es hb=>by
  rcases mem_push hb with ⟨_,hb⟩|⟨_,hx⟩
  ·exact hb
  ·cases hx) (fun B _ _ g=>(hold B (Array.getElem?_eq_some_iff.1 g).1).trans g)
 refine zfo.to h ⟨he,⟨fun b hb=> ?_,fun b own els' hb=> ?_,fun b els1 b' own' els2 p p' hb hb' hne hp hp'=> ?_,M1,M2⟩,by simp,hbl.size,hbl.os,hbl.tape,hbl.output,fun B hB hO=>⟨hold B hB,?_⟩,fun b hb _ hnn=>by rw [Phi.set_other _ _ (by omega)];exact hnn⟩
 ·simp at hb
  rw [Phi.set_other _ _ (by omega)];exact h.fresh b (by omega)
 ·rcases mem_push hb with ⟨hlt',hb⟩|⟨rfl,hx⟩
  ·obtain ⟨p,hp,hr⟩:=h.blk b own els' hb
   exact ⟨p,he _ _ hp,hr.world he (hold _ hr.lt)⟩
  ·cases hx
   exact ⟨_,Phi.set_same _ _ _,hwf,c,e,(0,0),[],a,y,hw,rfl,fun _=>rfl,by simpa using hc,rfl,ha.ext he⟩
 ·rcases mem_push hb with ⟨hl1,hb⟩|⟨e1,hx⟩<;>rcases mem_push hb' with ⟨hl2,hb'⟩|⟨e2,hx'⟩
  ·rw [Phi.set_other _ _ (by omega)] at hp hp'
   exact h.excl b els1 b' own' els2 p p' hb hb' hne hp hp'
  ·rw [Phi.set_other _ _ (by omega)] at hp
   subst e2;rw [Phi.set_same] at hp';cases hp';have:=hlt hb hp
   simp;omega
  ·rw [Phi.set_other _ _ (by omega)] at hp'
   subst e1;rw [Phi.set_same] at hp;cases hp;have:=hlt hb' hp'
   simp;omega
  ·omega
 ·rintro (⟨b,els',p,hb,hp,rfl⟩|hM)
  ·rcases mem_push hb with ⟨hl,hb⟩|⟨rfl,hx⟩
   ·rw [Phi.set_other _ _ (by omega)] at hp
    exact hO (.inl ⟨b,els',p,hb,hp,rfl⟩)
   ·rw [Phi.set_same] at hp;cases hp
    exact absurd hB (Nat.not_lt.2 hg)
  ·exact hO (.inr (M3 _ hM))
end Go.AM
