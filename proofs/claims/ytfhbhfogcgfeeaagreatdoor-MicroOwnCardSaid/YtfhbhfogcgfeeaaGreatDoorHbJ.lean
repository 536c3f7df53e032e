import Derived.Test.YtfhbhfogcgfeeaaGreatDoorHbF
import Derived.LaidMore
import Derived.Stop.Joined
import Derived.Test.YtfhbhfogcgfeeaaGreatDoorHwA
set_option linter.unusedVariables false
set_option linter.unusedSimpArgs false
set_option maxRecDepth 100000
namespace Go.Proofs.YtfhbhfogcgfeeaaGreatDoor.HbF
open Go Go.AM Go.AM.G Go.RowKit
open Go.ChangeShapes Go.WideShapes Go.ChangeAt Go.RowKit
theorem trod_struct4 {H:Type}{enc:TypeId×Value->H}{P:Program}{w:World}{base:Nat}{spare:TypeId->Bool}{held:Bool}{t:TypeId}{f0 f1 f2 f3:Field}{fuel:Nat}{cs:List Value}{x:DataW H×List MemPlace}(ht:P.underlying t=some (.struct #[f0,f1,f2,f3])) (h:DataW.trod enc P w base spare held fuel t cs=some x):
  ∃y0 y1 y2 y3 n,x.1= .agg [y0.1,y1.1,y2.1,y3.1]/\DataW.trod enc P w base spare held n f0.type ((cs.drop f0.offset).take (P.cellsOf f0.type))=some y0/\DataW.trod enc P w base spare held n f1.type ((cs.drop f1.offset).take (P.cellsOf f1.type))=some y1/\
   DataW.trod enc P w base spare held n f2.type ((cs.drop f2.offset).take (P.cellsOf f2.type))=some y2/\DataW.trod enc P w base spare held n f3.type ((cs.drop f3.offset).take (P.cellsOf f3.type))=some y3:=by
 obtain ⟨xs,n,_,rfl,_,hlen,hf⟩:=DataW.trod_struct ht h
 match xs,hlen with
 | [y0,y1,y2,y3],_=>exact ⟨y0,y1,y2,y3,n,by simp,by simpa using hf 0 f0 rfl,by simpa using hf 1 f1 rfl,by simpa using hf 2 f2 rfl,by simpa using hf 3 f3 rfl⟩
theorem zon {m:Mem}{u:V}{z k:Nat}{f:Nat->List V}(h:Sl m u z ((List.range k).map f)):Rd m u z k f:= .inl h
theorem zsp {H:Type}{enc:TypeId×Value->H}{W:World}{base n:Nat}{c0 c1 c2 c3:Value}{y:DataW H×List MemPlace}(h0:Cell.okWide Tryz.prog W .any base 22 c0) (h2:Cell.okWide Tryz.prog W .any base 22 c2) (h3:Cell.okWide Tryz.prog W .any base 29 c3) (g:DataW.trod enc Tryz.prog W 0 (fun _=>true) true n 31 [c0,c1,c2,c3]=some y) (wle: ∀x,x∈DataW.weights Tryz.prog 31 y.1->x<=0x7ffffffff000){φ0:Phi}{m0:Mem}(hst:St φ0 m0 W) (hno:RO m0):
  ∃(aw uw sv:V) (va vm:Nat->V) (l:zm) (φ:Phi) (m:Mem),Ext φ0 φ/\Grow m0 m/\St φ m W/\RO m/\Rs φ (z8 l aw uw sv) [c0,c1,c2,c3]/\zdo m aw uw sv va vm l/\V.beq aw aw=true/\V.beq uw uw=true/\V.beq sv sv=true/\l.ns*96<=140737488355328:=by
 have h24:Tryz.prog.cellsOf 24=1:=by kernel_rfl
 have h28:Tryz.prog.cellsOf 28=2:=by kernel_rfl
 have h29:Tryz.prog.cellsOf 29=1:=by kernel_rfl
 have h26:Tryz.prog.cellsOf 26=2:=by kernel_rfl
 have h22:Tryz.prog.cellsOf 22=1:=by kernel_rfl
 have hI:Tryz.prog.cellsOf 3=1:=by kernel_rfl
 have hb51:Tryz.prog.bytesOf 60=8:=by kernel_rfl
 have hb137:Tryz.prog.bytesOf 107=96:=by kernel_rfl
 obtain ⟨y0,y1,y2,n,hx,_,g0,g1,g2⟩:=Deep.trod_struct3 Tryz.underlying31 g;simp only [h24,h28,h29] at g0 g1 g2;have g0':DataW.trod enc Tryz.prog W 0 (fun _=>true) true n 24 [c0]=some y0:=g0;have g1':DataW.trod enc Tryz.prog W 0 (fun _=>true) true n 28 [c1,c2]=some y1:=g1;have g2':DataW.trod enc Tryz.prog W 0 (fun _=>true) true n 29 [c3]=some y2:=g2;have hy:y.1= .agg [y0.1,y1.1,y2.1]:=by rw [hx]
 rw [hy] at wle;obtain ⟨z0,n0,hz0,_,k0⟩:=trod_struct1 Tryz.underlying24 g0';simp only [h22] at k0;have k0':DataW.trod enc Tryz.prog W 0 (fun _=>true) true n0 22 [c0]=some z0:=k0;obtain ⟨z1,n1,hz1,_,k1⟩:=trod_struct1 Tryz.underlying28 g1';simp only [h26] at k1;have k1':DataW.trod enc Tryz.prog W 0 (fun _=>true) true n1 26 [c1,c2]=some z1:=k1;obtain ⟨z2,z3,n2,hz2,_,k2,k3⟩:=trod_struct2 Tryz.underlying26 k1';simp only [hI,h22] at k2 k3;have k2':DataW.trod enc Tryz.prog W 0 (fun _=>true) true n2 3 [c1]=some z2:=k2;have k3':DataW.trod enc Tryz.prog W 0 (fun _=>true) true n2 22 [c2]=some z3:=k3;obtain ⟨x1,e1,_,_⟩:=DataW.trod_int Tryz.underlying3 k2';simp only [List.cons.injEq,and_true] at e1;subst e1;obtain ⟨aw,na,wa,φ1,m1,a1,a2,a3,a4,a5,a6,a7,a8,a9⟩:=zgW h0 k0' hst hno;obtain ⟨uw,nu,wu,φ2,m2,b1,b2,b3,b4,b5,b6,b7,b8,b9⟩:=zgW h2 k3' a3 a4;obtain ⟨sv,ns,q,φ3,m3,s1,s2,s3,s4,s5,s6,s7,s8⟩:=zso h3 g2' b3 b4;have wE: ∀(i:Nat) t d,([24,28,29]:List TypeId)[i]? =some t->([y0.1,y1.1,y2.1]:List (DataW H))[i]? =some d-> ∀x,x∈DataW.weights Tryz.prog t d->x<=0x7ffffffff000:=fun i t d h1 h2 x hx=>wle x (by
  rw [DataW.weights.eq_def];simp only [Tryz.underlying31,List.map_cons,List.map_nil,Array.toList];exact DataW.weights_mem_each (j:=i) h1 h2 x hx)
 have hna:na<17592186044417:=by
  rcases a9 with rfl|⟨D,sp,e1,e2⟩
  ·decide
  ·have:=wE 0 24 y0.1 rfl rfl ((D.length+sp.length)*Tryz.prog.bytesOf 60) (by rw [hz0,e1];simp [DataW.weights,Tryz.underlying24,DataW.weightsEach,Tryz.underlying22])
   rw [hb51] at this;omega
 have hnu:nu<17592186044417:=by
  rcases b9 with rfl|⟨D,sp,e1,e2⟩
  ·decide
  ·have:=wE 1 28 y1.1 rfl rfl ((D.length+sp.length)*Tryz.prog.bytesOf 60) (by rw [hz1,hz2,e1];simp [DataW.weights,Tryz.underlying28,DataW.weightsEach,Tryz.underlying26,Tryz.underlying22])
   rw [hb51] at this;omega
 have hns:ns*96<=140737488355328:=by
  rcases s8 with rfl|⟨D,sp,e1,e2,_⟩
  ·decide
  ·have:=wE 2 29 y2.1 rfl rfl ((D.length+sp.length)*Tryz.prog.bytesOf 107) (by rw [e1];simp [DataW.weights,Tryz.underlying29])
   rw [hb137] at this;omega
 have hin: ∀i,i<ns->(q i).1.al.n<17592186044417/\(q i).1.mr.n<17592186044417:=by
  intro i hi;rcases s8 with rfl|⟨D,sp,e1,e2,e3⟩
  ·omega
  ·obtain ⟨d,hdi,hA,hM⟩:=e3 i hi
   have wi: ∀x,x∈DataW.weights Tryz.prog 107 d->x<=0x7ffffffff000:=fun x hx=>wE 2 29 y2.1 rfl rfl x (by
    rw [e1];simp only [DataW.weights,Tryz.underlying29,List.mem_cons,List.mem_append];exact .inr (.inl (zee (List.mem_of_getElem? hdi) _ hx)))
   constructor
   ·rcases hA with h0|⟨d0,d1,d2,dn,D',sp',dm,d7,h1,h2⟩
    ·rw [h0];decide
    ·have:=wi ((D'.length+sp'.length)*Tryz.prog.bytesOf 60) (by rw [h1];simp [DataW.weights,Tryz.underlying107,DataW.weightsEach,Tryz.underlying26,Tryz.underlying22])
     rw [hb51] at this;omega
   ·rcases hM with h0|⟨d0,d1,d2,da,dn,D',sp',d7,h1,h2⟩
    ·rw [h0];decide
    ·have:=wi ((D'.length+sp'.length)*Tryz.prog.bytesOf 60) (by rw [h1];simp [DataW.weights,Tryz.underlying107,DataW.weightsEach,Tryz.underlying26,Tryz.underlying22])
     rw [hb51] at this;omega
 refine ⟨aw,uw,sv,fun i=>(q i).2.1,fun i=>(q i).2.2,⟨na,wa,⟨x1,nu,wu⟩,ns,fun i=>(q i).1⟩,φ3,m3,(a1.trans b1).trans s1,(a2.trans b2).trans s2,s3,s4,?_,?_,a6.beq',b6.beq',s6.beq',hns⟩
 ·exact Rs.cons (a5.ext (b1.trans s1)) (Rs.cons R.int (Rs.cons (b5.ext s1) (Rs.one s5)))
 ·refine ⟨((zon a6).grow b2).grow s2,(zon b6).grow s2,⟨zon s6,fun i hi=> ?_⟩,a7,b7,hna,hnu,by show ns<_;omega,a8⟩
  obtain ⟨h1,h2,h3,h4⟩:=s7 i hi;exact ⟨h1,h2,h3,h4,(hin i hi).1,(hin i hi).2⟩
instance:Inhabited zab:=⟨hand0⟩
theorem zuK {H:Type}{enc:TypeId×Value->H}{W:World}(k:Nat) (cs:List Value) (x:DataW H×List MemPlace) (hl:cs.length=7) (ee:DataW.trod enc Tryz.prog W 0 (fun _=>true) true k 64 cs=some x): ∃q:zab,True/\ ∀φ,Rs φ (zC q) cs:=by
 have h59:Tryz.prog.cellsOf 59=1:=by kernel_rfl
 have h60:Tryz.prog.cellsOf 60=1:=by kernel_rfl
 have h62:Tryz.prog.cellsOf 62=2:=by kernel_rfl
 have h3:Tryz.prog.cellsOf 3=1:=by kernel_rfl
 obtain ⟨y0,y1,y2,y3,y4,y5,n,hx,g0,g1,g2,g3,g4,g5⟩:=zjd Tryz.underlying64 ee;simp only [h59,h60,h62,h3] at g0 g1 g2 g3 g4 g5
 match cs,hl with
 | [b0,b1,b2,b3,b4,b5,b6],_=>
  have g0':DataW.trod enc Tryz.prog W 0 (fun _=>true) true n 59 [b0]=some y0:=g0;have g1':DataW.trod enc Tryz.prog W 0 (fun _=>true) true n 60 [b1]=some y1:=g1;have g2':DataW.trod enc Tryz.prog W 0 (fun _=>true) true n 62 [b2,b3]=some y2:=g2;have g3':DataW.trod enc Tryz.prog W 0 (fun _=>true) true n 3 [b4]=some y3:=g3;have g4':DataW.trod enc Tryz.prog W 0 (fun _=>true) true n 60 [b5]=some y4:=g4;have g5':DataW.trod enc Tryz.prog W 0 (fun _=>true) true n 60 [b6]=some y5:=g5;obtain ⟨z0,z1,n2,_,_,k2,k3⟩:=trod_struct2 Tryz.underlying62 g2';simp only [h3,h60] at k2 k3;have k2':DataW.trod enc Tryz.prog W 0 (fun _=>true) true n2 3 [b2]=some z0:=k2;have k3':DataW.trod enc Tryz.prog W 0 (fun _=>true) true n2 60 [b3]=some z1:=k3;obtain ⟨v0,e0,_,w0⟩:=DataW.trod_int Tryz.underlying59 g0';obtain ⟨v1,e1,_,w1⟩:=DataW.trod_int Tryz.underlying60 g1';obtain ⟨v2,e2,_,w2⟩:=DataW.trod_int Tryz.underlying3 k2';obtain ⟨v3,e3,_,w3⟩:=DataW.trod_int Tryz.underlying60 k3';obtain ⟨v4,e4,_,w4⟩:=DataW.trod_int Tryz.underlying3 g3';obtain ⟨v5,e5,_,w5⟩:=DataW.trod_int Tryz.underlying60 g4';obtain ⟨v6,e6,_,w6⟩:=DataW.trod_int Tryz.underlying60 g5';simp only [List.cons.injEq,and_true] at e0 e1 e2 e3 e4 e5 e6;subst e0 e1 e2 e3 e4 e5 e6;simp [Lit.wf,IntKind.min,IntKind.max,IntKind.signed,IntKind.bits] at w0 w1 w3 w5 w6;have c0:((v0.toNat:Nat):Int)=v0:=by omega
  have c1:((v1.toNat:Nat):Int)=v1:=by omega
  have c3:((v3.toNat:Nat):Int)=v3:=by omega
  have c5:((v5.toNat:Nat):Int)=v5:=by omega
  have c6:((v6.toNat:Nat):Int)=v6:=by omega
  refine ⟨⟨v0.toNat,v1.toNat,v2,v3.toNat,v4,v5.toNat,v6.toNat⟩,trivial,fun φ=> ?_⟩;unfold zC;simp only [c0,c1,c3,c5,c6];exact Rs.cons R.int (Rs.cons R.int (Rs.cons R.int (Rs.cons R.int (Rs.cons R.int (Rs.cons R.int (Rs.one R.int))))))
theorem zye {k:Nat}{w:Nat->Nat}:(List.range ((List.range k).map w).length).map (fun i=>[V.int .u64 (nx ((List.range k).map w) i:Nat)])=(List.range k).map (zB w):=by
 rw [List.length_map,List.length_range];refine List.map_congr_left fun i hi=> ?_
 have hi':=List.mem_range.1 hi;simp [nx,zB,hi']
def QvQ {H:Type}(φ:Phi) (m:Mem) (ev:List V) (x:List Nat×V) (cs:List Value) (d:DataW H):Prop:=Rs φ ev cs/\ev=[x.2]/\x.2.isCell=true/\Nus m x.2 x.1/\(x.1=[]\/ ∃D sp,d= .slice D sp/\D.length=x.1.length)
theorem QvQ.mono {H:Type}{φ φ':Phi}{m m':Mem}{ev:List V}{x:List Nat×V}{cs:List Value}{d:DataW H}(h:QvQ φ m ev x cs d) (hx:Ext φ φ') (hg:Grow m m'):QvQ φ' m' ev x cs d:=by
 obtain ⟨a,b,c,e,r⟩:=h;exact ⟨a.ext hx,b,c,e.grow hg,r⟩
theorem zsq {H:Type}{enc:TypeId×Value->H}{W:World}{n:Nat}{cs:List Value}{x:DataW H×List MemPlace}(hl:cs.length=1) (g:DataW.trod enc Tryz.prog W 0 (fun _=>true) true n 22 cs=some x){φ0:Phi}{m0:Mem}(hst:St φ0 m0 W) (hno:RO m0):
  ∃(ev:List V) (s:List Nat×V) (φ:Phi) (m:Mem),Ext φ0 φ/\Grow m0 m/\St φ m W/\RO m/\QvQ φ m ev s cs x.1:=by
 match cs,hl with
 | [c],_=>
  obtain ⟨u,k,w,φ,m,a1,a2,a3,a4,a5,a6,a7,_,a9⟩:=zin g hst hno;refine ⟨[u],((List.range k).map w,u),φ,m,a1,a2,a3,a4,Rs.one a5,rfl,a6.ar.2.1,?_,?_⟩
  ·rcases a6 with h|⟨h0,h1⟩
   ·refine .inl ?_
    rw [zye];exact h
   ·subst h0
    exact .inr ⟨rfl,h1⟩
  ·rcases a9 with rfl|⟨D,sp,e1,e2⟩
   ·exact .inl rfl
   ·exact .inr ⟨D,sp,e1,by simpa using e2⟩
theorem zqJ {H:Type}{enc:TypeId×Value->H}{W:World}{base n:Nat}{c0:Value}{y0:DataW H×List MemPlace}(hok:Cell.okWide Tryz.prog W .any base 32 c0) (g:DataW.trod enc Tryz.prog W 0 (fun _=>true) true n 32 [c0]=some y0){φ0:Phi}{m0:Mem}(hst:St φ0 m0 W) (hno:RO m0):
  ∃(u:V) (k:Nat) (q:Nat->List Nat×V) (φ:Phi) (m:Mem),Ext φ0 φ/\Grow m0 m/\St φ m W/\RO m/\R φ u c0/\Sl m u 1 ((List.range k).map fun i=>[(q i).2])/\(∀i,i<k->Nus m (q i).2 (q i).1)/\
   (k=0\/ ∃D sp,y0.1= .slice D sp/\D.length=k/\ ∀i,i<k-> ∃d,D[i]? =some d/\((q i).1=[]\/ ∃D' sp',d= .slice D' sp'/\D'.length=(q i).1.length)):=by
 have hz:Tryz.prog.cellsOf 22=1:=by kernel_rfl
 rcases Deep.open_slice Tryz.underlying32 g with ⟨hc,hy⟩|⟨a,len,cap,mm,n',D,Pl,hc,_,hl,hmx,hmm,hy,hel⟩
 ·simp only [List.cons.injEq,and_true] at hc
  subst hc;exact ⟨.nils,0,fun _=>([],.nils),φ0,m0,Ext.refl _,Grow.refl _,hst,hno,by simp [R],⟨rfl,rfl⟩,fun i h=>absurd h (Nat.not_lt_zero _),.inl rfl⟩
 ·simp only [List.cons.injEq,and_true] at hc
  subst hc;simp only [if_true] at hmm;subst hmm;have hhas:W.has Tryz.prog .any base a 22 mm:=by
   simp only [Cell.okWide,Tryz.underlying32,Cell.ok] at hok;exact hok.2.2
  obtain ⟨hs,c,t',fr,hc,hoff⟩:=zjY hhas;rw [hz] at hel;obtain ⟨E,φ1,m1,a1,a2,a3,a4,a5⟩:=zjZ hst hno (fun i φ m ev=> ∃cs',W.cells? 0 (a.add (i*1)) 1=some cs'/\ ∃nd,QvQ φ m ev nd cs' (D i)) (fun ⟨cs',h1,nd,h2⟩ hx hg=>⟨cs',h1,nd,h2.mono hx hg⟩) mm (fun i hi φ m _ _ hs' hr'=>by
   obtain ⟨cs',e1,e2⟩:=hel i hi;obtain ⟨ev,nd,φ',m',b1,b2,b3,b4,b5⟩:=zsq (World.cells?_some e1).2.1 e2 hs' hr';exact ⟨ev,φ',m',b1,b2,b3,b4,cs',e1,nd,b5⟩)
  obtain ⟨q,hq⟩:=Deep.choose_lt (α:=List Nat×V) (n:=mm) (p:=fun i nd=> ∃cs',W.cells? 0 (a.add (i*1)) 1=some cs'/\QvQ φ1 m1 (E i) nd cs' (D i)) (fun i hi=>by
   obtain ⟨cs',e1,nd,e2⟩:=a5 i hi;exact ⟨nd,cs',e1,e2⟩)
  obtain ⟨φ,s0,s1,s2,s3,s4⟩:=zfT a3 a4 (t:=t') (fr:=fr) (E:=E) (z:=1) (by decide) hs hc hoff hl hmx (fun i hi=>by
   obtain ⟨cs',_,_,e,c1,_⟩:=hq i hi;rw [e];refine ⟨rfl,?_⟩;intro v hv;simp only [List.mem_cons,List.not_mem_nil,or_false] at hv;rw [hv];exact c1) (fun φ' hx i hi=>by obtain ⟨cs',e1,e2,_⟩:=hq i hi;exact ⟨cs',e1,e2.ext hx⟩)
  refine ⟨_,len,q,φ,_,a1.trans s0,a2.trans (Grow.refl _).app,s1,s2,s3,⟨?_,by simp [zOk]⟩,fun i hi=> ?_,.inr ⟨_,_,by rw [hy],by simp,fun i hi=> ?_⟩⟩
  ·rw [s4]
   congr 1
   refine List.map_congr_left fun i hi=> ?_
   obtain ⟨_,_,_,e,_⟩:=hq i (by have:=List.mem_range.1 hi;omega);exact e
  ·obtain ⟨_,_,_,_,_,h1,_⟩:=hq i (by omega)
   exact Rd.app h1
  ·obtain ⟨_,_,_,_,_,_,h5⟩:=hq i (by omega)
   exact ⟨D i,by rw [List.getElem?_map,List.getElem?_range hi];rfl,h5⟩
end Go.Proofs.YtfhbhfogcgfeeaaGreatDoor.HbF
namespace Go.Proofs.YtfhbhfogcgfeeaaGreatDoor.HbF
open Go Go.AM Go.AM.G Go.RowKit
open Go.ChangeShapes Go.WideShapes Go.ChangeAt Go.RowKit
def zwp (m:Mem) (u:V) (X:MiA):Prop:= ∃aw uw sv mv qv hv va vm vs,u= .agg (miV X aw uw sv mv qv hv)/\zdu m aw uw sv mv qv hv va vm vs X
theorem zwp.grow {m m':Mem}{u:V}{X:MiA}(h:zwp m u X) (hg:Grow m m'):zwp m' u X:=by
 obtain ⟨aw,uw,sv,mv,qv,hv,va,vm,vs,e,h⟩:=h;obtain ⟨g,rfl⟩:=hg;exact ⟨aw,uw,sv,mv,qv,hv,va,vm,vs,e,h.app⟩
theorem zwq {φ:Phi}{c:List V}{d:List Value}(k:Rs φ c d): ∀{a:List V}{b:List Value},Rs φ a b->Rs φ (a++c) (b++d)
 | [],b,h=>by
  simp only [Rs] at h;subst h;exact k
 |v::a,b,h=>by
  simp only [Rs] at h;obtain ⟨x,bs,rfl,h1,h2⟩:=h;exact Rs.cons h1 (zwq k h2)
theorem read_micro {H:Type}{enc:TypeId×Value->H}{W:World}{base:Nat}{v:Value}{d:DataW H}{ps:List MemPlace}{ts:List TypeId}{ds:List (DataW H)}{j:Nat}(hv:Value.okWide Tryz.prog W .any base 37 v) (h:DataW.Trod enc Tryz.prog W 0 (fun _=>true) true 37 v d ps) (hsz:(DataW.weightsEach Tryz.prog ts ds).all (· <=reachBytes)=true) (ht:ts[j]? =some 37) (hd:ds[j]? =some d){φ0:Phi}{m0:Mem}(hst:St φ0 m0 W) (hno:RO m0):
  ∃(u:V) (l:MiA) (φ:Phi) (m:Mem),Ext φ0 φ/\Grow m0 m/\St φ m W/\RO m/\R φ u v/\zwp m u l/\True:=by
 simp only [Value.okWide,Tryz.underlying37] at hv;obtain ⟨cs,rfl,hsz1,ts',hts,_,hcell⟩:=hv;have hts':ts'=[22,3,22,29,22,32,35]:=by
  have:Tryz.prog.cellTypes Tryz.prog.depth 37=some [22,3,22,29,22,32,35]:=by kernel_rfl
  rw [this] at hts;cases hts;rfl
 subst hts';have h37:Tryz.prog.cellsOf 37=7:=by kernel_rfl
 have h31:Tryz.prog.cellsOf 31=4:=by kernel_rfl
 have h34:Tryz.prog.cellsOf 34=1:=by kernel_rfl
 have h35:Tryz.prog.cellsOf 35=1:=by kernel_rfl
 have h32:Tryz.prog.cellsOf 32=1:=by kernel_rfl
 have h22:Tryz.prog.cellsOf 22=1:=by kernel_rfl
 have hb60:Tryz.prog.bytesOf 60=8:=by kernel_rfl
 have hb22:Tryz.prog.bytesOf 22=24:=by kernel_rfl
 have hb64:Tryz.prog.bytesOf 64=56:=by kernel_rfl
 rw [h37] at hsz1;obtain ⟨c0,c1,c2,c3,c4,c5,c6,rfl⟩: ∃c0 c1 c2 c3 c4 c5 c6,cs= #[c0,c1,c2,c3,c4,c5,c6]:=by
  obtain ⟨l⟩:=cs
  match l,hsz1 with
  | [c0,c1,c2,c3,c4,c5,c6],_=>exact ⟨c0,c1,c2,c3,c4,c5,c6,rfl⟩
 obtain ⟨t0,e0,ok0⟩:=hcell 0 c0 rfl;obtain ⟨t2,e2,ok2⟩:=hcell 2 c2 rfl;obtain ⟨t3,e3,ok3⟩:=hcell 3 c3 rfl;obtain ⟨t4,e4,ok4⟩:=hcell 4 c4 rfl;obtain ⟨t5,e5,ok5⟩:=hcell 5 c5 rfl;obtain ⟨t6,e6,ok6⟩:=hcell 6 c6 rfl;simp at e0 e2 e3 e4 e5 e6;subst e0 e2 e3 e4 e5 e6;obtain ⟨fuel,hf⟩:=h;obtain ⟨y0,y1,y2,y3,n,hx,g0,g1,g2,g3⟩:=trod_struct4 Tryz.underlying37 hf;simp only [h31,h22,h34,h35] at g0 g1 g2 g3;have g0':DataW.trod enc Tryz.prog W 0 (fun _=>true) true n 31 [c0,c1,c2,c3]=some y0:=g0;have g1':DataW.trod enc Tryz.prog W 0 (fun _=>true) true n 22 [c4]=some y1:=g1;have g2':DataW.trod enc Tryz.prog W 0 (fun _=>true) true n 34 [c5]=some y2:=g2;have g3':DataW.trod enc Tryz.prog W 0 (fun _=>true) true n 35 [c6]=some y3:=g3;have hx':d= .agg [y0.1,y1.1,y2.1,y3.1]:=hx;subst hx';obtain ⟨z2,n2,hz2,_,k2⟩:=trod_struct1 Tryz.underlying34 g2';simp only [h32] at k2;have k2':DataW.trod enc Tryz.prog W 0 (fun _=>true) true n2 32 [c5]=some z2:=k2;have w0:=fun x hx=>DataW.weights_mem_each (P:=Tryz.prog) ht hd x hx
 have wle: ∀x,x∈DataW.weights Tryz.prog 37 (.agg [y0.1,y1.1,y2.1,y3.1])->x<=0x7ffffffff000:=fun x hx=>of_decide_eq_true (List.all_eq_true.1 hsz _ (w0 x hx))
 have wE: ∀(i:Nat) t d,([31,22,34,35]:List TypeId)[i]? =some t->([y0.1,y1.1,y2.1,y3.1]:List (DataW H))[i]? =some d-> ∀x,x∈DataW.weights Tryz.prog t d->x<=0x7ffffffff000:=fun i t d h1 h2 x hx=>wle x (by
  rw [DataW.weights.eq_def];simp only [Tryz.underlying37,List.map_cons,List.map_nil,Array.toList];exact DataW.weights_mem_each (j:=i) h1 h2 x hx)
 obtain ⟨aw,uw,sv,va,vm,Hp,φ1,m1,a1,a2,a3,a4,a5,a6,a7,a8,a9,a10⟩:=zsp ok0 ok2 ok3 g0' (wE 0 31 y0.1 rfl rfl) hst hno;obtain ⟨mv,nm,mw,φ2,m2,b1,b2,b3,b4,b5,b6,b7,b8,b9⟩:=zgW ok4 g1' a3 a4;obtain ⟨qv,nq,q,φ3,m3,s1,s2,s3,s4,s5,s6,s7,s8⟩:=zqJ ok5 k2' b3 b4;obtain ⟨hv,l,φ4,m4,d1,d2,d3,d4,d5,d6,_,d7,d8⟩:=zi1 (e:=64) Tryz.underlying35 (z:=7) (by kernel_rfl) (by decide) ok6 g3' (fun _=>True) zC (fun x=>⟨rfl,by simp [V.isCell]⟩) zuK s3 s4;have hnm:nm<17592186044417:=by
  rcases b9 with rfl|⟨D,sp,e1,e2⟩
  ·decide
  ·have:=wE 1 22 y1.1 rfl rfl ((D.length+sp.length)*Tryz.prog.bytesOf 60) (by rw [e1];simp [DataW.weights,Tryz.underlying22])
   rw [hb60] at this;omega
 have hnq:nq*24<=140737488355328:=by
  rcases s8 with rfl|⟨D,sp,e1,e2,_⟩
  ·decide
  ·have:=wE 2 34 y2.1 rfl rfl ((D.length+sp.length)*Tryz.prog.bytesOf 22) (by rw [hz2,e1];simp [DataW.weights,Tryz.underlying34,DataW.weightsEach,Tryz.underlying32])
   rw [hb22] at this;omega
 have hnl: ∀i,i<nq->(q i).1.length<17592186044417:=by
  intro i hi;rcases s8 with rfl|⟨D,sp,e1,e2,e3⟩
  ·omega
  ·obtain ⟨dd,hdi,hA⟩:=e3 i hi
   rcases hA with h0|⟨D',sp',h1,h2⟩
   ·rw [h0];decide
   ·have:=wE 2 34 y2.1 rfl rfl ((D'.length+sp'.length)*Tryz.prog.bytesOf 60) (by
     rw [hz2,e1];simp only [DataW.weights,Tryz.underlying34,DataW.weightsEach,Tryz.underlying32,List.map_cons,List.map_nil,Array.toList,List.mem_cons,List.mem_append];refine .inl (.inr (.inl (zee (List.mem_of_getElem? hdi) _ ?_)));rw [h1];simp [DataW.weights,Tryz.underlying22])
    rw [hb60] at this;omega
 have hnd:l.length*56<=140737488355328:=by
  rcases d7 with rfl|⟨D,sp,e1,e2⟩
  ·decide
  ·have:=wE 3 35 y3.1 rfl rfl ((D.length+sp.length)*Tryz.prog.bytesOf 64) (by rw [e1];simp [DataW.weights,Tryz.underlying35])
   rw [hb64] at this;omega
 have hql:((List.range nq).map fun i=>(q i).1).length=nq:=by simp
 have hqa: ∀i,i<nq->qat ((List.range nq).map fun i=>(q i).1) i=(q i).1:=fun i hi=>by
  unfold qat;rw [List.getD_eq_getElem?_getD,List.getElem?_map,List.getElem?_range hi];rfl
 have hhl:l.map zC=(List.range l.length).map fun i=>zC (hat l i):=by
  refine List.ext_getElem (by simp) fun i h1 h2=> ?_
  have h:i<l.length:=by simpa using h1
  simp [hat,List.getD_eq_getElem?_getD,h]
 rw [hhl] at d6;refine ⟨.agg (miV ⟨Hp,nm,mw,(List.range nq).map fun i=>(q i).1,l⟩ aw uw sv mv qv hv),⟨Hp,nm,mw,(List.range nq).map fun i=>(q i).1,l⟩,φ4,m4,((a1.trans b1).trans s1).trans d1,((a2.trans b2).trans s2).trans d2,d3,d4,?_,⟨aw,uw,sv,mv,qv,hv,va,vm,fun i=>(q i).2,rfl,?_⟩,trivial⟩
 ·unfold R
  refine ⟨[c0,c1,c2,c3,c4,c5,c6],rfl,?_⟩;exact zwq (Rs.cons (b5.ext (s1.trans d1)) (Rs.cons (s5.ext d1) (Rs.one d5))) (a5.ext ((b1.trans s1).trans d1))
 ·obtain ⟨G2,rfl⟩:=b2
  obtain ⟨G3,rfl⟩:=s2;obtain ⟨G4,rfl⟩:=d2;refine ⟨a6.app.app.app,(zon b6).app.app,⟨?_,fun i hi=> ?_⟩,zon d6,b7,hnm,?_,fun i hi=> ?_,hnd,a10,a7,a8,a9,b6.beq',s6.beq',d6.beq'⟩
  ·rw [hql];exact (zon s6).app
  ·rw [hql] at hi
   rw [hqa i hi];exact Rd.app (s7 i hi)
  ·rw [hql];exact hnq
  ·rw [hql] at hi
   rw [hqa i hi];exact hnl i hi
end Go.Proofs.YtfhbhfogcgfeeaaGreatDoor.HbF
namespace Go.Proofs.YtfhbhfogcgfeeaaGreatDoor.HbF
open Go Go.AM Go.AM.G Go.RowKit
abbrev laidB:List (String×DataW Unit):=[("math/bits.deBruijn64tab",Rows.laid_math_bits_deBruijn64tab)]
theorem zyE:Tryz.prog.globalNamed "math/bits.deBruijn64tab" =some 0:=by kernel_rfl
theorem zyW:(Tryz.prog.globals[0]?).map (·.type)=some 301:=by kernel_rfl
theorem door_met (os:Os) (args:Array Value):laidMetH Tryz.prog laidB ((World.doorLaid Tryz.prog 14 os).forCall (fun _ _=>0) ⟨#[],args,[]⟩).memory:=
 laidMetH_of_parts3 (fuel:=8) (laidMet_of_run' 8 (by kernel_rfl) (by kernel_rfl)) (by kernel_rfl) (by kernel_rfl)
theorem zwr {H:Type}:(Rows.laid_math_bits_deBruijn64tab:DataW H)= .agg (Lib.deBruijn64tab.map fun n:Nat=> .lit (.int .u8 (n:Int))):=rfl
theorem lay_of {W:World}(h:laidMetH Tryz.prog laidB W):Lay (fun _=>none) [] W:=by
 rw [MakeChecks.laidMetH_plain _ _ _ (by kernel_rfl)] at h;obtain ⟨ps,⟨g0,t0,cs0,f0,p0,q0,hg0,ht0,hv0,hd0,_,_⟩,_,_⟩:=h;obtain rfl:=Option.some.inj (zyE.symm.trans hg0);obtain rfl:=Option.some.inj (zyW.symm.trans ht0);have c5:Tryz.prog.cellsOf 5=1:=by kernel_rfl
 obtain ⟨xs,m1,rfl,hx1,hlen,hn3,hel⟩:=DataW.trod_array Tryz.underlying301 hd0;simp only [Prod.mk.injEq] at hx1;have hx1:=hx1.1;rw [zwr] at hx1;simp only [DataW.agg.injEq] at hx1;have hcell: ∀j,j<64->cs0[j]? =some (.int .u8 (Lib.deBruijn64tab.getD j 0)):=by
  intro j hj;have hl:Lib.deBruijn64tab.length=64:=rfl;have h1:(Lib.deBruijn64tab.map fun n:Nat=>(DataW.lit (.int .u8 (n:Int)):DataW Unit))[j]? =some (.lit (.int .u8 ((Lib.deBruijn64tab.getD j 0:Nat):Int))):=by
   rw [List.getElem?_map,List.getElem?_eq_getElem (by omega),List.getD_eq_getElem?_getD,List.getElem?_eq_getElem (by omega)];rfl
  rw [hx1,List.getElem?_map,Option.map_eq_some_iff] at h1;obtain ⟨x,hx,e⟩:=h1;have h2:=hel j hj;rw [hx,c5,Nat.mul_one] at h2;obtain ⟨k,e1,e2,_⟩:=DataW.trod_int Tryz.underlying5 h2;rw [e2] at e;simp at e;subst e;have h3:(cs0.toList.drop j)[0]? =some (.int .u8 ((Lib.deBruijn64tab.getD j 0:Nat):Int)):=by
   have:((cs0.toList.drop j).take 1)[0]? =some (.int .u8 ((Lib.deBruijn64tab.getD j 0:Nat):Int)):=by rw [e1];rfl
   rwa [List.getElem?_take,if_pos (by omega)] at this
  rw [List.getElem?_drop,Nat.add_zero,Array.getElem?_toList] at h3;exact h3
 intro _;have h0: ∃c e fr,W.heap[0]? =some (.cells c e fr)/\ ∀j,j<64->c[j]? =some (.int .u8 (Lib.deBruijn64tab.getD j 0)):=by
  simp only [World.var?,zyE,Option.bind_some] at hv0
  split at hv0
  ·rename_i c e fr hh
   cases hv0;exact ⟨_,_,_,hh,hcell⟩
  ·cases hv0
 obtain ⟨c,e,fr,h1,h2⟩:=h0;exact ⟨(Array.getElem?_eq_some_iff.1 h1).1,⟨c,e,fr,h1,h2⟩,by rintro (⟨b,els,p,hb,_⟩|⟨b,es,p,hb,_⟩)<;>simp at hb⟩
end Go.Proofs.YtfhbhfogcgfeeaaGreatDoor.HbF
namespace Go.Proofs.YtfhbhfogcgfeeaaGreatDoor.HbF
open Go Go.AM Go.AM.G
theorem microOwn_law {m:Mem}{u:V}{X:MiA}{w:Int}(h:zwp m u X):C Stl zfo [u,.int .i64 w] m (fun r _=>r= .bool true):=by
 obtain ⟨aw,uw,sv,mv,qv,hv,va,vm,vs,rfl,h⟩:=h;exact znP h
end Go.Proofs.YtfhbhfogcgfeeaaGreatDoor.HbF
