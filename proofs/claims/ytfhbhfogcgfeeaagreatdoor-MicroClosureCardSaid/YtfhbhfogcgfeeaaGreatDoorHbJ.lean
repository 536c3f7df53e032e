import Derived.Test.YtfhbhfogcgfeeaaGreatDoorHbF
import Derived.LaidMore
import Derived.Stop.Joined
import Derived.Test.YtfhbhfogcgfeeaaGreatDoorHwE
set_option linter.unusedVariables false
set_option linter.unusedSimpArgs false
set_option maxRecDepth 100000
namespace Go.Proofs.YtfhbhfogcgfeeaaGreatDoor.HbF
open Go Go.AM Go.AM.G Go.RowKit
open Go.ChangeShapes Go.WideShapes Go.ChangeAt Go.RowKit
theorem zwE {m:Mem}{u:V}{z k:Nat}{f:Nat->List V}(h:Sl m u z ((List.range k).map f)):Rd m u z k f:= .inl h
theorem zsP {H:Type}{enc:TypeId×Value->H}{W:World}{base n:Nat}{c0 c1 c2 c3:Value}{y:DataW H×List MemPlace}(h0:Cell.okWide Tryz.prog W .any base 22 c0) (h2:Cell.okWide Tryz.prog W .any base 22 c2) (h3:Cell.okWide Tryz.prog W .any base 29 c3) (g:DataW.trod enc Tryz.prog W 0 (fun _=>true) true n 31 [c0,c1,c2,c3]=some y) (wle: ∀x,x∈DataW.weights Tryz.prog 31 y.1->x<=0x7ffffffff000){φ0:Phi}{m0:Mem}(hst:St φ0 m0 W) (hno:RO m0):
  ∃(aw uw sv:V) (va vm:Nat->V) (l:zl) (φ:Phi) (m:Mem),Ext φ0 φ/\Grow m0 m/\St φ m W/\RO m/\Rs φ (zB l aw uw sv) [c0,c1,c2,c3]/\zcY m aw uw sv va vm l/\V.beq aw aw=true/\V.beq uw uw=true/\V.beq sv sv=true/\l.ns*96<=140737488355328:=by
 have h24:Tryz.prog.cellsOf 24=1:=by kernel_rfl
 have h28:Tryz.prog.cellsOf 28=2:=by kernel_rfl
 have h29:Tryz.prog.cellsOf 29=1:=by kernel_rfl
 have h26:Tryz.prog.cellsOf 26=2:=by kernel_rfl
 have h22:Tryz.prog.cellsOf 22=1:=by kernel_rfl
 have hI:Tryz.prog.cellsOf 3=1:=by kernel_rfl
 have hb51:Tryz.prog.bytesOf 60=8:=by kernel_rfl
 have hb137:Tryz.prog.bytesOf 107=96:=by kernel_rfl
 obtain ⟨y0,y1,y2,n,hx,_,g0,g1,g2⟩:=Deep.trod_struct3 Tryz.underlying31 g;simp only [h24,h28,h29] at g0 g1 g2;have g0':DataW.trod enc Tryz.prog W 0 (fun _=>true) true n 24 [c0]=some y0:=g0;have g1':DataW.trod enc Tryz.prog W 0 (fun _=>true) true n 28 [c1,c2]=some y1:=g1;have g2':DataW.trod enc Tryz.prog W 0 (fun _=>true) true n 29 [c3]=some y2:=g2;have hy:y.1= .agg [y0.1,y1.1,y2.1]:=by rw [hx]
 rw [hy] at wle;obtain ⟨z0,n0,hz0,_,k0⟩:=trod_struct1 Tryz.underlying24 g0';simp only [h22] at k0;have k0':DataW.trod enc Tryz.prog W 0 (fun _=>true) true n0 22 [c0]=some z0:=k0;obtain ⟨z1,n1,hz1,_,k1⟩:=trod_struct1 Tryz.underlying28 g1';simp only [h26] at k1;have k1':DataW.trod enc Tryz.prog W 0 (fun _=>true) true n1 26 [c1,c2]=some z1:=k1;obtain ⟨z2,z3,n2,hz2,_,k2,k3⟩:=trod_struct2 Tryz.underlying26 k1';simp only [hI,h22] at k2 k3;have k2':DataW.trod enc Tryz.prog W 0 (fun _=>true) true n2 3 [c1]=some z2:=k2;have k3':DataW.trod enc Tryz.prog W 0 (fun _=>true) true n2 22 [c2]=some z3:=k3;obtain ⟨x1,e1,_,_⟩:=DataW.trod_int Tryz.underlying3 k2';simp only [List.cons.injEq,and_true] at e1;subst e1;obtain ⟨aw,na,wa,φ1,m1,a1,a2,a3,a4,a5,a6,a7,a8,a9⟩:=zlo h0 k0' hst hno;obtain ⟨uw,nu,wu,φ2,m2,b1,b2,b3,b4,b5,b6,b7,b8,b9⟩:=zlo h2 k3' a3 a4;obtain ⟨sv,ns,q,φ3,m3,s1,s2,s3,s4,s5,s6,s7,s8⟩:=zsO h3 g2' b3 b4;have wE: ∀(i:Nat) t d,([24,28,29]:List TypeId)[i]? =some t->([y0.1,y1.1,y2.1]:List (DataW H))[i]? =some d-> ∀x,x∈DataW.weights Tryz.prog t d->x<=0x7ffffffff000:=fun i t d h1 h2 x hx=>wle x (by
  rw [DataW.weights.eq_def];simp only [Tryz.underlying31,List.map_cons,List.map_nil,Array.toList];exact DataW.weights_mem_each (j:=i) h1 h2 x hx)
 have hna:na<17592186044417:=by
  rcases a9 with rfl|⟨D,sp,e1,e2⟩
  ·decide
  ·have:=wE 0 24 y0.1 rfl rfl ((D.length+sp.length)*Tryz.prog.bytesOf 60) (by rw [hz0,e1];simp [DataW.weights,Tryz.underlying24,DataW.weightsEach,Tryz.underlying22])
   rw [hb51] at this;omega
 have hnu:nu<17592186044417:=by
  rcases b9 with rfl|⟨D,sp,e1,e2⟩
  ·decide
  ·have:=wE 1 28 y1.1 rfl rfl ((D.length+sp.length)*Tryz.prog.bytesOf 60) (by rw [hz1,hz2,e1];simp [DataW.weights,Tryz.underlying28,DataW.weightsEach,Tryz.underlying26,Tryz.underlying22])
   rw [hb51] at this;omega
 have hns:ns*96<=140737488355328:=by
  rcases s8 with rfl|⟨D,sp,e1,e2,_⟩
  ·decide
  ·have:=wE 2 29 y2.1 rfl rfl ((D.length+sp.length)*Tryz.prog.bytesOf 107) (by rw [e1];simp [DataW.weights,Tryz.underlying29])
   rw [hb137] at this;omega
 have hin: ∀i,i<ns->(q i).1.al.n<17592186044417/\(q i).1.mr.n<17592186044417:=by
  intro i hi;rcases s8 with rfl|⟨D,sp,e1,e2,e3⟩
  ·omega
  ·obtain ⟨d,hdi,hA,hM⟩:=e3 i hi
   have wi: ∀x,x∈DataW.weights Tryz.prog 107 d->x<=0x7ffffffff000:=fun x hx=>wE 2 29 y2.1 rfl rfl x (by
    rw [e1];simp only [DataW.weights,Tryz.underlying29,List.mem_cons,List.mem_append];exact .inr (.inl (zhI (List.mem_of_getElem? hdi) _ hx)))
   constructor
   ·rcases hA with h0|⟨d0,d1,d2,dn,D',sp',dm,d7,h1,h2⟩
    ·rw [h0];decide
    ·have:=wi ((D'.length+sp'.length)*Tryz.prog.bytesOf 60) (by rw [h1];simp [DataW.weights,Tryz.underlying107,DataW.weightsEach,Tryz.underlying26,Tryz.underlying22])
     rw [hb51] at this;omega
   ·rcases hM with h0|⟨d0,d1,d2,da,dn,D',sp',d7,h1,h2⟩
    ·rw [h0];decide
    ·have:=wi ((D'.length+sp'.length)*Tryz.prog.bytesOf 60) (by rw [h1];simp [DataW.weights,Tryz.underlying107,DataW.weightsEach,Tryz.underlying26,Tryz.underlying22])
     rw [hb51] at this;omega
 refine ⟨aw,uw,sv,fun i=>(q i).2.1,fun i=>(q i).2.2,⟨na,wa,⟨x1,nu,wu⟩,ns,fun i=>(q i).1⟩,φ3,m3,(a1.trans b1).trans s1,(a2.trans b2).trans s2,s3,s4,?_,?_,a6.beq',b6.beq',s6.beq',hns⟩
 ·exact Rs.cons (a5.ext (b1.trans s1)) (Rs.cons R.int (Rs.cons (b5.ext s1) (Rs.one s5)))
 ·refine ⟨((zwE a6).grow b2).grow s2,(zwE b6).grow s2,⟨zwE s6,fun i hi=> ?_⟩,a7,b7,hna,hnu,by show ns<_;omega,a8⟩
  obtain ⟨h1,h2,h3,h4⟩:=s7 i hi;exact ⟨h1,h2,h3,h4,(hin i hi).1,(hin i hi).2⟩
instance:Inhabited zT:=⟨hand0⟩
def QvQ {H:Type}(φ:Phi) (m:Mem) (ev:List V) (x:List Nat×V) (cs:List Value) (d:DataW H):Prop:=Rs φ ev cs/\ev=[x.2]/\x.2.isCell=true/\Nus m x.2 x.1/\(x.1=[]\/ ∃D sp,d= .slice D sp/\D.length=x.1.length)
theorem QvQ.mono {H:Type}{φ φ':Phi}{m m':Mem}{ev:List V}{x:List Nat×V}{cs:List Value}{d:DataW H}(h:QvQ φ m ev x cs d) (hx:Ext φ φ') (hg:Grow m m'):QvQ φ' m' ev x cs d:=by
 obtain ⟨a,b,c,e,r⟩:=h;exact ⟨a.ext hx,b,c,e.grow hg,r⟩
end Go.Proofs.YtfhbhfogcgfeeaaGreatDoor.HbF
namespace Go.Proofs.YtfhbhfogcgfeeaaGreatDoor.HbF
open Go Go.AM Go.AM.G Go.RowKit
open Go.ChangeShapes Go.WideShapes Go.ChangeAt Go.RowKit
def zyC (m:Mem) (u:V) (X:MiA):Prop:= ∃aw uw sv mv qv hv va vm vs,u= .agg (miV X aw uw sv mv qv hv)/\zfi m aw uw sv mv qv hv va vm vs X
theorem zyC.grow {m m':Mem}{u:V}{X:MiA}(h:zyC m u X) (hg:Grow m m'):zyC m' u X:=by
 obtain ⟨aw,uw,sv,mv,qv,hv,va,vm,vs,e,h⟩:=h;obtain ⟨g,rfl⟩:=hg;exact ⟨aw,uw,sv,mv,qv,hv,va,vm,vs,e,h.app⟩
end Go.Proofs.YtfhbhfogcgfeeaaGreatDoor.HbF
namespace Go.Proofs.YtfhbhfogcgfeeaaGreatDoor.HbF
open Go Go.AM Go.AM.G Go.RowKit
abbrev laidB:List (String×DataW Unit):=[("math/bits.deBruijn64tab",Rows.laid_math_bits_deBruijn64tab)]
theorem zy3:Tryz.prog.globalNamed "math/bits.deBruijn64tab" =some 0:=by kernel_rfl
theorem zzk:(Tryz.prog.globals[0]?).map (·.type)=some 301:=by kernel_rfl
theorem door_met (os:Os) (args:Array Value):laidMetH Tryz.prog laidB ((World.doorLaid Tryz.prog 14 os).forCall (fun _ _=>0) ⟨#[],args,[]⟩).memory:=
 laidMetH_of_parts3 (fuel:=8) (laidMet_of_run' 8 (by kernel_rfl) (by kernel_rfl)) (by kernel_rfl) (by kernel_rfl)
theorem zwF {H:Type}:(Rows.laid_math_bits_deBruijn64tab:DataW H)= .agg (Lib.deBruijn64tab.map fun n:Nat=> .lit (.int .u8 (n:Int))):=rfl
theorem lay_of {W:World}(h:laidMetH Tryz.prog laidB W):Lay (fun _=>none) [] W:=by
 rw [MakeChecks.laidMetH_plain _ _ _ (by kernel_rfl)] at h;obtain ⟨ps,⟨g0,t0,cs0,f0,p0,q0,hg0,ht0,hv0,hd0,_,_⟩,_,_⟩:=h;obtain rfl:=Option.some.inj (zy3.symm.trans hg0);obtain rfl:=Option.some.inj (zzk.symm.trans ht0);have c5:Tryz.prog.cellsOf 5=1:=by kernel_rfl
 obtain ⟨xs,m1,rfl,hx1,hlen,hn3,hel⟩:=DataW.trod_array Tryz.underlying301 hd0;simp only [Prod.mk.injEq] at hx1;have hx1:=hx1.1;rw [zwF] at hx1;simp only [DataW.agg.injEq] at hx1;have hcell: ∀j,j<64->cs0[j]? =some (.int .u8 (Lib.deBruijn64tab.getD j 0)):=by
  intro j hj;have hl:Lib.deBruijn64tab.length=64:=rfl;have h1:(Lib.deBruijn64tab.map fun n:Nat=>(DataW.lit (.int .u8 (n:Int)):DataW Unit))[j]? =some (.lit (.int .u8 ((Lib.deBruijn64tab.getD j 0:Nat):Int))):=by
   rw [List.getElem?_map,List.getElem?_eq_getElem (by omega),List.getD_eq_getElem?_getD,List.getElem?_eq_getElem (by omega)];rfl
  rw [hx1,List.getElem?_map,Option.map_eq_some_iff] at h1;obtain ⟨x,hx,e⟩:=h1;have h2:=hel j hj;rw [hx,c5,Nat.mul_one] at h2;obtain ⟨k,e1,e2,_⟩:=DataW.trod_int Tryz.underlying5 h2;rw [e2] at e;simp at e;subst e;have h3:(cs0.toList.drop j)[0]? =some (.int .u8 ((Lib.deBruijn64tab.getD j 0:Nat):Int)):=by
   have:((cs0.toList.drop j).take 1)[0]? =some (.int .u8 ((Lib.deBruijn64tab.getD j 0:Nat):Int)):=by rw [e1];rfl
   rwa [List.getElem?_take,if_pos (by omega)] at this
  rw [List.getElem?_drop,Nat.add_zero,Array.getElem?_toList] at h3;exact h3
 intro _;have h0: ∃c e fr,W.heap[0]? =some (.cells c e fr)/\ ∀j,j<64->c[j]? =some (.int .u8 (Lib.deBruijn64tab.getD j 0)):=by
  simp only [World.var?,zy3,Option.bind_some] at hv0
  split at hv0
  ·rename_i c e fr hh
   cases hv0;exact ⟨_,_,_,hh,hcell⟩
  ·cases hv0
 obtain ⟨c,e,fr,h1,h2⟩:=h0;exact ⟨(Array.getElem?_eq_some_iff.1 h1).1,⟨c,e,fr,h1,h2⟩,by rintro (⟨b,els,p,hb,_⟩|⟨b,es,p,hb,_⟩)<;>simp at hb⟩
open Go.ChangeShapes Go.WideShapes Go.ChangeAt Go.RowKit
def zwG (m:Mem) (u:V) (H:zl):Prop:= ∃aw uw sv va vm,u= .agg (zB H aw uw sv)/\zcY m aw uw sv va vm H/\(V.beq aw aw=true/\V.beq uw uw=true/\V.beq sv sv=true)/\H.ns*96<=140737488355328
theorem zwG.grow {m m':Mem}{u:V}{H:zl}(h:zwG m u H) (hg:Grow m m'):zwG m' u H:=by
 obtain ⟨aw,uw,sv,va,vm,e,h,b⟩:=h;obtain ⟨g,rfl⟩:=hg;exact ⟨aw,uw,sv,va,vm,e,h.app,b⟩
theorem read_heap {H:Type}{enc:TypeId×Value->H}{W:World}{base:Nat}{v:Value}{d:DataW H}{ps:List MemPlace}{ts:List TypeId}{ds:List (DataW H)}{j:Nat}(hv:Value.okWide Tryz.prog W .any base 31 v) (h:DataW.Trod enc Tryz.prog W 0 (fun _=>true) true 31 v d ps) (hsz:(DataW.weightsEach Tryz.prog ts ds).all (· <=reachBytes)=true) (ht:ts[j]? =some 31) (hd:ds[j]? =some d){φ0:Phi}{m0:Mem}(hst:St φ0 m0 W) (hno:RO m0):
  ∃(u:V) (l:zl) (φ:Phi) (m:Mem),Ext φ0 φ/\Grow m0 m/\St φ m W/\RO m/\R φ u v/\zwG m u l/\True:=by
 simp only [Value.okWide,Tryz.underlying31] at hv;obtain ⟨cs,rfl,hsz1,ts',hts,_,hcell⟩:=hv;have hts':ts'=[22,3,22,29]:=by
  have:Tryz.prog.cellTypes Tryz.prog.depth 31=some [22,3,22,29]:=by kernel_rfl
  rw [this] at hts;cases hts;rfl
 subst hts';have h31:Tryz.prog.cellsOf 31=4:=by kernel_rfl
 rw [h31] at hsz1;obtain ⟨c0,c1,c2,c3,rfl⟩: ∃c0 c1 c2 c3,cs= #[c0,c1,c2,c3]:=by
  obtain ⟨l⟩:=cs
  match l,hsz1 with
  | [c0,c1,c2,c3],_=>exact ⟨c0,c1,c2,c3,rfl⟩
 obtain ⟨t0,e0,ok0⟩:=hcell 0 c0 rfl;obtain ⟨t2,e2,ok2⟩:=hcell 2 c2 rfl;obtain ⟨t3,e3,ok3⟩:=hcell 3 c3 rfl;simp at e0 e2 e3;subst e0 e2 e3;obtain ⟨fuel,hf⟩:=h;obtain ⟨aw,uw,sv,va,vm,Hp,φ1,m1,a1,a2,a3,a4,a5,a6,a7,a8,a9,a10⟩:=zsP ok0 ok2 ok3 hf (fun x hx=>of_decide_eq_true (List.all_eq_true.1 hsz _ (DataW.weights_mem_each (P:=Tryz.prog) ht hd x hx))) hst hno;refine ⟨.agg (zB Hp aw uw sv),Hp,φ1,m1,a1,a2,a3,a4,?_,⟨aw,uw,sv,va,vm,rfl,a6,⟨a7,a8,a9⟩,a10⟩,trivial⟩;unfold R;exact ⟨[c0,c1,c2,c3],rfl,a5⟩
def zwH (m:Mem) (u:V) (l:List Nat):Prop:=Nus m u l
theorem zwH.grow {m m':Mem}{u:V}{l:List Nat}(h:zwH m u l) (hg:Grow m m'):zwH m' u l:=Rd.grow h hg
theorem one_cell {W:World}{base:Nat}{v:Value}{t e:TypeId}(hu:Tryz.prog.underlying t=some (.slice e)) (hv:Value.okWide Tryz.prog W .any base t v):v.cells.toList=[v]:=by
 cases v with
 |agg cs=>
  simp only [Value.okWide,hu] at hv;simp [Cell.okWide,hu,Cell.ok] at hv
 |_=>rfl
theorem read_nus {H:Type}{enc:TypeId×Value->H}{W:World}{base:Nat}{v:Value}{d:DataW H}{ps:List MemPlace}{ts:List TypeId}{ds:List (DataW H)}{j:Nat}(hv:Value.okWide Tryz.prog W .any base 22 v) (h:DataW.Trod enc Tryz.prog W 0 (fun _=>true) true 22 v d ps) (hsz:(DataW.weightsEach Tryz.prog ts ds).all (· <=reachBytes)=true) (ht:ts[j]? =some 22) (hd:ds[j]? =some d){φ0:Phi}{m0:Mem}(hst:St φ0 m0 W) (hno:RO m0):
  ∃(u:V) (l:List Nat) (φ:Phi) (m:Mem),Ext φ0 φ/\Grow m0 m/\St φ m W/\RO m/\R φ u v/\zwH m u l/\l.length<=17592186043904:=by
 have hb:Tryz.prog.bytesOf 60=8:=by kernel_rfl
 obtain ⟨fuel,hf⟩:=h;rw [one_cell Tryz.underlying22 hv] at hf;obtain ⟨u,k,w,φ,m,a1,a2,a3,a4,a5,a6,a7,_,a9⟩:=zji hf hst hno;refine ⟨u,(List.range k).map w,φ,m,a1,a2,a3,a4,a5,zk3.2 a6,?_⟩;rw [List.length_map,List.length_range];rcases a9 with rfl|⟨D,sp,e1,e2⟩
 ·decide
 ·have w0:=DataW.weights_mem_each (P:=Tryz.prog) ht hd ((D.length+sp.length)*Tryz.prog.bytesOf 60) (by
   have e1':d= .slice D sp:=e1;rw [e1'];simp [DataW.weights,Tryz.underlying22])
  have:=of_decide_eq_true (List.all_eq_true.1 hsz _ w0);rw [hb] at this;have:(D.length+sp.length)*8<=0x7ffffffff000:=this;omega
def zwI (m:Mem) (u:V) (l:List Int):Prop:=Rd m u 1 l.length (fun i=>[.int .i64 (nxI l i)])
theorem zwI.grow {m m':Mem}{u:V}{l:List Int}(h:zwI m u l) (hg:Grow m m'):zwI m' u l:=Rd.grow h hg
theorem zwJ {H:Type}{enc:TypeId×Value->H}{W:World}(k:Nat) (cs:List Value) (x:DataW H×List MemPlace) (hl:cs.length=1) (e2:DataW.trod enc Tryz.prog W 0 (fun _=>true) true k 3 cs=some x): ∃q:Int,∀φ,Rs φ [.int .i64 q] cs:=by
 obtain ⟨n,rfl,_,hw⟩:=DataW.trod_int Tryz.underlying3 e2;exact ⟨n,fun φ=>Rs.one R.int⟩
theorem read_ints {H:Type}{enc:TypeId×Value->H}{W:World}{base:Nat}{v:Value}{d:DataW H}{ps:List MemPlace}{ts:List TypeId}{ds:List (DataW H)}{j:Nat}(hv:Value.okWide Tryz.prog W .any base 52 v) (h:DataW.Trod enc Tryz.prog W 0 (fun _=>true) true 52 v d ps) (hsz:(DataW.weightsEach Tryz.prog ts ds).all (· <=reachBytes)=true) (ht:ts[j]? =some 52) (hd:ds[j]? =some d){φ0:Phi}{m0:Mem}(hst:St φ0 m0 W) (hno:RO m0):
  ∃(u:V) (l:List Int) (φ:Phi) (m:Mem),Ext φ0 φ/\Grow m0 m/\St φ m W/\RO m/\R φ u v/\zwI m u l/\l.length<=17592186043904:=by
 have hb:Tryz.prog.bytesOf 3=8:=by kernel_rfl
 obtain ⟨fuel,hf⟩:=h;rw [one_cell Tryz.underlying52 hv] at hf;obtain ⟨u,l,φ,m,a1,a2,a3,a4,a5,a6,a7,a8⟩:=zhJ (e:=3) Tryz.underlying52 (z:=1) (by kernel_rfl) (by decide) hf (fun x:Int=>[.int .i64 x]) (fun x=>⟨rfl,by simp [V.isCell]⟩) zwJ hst hno;refine ⟨u,l,φ,m,a1,a2,a3,a4,a5,?_,?_⟩
 ·have e:(l.map fun x:Int=>[V.int .i64 x])=(List.range l.length).map fun i=>[V.int .i64 (nxI l i)]:=by
   apply List.ext_getElem
   ·simp
   ·intro i h1 h2
    have hi:i<l.length:=by simpa using h1
    simp [nxI,List.getD_eq_getElem?_getD,hi]
  rw [e] at a6;rcases a6 with h|⟨h,rfl⟩
  ·exact .inl h
  ·refine .inr ⟨?_,rfl⟩
   have:=congrArg List.length h
   simpa using this
 ·rcases a7 with rfl|⟨D,sp,e1,e2⟩
  ·decide
  ·have w0:=DataW.weights_mem_each (P:=Tryz.prog) ht hd ((D.length+sp.length)*Tryz.prog.bytesOf 3) (by
    have e1':d= .slice D sp:=e1;rw [e1'];simp [DataW.weights,Tryz.underlying52])
   have:=of_decide_eq_true (List.all_eq_true.1 hsz _ w0);rw [hb] at this;have:(D.length+sp.length)*8<=0x7ffffffff000:=this;omega
end Go.Proofs.YtfhbhfogcgfeeaaGreatDoor.HbF
namespace Go.Proofs.YtfhbhfogcgfeeaaGreatDoor.HbF
open Go Go.AM Go.AM.G Go.RowKit
open Go.ChangeShapes Go.WideShapes Go.ChangeAt Go.RowKit
def zwK (m:Mem) (u:V) (l:List Nat):Prop:=Rd m u 1 l.length (u8s l)/\ ∀i,i<l.length->nx l i<256
theorem zwK.grow {m m':Mem}{u:V}{l:List Nat}(h:zwK m u l) (hg:Grow m m'):zwK m' u l:=⟨Rd.grow h.1 hg,h.2⟩
abbrev B8:={ x:Nat // x<256 }
instance:Inhabited B8:=⟨⟨0,by decide⟩⟩
theorem zxK {H:Type}{enc:TypeId×Value->H}{W:World}(k:Nat) (cs:List Value) (x:DataW H×List MemPlace) (hl:cs.length=1) (e2:DataW.trod enc Tryz.prog W 0 (fun _=>true) true k 5 cs=some x): ∃q:B8,∀φ,Rs φ [V.int .u8 (q.1:Int)] cs:=by
 obtain ⟨n,rfl,_,hw⟩:=DataW.trod_int Tryz.underlying5 e2;simp [Lit.wf,IntKind.min,IntKind.max,IntKind.signed,IntKind.bits] at hw;refine ⟨⟨n.toNat,by omega⟩,fun φ=> ?_⟩;have:((n.toNat:Nat):Int)=n:=by omega
 simp only [this];exact Rs.one R.int
theorem read_bytes {H:Type}{enc:TypeId×Value->H}{W:World}{base:Nat}{v:Value}{d:DataW H}{ps:List MemPlace}{ts:List TypeId}{ds:List (DataW H)}{j:Nat}(hv:Value.okWide Tryz.prog W .any base 58 v) (h:DataW.Trod enc Tryz.prog W 0 (fun _=>true) true 58 v d ps) (hsz:(DataW.weightsEach Tryz.prog ts ds).all (· <=reachBytes)=true) (ht:ts[j]? =some 58) (hd:ds[j]? =some d){φ0:Phi}{m0:Mem}(hst:St φ0 m0 W) (hno:RO m0):
  ∃(u:V) (l:List Nat) (φ:Phi) (m:Mem),Ext φ0 φ/\Grow m0 m/\St φ m W/\RO m/\R φ u v/\zwK m u l/\l.length<=140737488351232:=by
 have hb:Tryz.prog.bytesOf 5=1:=by kernel_rfl
 obtain ⟨fuel,hf⟩:=h;rw [one_cell Tryz.underlying58 hv] at hf;obtain ⟨u,l,φ,m,a1,a2,a3,a4,a5,a6,a7,a8⟩:=zhJ (e:=5) Tryz.underlying58 (z:=1) (by kernel_rfl) (by decide) hf (fun x:B8=>[V.int .u8 (x.1:Int)]) (fun x=>⟨rfl,by simp [V.isCell]⟩) zxK hst hno;refine ⟨u,l.map (·.1),φ,m,a1,a2,a3,a4,a5,⟨?_,fun i hi=> ?_⟩,?_⟩
 ·have e:(l.map fun x:B8=>[V.int .u8 (x.1:Int)])=(List.range (l.map (·.1)).length).map (u8s (l.map (·.1))):=by
   apply List.ext_getElem
   ·simp
   ·intro i h1 h2
    have hi:i<l.length:=by simpa using h1
    simp [nx,List.getD_eq_getElem?_getD,hi]
  rw [e] at a6;rcases a6 with h|⟨h,rfl⟩
  ·exact .inl h
  ·refine .inr ⟨?_,rfl⟩
   have:=congrArg List.length h
   simpa using this
 ·have hi':i<l.length:=by simpa using hi
  have:nx (l.map (·.1)) i=l[i].1:=by simp [nx,List.getD_eq_getElem?_getD,hi']
  rw [this];exact l[i].2
 ·rw [List.length_map]
  rcases a7 with rfl|⟨D,sp,e1,e2⟩
  ·decide
  ·have w0:=DataW.weights_mem_each (P:=Tryz.prog) ht hd ((D.length+sp.length)*Tryz.prog.bytesOf 5) (by
    have e1':d= .slice D sp:=e1;rw [e1'];simp [DataW.weights,Tryz.underlying58])
   have:=of_decide_eq_true (List.all_eq_true.1 hsz _ w0);rw [hb] at this;have:(D.length+sp.length)*1<=0x7ffffffff000:=this;omega
end Go.Proofs.YtfhbhfogcgfeeaaGreatDoor.HbF
namespace Go.Proofs.YtfhbhfogcgfeeaaGreatDoor.HbF
open Go Go.AM Go.AM.G Go.RowKit
open Go.ChangeShapes Go.WideShapes Go.ChangeAt Go.RowKit
theorem microClosure_law {m:Mem}{h r p v:V}{H:zl}{c:Int}{rs pk:List Nat}{ws:List Int}(hH:zwG m h H) (hr:zwH m r rs) (hrl:rs.length<=17592186043904) (hp:zwK m p pk) (hpl:pk.length<=140737488351232) (hw:zwI m v ws) (hl:ws.length<=17592186043904):C Stl zd8 [h,.int .i64 c,r,p,v] m (fun r _=>r= .bool true):=by
 obtain ⟨ha,hu,hs,va',vm',rfl,hH,bb,ls⟩:=hH;exact zkD hH bb ls hr (by omega) hp.1 (by omega) hp.2 hw (by omega)
end Go.Proofs.YtfhbhfogcgfeeaaGreatDoor.HbF
