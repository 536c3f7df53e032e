import Derived.Test.YtfhbhfogcgfeeaaGreatDoorHbEc
import Derived.WalkKit
import Derived.ProofKit
import Derived.OpenShut
import Derived.ChangeOld
import Derived.Below
import Derived.SizedLaws
import Derived.Deep.Strs
set_option linter.unusedVariables false
set_option linter.unusedSimpArgs false
set_option maxRecDepth 100000
namespace Go.Proofs.YtfhbhfogcgfeeaaGreatDoor.HbF
open Go Go.AM Go.AM.G Go.RowKit
theorem zyy (n:Nat):za8 Tryz.prog (callN (fun f=>tab.lookup f) X0 n):=zqS (Checked.mixed Tryz.checked) zqx zun zyx n
theorem zwC (m:Mem):zfP Tryz.prog zbV [] m (.bool true) m:=by
 obtain ⟨n,v,m1,hc,rfl⟩:=Lv.lives_C;exact zuZ (zyy n _ _ _ _ _ hc) m
theorem zyz:zp4 Tryz.prog X:=by
 intro f t h call hc args m v m' e;unfold X at h
 split at h
 ·rename_i hf
  cases h;subst hf;cases args with
  |nil=>cases e;exact zwC m
  |cons a b=>cases e
 ·exact zun f t h call hc args m v m' e
theorem sound (n:Nat):za8 Tryz.prog (callN Stl.F Stl.X n):=zqS (Checked.mixed Tryz.checked) zqx zyz Xfr n
theorem law_calls {f:Nat}{args:List V}{m:Mem}(h:C Stl f args m (fun r _=>r= .bool true)){φ:Phi}{W:World}{cargs:List Value}(hst:St φ m W) (hr:Rs φ args cargs) (hno:RO m):
  Calls Tryz.prog f cargs.toArray W fun e W'=>e= .returned (.bool true)/\Below W.heap.size W W':=by
 obtain ⟨n,v,m',h1,rfl⟩:=h;refine ((sound n f args m _ m' h1).2 φ W cargs hst hr).mono ?_;rintro e W' ⟨φ',cv,rfl,hs,hv⟩;simp only [R] at hv;subst hv;exact ⟨rfl,hs.os,hs.tape,hs.output,hs.size,fun B hB=>(hs.frame B hB hno.owned).1⟩
open Go.ChangeShapes Go.WideShapes Go.ChangeAt Go.RowKit
abbrev U:={ x:Nat // x<18446744073709551616 }
instance:Inhabited U:=⟨⟨0,by decide⟩⟩
def zrl (x:U):List V:=[.int .u64 (x.1:Int)]
theorem zrm {H:Type}{enc:TypeId×Value->H}{W:World}(k:Nat) (cs:List Value) (x:DataW H×List MemPlace) (hl:cs.length=1) (e2:DataW.trod enc Tryz.prog W 0 (fun _=>true) true k 60 cs=some x): ∃q:U,∀φ,Rs φ (zrl q) cs:=by
 obtain ⟨n,rfl,_,hw⟩:=DataW.trod_int Tryz.underlying60 e2;simp [Lit.wf,IntKind.min,IntKind.max,IntKind.signed,IntKind.bits] at hw;refine ⟨⟨n.toNat,by omega⟩,fun φ=> ?_⟩;have:((n.toNat:Nat):Int)=n:=by omega
 unfold zrl;simp only [this];exact Rs.one R.int
def wOf (l:List U) (i:Nat):Nat:=((l[i]?).map (·.1)).getD 0
theorem zup (l:List U):l.map zrl=(List.range l.length).map (zG (wOf l)):=by
 apply List.ext_getElem
 ·simp
 ·intro i h1 h2
  have hi:i<l.length:=by simpa using h1
  simp [zrl,wOf,hi]
theorem zwD (l:List U):w64 l.length (wOf l):=by
 intro i hi;unfold wOf;simp [hi];exact l[i].2
theorem zji {H:Type}{enc:TypeId×Value->H}{W:World}{n:Nat}{c0:Value}{y0:DataW H×List MemPlace}(g:DataW.trod enc Tryz.prog W 0 (fun _=>true) true n 22 [c0]=some y0){φ0:Phi}{m0:Mem}(hst:St φ0 m0 W) (hno:RO m0):
  ∃(u:V) (k:Nat) (w:Nat->Nat) (φ:Phi) (m:Mem),Ext φ0 φ/\Grow m0 m/\St φ m W/\RO m/\R φ u c0/\Rd m u 1 k (zG w)/\w64 k w/\ziN u/\(k=0\/ ∃D sp,y0.1= .slice D sp/\D.length=k):=by
 obtain ⟨u,l,φ,m,a1,a2,a3,a4,a5,a6,a7,a8⟩:=zhJ (e:=60) Tryz.underlying22 (z:=1) (by kernel_rfl) (by decide) g zrl (fun x=>⟨rfl,by simp [zrl,V.isCell]⟩) zrm hst hno;refine ⟨u,l.length,wOf l,φ,m,a1,a2,a3,a4,a5,?_,zwD l,a8,?_⟩
 ·rw [zup] at a6
  rcases a6 with h|⟨h,rfl⟩
  ·exact .inl h
  ·have:l=[]:=by
    cases l with
    |nil=>rfl
    |cons x l=>simp at h
   subst this;exact .inr ⟨rfl,rfl⟩
 ·rcases a7 with rfl|h
  ·exact .inl rfl
  ·exact .inr h
def SpQ {H:Type}(φ:Phi) (m:Mem) (ev:List V) (x:zak×(V×V)) (cs:List Value) (d:DataW H):Prop:=Rs φ ev cs/\ev=zaS x.1 x.2.1 x.2.2/\x.2.1.isCell=true/\x.2.2.isCell=true/\
 Rd m x.2.1 1 x.1.al.n (zG x.1.al.w)/\Rd m x.2.2 1 x.1.mr.n (zG x.1.mr.w)/\w64 x.1.al.n x.1.al.w/\w64 x.1.mr.n x.1.mr.w/\
 (x.1.al.n=0\/ ∃d0 d1 d2 dn D sp dm d7,d= .agg [d0,d1,d2,.agg [dn,.slice D sp],dm,d7]/\D.length=x.1.al.n)/\(x.1.mr.n=0\/ ∃d0 d1 d2 da dn D sp d7,d= .agg [d0,d1,d2,da,.agg [dn,.slice D sp],d7]/\D.length=x.1.mr.n)
theorem SpQ.mono {H:Type}{φ φ':Phi}{m m':Mem}{ev:List V}{x:zak×(V×V)}{cs:List Value}{d:DataW H}(h:SpQ φ m ev x cs d) (hx:Ext φ φ') (hg:Grow m m'):SpQ φ' m' ev x cs d:=by
 obtain ⟨a,b,c1,c2,e,f,r⟩:=h;exact ⟨a.ext hx,b,c1,c2,e.grow hg,f.grow hg,r⟩
theorem zqa {H:Type}{enc:TypeId×Value->H}{P:Program}{w:World}{base:Nat}{spare:TypeId->Bool}{held:Bool}{t:TypeId} {f0 f1 f2 f3 f4 f5:Field}{fuel:Nat}{cs:List Value}{x:DataW H×List MemPlace}(ht:P.underlying t=some (.struct #[f0,f1,f2,f3,f4,f5])) (h:DataW.trod enc P w base spare held fuel t cs=some x):
  ∃y0 y1 y2 y3 y4 y5 n,x.1= .agg [y0.1,y1.1,y2.1,y3.1,y4.1,y5.1]/\DataW.trod enc P w base spare held n f0.type ((cs.drop f0.offset).take (P.cellsOf f0.type))=some y0/\DataW.trod enc P w base spare held n f1.type ((cs.drop f1.offset).take (P.cellsOf f1.type))=some y1/\
   DataW.trod enc P w base spare held n f2.type ((cs.drop f2.offset).take (P.cellsOf f2.type))=some y2/\DataW.trod enc P w base spare held n f3.type ((cs.drop f3.offset).take (P.cellsOf f3.type))=some y3/\
   DataW.trod enc P w base spare held n f4.type ((cs.drop f4.offset).take (P.cellsOf f4.type))=some y4/\DataW.trod enc P w base spare held n f5.type ((cs.drop f5.offset).take (P.cellsOf f5.type))=some y5:=by
 obtain ⟨xs,n,_,rfl,_,hlen,hf⟩:=DataW.trod_struct ht h
 match xs,hlen with
 | [y0,y1,y2,y3,y4,y5],_=>exact ⟨y0,y1,y2,y3,y4,y5,n,by simp,by simpa using hf 0 f0 rfl,by simpa using hf 1 f1 rfl,by simpa using hf 2 f2 rfl,by simpa using hf 3 f3 rfl,by simpa using hf 4 f4 rfl,by simpa using hf 5 f5 rfl⟩
theorem zu3 {H:Type}{enc:TypeId×Value->H}{W:World}{n:Nat}{cs:List Value}{x:DataW H×List MemPlace}(hl:cs.length=8) (g:DataW.trod enc Tryz.prog W 0 (fun _=>true) true n 107 cs=some x){φ0:Phi}{m0:Mem}(hst:St φ0 m0 W) (hno:RO m0):
  ∃(ev:List V) (s:zak×(V×V)) (φ:Phi) (m:Mem),Ext φ0 φ/\Grow m0 m/\St φ m W/\RO m/\SpQ φ m ev s cs x.1:=by
 have h3:Tryz.prog.cellsOf 3=1:=by kernel_rfl
 have h4:Tryz.prog.cellsOf 4=1:=by kernel_rfl
 have h26:Tryz.prog.cellsOf 26=2:=by kernel_rfl
 have h22:Tryz.prog.cellsOf 22=1:=by kernel_rfl
 obtain ⟨y0,y1,y2,y3,y4,y5,k,hx,f0,f1,f2,f3,f4,f5⟩:=zqa Tryz.underlying107 g;simp only [h3,h4,h26] at f0 f1 f2 f3 f4 f5
 match cs,hl with
 | [b0,b1,b2,b3,b4,b5,b6,b7],_=>
  have f0':DataW.trod enc Tryz.prog W 0 (fun _=>true) true k 3 [b0]=some y0:=f0;have f1':DataW.trod enc Tryz.prog W 0 (fun _=>true) true k 3 [b1]=some y1:=f1;have f2':DataW.trod enc Tryz.prog W 0 (fun _=>true) true k 3 [b2]=some y2:=f2;have f3':DataW.trod enc Tryz.prog W 0 (fun _=>true) true k 26 [b3,b4]=some y3:=f3;have f4':DataW.trod enc Tryz.prog W 0 (fun _=>true) true k 26 [b5,b6]=some y4:=f4;have f5':DataW.trod enc Tryz.prog W 0 (fun _=>true) true k 4 [b7]=some y5:=f5;obtain ⟨x0,e0,_,_⟩:=DataW.trod_int Tryz.underlying3 f0';obtain ⟨x1,e1,_,_⟩:=DataW.trod_int Tryz.underlying3 f1';obtain ⟨x2,e2,_,_⟩:=DataW.trod_int Tryz.underlying3 f2';obtain ⟨x5,e5,_⟩:=DataW.trod_bool Tryz.underlying4 f5';obtain ⟨p0,p1,k1,hy3,_,g0,g1⟩:=trod_struct2 Tryz.underlying26 f3';obtain ⟨q0,q1,k2,hy4,_,j0,j1⟩:=trod_struct2 Tryz.underlying26 f4';simp only [h3,h22] at g0 g1 j0 j1;have g0':DataW.trod enc Tryz.prog W 0 (fun _=>true) true k1 3 [b3]=some p0:=g0;have g1':DataW.trod enc Tryz.prog W 0 (fun _=>true) true k1 22 [b4]=some p1:=g1;have j0':DataW.trod enc Tryz.prog W 0 (fun _=>true) true k2 3 [b5]=some q0:=j0;have j1':DataW.trod enc Tryz.prog W 0 (fun _=>true) true k2 22 [b6]=some q1:=j1;obtain ⟨x3,e3,_,_⟩:=DataW.trod_int Tryz.underlying3 g0';obtain ⟨x4,e4,_,_⟩:=DataW.trod_int Tryz.underlying3 j0';simp only [List.cons.injEq,and_true] at e0 e1 e2 e3 e4 e5;subst e0 e1 e2 e3 e4 e5;obtain ⟨ua,na,wa,φ1,m1,a1,a2,a3,a4,a5,a6,a7,_,a8⟩:=zji g1' hst hno;obtain ⟨uk,nk,wk,φ2,m2,b1,b2,b3,b4,b5,b6,b7,_,b8⟩:=zji j1' a3 a4;refine ⟨_,(⟨x0,x1,x2,⟨x3,na,wa⟩,⟨x4,nk,wk⟩,x5⟩,ua,uk),φ2,m2,a1.trans b1,a2.trans b2,b3,b4,?_,rfl,a6.ar.2.1,b6.ar.2.1,a6.grow b2,b6,a7,b7,?_,?_⟩
  ·exact Rs.cons R.int (Rs.cons R.int (Rs.cons R.int (Rs.cons R.int (Rs.cons (a5.ext b1) (Rs.cons R.int (Rs.cons b5 (Rs.one R.bool)))))))
  ·rcases a8 with h|⟨D,sp,h1,h2⟩
   ·exact .inl h
   ·refine .inr ⟨y0.1,y1.1,y2.1,p0.1,D,sp,y4.1,y5.1,?_,h2⟩
    rw [hx,hy3,h1]
  ·rcases b8 with h|⟨D,sp,h1,h2⟩
   ·exact .inl h
   ·refine .inr ⟨y0.1,y1.1,y2.1,y3.1,q0.1,D,sp,y5.1,?_,h2⟩
    rw [hx,hy4,h1]
end Go.Proofs.YtfhbhfogcgfeeaaGreatDoor.HbF
namespace Go.Proofs.YtfhbhfogcgfeeaaGreatDoor.HbF
open Go Go.AM Go.AM.G Go.RowKit
open Go.ChangeShapes Go.WideShapes Go.ChangeAt Go.RowKit
theorem zlo {H:Type}{enc:TypeId×Value->H}{W:World}{base n:Nat}{c0:Value}{y0:DataW H×List MemPlace}(hok:Cell.okWide Tryz.prog W .any base 22 c0) (g:DataW.trod enc Tryz.prog W 0 (fun _=>true) true n 22 [c0]=some y0){φ0:Phi}{m0:Mem}(hst:St φ0 m0 W) (hno:RO m0):
  ∃(u:V) (k:Nat) (w:Nat->Nat) (φ:Phi) (m:Mem),Ext φ0 φ/\Grow m0 m/\St φ m W/\RO m/\R φ u c0/\Sl m u 1 ((List.range k).map (zG w))/\w64 k w/\ziN u/\(k=0\/ ∃D sp,y0.1= .slice D sp/\D.length=k):=by
 obtain ⟨u,l,φ,m,a1,a2,a3,a4,a5,a6,_,a7,a8⟩:=zpZ (e:=60) Tryz.underlying22 (z:=1) (by kernel_rfl) (by decide) hok g (fun _=>True) zrl (fun x=>⟨rfl,by simp [zrl,V.isCell]⟩) (fun k cs x hl e2=>by obtain ⟨q,hq⟩:=zrm k cs x hl e2;exact ⟨q,trivial,hq⟩) hst hno;refine ⟨u,l.length,wOf l,φ,m,a1,a2,a3,a4,a5,?_,zwD l,a8,?_⟩
 ·rw [zup] at a6
  exact a6
 ·rcases a7 with rfl|h
  ·exact .inl rfl
  ·exact .inr h
instance:Inhabited (zak×(V×V)):=⟨⟨⟨0,0,0,⟨0,0,fun _=>0⟩,⟨0,0,fun _=>0⟩,false⟩,.nils,.nils⟩⟩
def spA {H:Type}(d:DataW H) (n:Nat):Prop:=n=0\/ ∃d0 d1 d2 dn D sp dm d7,d= .agg [d0,d1,d2,.agg [dn,.slice D sp],dm,d7]/\D.length=n
def spM {H:Type}(d:DataW H) (n:Nat):Prop:=n=0\/ ∃d0 d1 d2 da dn D sp d7,d= .agg [d0,d1,d2,da,.agg [dn,.slice D sp],d7]/\D.length=n
theorem zsO {H:Type}{enc:TypeId×Value->H}{W:World}{base n:Nat}{c0:Value}{y0:DataW H×List MemPlace}(hok:Cell.okWide Tryz.prog W .any base 29 c0) (g:DataW.trod enc Tryz.prog W 0 (fun _=>true) true n 29 [c0]=some y0){φ0:Phi}{m0:Mem}(hst:St φ0 m0 W) (hno:RO m0):
  ∃(u:V) (k:Nat) (q:Nat->zak×(V×V)) (φ:Phi) (m:Mem),Ext φ0 φ/\Grow m0 m/\St φ m W/\RO m/\R φ u c0/\Sl m u 8 ((List.range k).map fun i=>zaS (q i).1 (q i).2.1 (q i).2.2)/\
   (∀i,i<k->Rd m (q i).2.1 1 (q i).1.al.n (zG (q i).1.al.w)/\Rd m (q i).2.2 1 (q i).1.mr.n (zG (q i).1.mr.w)/\w64 (q i).1.al.n (q i).1.al.w/\w64 (q i).1.mr.n (q i).1.mr.w)/\
   (k=0\/ ∃D sp,y0.1= .slice D sp/\D.length=k/\ ∀i,i<k-> ∃d,D[i]? =some d/\spA d (q i).1.al.n/\spM d (q i).1.mr.n):=by
 have hz:Tryz.prog.cellsOf 107=8:=by kernel_rfl
 rcases Deep.open_slice Tryz.underlying29 g with ⟨hc,hy⟩|⟨a,len,cap,mm,n',D,Pl,hc,_,hl,hmx,hmm,hy,hel⟩
 ·simp only [List.cons.injEq,and_true] at hc
  subst hc;exact ⟨.nils,0,fun _=>default,φ0,m0,Ext.refl _,Grow.refl _,hst,hno,by simp [R],⟨rfl,rfl⟩,fun i h=>absurd h (Nat.not_lt_zero _),.inl rfl⟩
 ·simp only [List.cons.injEq,and_true] at hc
  subst hc;simp only [if_true] at hmm;subst hmm;have hhas:W.has Tryz.prog .any base a 107 mm:=by
   simp only [Cell.okWide,Tryz.underlying29,Cell.ok] at hok;exact hok.2.2
  obtain ⟨hs,c,t',fr,hc,hoff⟩:=zoJ hhas;rw [hz] at hel;obtain ⟨E,φ1,m1,a1,a2,a3,a4,a5⟩:=zoK hst hno (fun i φ m ev=> ∃cs',W.cells? 0 (a.add (i*8)) 8=some cs'/\ ∃nd,SpQ φ m ev nd cs' (D i)) (fun ⟨cs',h1,nd,h2⟩ hx hg=>⟨cs',h1,nd,h2.mono hx hg⟩) mm (fun i hi φ m _ _ hs' hr'=>by
   obtain ⟨cs',e1,e2⟩:=hel i hi;obtain ⟨ev,nd,φ',m',b1,b2,b3,b4,b5⟩:=zu3 (World.cells?_some e1).2.1 e2 hs' hr';exact ⟨ev,φ',m',b1,b2,b3,b4,cs',e1,nd,b5⟩)
  obtain ⟨q,hq⟩:=Deep.choose_lt (α:=zak×(V×V)) (n:=mm) (p:=fun i nd=> ∃cs',W.cells? 0 (a.add (i*8)) 8=some cs'/\SpQ φ1 m1 (E i) nd cs' (D i)) (fun i hi=>by
   obtain ⟨cs',e1,nd,e2⟩:=a5 i hi;exact ⟨nd,cs',e1,e2⟩)
  obtain ⟨φ,s0,s1,s2,s3,s4⟩:=zjg a3 a4 (t:=t') (fr:=fr) (E:=E) (z:=8) (by decide) hs hc hoff hl hmx (fun i hi=>by
   obtain ⟨cs',_,_,e,c1,c2,_⟩:=hq i hi;rw [e];refine ⟨rfl,?_⟩;intro v hv;simp only [zaS,List.mem_cons,List.not_mem_nil,or_false] at hv;rcases hv with rfl|rfl|rfl|rfl|rfl|rfl|rfl|rfl
   all_goals first|rfl|exact c1|exact c2) (fun φ' hx i hi=>by obtain ⟨cs',e1,e2,_⟩:=hq i hi;exact ⟨cs',e1,e2.ext hx⟩)
  refine ⟨_,len,q,φ,_,a1.trans s0,a2.trans (Grow.refl _).app,s1,s2,s3,⟨?_,by simp [zOk]⟩,fun i hi=> ?_,.inr ⟨_,_,by rw [hy],by simp,fun i hi=> ?_⟩⟩
  ·rw [s4]
   congr 1
   refine List.map_congr_left fun i hi=> ?_
   obtain ⟨_,_,_,e,_⟩:=hq i (by have:=List.mem_range.1 hi;omega);exact e
  ·obtain ⟨_,_,_,_,_,_,h1,h2,h3,h4,_⟩:=hq i (by omega)
   exact ⟨h1.app,h2.app,h3,h4⟩
  ·obtain ⟨_,_,_,_,_,_,_,_,_,_,h5,h6⟩:=hq i (by omega)
   exact ⟨D i,by rw [List.getElem?_map,List.getElem?_range hi];rfl,h5,h6⟩
end Go.Proofs.YtfhbhfogcgfeeaaGreatDoor.HbF
