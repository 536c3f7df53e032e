import Derived.Test.YtfhbhfogcgfeeaaGreatDoorHuX
set_option linter.unusedVariables false
set_option linter.unusedSimpArgs false
set_option maxRecDepth 100000
namespace Go.AM.G
open Go Go.AM
def behind (x:zT):zT:=⟨2,x.obj,x.N,x.M,x.f+1,0,0⟩
def MiA.sh (X:MiA) (w:Nat) (x:zT):MiA:={ X with hs:=X.hs.set w x }
def zm (X:MiA) (w:Nat):MiA×Nat×Int:=
 if (hat X.hs w).pc=0 then
  if (zav X.qs w).2.2.2=0 then ({ X with qs:=(zav X.qs w).1,hs:=X.hs.set w ⟨1,(zav X.qs w).2.1,0,0,0,0,0⟩ },1,0) else (X,0,(zav X.qs w).2.2.2)
 else if (hat X.hs w).pc=1 then (X.sh w { hat X.hs w with pc:=2,N:=(X.H.a (hat X.hs w).obj%256:Nat),M:=unM (X.H.a (hat X.hs w).obj) },2,0)
 else if (hat X.hs w).pc=2 then
  match zfd (hat X.hs w).M (hat X.hs w).N.toNat (hat X.hs w).f.toNat with
  |none=>(X.sh w hand0,0,0)
  |some g=>if X.H.a ((hat X.hs w).obj+1+g)=0 then (X.sh w { hat X.hs w with f:=(g:Int)+1 },2,0) else (X.sh w { hat X.hs w with pc:=3,f:=(g:Int),to:=X.H.a ((hat X.hs w).obj+1+g) },2,0)
 else if (hat X.hs w).pc=3 then
  if bit X.mw ((hat X.hs w).to/2)=true then (X.sh w (behind (hat X.hs w)),3,0) else (X.sh w { hat X.hs w with pc:=4,seen:=X.mw ((hat X.hs w).to/2/64) },3,0)
 else if (hat X.hs w).pc=4 then
  if X.mw ((hat X.hs w).to/2/64)=(hat X.hs w).seen then ({ X with mw:=za7 X.mw ((hat X.hs w).to/2) true,hs:=X.hs.set w { hat X.hs w with pc:=5,seen:=0 } },4,0) else (X.sh w { hat X.hs w with pc:=3,seen:=0 },5,0)
 else ({ X with qs:=if (zaT X.qs w (hat X.hs w).to).2=0 then (zaT X.qs w (hat X.hs w).to).1 else X.qs,hs:=X.hs.set w (behind (hat X.hs w)) },1,0)
theorem ziB {l:List zT}{w i:Nat}{x:zT}(hw:w<l.length):hat (l.set w x) i=if i=w then x else hat l i:=by
 unfold hat;rw [List.getD_eq_getElem?_getD,List.getD_eq_getElem?_getD]
 by_cases e:i=w
 ·subst e;simp [hw]
 ·rw [if_neg e,List.getElem?_set_ne (Ne.symm e)]
theorem flat_set {qs:List (List Nat)}{w:Nat}{l:List Nat}(hw:w<qs.length): ∃A B,qs.flatten=A++(qat qs w++B)/\(qs.set w l).flatten=A++(l++B):=by
 refine ⟨(qs.take w).flatten,(qs.drop (w+1)).flatten,?_,?_⟩
 ·conv=>lhs;rw [<-List.take_append_drop w qs,List.drop_eq_getElem_cons hw]
  rw [List.flatten_append,List.flatten_cons];simp [qat,List.getD_eq_getElem?_getD,hw]
 ·rw [List.set_eq_take_append_cons_drop,if_pos hw,List.flatten_append,List.flatten_cons]
theorem zik {qs:List (List Nat)}{w:Nat}{a:Nat}(h:gOk qs) (hw:w<qs.length) (e:(zaT qs w a).2=0):zaT qs w a=(qs.set w (qat qs w++[a]),0)/\a≠0/\a∉qs.flatten/\gOk (qs.set w (qat qs w++[a]))/\ ∀x,x∈(qs.set w (qat qs w++[a])).flatten↔x=a\/x∈qs.flatten:=by
 unfold zaT at e ⊢;rw [if_neg (fun k=>k h),if_neg (fun k=>k (by omega))] at e ⊢
 by_cases h1:a=0
 ·rw [if_pos h1] at e;cases e
 rw [if_neg h1] at e ⊢
 by_cases h2:a∈qs.flatten
 ·rw [if_pos h2] at e;cases e
 rw [if_neg h2] at e ⊢
 by_cases h3:qs.flatten.length=16384
 ·rw [if_pos h3] at e;cases e
 rw [if_neg h3,Int.toNat_natCast];obtain ⟨A,B,e1,e2⟩:=flat_set (l:=qat qs w++[a]) hw;have hp:((qs.set w (qat qs w++[a])).flatten).Perm (a::qs.flatten):=by
  rw [e1,e2];have:(A++(qat qs w++[a]++B))=(A++qat qs w)++a::B:=by simp
  rw [this,show A++(qat qs w++B)=(A++qat qs w)++B by simp];exact List.perm_middle
 obtain ⟨g1,g2,g3,g4,g5⟩:=h;refine ⟨rfl,h1,h2,⟨by rw [List.length_set];exact g1,by rw [List.length_set];exact g2,?_,?_,?_⟩,fun x=> ?_⟩
 ·rw [hp.length_eq,List.length_cons];omega
 ·exact hp.nodup_iff.2 (List.nodup_cons.2 ⟨h2,g4⟩)
 ·intro h0
  rcases List.mem_cons.1 (hp.mem_iff.1 h0) with h|h
  ·exact h1 h.symm
  ·exact g5 h
 ·rw [hp.mem_iff,List.mem_cons]
theorem zuB {qs rs:List (List Nat)}(h:gOk qs) (hl:rs.length=qs.length) (hs:rs.flatten.Sublist qs.flatten):gOk rs:=by
 obtain ⟨g1,g2,g3,g4,g5⟩:=h;exact ⟨by omega,by omega,Nat.le_trans hs.length_le g3,hs.nodup g4,fun h=>g5 (hs.subset h)⟩
theorem zyO {qs:List (List Nat)}(h:0<qs.length):lng qs qs.length<qs.length:=by
 rcases zqH (qs:=qs) (k:=qs.length) with h|h<;>omega
theorem zkw {qs:List (List Nat)}{w:Nat}(h:gOk qs) (hw:w<qs.length):((zav qs w).2.2.2=0/\gOk (zav qs w).1/\(zav qs w).1.length=qs.length/\ ∃A B,qs.flatten.Perm ((zav qs w).2.1::(A++B))/\(zav qs w).1.flatten.Perm (A++B))\/((zav qs w).2.2.2=3/\(zav qs w).1=qs/\qat qs w=[]/\qs.flatten=[]):=by
 unfold zav;rw [if_neg (fun k=>k h),if_neg (fun k=>k (by omega)),Int.toNat_natCast]
 by_cases h1:0<(qat qs w).length
 ·rw [if_pos h1]
  dsimp only;obtain ⟨A,B,e1,e2⟩:=flat_set (l:=(qat qs w).take ((qat qs w).length-1)) hw;have hq:qat qs w=(qat qs w).take ((qat qs w).length-1)++[nx (qat qs w) ((qat qs w).length-1)]:=by
   have hi:(qat qs w).length-1<(qat qs w).length:=by omega
   have:=List.take_add_one (l:=qat qs w) (i:=(qat qs w).length-1);rw [show (qat qs w).length-1+1=(qat qs w).length by omega,List.take_length,zjD hi] at this;exact this
  refine .inl ⟨rfl,zuB h List.length_set ?_,List.length_set,A++(qat qs w).take ((qat qs w).length-1),B,?_,?_⟩
  ·rw [e1,e2]
   exact (List.Sublist.refl _).append ((List.take_sublist _ _).append (List.Sublist.refl _))
  ·rw [e1]
   conv=>lhs;rw [hq]
   rw [show A++(List.take ((qat qs w).length-1) (qat qs w)++[nx (qat qs w) ((qat qs w).length-1)]++B)=(A++List.take ((qat qs w).length-1) (qat qs w))++nx (qat qs w) ((qat qs w).length-1)::B by simp];exact List.perm_middle
  ·rw [e2,List.append_assoc]
 ·rw [if_neg h1]
  have hl:=zyO (qs:=qs) (by omega)
  by_cases h2:(qat qs (lng qs qs.length)).length=0
  ·rw [if_pos h2]
   refine .inr ⟨rfl,rfl,List.eq_nil_of_length_eq_zero (by omega),?_⟩;have hmax: ∀k,k<=qs.length-> ∀i,i<k->(qat qs i).length<=(qat qs (lng qs k)).length:=by
    intro k
    induction k with
    |zero=>intro _ i hi;omega
    |succ k ih=>
     intro hk i hi;unfold lng
     by_cases c:(qat qs (lng qs k)).length<(qat qs k).length
     ·rw [if_pos c]
      by_cases e:i=k
      ·subst e;exact Nat.le_refl _
      ·have:=ih (by omega) i (by omega);omega
     ·rw [if_neg c]
      by_cases e:i=k
      ·subst e;omega
      ·exact ih (by omega) i (by omega)
   apply List.eq_nil_iff_forall_not_mem.2;intro a ha;obtain ⟨i,hi,hm⟩:=znJ.1 ha;have:=hmax qs.length (Nat.le_refl _) i hi;rw [h2] at this;have:=List.length_pos_of_mem hm;omega
  ·rw [if_neg h2]
   obtain ⟨A,B,e1,e2⟩:=flat_set (l:=(qat qs (lng qs qs.length)).drop 1) hl;have hq:qat qs (lng qs qs.length)=nx (qat qs (lng qs qs.length)) 0::(qat qs (lng qs qs.length)).drop 1:=by
    cases hc:qat qs (lng qs qs.length) with
    |nil=>rw [hc] at h2;exact absurd rfl h2
    |cons a l=>simp [nx]
   refine .inl ⟨rfl,zuB h List.length_set ?_,List.length_set,A,(qat qs (lng qs qs.length)).drop 1++B,?_,?_⟩
   ·rw [e1,e2]
    exact (List.Sublist.refl _).append ((List.drop_sublist _ _).append (List.Sublist.refl _))
   ·rw [e1]
    conv=>lhs;rw [hq]
    exact List.perm_middle
   ·rw [e2]
theorem zdG {X:MiA}(h:X.ok){w:Nat}{x:zT}(hw:w<X.hs.length) (hx:zd1 X.H x):(X.sh w x).ok:=by
 obtain ⟨h1,h2,h3,h4,h5,h6,h7,h8⟩:=h;refine ⟨h1,h2,by show (X.hs.set w x).length=_;rw [List.length_set];exact h3,h4,h5,h6,h7,fun i hi=> ?_⟩;show zd1 X.H (hat (X.hs.set w x) i);rw [ziB hw]
 split
 ·exact hx
 ·exact h8 i (by have:i<(X.hs.set w x).length:=hi;rwa [List.length_set] at this)
theorem zxj {X:MiA}(h:X.ok){qs:List (List Nat)}(h1:gOk qs) (h2:qs.length=X.qs.length) (h3: ∀a,a∈qs.flatten->a∈X.H.cs):MiA.ok { X with qs:=qs }:=by
 obtain ⟨k1,k2,k3,k4,k5,k6,k7,k8⟩:=h;exact ⟨k1,h1,by show X.hs.length=qs.length;omega,k4,k5,k6,h3,k8⟩
theorem zyh {X:MiA}(h:X.ok){mw:Nat->Nat}(hm:zkv X.H X.nm mw):MiA.ok { X with mw:=mw }:=by
 obtain ⟨k1,k2,k3,k4,k5,k6,k7,k8⟩:=h;exact ⟨k1,k2,k3,k4,k5,hm,k7,k8⟩
theorem zd3 {H:zl}{x:zT}(h:zd1 H x) (h0:x.pc≠0) (h1:x.pc≠1):2<=x.pc/\x.pc<=5/\x.obj∈H.cs/\x.N=(H.a x.obj%256:Nat)/\x.M=unM (H.a x.obj)/\0<=x.f/\x.f<=x.N/\(x.seen=0\/x.pc=4)/\((x.pc=2/\x.to=0)\/(x.pc≠2/\x.f<x.N/\x.M.testBit x.f.toNat=true/\x.to∈H.cs)):=by
 rcases h with h|h|h
 ·exact absurd h.1 h0
 ·exact absurd h.1 h1
 ·exact h
theorem zk6 {H:zl}{x:zT}(h:zd1 H x) (h3:3<=x.pc):zd1 H (behind x):=by
 obtain ⟨_,_,a3,a4,a5,a6,a7,a8,a9⟩:=zd3 h (by omega) (by omega);rcases a9 with a9|⟨_,b2,_,_⟩
 ·omega
 ·exact .inr (.inr ⟨Nat.le_refl _,(by decide:2<=5),a3,a4,a5,by show 0<=x.f+1;omega,by show x.f+1<=x.N;omega,.inl rfl,.inl ⟨rfl,rfl⟩⟩)
theorem zpx {H:zl}(hR:H.right) (wa:w64 H.na H.a){nm a:Nat}{mw:Nat->Nat}(hw:w64 nm mw) (hn:nm=nwm H.na) (h:zkv H nm mw) (ha:a∈H.cs):zkv H nm (za7 mw (a/2) true):=fun i hi hb=>by
 obtain ⟨p1,p2⟩:=zcR hR wa ha;rw [za9 hw (by omega)] at hb
 by_cases e:i=a/2
 ·have:=zfJ hR.1 ha
  rw [show 2*i=a by omega];exact ha
 ·rw [if_neg e] at hb
  exact h i hi hb
theorem zkx {X:MiA}(h:X.ok) (wa:w64 X.H.na X.H.a) (wk:w64 X.nm X.mw){w:Nat}(hw:w<X.hs.length):(zm X w).1.ok/\w64 X.nm (zm X w).1.mw/\(zm X w).1.H=X.H/\(zm X w).1.nm=X.nm/\(zm X w).1.hs.length=X.hs.length:=by
 have hx:=h.2.2.2.2.2.2.2 w hw;have hq:=h.2.1;have hR:=h.1;have hwq:w<X.qs.length:=by have:=h.2.2.1;omega
 have len: ∀x,(X.hs.set w x).length=X.hs.length:=fun x=>List.length_set
 unfold zm;obtain ⟨x,ex⟩: ∃x,hat X.hs w=x:=⟨_,rfl⟩
 rw [ex] at hx ⊢
 by_cases p0:x.pc=0
 ·rw [if_pos p0]
  rcases zkw hq hwq with ⟨e,g,gl,A,B,p1,p2⟩|⟨e,_⟩
  ·rw [if_pos e]
   have hm: ∀a,a∈(zav X.qs w).1.flatten->a∈X.H.cs:=fun a ha=>h.2.2.2.2.2.2.1 a (p1.mem_iff.2 (List.mem_cons_of_mem _ (p2.mem_iff.1 ha)))
   have ha:(zav X.qs w).2.1∈X.H.cs:=h.2.2.2.2.2.2.1 _ (p1.mem_iff.2 List.mem_cons_self);exact ⟨zdG (zxj h g gl hm) hw (.inr (.inl ⟨rfl,ha,rfl⟩)),wk,rfl,rfl,len _⟩
  ·rw [if_neg (by rw [e];decide)]
   exact ⟨h,wk,rfl,rfl,rfl⟩
 rw [if_neg p0]
 by_cases p1:x.pc=1
 ·rw [if_pos p1]
  rcases hx with hx|⟨_,ho,e⟩|hx
  ·exact absurd hx.1 p0
  ·refine ⟨zdG h hw (.inr (.inr ⟨Nat.le_refl _,(by decide:2<=5),ho,rfl,rfl,?_,?_,.inl ?_,.inl ⟨rfl,?_⟩⟩)),wk,rfl,rfl,len _⟩
   ·show 0<=x.f;rw [e];exact Int.le_refl _
   ·show x.f<=_
    rw [e];exact Int.natCast_nonneg _
   ·show x.seen=0;rw [e]
   ·show x.to=0;rw [e]
  ·omega
 rw [if_neg p1];obtain ⟨a1,a2,a3,a4,a5,a6,a7,a8,a9⟩:=zd3 hx p0 p1;obtain ⟨z0,z1,z2,z3⟩:=zk5 hR wa a3
 by_cases p2:x.pc=2
 ·rw [if_pos p2]
  have hs0:x.seen=0:=by omega
  have ht0:x.to=0:=by
   rcases a9 with a9|a9
   ·exact a9.2
   ·exact absurd p2 a9.1
  cases hn:zfd x.M x.N.toNat x.f.toNat with
  |none=>exact ⟨zdG h hw (.inl ⟨rfl,rfl⟩),wk,rfl,rfl,len _⟩
  |some g=>
   obtain ⟨n1,n2,n3,n4⟩:=zd0 hn;dsimp only
   by_cases hz:X.H.a (x.obj+1+g)=0
   ·rw [if_pos hz]
    refine ⟨zdG h hw (.inr (.inr ⟨a1,a2,a3,a4,a5,?_,?_,a8,.inl ⟨p2,ht0⟩⟩)),wk,rfl,rfl,len _⟩
    ·show 0<=(g:Int)+1;omega
    ·show (g:Int)+1<=x.N;omega
   ·rw [if_neg hz]
    refine ⟨zdG h hw (.inr (.inr ⟨(by decide:2<=3),(by decide:3<=5),a3,a4,a5,?_,?_,.inl hs0,.inr ⟨(by decide:3≠2),?_,?_,?_⟩⟩)),wk,rfl,rfl,len _⟩
    ·show 0<=(g:Int);omega
    ·show (g:Int)<=x.N;omega
    ·show (g:Int)<x.N;omega
    ·show x.M.testBit (g:Int).toNat=true
     rw [Int.toNat_natCast];exact n3
    ·exact z3 g (by omega) (by rw [<-a5];exact n3) hz
 rw [if_neg p2];obtain ⟨b1,b2,b3,b4⟩:x.pc≠2/\x.f<x.N/\x.M.testBit x.f.toNat=true/\x.to∈X.H.cs:=by
  rcases a9 with a9|a9
  ·exact absurd a9.1 p2
  ·exact a9
 by_cases p3:x.pc=3
 ·rw [if_pos p3]
  by_cases hb:bit X.mw (x.to/2)=true
  ·rw [if_pos hb]
   exact ⟨zdG h hw (zk6 hx (by omega)),wk,rfl,rfl,len _⟩
  ·rw [if_neg hb]
   exact ⟨zdG h hw (.inr (.inr ⟨(by decide:2<=4),(by decide:4<=5),a3,a4,a5,a6,a7,.inr rfl,.inr ⟨(by decide:4≠2),b2,b3,b4⟩⟩)),wk,rfl,rfl,len _⟩
 rw [if_neg p3]
 by_cases p4:x.pc=4
 ·rw [if_pos p4]
  by_cases hb:X.mw (x.to/2/64)=x.seen
  ·rw [if_pos hb]
   refine ⟨zdG (X:={ X with mw:=za7 X.mw (x.to/2) true }) (zyh h (zpx hR wa wk h.2.2.2.1 h.2.2.2.2.2.1 b4)) hw (.inr (.inr ⟨(by decide:2<=5),(by decide:5<=5),a3,a4,a5,a6,a7,.inl rfl,.inr ⟨(by decide:5≠2),b2,b3,b4⟩⟩)),zhS wk,rfl,rfl,len _⟩
  ·rw [if_neg hb]
   exact ⟨zdG h hw (.inr (.inr ⟨(by decide:2<=3),(by decide:3<=5),a3,a4,a5,a6,a7,.inl rfl,.inr ⟨(by decide:3≠2),b2,b3,b4⟩⟩)),wk,rfl,rfl,len _⟩
 rw [if_neg p4]
 by_cases he:(zaT X.qs w x.to).2=0
 ·obtain ⟨q1,q2,q3,q4,q5⟩:=zik hq hwq he
  rw [if_pos he,q1];refine ⟨zdG (X:={ X with qs:=X.qs.set w (qat X.qs w++[x.to]) }) (zxj h q4 List.length_set fun a ha=> ?_) hw (zk6 hx (by omega)),wk,rfl,rfl,len _⟩;rcases (q5 a).1 ha with rfl|h'
  ·exact b4
  ·exact h.2.2.2.2.2.2.1 a h'
 ·rw [if_neg he]
  exact ⟨zdG h hw (zk6 hx (by omega)),wk,rfl,rfl,len _⟩
theorem zyP {X:MiA}(h:X.ok) (wk:w64 X.nm X.mw):MiB X:=by
 obtain ⟨h1,h2,h3,h4,_⟩:=h;have:=h1.1.na;have:=h2.2.1;have:=h1.1.2.2.1.1;refine ⟨wk,by unfold nwm at h4;omega,by omega,fun i hi=> ?_,by omega,by omega⟩;have:=zqG hi;have:=h2.2.2.1;omega
theorem zpy {α:Type}{f:Nat->α}{w:Nat}{a b:α}:up (up f w a) w b=up f w b:=by
 funext i
 by_cases e:i=w
 ·subst e;rw [zK,zK]
 ·rw [zaM e,zaM e,zaM e]
theorem zky {l:List zT}{w:Nat}{x:zT}(hw:w<l.length):up (fun i=>zH (hat l i)) w (zH x)=fun i=>zH (hat (l.set w x) i):=by
 funext i
 rw [ziB hw]
 by_cases e:i=w
 ·subst e;rw [zK,if_pos rfl]
 ·rw [zaM e,if_neg e]
theorem zfL {n w o:Nat}{f:Nat->List V}{c:List V}{own:Bool}{k:Option Nat}(hw:w<n) (hc:f w=c):zhG (some (.cells own (zJ n f))) k w o=part c o k:=by rw [zcx hw,hc]
theorem zbS {n w z o:Nat}{f:Nat->List V}{c:List V}{x:V}(hw:w<n) (hc:f w=c) (hx:x.cells.length=z/\o+z<=c.length/\x.cells.all V.isCell=true):zcW (some (.cells true (zJ n f))) z w o x=some (.cells true (zJ n (up f w (splice c o x.cells)))):=by
 unfold zcW;have e:(zJ n f)[w]? =some c:=by simp [hw,hc]
 simp only [e];rw [if_pos hx,map_set]
theorem zk7 {M:Mem}{bh w n:Nat}{f:Nat->List V}{x:zT}(hd:M[bh]? =some (.cells true (zJ n f))) (hw:w<n) (hf:f w=zH x) (h1:0<=x.f) (h2:x.f<=1000):C S zgP [.ptr bh w 0] M (fun _ M'=>M'=M.set bh (.cells true (zJ n (up f w (zH { x with pc:=2,f:=x.f+1,to:=0 }))))):=by
 have w1:IntKind.i64.wrap (x.f+1)=x.f+1:=by rw [wrap_i64]<;>omega
 have i1:=fun (k:Option Nat) (o:Nat) (own:Bool)=> @zfL n w o f (zH x) own k hw hf
 have i2:=fun (z o:Nat) (y:V)=> @zbS n w z o f (zH x) y hw hf
 have i3:=fun (z o:Nat) (y:V) (c:List V)=> @zbS n w z o (up f w c) c y hw zK
 have g1:= @zL;have g3:= @set_set;have g4:=fun (a b:List V)=> @zpy _ f w a b
 clear hf;refine fn rfl ?_;rfl
def zg1 (H:zl) (x:zT):zT×Nat:=
 match zfd x.M x.N.toNat x.f.toNat with
 |none=>(hand0,0)
 |some g=>if H.a (x.obj+1+g)=0 then ({ x with f:=(g:Int)+1 },2) else ({ x with pc:=3,f:=(g:Int),to:=H.a (x.obj+1+g) },2)
theorem zsh {M:Mem}{P bh w n:Nat}{own:Bool} {aw c1 c2 c3 c4 c5 c6:V}{H:zl}{f:Nat->List V}{x:zT}{Fh:Nat->Prop}(hP:M[P]? =some (.cells own [[aw,c1,c2,c3,c4,c5,c6]])) (hPb:(bh=P)=False) (ha:Loc Fh M (fun M=>Rd M aw 1 H.na (zG H.a))) (hb:¬ Fh bh) (hd:M[bh]? =some (.cells true (zJ n f))) (hw:w<n) (hf:f w=zH x) (hN:x.N=(H.a x.obj%256:Nat)) (hM:x.M=unM (H.a x.obj)) (hs:zkf (H.a x.obj)) (h1:0<=x.f) (h2:x.f<=x.N) (ho:x.obj+1+H.a x.obj%256<=H.na) (hna:H.na<=16384):
  C S zeX [.ptr P 0 0,.ptr bh w 0] M (fun r M'=> ∃g,r= .int .u8 ((zg1 H x).2:Nat)/\M'=(M++g).set bh (.cells true (zJ n (up f w (zH (zg1 H x).1))))):=by
 obtain ⟨Q,eQ⟩: ∃Q,zg1 H x=Q:=⟨_,rfl⟩
 rw [eQ];obtain ⟨pc,obj,N,Mk,fd,to,seen⟩:=x;dsimp only at hN hM hs h1 h2 ho;subst hN hM;obtain ⟨k,rfl⟩: ∃k:Nat,fd=k:=⟨fd.toNat,by omega⟩
 have zs:zqc ((H.a obj%256:Nat):Int) (unM (H.a obj)):=⟨by omega,by have:=hs.2.1;omega,by rw [Int.toNat_natCast];exact hs.2.2⟩
 have eQ':PLift (zg1 H ⟨pc,obj,(H.a obj%256:Nat),unM (H.a obj),(k:Int),to,seen⟩=Q):=⟨eQ⟩
 have zn:=hs.2.1;have hN:=znN (m:=M) (f:=k) zs (by omega);have hN':=zU hN;have ha':=zU ha;have i1:=fun (k':Option Nat) (o:Nat) (own:Bool)=> @zfL n w o f _ own k' hw hf
 have i2:=fun (z o:Nat) (y:V)=> @zbS n w z o f _ y hw hf
 have i3:=fun (z o:Nat) (y:V) (c:List V)=> @zbS n w z o (up f w c) c y hw zK
 have i4:=fun (k':Option Nat) (o:Nat) (own:Bool) (c:List V)=> @zfL n w o (up f w c) c own k' hw zK
 have g1:= @zL;have g2:= @zd2;have g3:= @set_set;have g4:=fun (a b:List V)=> @zpy _ f w a b
 clear hf eQ hN zs hs ha;obtain ⟨nn,en⟩: ∃nn,H.a obj%256=nn:=⟨_,rfl⟩
 obtain ⟨wd,ew⟩: ∃wd,unM (H.a obj)=wd:=⟨_,rfl⟩
 rw [en,ew] at hN' eQ' i1 i2;rw [en] at ho zn;clear en ew;refine fn rfl ?_;refine hN'.down.mono ?_;rintro _ _ ⟨rfl,⟨g,rfl⟩⟩;cases hx:zfd wd nn k with
 |none=>
  have e:PLift (Q=(hand0,0)):=⟨by
   rw [<-eQ'.down,zg1];simp only [Int.toNat_natCast,hx]⟩
  clear hx;unfold zxh;refine am ?_;rw [e.down];exact ⟨g,rfl,rfl⟩
 |some q=>
  obtain ⟨n1,n2,n3,n4⟩:=zd0 hx;have e:PLift (Q=if H.a (obj+1+q)=0 then (⟨pc,obj,(nn:Nat),wd,(q:Int)+1,to,seen⟩,2) else (⟨3,obj,(nn:Nat),wd,(q:Int),H.a (obj+1+q),seen⟩,2)):=⟨by
   rw [<-eQ'.down,zg1];simp only [Int.toNat_natCast,hx]⟩
  have A:=fun y=>(((ha'.down.app (G:=g)).set (y:=y) hb).at).ar
  have w1:=un' (a:=obj+1) (by omega);have w1':IntKind.u64.wrap ((obj:Int)+1)=((obj+1:Nat):Int):=w1;have w2:=un' (a:=q) (by omega);have w3:=un' (a:=obj+1+q) (by omega);have w3':IntKind.u64.wrap (((obj+1:Nat):Int)+(q:Int))=((obj+1+q:Nat):Int):=w3;have w4:IntKind.i64.wrap ((q:Int)+1)=(q:Int)+1:=by rw [wrap_i64]<;>omega
  have hlt:obj+1+q<H.na:=by omega
  have ix:=(A .dead).2.2.2.1 .u64 (obj+1+q) hlt;have ld: ∀y,zaq ((M++g).set bh y) none (atp aw (obj+1+q) 0)=some (.int .u64 (H.a (obj+1+q):Nat)):=fun y=>(A y).2.2.2.2 (obj+1+q) 0 none hlt
  unfold zxh;clear hx A n4
  by_cases hz:H.a (obj+1+q)=0
  ·have c:((H.a (obj+1+q):Int)=0)=True:=eq_true (by omega)
   have e2:=e.down;rw [if_pos hz] at e2;have e2':=zU e2;clear hz e e2;refine am ?_;rw [e2'.down];exact ⟨g,rfl,rfl⟩
  ·have c:((H.a (obj+1+q):Int)=0)=False:=eq_false (by omega)
   have e2:=e.down;rw [if_neg hz] at e2;have e2':=zU e2;clear hz e e2;refine am ?_;rw [e2'.down];exact ⟨g,rfl,rfl⟩
theorem ztu {M:Mem} {P bh bm w n nm cm:Nat}{em own:Bool} {c0 c1 c2 c3 c5 c6:V}{mw:Nat->Nat}{f:Nat->List V}{x:zT}(hP:M[P]? =some (.cells own [[c0,c1,c2,c3,.slice bm 0 nm cm em 1,c5,c6]])) (hm:M[bm]? =some (.cells true (zJ nm (zG mw)))) (hk:w64 nm mw) (hd:M[bh]? =some (.cells true (zJ n f))) (hw:w<n) (hf:f w=zH x) (hs:x.seen=0) (h1:0<=x.f) (h2:x.f<=1000) (ht:x.to<16384) (hn:x.to/2/64<nm):
  C S zfs [.ptr P 0 0,.ptr bh w 0] M (fun r M'=>r= .int .u8 3/\M'=M.set bh (.cells true (zJ n (up f w (zH (if bit mw (x.to/2)=true then behind x else { x with pc:=4,seen:=mw (x.to/2/64) })))))):=by
 have hr:Rd M (.slice bm 0 nm cm em 1) 1 nm (zG mw):=by
  refine .inl ?_;have:=Sl.mk (cap:=cm) (z:=1) (ex:=em) hm;rw [List.length_map,List.length_range] at this;exact this
 have BL:=zjG hP hr hk (by omega) hn;have BL':=zU BL;have PL:=zfe (m:=M) (a:=x.to) (by omega);have PL':=zU PL;have PS:=zk7 hd hw hf h1 h2;have PS':=zU PS;have ebh:behind x={ x with pc:=2,f:=x.f+1,to:=0 }:=by rw [behind,hs]
 have ebh':=zU ebh;have i1:=fun (k':Option Nat) (o:Nat) (own:Bool)=> @zfL n w o f _ own k' hw hf
 have i2:=fun (z o:Nat) (y:V)=> @zbS n w z o f _ y hw hf
 have i3:=fun (z o:Nat) (y:V) (c:List V)=> @zbS n w z o (up f w c) c y hw zK
 have j1:=fun (k':Option Nat) (o:Nat) (own:Bool)=> @zcx nm (x.to/2/64) (zG mw) own k' o hn
 have ix:= @zcT bm 0 nm cm (x.to/2/64) 1 em .i64 hn;have g1:= @zL;have g3:= @set_set;have g4:=fun (a b:List V)=> @zpy _ f w a b
 clear BL PL PS hf ebh hr hs;refine fn rfl ?_;refine BL'.down.mono ?_;rintro _ M' ⟨rfl,e⟩;rw [e];clear e M';cases hb:bit mw (x.to/2) with
 |true=>
  rw [if_pos rfl];clear hb;refine am ?_;refine PS'.down.mono ?_;rintro _ M' e;rw [e];clear e M';refine am ?_;rw [ebh'.down]
 |false=>
  rw [if_neg (by decide)];clear hb;refine am ?_;refine PL'.down.mono ?_;rintro _ M' ⟨rfl,e⟩;rw [e];clear e M';refine am ?_;rfl
theorem ztv {M:Mem} {P bh bm w n nm cm:Nat}{em own:Bool} {c0 c1 c2 c3 c5 c6:V}{mw:Nat->Nat}{f:Nat->List V}{x:zT}(hP:M[P]? =some (.cells own [[c0,c1,c2,c3,.slice bm 0 nm cm em 1,c5,c6]])) (hm:M[bm]? =some (.cells true (zJ nm (zG mw)))) (hk:w64 nm mw) (hd:M[bh]? =some (.cells true (zJ n f))) (e1:(bh=P)=False) (e2:(bh=bm)=False) (e3:(bm=bh)=False) (hw:w<n) (hf:f w=zH x) (ht:x.to<16384) (hn:x.to/2/64<nm):
  C S zft [.ptr P 0 0,.ptr bh w 0] M (fun r M'=>(mw (x.to/2/64)=x.seen/\r= .int .u8 4/\M'[bm]? =some (.cells true (zJ nm (zG (za7 mw (x.to/2) true))))/\M'[bh]? =some (.cells true (zJ n (up f w (zH { x with pc:=5,seen:=0 }))))/\ ∀c,c≠bm->c≠bh->M'[c]? =M[c]?)\/(mw (x.to/2/64)≠x.seen/\r= .int .u8 5/\M'=M.set bh (.cells true (zJ n (up f w (zH { x with pc:=3,seen:=0 })))))):=by
 have PL:=zfe (m:=M) (a:=x.to) (by omega);have PL':=zU PL;have i1:=fun (k':Option Nat) (o:Nat) (own:Bool)=> @zfL n w o f _ own k' hw hf
 have i2:=fun (z o:Nat) (y:V)=> @zbS n w z o f _ y hw hf
 have i3:=fun (z o:Nat) (y:V) (c:List V)=> @zbS n w z o (up f w c) c y hw zK
 have i4:=fun (k':Option Nat) (o:Nat) (own:Bool) (c:List V)=> @zfL n w o (up f w c) c own k' hw zK
 have j1:=fun (k':Option Nat) (o:Nat) (own:Bool)=> @zcx nm (x.to/2/64) (zG mw) own k' o hn
 have ix:= @zcT bm 0 nm cm (x.to/2/64) 1 em .i64 hn;have g1:= @zL;have g2:= @zd2;have g3:= @set_set;have g4:=fun (a b:List V)=> @zpy _ f w a b
 have hk':=zU hk;clear PL hf hk;refine fn rfl ?_;refine PL'.down.mono ?_;rintro _ M' ⟨rfl,e⟩;rw [e];clear e M'
 by_cases c:mw (x.to/2/64)=x.seen
 ·have d:((mw (x.to/2/64):Int)=(x.seen:Int))=True:=eq_true (by omega)
  have c':=zU c;have MS:=fun y=>znO (P:=P) (b:=bm) (n:=nm) (cap:=cm) (ex:=em) (own:=own) (M:=M.set bh y) (a:=x.to) (mk:=mw) (by rw [List.getElem?_set_ne (fun e=>by rw [e] at e1;simp at e1)];exact hP) (by rw [List.getElem?_set_ne (fun e=>by rw [e] at e2;simp at e2)];exact hm) hk'.down (by omega) hn
  have MS':=zU MS;clear c MS;refine am ?_;refine (MS'.down _).mono ?_;rintro _ M' e;rw [e];clear e M';refine am ?_;refine .inl ⟨c'.down,rfl,fun c h1 h2=> ?_⟩;rw [List.getElem?_set_ne (Ne.symm h2),List.getElem?_set_ne (Ne.symm h1),List.getElem?_set_ne (Ne.symm h2)]
 ·have d:((mw (x.to/2/64):Int)=(x.seen:Int))=False:=eq_false (by omega)
  have c':=zU c;clear c;refine am ?_;exact .inr ⟨c'.down,rfl⟩
end Go.AM.G
