import Derived.Test.YtfhbhfogcgfeeaaGreatDoorHvQ
import Derived.Test.YtfhbhfogcgfeeaaGreatDoorHvP
import Derived.WalkKit
import Derived.Test.YtfhbhfogcgfeeaaGreatDoorHbC
import Derived.Test.YtfhbhfogcgfeeaaGreatDoorHbEa
set_option linter.unusedVariables false
set_option linter.unusedSimpArgs false
set_option maxRecDepth 1000000
namespace Go.AM.G.Lv
open Go Go.AM Go.AM.G
def a0 (i:Nat):Nat:=if i=16 then 11889503016258109954 else if i=18 then 32 else if i=32 then 11889503016258109440 else 0
def sp0 (i:Nat):zak:=if i=0 then ⟨1,1,4,⟨4,1,fun _=>1⟩,⟨4,1,fun _=>0⟩,true⟩ else ⟨2,1,2,⟨8,1,fun _=>1⟩,⟨8,1,fun _=>0⟩,true⟩
def H0:zl:=⟨48,a0,⟨3,1,fun _=>7⟩,2,sp0⟩
def Z0:MiA:=zfj (zg2 H0 2) [16,0,16] 3
theorem cs0:H0.cs=[16,32]:=by kernel_rfl
theorem zwB:H0.swept:=fun i hi=>by
 have:i=0\/i=1:=by have:i<2:=hi;omega
 rcases this with rfl|rfl<;>rfl
theorem zzc:((zdd 12 (Z0,0,0) [0,1] [0,1]).any fun Z=>decide (8<Z.2.1)&&(decide (Z.2.2=0)&&(decide (zbh Z.1=[16,32])&& !zdS Z.1)))=true:=by kernel_rfl
theorem step1:((zm Z0 1).2.1 == 1&&((zm Z0 1).2.2 == 0&&((zm Z0 1).1.hs.length == 2&&((hat (zm Z0 1).1.hs 1).obj == 16&&((zm (zm Z0 1).1 0).2.2 == 3&&Z0.hs.length == 2)))))=true:=by kernel_rfl
end Go.AM.G.Lv
namespace Go.AM.G
open Go Go.AM Go.Proofs
theorem zxJ {call:zS}(hc:zek call){a:List V}{m m':Mem}{v:V}{id:Nat}{blk:Blk}(hd:m[id]? =some .dead) (e:zkM call a m=some (v,m')):m'[id]? =some .dead/\zkM call a (m.set id blk)=some (v,m'.set id blk):=by
 unfold zkM at e ⊢
 split at e
 case isFalse=>cases e
 rename_i hi
 rw [if_pos hi];cases hcall:call zba a m with
 |none=>rw [hcall] at e;cases e
 |some y=>
  obtain ⟨v1,m1⟩:=y;rw [hcall] at e;obtain ⟨hd1,hc1⟩:=hc _ _ _ _ _ id blk hd hcall;rw [hc1]
  split at e
  ·rename_i k m2 heq
   simp only [Option.some.injEq,Prod.mk.injEq] at heq;obtain ⟨rfl,rfl⟩:=heq
   split at e
   ·cases e
   rename_i hk
   cases e;exact ⟨hd1,by simp only [if_neg hk]⟩
  ·rename_i P m2 heq
   simp only [Option.some.injEq,Prod.mk.injEq] at heq;obtain ⟨rfl,rfl⟩:=heq
   split at e
   case h_2=>cases e
   rename_i own s0 s1 s2 s3 ov hP
   split at e
   case h_2=>cases e
   rename_i els hels
   split at e
   case isFalse=>cases e
   rename_i hall
   simp only [(zjc (blk:=blk) hd1 hP).2,zjO (blk:=blk) hd1 hels,if_pos hall];cases hcv:zkd els with
   |nil=>
    rw [hcv] at e;cases e;exact ⟨hd1,rfl⟩
   |cons x r=>
    rw [hcv] at e;cases e;have:=zfk (blk:=blk) hd1 [.cells true (x::r)];exact ⟨this.1,by simp only [List.length_set,this.2]⟩
  ·cases e
theorem zyx:zmx X0:=by
 intro f t h call hc a m v m' id blk hd e;unfold X0 at h
 split at h
 ·cases h
  dsimp only at e ⊢;obtain ⟨n,rfl,h0,h1,rfl,rfl⟩:=zoY e;exact ⟨hd,by simp only [zqb];rw [if_pos ⟨h0,h1⟩]⟩
 split at h
 ·cases h
  exact zxJ hc hd e
 split at h
 ·cases h
  dsimp only at e ⊢;obtain ⟨n,rfl,h0,h1,rfl,rfl⟩:=zrj e;exact ⟨hd,by simp only [tTz];rw [if_pos ⟨h0,h1⟩]⟩
 ·cases h
theorem Xfr:zmx X:=by
 intro f t h call hc a m v m' id blk hd e;unfold X at h
 split at h
 ·cases h
  dsimp only at e ⊢;cases a with
  |nil=>cases e;exact ⟨hd,rfl⟩
  |cons x y=>cases e
 ·exact zyx f t h call hc a m v m' id blk hd e
end Go.AM.G
namespace Go.AM.G.Lv
open Go Go.AM Go.AM.G Go.Proofs
structure Box (d:Mem) (M:Mem) (k:Nat) (c:List V):Prop where
 dl:Dl d M
 dk:d[k]? =some .dead
 at_:M[k]? =some (.cells true [c])
theorem st {f:Nat}{args:List V}{d dd m:Mem}{r:V}(h:zgB (callN (fun f=>tab.lookup f) X0 300 f args d) r d dd=true) (hd:Dl d m):
  C Sv f args m (fun v m'=>v=r/\Dl dd m'/\ ∀k:Nat,d[k]? =some .dead->m'[k]? =m[k]?):=stage (P:=Tryz.prog) (F:=fun f=>tab.lookup f) zqx zyx rfl (n:=300) (S:=Sv) h hd
theorem Box.st {f:Nat}{args:List V}{d dd m:Mem}{r:V}{k:Nat}{c:List V}(b:Box d m k c) (h:zgB (callN (fun f=>tab.lookup f) X0 300 f args d) r d dd=true) (hk:dd[k]? =some .dead):
  C Sv f args m (fun v m'=>v=r/\Box dd m' k c):=(Lv.st h b.dl).mono fun _ _ ⟨e,h1,h2⟩=>⟨e,h1,hk,(h2 k b.dk).trans b.at_⟩
theorem Box.set {d m:Mem}{k:Nat}{c:List V}(b:Box d m k c) (c':List V):Box d (m.set k (.cells true [c'])) k c':=⟨b.dl.set b.dk _,b.dk,List.getElem?_set_self (List.getElem?_eq_some_iff.1 b.at_).1⟩
theorem Box.push {d m:Mem}{k:Nat}{c:List V}(b:Box d m k c) (x:Blk):Box (d++[.dead]) (m++[x]) k c:=⟨b.dl.push x,by rw [List.getElem?_append_left (List.getElem?_eq_some_iff.1 b.dk).1];exact b.dk,by rw [List.getElem?_append_left (List.getElem?_eq_some_iff.1 b.at_).1];exact b.at_⟩
theorem Box.same {d m:Mem}{k:Nat}{c:List V}(b:Box d m k c) (x:Blk):Box (d++[x]) (m++[x]) k c:=⟨b.dl.same x,by rw [List.getElem?_append_left (List.getElem?_eq_some_iff.1 b.dk).1];exact b.dk,by rw [List.getElem?_append_left (List.getElem?_eq_some_iff.1 b.at_).1];exact b.at_⟩
theorem Box.len {d m:Mem}{k n:Nat}{c:List V}(b:Box d m k c) (e:d.length=n):m.length=n:=b.dl.1.symm.trans e
theorem Box.gs {d m:Mem}{k:Nat}{c:List V}(b:Box d m k c) (x:Blk):(m.set k x)[k]? =some x:=List.getElem?_set_self (List.getElem?_eq_some_iff.1 b.at_).1
theorem det {S:Sys}{f:Nat}{args:List V}{m:Mem}{Q R:V->Mem->Prop}(h:C S f args m Q) (k:C S f args m R): ∃v m',Q v m'/\R v m':=by
 obtain ⟨n,v,m',e,q⟩:=h;obtain ⟨n',v',m'',e',r⟩:=k;have e1:=zcH S (Nat.le_max_left n n') _ _ _ _ e;have e2:=zcH S (Nat.le_max_right n n') _ _ _ _ e';rw [e1] at e2;cases e2;exact ⟨v,m',q,r⟩
theorem zrk {ws all:List Nat}: ∀{f f':Nat}{s Z Z':MiA×Nat×Nat},zdd f s ws all=some Z->zdd f' s ws all=some Z'->Z=Z'
 |0,0,s,Z,Z',h,h'=>by rw [h] at h';exact Option.some.inj h'
 |0,f'+1,s,Z,Z',h,h'=>by
  unfold zdd at h h'
  split at h
  ·cases h
  ·rename_i hb
   rw [if_neg hb] at h';cases h;cases h';rfl
 |f+1,0,s,Z,Z',h,h'=>by
  unfold zdd at h h'
  split at h'
  ·cases h'
  ·rename_i hb
   rw [if_neg hb] at h;cases h;cases h';rfl
 |f+1,f'+1,s,Z,Z',h,h'=>by
  unfold zdd at h h'
  split at h
  ·rename_i hb
   rw [if_pos hb] at h';exact zrk h h'
  ·rename_i hb
   rw [if_neg hb] at h';cases h;cases h';rfl
theorem zuo {X:MiA}(wa:w64 X.H.na X.H.a){ws all:List Nat}(hw: ∀w,w∈ws->w<X.hs.length) (ha: ∀w,w∈all->w<X.hs.length): ∀{f:Nat}{s Z:MiA×Nat×Nat},Rok X s->zdd f s ws all=some Z->Rok X Z
 |0,s,Z,hs,h=>by
  unfold zdd at h
  split at h
  ·cases h
  ·cases h;exact hs
 |f+1,s,Z,hs,h=>by
  unfold zdd at h
  split at h
  ·exact zuo wa hw ha (hs.round wa hw ha).1 h
  ·cases h;exact hs
def va0 (i:Nat):V:=if i=0 then .slice 517 0 1 1 false 1 else .slice 527 0 1 1 false 1
def vm0 (i:Nat):V:=if i=0 then .slice 521 0 1 1 false 1 else .slice 531 0 1 1 false 1
theorem zzd:d4[503]? =some (.cells true ((List.range 48).map (zG a0))):=by kernel_rfl
theorem zze:d4[509]? =some (.cells true ((List.range 1).map (zG fun _=>7))):=by kernel_rfl
theorem zzf:d4[511]? =some (.cells true ((List.range 2).map fun i=>zaS (sp0 i) (va0 i) (vm0 i))):=by kernel_rfl
theorem zzg:d4[517]? =some (.cells true ((List.range 1).map (zG fun _=>1))):=by kernel_rfl
theorem zzh:d4[521]? =some (.cells true ((List.range 1).map (zG fun _=>0))):=by kernel_rfl
theorem zzi:d4[527]? =some (.cells true ((List.range 1).map (zG fun _=>1))):=by kernel_rfl
theorem zzj:d4[531]? =some (.cells true ((List.range 1).map (zG fun _=>0))):=by kernel_rfl
theorem hp0 {M:Mem}(h:Dl d4 M):zcY M (.slice 503 0 48 48 false 1) (.slice 509 0 1 1 false 1) (.slice 511 0 2 2 false 8) va0 vm0 H0:=by
 have no: ∀{o l},Blk.cells o l≠ .dead:=fun h=>by cases h
 have r: ∀{b n z cap f},M[b]? =some (.cells true ((List.range n).map f))->Rd M (.slice b 0 n cap false z) z n f:=fun {b n z cap f} hb=> .inl (by
  have:=Sl.mk (cap:=cap) (z:=z) (ex:=false) hb;rw [List.length_map,List.length_range] at this;exact this)
 have w1: ∀{x:Nat},x<18446744073709551616->w64 1 (fun _=>x):=fun h _ _=>h
 refine ⟨r (h.get zzd no),r (h.get zze no),⟨r (h.get zzf no),fun i hi=> ?_⟩,fun i _=> ?_,w1 (by decide),by decide,by decide,by decide,Nat.le_refl _⟩
 ·have:i=0\/i=1:=by have:i<2:=hi;omega
  rcases this with rfl|rfl
  ·exact ⟨r (h.get zzg no),r (h.get zzh no),w1 (by decide),w1 (by decide),by decide,by decide⟩
  ·exact ⟨r (h.get zzi no),r (h.get zzj no),w1 (by decide),w1 (by decide),by decide,by decide⟩
 ·show a0 i<_
  unfold a0
  split
  ·decide
  ·split
   ·decide
   ·split<;>decide
theorem lives_C:C Sv zbV [] [] (fun r _=>r= .bool true):=by
 refine fn rfl ?_;refine (st s1 Dl.nil).mono ?_;rintro _ M ⟨rfl,D,-⟩;unfold r1;refine am ?_;have hl:M.length=32:=D.1.symm;rw [hl];have B:Box (d1++[.dead]) (M++[.cells true [[.slice 2 0 48 48 true 1,.int .i64 3,.slice 29 0 1 1 false 1,.nils]]]) 32 [.slice 2 0 48 48 true 1,.int .i64 3,.slice 29 0 1 1 false 1,.nils]:=⟨D.push _,rfl,by rw [<-hl];exact List.getElem?_concat_length⟩
 refine (B.st s2 rfl).mono ?_;clear B D hl M;rintro _ M ⟨rfl,B⟩;unfold r2;have b:=B.at_;have g:=B.gs;refine am ?_;refine ((B.set _).st s3 rfl).mono ?_;clear b g B M;rintro _ M ⟨rfl,B⟩;unfold r3;have b:=B.at_;have g:=B.gs;refine am ?_;refine ((B.set _).st s4 rfl).mono ?_;clear b g B M;rintro _ M ⟨rfl,B⟩;unfold r4;have b:=B.at_;have g:=B.gs;refine am ?_;obtain ⟨N,eN⟩: ∃N,M.set 32 (Blk.cells true [[V.slice 503 0 48 48 false 1,.int .i64 3,.slice 509 0 1 1 false 1,.slice 511 0 2 2 false 8]])=N:=⟨_,rfl⟩
 have hD:Dl d4 N:=by rw [<-eN];exact (B.set _).dl
 have hN:=hp0 hD;rw [eN];have hR:H0.right:=by
  obtain ⟨v,m',⟨e1,_⟩,e2,_⟩:=det (st s5 hD) (toV (zkB hN));rw [e1] at e2;rcases e2 with ⟨h,_⟩|⟨_,h⟩
  ·exact h
  ·cases h
 have hR':=zU hR;have hN':=zU hN;clear b g B M eN hD hN hR;refine (toV (zn1 (rs:=[16,0,16]) hN'.down.app ⟨rfl,rfl,rfl⟩ (by decide) (.inl (Sl.mk (cap:=3) (ex:=true) (own:=true) (els:=[[.int .u64 16],[.int .u64 0],[.int .u64 16]]) (by rw [zaa];rfl))) (by decide) (c:=2))).mono ?_;rintro _ _ ⟨Z,e,l,hM,rfl,aw1,uw1,sv1,mv1,qv1,hv1,G1,rfl,rfl,p1⟩;have hcs: ∀r,r∈[16,0,16]->r≠0->r∈H0.cs:=by
  rw [cs0];intro r hr h0;simp at hr;rcases hr with rfl|rfl|rfl
  ·simp
  ·exact absurd rfl h0
  ·simp
 have hMk:=zmo (c:=2) hR'.down zwB (by decide) (by decide);have hMk2:=hMk.add hN'.down.wa (rs:=[16,0,16]) hcs 3 (Nat.le_refl _);obtain ⟨rfl,rfl⟩:Z=Z0/\e=0:=by
  rcases hM with ⟨h,_⟩|⟨_,h,_⟩|⟨_,_,h,_⟩|⟨_,_,_,_,h,_⟩|⟨_,_,_,_,_,h1,h2⟩
  ·exact absurd hR'.down h
  ·exact absurd zwB h
  ·exact absurd ⟨by decide,by decide⟩ h
  ·exact absurd hcs h
  ·exact ⟨h1,h2⟩
 have hZ:PLift (Rok Z0 (Z0,0,0)):=⟨⟨hMk2.ok,hMk2.wk,rfl,rfl,rfl,Nat.le_refl _,by show 0+mu Z0<=mu Z0;omega⟩⟩
 have hwa:PLift (w64 Z0.H.na Z0.H.a):=⟨by rw [show Z0.H=H0 from hMk2.eH];exact hN'.down.wa⟩
 obtain ⟨_,_,_,_,q1⟩:=p1.ex;obtain ⟨B1,B2,B3,B4,B5,B6⟩:=q1.cells;obtain ⟨Zv,eZv⟩: ∃Zv,Z0=Zv:=⟨_,rfl⟩
 have st1:=step1;have rn:=zzc;rw [eZv] at q1 p1 hZ hwa st1 rn;rw [eZv];obtain ⟨N1,eN1⟩: ∃N1,N++[Blk.cells true [[V.int .u64 16],[.int .u64 0],[.int .u64 16]]]=N1:=⟨_,rfl⟩
 have p1':PLift (Ps N1.length G1 (fun M=> ∃va vm vs,zfi M aw1 uw1 sv1 mv1 qv1 hv1 va vm vs Zv)):=⟨by rw [<-eN1];exact p1⟩
 rw [eN1];have r1:PLift (∀R,MiX (N1++(G1++R)) aw1 uw1 sv1 mv1 qv1 hv1 Zv):=⟨fun R=>p1'.down.on⟩
 obtain ⟨W1,eW1⟩: ∃W1,zm Zv 1=W1:=⟨_,rfl⟩
 rw [eW1] at st1;simp only [Bool.and_eq_true,beq_iff_eq] at st1;obtain ⟨u1,u2,u3,u4,u5,u6⟩:=st1;obtain ⟨Zf,hrun,hrf⟩: ∃Zf,zdd 12 (Zv,0,0) [0,1] [0,1]=some Zf/\(decide (8<Zf.2.1)&&(decide (Zf.2.2=0)&&(decide (zbh Zf.1=[16,32])&& !zdS Zf.1)))=true:=by
  cases hr:zdd 12 (Zv,0,0) [0,1] [0,1] with
  |none=>rw [hr] at rn;cases rn
  |some Zf=>rw [hr] at rn;exact ⟨Zf,rfl,rn⟩
 simp only [Bool.and_eq_true,decide_eq_true_eq,Bool.not_eq_true'] at hrf;obtain ⟨f1,f2,f3,f4⟩:=hrf;have b2: ∀w,w∈[0,1]->w<Zv.hs.length:=fun w hw=>by rw [u6];simp at hw;omega
 have hZf:=zU (zuo hwa.down b2 b2 hZ.down hrun);obtain ⟨k1,k2,k3,k4,k5⟩:=zkx hZ.down.ok hwa.down hZ.down.wk (w:=1) (by rw [u6];decide);rw [eW1] at k1 k2 k3 k4 k5;have k1':=zU k1;have u':=zU (And.intro u1 (And.intro u2 (And.intro u3 (And.intro u4 (And.intro u5 u6)))));have f':=zU (And.intro f1 (And.intro f2 (And.intro f3 f4)));have hrun':=zU hrun;have eW1':=zU eW1;clear hM hcs hMk hMk2 q1 p1 eZv eN1 rn u1 u2 u3 u4 u5 u6 f1 f2 f3 f4 hrun b2 k1 k2 k3 k4 k5 eW1;refine am ?_;obtain ⟨_,_,_,m1⟩:=r1.down [.cells true [miV Zv aw1 uw1 sv1 mv1 qv1 hv1]];refine (toV (zjI m1)).mono ?_;rintro _ _ ⟨Z,l,hS,rfl,aw2,uw2,sv2,mv2,qv2,hv2,G2,rfl,rfl,p2⟩;obtain rfl:Z=W1:=by
  rcases hS with ⟨h,_⟩|⟨_,h,_⟩|⟨_,_,_,h⟩
  ·exact absurd hZ.down.ok h
  ·exact absurd ⟨by decide,by rw [u'.down.2.2.2.2.2];decide⟩ h
  ·exact h.trans eW1'.down
 obtain ⟨_,_,_,_,q2⟩:=p2.ex;obtain ⟨C1,C2,C3,C4,C5,C6⟩:=q2.cells;have r2:PLift (∀R,MiX (N1++(G1++ .cells true [miV Zv aw1 uw1 sv1 mv1 qv1 hv1]::(G2++R))) aw2 uw2 sv2 mv2 qv2 hv2 Z.1):=⟨fun R=>p2.on⟩
 rw [u'.down.1,u'.down.2.1];clear m1 p2 q2 hS;refine am ?_;obtain ⟨_,_,_,m2⟩:=r2.down [.cells true [miV Z.1 aw2 uw2 sv2 mv2 qv2 hv2]];refine (toV (zjI m2)).mono ?_;rintro _ _ ⟨Y,l,hS,rfl,aw3,uw3,sv3,mv3,qv3,hv3,G3,rfl,rfl,p3⟩;have eY:PLift (Y.2.2=3):=⟨by
  rcases hS with ⟨h,_⟩|⟨_,h,_⟩|⟨_,_,_,h⟩
  ·exact absurd k1'.down h
  ·exact absurd ⟨by decide,by rw [u'.down.2.2.1];decide⟩ h
  ·rw [h];exact u'.down.2.2.2.2.1⟩
 obtain ⟨_,_,_,_,q3⟩:=p3.ex;obtain ⟨D1,D2,D3,D4,D5,D6⟩:=q3.cells;rw [eY.down];clear m2 p3 q3 hS;refine am ?_;obtain ⟨_,_,_,m3⟩:=r1.down (.cells true [miV Zv aw1 uw1 sv1 mv1 qv1 hv1]::(G2++ .cells true [miV Z.1 aw2 uw2 sv2 mv2 qv2 hv2]::(G3++[.cells true [miV Y.1 aw3 uw3 sv3 mv3 qv3 hv3]])));have hend:ends Zv []:=fun _ _=>⟨12,Zf,by
  rw [show wlA Zv.hs.length []=List.range Zv.hs.length from rfl,u'.down.2.2.2.2.2];exact hrun'.down⟩
 refine (toV (zk9 (ws:=[]) m3 (.inl ⟨rfl,rfl⟩) (by decide) hend)).mono ?_;rintro _ _ ⟨Z',e,l,hS,rfl,aw4,uw4,sv4,mv4,qv4,hv4,G4,rfl,rfl,p4⟩;obtain ⟨rfl,rfl⟩:Z'=Zf/\e=0:=by
  rcases hS with ⟨h,_⟩|⟨_,h,_⟩|⟨_,_,⟨f,h⟩,h2⟩
  ·exact absurd hZ.down.ok h
  ·exact absurd (fun i hi=>absurd hi (Nat.not_lt_zero _)) h
  ·rw [show wlA Zv.hs.length []=List.range Zv.hs.length from rfl,u'.down.2.2.2.2.2] at h
   exact ⟨zrk h hrun'.down,h2⟩
 obtain ⟨_,_,_,_,q4⟩:=p4.ex;obtain ⟨E1,E2,E3,E4,E5,E6⟩:=q4.cells;have r4:PLift (∀R,MiX (N1++(G1++ .cells true [miV Zv aw1 uw1 sv1 mv1 qv1 hv1]::(G2++ .cells true [miV Z.1 aw2 uw2 sv2 mv2 qv2 hv2]::(G3++ .cells true [miV Y.1 aw3 uw3 sv3 mv3 qv3 hv3]::(G4++R))))) aw4 uw4 sv4 mv4 qv4 hv4 Z'.1):=⟨fun R=>p4.on⟩
 rw [f'.down.2.1];clear m3 p4 q4 hS hend;refine am ?_;obtain ⟨_,_,_,m4⟩:=r4.down [.cells true [miV Z'.1 aw4 uw4 sv4 mv4 qv4 hv4]];refine (toV (zkz m4)).mono ?_;rintro _ _ hm;obtain ⟨v1,e1,G5,l1,rfl,rfl,vc1,hm1,p5⟩:=hm.all;obtain ⟨rfl,rfl⟩:l1=[16,32]/\e1=0:=by
  rcases hm1 with ⟨_,h1,h2⟩|⟨h,_⟩
  ·exact ⟨h1.trans f'.down.2.2.1,h2⟩
  ·exact absurd hZf.down.ok h
 have s5:PLift (∀R,Rd (N1++(G1++ .cells true [miV Zv aw1 uw1 sv1 mv1 qv1 hv1]::(G2++ .cells true [miV Z.1 aw2 uw2 sv2 mv2 qv2 hv2]::(G3++ .cells true [miV Y.1 aw3 uw3 sv3 mv3 qv3 hv3]::(G4++ .cells true [miV Z'.1 aw4 uw4 sv4 mv4 qv4 hv4]::(G5++R)))))) v1 1 2 (zG (nx [16,32]))):=⟨fun R=>p5.on⟩
 clear m4 hm hm1 p5;refine am ?_;obtain ⟨_,_,_,m4⟩:=r4.down (.cells true [miV Z'.1 aw4 uw4 sv4 mv4 qv4 hv4]::G5);refine (toV (znW m4)).mono ?_;rintro _ _ ⟨hd,G6,rfl⟩;obtain rfl:=zvD hd (.inl ⟨hZf.down.ok,by rw [f'.down.2.2.2];rfl⟩:zuC Z'.1 (.tup [.bool true,.int .i64 0]));clear m4 hd;have c8:((8:Int)<(Z'.2.1:Int))=True:=eq_true (by have:=f'.down.1;omega);obtain ⟨_,_,_,m2⟩:=r2.down (.cells true [miV Z.1 aw2 uw2 sv2 mv2 qv2 hv2]::(G3++ .cells true [miV Y.1 aw3 uw3 sv3 mv3 qv3 hv3]::(G4++ .cells true [miV Z'.1 aw4 uw4 sv4 mv4 qv4 hv4]::(G5++G6))));have hd2:=m2.d;rw [u'.down.2.2.1] at hd2;have x1:=hd2.ar.1;have x2:=hd2.ar.2.2.1;have x3:zaB 7 hv2 (.int .i64 1)=some (atp hv2 1 0):=hd2.ar.2.2.2.1 .i64 1 (by decide);have x4:=hd2.ar.2.2.2.2 1 1 none (by decide);have x5:part (zH (hat Z.1.hs 1)) 1 none=some (.int .u64 16):=by
  show some (V.int .u64 ((hat Z.1.hs 1).obj:Nat))=_;rw [u'.down.2.2.2.1];rfl
 rw [x5] at x4;have hv5:=s5.down G6;have y1:=hv5.ar.1;have y2:=hv5.ar.2.2.1;have y3:zaB 1 v1 (.int .i64 1)=some (atp v1 1 0):=hv5.ar.2.2.2.1 .i64 1 (by decide);have y4:=hv5.ar.2.2.2.2 1 0 none (by decide);have y5:part (zG (nx [16,32]) 1) 0 none=some (.int .u64 32):=rfl;rw [y5] at y4;clear m2 hd2 hv5 x5 y5;refine am ?_;obtain ⟨_,_,_,m4⟩:=r4.down (.cells true [miV Z'.1 aw4 uw4 sv4 mv4 qv4 hv4]::(G5++G6));refine (toV (zfK m4)).mono ?_;rintro _ _ ⟨hc,_⟩;obtain rfl:=zx2 hc (.inl ⟨hZf.down.ok,rfl⟩:okE Z'.1.ok (.int .i64 0));clear m4 hc;exact zh
end Go.AM.G.Lv
