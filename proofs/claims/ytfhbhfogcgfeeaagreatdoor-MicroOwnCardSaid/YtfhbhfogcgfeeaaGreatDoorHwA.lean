import Derived.Test.YtfhbhfogcgfeeaaGreatDoorAmOwn
import Derived.Test.YtfhbhfogcgfeeaaGreatDoorHvT
set_option linter.unusedVariables false
set_option linter.unusedSimpArgs false
set_option maxRecDepth 100000
namespace Go.AM.G
open Go Go.AM
def kd:V->V
 | .int k _=> .int k 0
 |v=>v
structure Shp (L T:Nat) (M0 M:Mem):Prop where
 len:M0.length<=M.length
 out: ∀(c:Nat) (y:Blk),¬ (L<=c/\c<T)->M0[c]? =some y->M[c]? =some y
 inn: ∀(c:Nat) (els:List (List V)),L<=c->c<T->M0[c]? =some (Blk.cells true els)-> ∃els',M[c]? =some (Blk.cells true els')/\els'.map (List.map kd)=els.map (List.map kd)
theorem Shp.refl {L T:Nat}{M:Mem}:Shp L T M M:=⟨Nat.le_refl _,fun _ _ _ h=>h,fun _ els _ _ h=>⟨els,h,rfl⟩⟩
theorem Shp.trans {L T:Nat}{A B D:Mem}(h:Shp L T A B) (k:Shp L T B D):Shp L T A D:=
 ⟨Nat.le_trans h.len k.len,fun c y hc hy=>k.out c y hc (h.out c y hc hy),fun c els h1 h2 hy=>by
  obtain ⟨e1,a1,b1⟩:=h.inn c els h1 h2 hy;obtain ⟨e2,a2,b2⟩:=k.inn c e1 h1 h2 a1;exact ⟨e2,a2,b2.trans b1⟩⟩
theorem Shp.push {L T:Nat}{A B G:Mem}(h:Shp L T A B):Shp L T A (B++G):=h.trans ⟨by rw [List.length_append];omega,fun c y _ hy=>zb hy,fun c els _ _ hy=>⟨els,zb hy,rfl⟩⟩
theorem Shp.up {L T b:Nat}{A B:Mem}{x:Blk}(h:Shp L T A B) (hb:A.length<=b):Shp L T A (B.set b x):=
 ⟨by rw [List.length_set];exact h.len,fun c y hc hy=>by
  have:=(List.getElem?_eq_some_iff.1 hy).1;exact zq (by omega) (h.out c y hc hy),fun c els h1 h2 hy=>by
  have:=(List.getElem?_eq_some_iff.1 hy).1;obtain ⟨e,a,q⟩:=h.inn c els h1 h2 hy;exact ⟨e,zq (by omega) a,q⟩⟩
def zda (L T:Nat) (M:Mem) (v:V) (z n:Nat) (sh:List V):Prop:=v.isCell=true/\zfl v=some (.int .i64 (n:Int))/\(0<n-> ∃b i cap ex els,v= .slice b i n cap ex z/\L<=b/\b<T/\M[b]? =some (Blk.cells true els)/\ ∀k,k<n->(els[i+k]?).map (List.map kd)=some sh)
theorem zda.to {L T:Nat}{M M':Mem}{v:V}{z n:Nat}{sh:List V}(h:zda L T M v z n sh) (s:Shp L T M M'):zda L T M' v z n sh:=by
 obtain ⟨h1,h2,h3⟩:=h;refine ⟨h1,h2,fun hn=> ?_⟩;obtain ⟨b,i,cap,ex,els,rfl,a1,a2,a3,a5⟩:=h3 hn;obtain ⟨els',q1,q2⟩:=s.inn b els a1 a2 a3;refine ⟨b,i,cap,ex,els',rfl,a1,a2,q1,fun k hk=> ?_⟩;rw [<-a5 k hk,<-List.getElem?_map,<-List.getElem?_map,q2]
theorem zda.wide {L L' T T':Nat}{M M':Mem}{v:V}{z n:Nat}{sh:List V}(h:zda L T M v z n sh) (hL:L'<=L) (hT:T<=T') (k: ∀(c:Nat) (y:Blk),L<=c->M[c]? =some y->M'[c]? =some y):zda L' T' M' v z n sh:=by
 obtain ⟨h1,h2,h3⟩:=h;refine ⟨h1,h2,fun hn=> ?_⟩;obtain ⟨b,i,cap,ex,els,rfl,a1,a2,a3,a5⟩:=h3 hn;exact ⟨b,i,cap,ex,els,rfl,by omega,by omega,k _ _ a1 a3,a5⟩
theorem zqa {M0 g:Mem}{v:V}{z n:Nat}{f:Nat->List V}{sh:List V}(hP:Ps M0.length g (fun M=>Rd M v z n f)) (hK:Kin M0 (M0++g)) (hf: ∀k,k<n->(f k).map kd=sh):zda M0.length (M0.length+g.length) (M0++g) v z n sh:=by
 have hD:=hP (List.replicate M0.length .dead++g) ((AtM.left (A:=List.replicate M0.length .dead) AtM.here).cst (by simp));obtain ⟨r1,r2,_⟩:=hD.ar;refine ⟨r2,r1,fun hn=> ?_⟩;rcases hD with ⟨he,hz⟩|⟨h0,_⟩
 case inr=>omega
 cases v with
 |nils=>
  simp only [elems,Option.some.injEq] at he;have:=congrArg List.length he;simp at this;omega
 |slice b i len cap ex z'=>
  simp only [elems] at he
  split at he
  case h_2=>cases he
  rename_i own els hb
  split at he
  case isFalse=>cases he
  rename_i hil
  have he:=Option.some.inj he;have hlen:len=n:=by
   have:=congrArg List.length he;simp at this;omega
  subst hlen;have hz:z'=z:=of_decide_eq_true hz;subst hz;have hbl:M0.length<=b:=by
   rcases Nat.lt_or_ge b M0.length with h|h
   ·rw [List.getElem?_append_left (by simpa using h),List.getElem?_replicate_of_lt h] at hb
    cases hb
   ·exact h
  rw [List.getElem?_append_right (by simpa using hbl),List.length_replicate] at hb;have hg:=(List.getElem?_eq_some_iff.1 hb).1;have hm:(M0++g)[b]? =some (.cells own els):=by rw [List.getElem?_append_right hbl];exact hb
  cases own with
  |false=>
   have:=(List.getElem?_eq_some_iff.1 (hK b els hm)).1;omega
  |true=>
   refine ⟨b,i,cap,ex,els,rfl,hbl,by omega,hm,fun k hk=> ?_⟩;have h1:((els.drop i).take len)[k]? =some (f k):=by rw [he];simp [hk]
   rw [List.getElem?_take_of_lt hk,List.getElem?_drop] at h1;rw [h1];show some ((f k).map kd)=_;rw [hf k hk]
 |_=>simp [elems] at he
theorem zda.cell {L T:Nat}{M:Mem}{b i k o:Nat}{sh:List V}{kind:IntKind}{els:List (List V)}(hb:M[b]? =some (Blk.cells true els)) (hL:L<=b) (hT:b<T) (hs:(els[i+k]?).map (List.map kd)=some sh) (ho:sh[o]? =some (.int kind 0)):
  ∃x,zeF M[b]? none (i+k) o=some (.int kind x)/\ ∀y,∃Y,zbM M[b]? 1 (i+k) o (.int kind y)=some Y/\Shp L T M (M.set b Y):=by
 obtain ⟨el,he,hk⟩:=Option.map_eq_some_iff.1 hs;subst hk;rw [List.getElem?_map] at ho;obtain ⟨c,hc,hkd⟩:=Option.map_eq_some_iff.1 ho;obtain ⟨x,rfl⟩: ∃x,c= .int kind x:=by
  cases c<;>simp [kd] at hkd
  exact ⟨_,by rw [hkd]⟩
 refine ⟨x,by rw [hb];simp only [zeF,he,Option.bind_some];exact hc,fun y=> ?_⟩;have ol:=(List.getElem?_eq_some_iff.1 hc).1;have il:=(List.getElem?_eq_some_iff.1 he).1;refine ⟨.cells true (els.set (i+k) (splice el o [.int kind y])),?_,?_⟩
 ·rw [hb]
  simp only [zbM,he];rw [if_pos ⟨rfl,by omega,by simp [V.cells,V.isCell]⟩];rfl
 ·refine ⟨by rw [List.length_set];exact Nat.le_refl _,fun c y hc hy=>zq (by omega) hy,fun c els2 h1 h2 hy=> ?_⟩
  by_cases e:c=b
  ·subst e
   rw [hb] at hy;cases hy;refine ⟨_,zaC hb,?_⟩;rw [List.map_set];apply List.ext_getElem?;intro j
   by_cases ej:i+k=j
   ·subst ej
    rw [List.getElem?_set_self (by simpa using il),List.getElem?_map,he];simp only [Option.map_some,Option.some.injEq];apply List.ext_getElem?;intro q;rw [List.getElem?_map,List.getElem?_map];simp only [splice,List.length_cons,List.length_nil]
    by_cases eq:q=o
    ·subst eq
     rw [hc,List.getElem?_append_right (by simp;omega)];simp [ol,Nat.min_eq_left (Nat.le_of_lt ol),kd]
    ·by_cases lq:q<o
     ·rw [List.getElem?_append_left (by simp;omega),List.getElem?_take_of_lt lq]
     ·rw [List.getElem?_append_right (by simp;omega),List.length_take,Nat.min_eq_left (Nat.le_of_lt ol),List.getElem?_append_right (by simp;omega)]
      simp only [List.length_cons,List.length_nil,List.getElem?_drop]
      congr 2
      omega
   ·rw [List.getElem?_set_ne ej]
  ·exact ⟨els2,zq (Ne.symm e) hy,rfl⟩
theorem zuk:zo7 X:=fun f t h call hc args m v m' e=>by
 unfold X X0 at h
 split at h
 ·cases h
  cases args with
  |nil=>cases e;exact Kin.refl _
  |cons a b=>cases e
 split at h
 ·cases h
  dsimp only [znq] at e
  split at e
  ·split at e
   ·cases e;exact Kin.refl _
   ·cases e
  ·cases e
 split at h
 ·cases h
  unfold zjf at e
  split at e
  case isFalse=>cases e
  split at e
  ·rename_i q
   split at e
   ·cases e
   ·cases e;exact hc _ _ _ _ _ q
  ·rename_i q
   split at e
   ·split at e
    ·split at e
     ·split at e
      ·cases e;exact hc _ _ _ _ _ q
      ·cases e;exact (hc _ _ _ _ _ q).trans (Kin.push1 ct)
     ·cases e
    ·cases e
   ·cases e
  ·cases e
 split at h
 ·cases h
  dsimp only [tTz] at e
  split at e
  ·split at e
   ·cases e;exact Kin.refl _
   ·cases e
  ·cases e
 ·cases h
def shH:List V:=[.int .u8 0,.int .u64 0,.int .i64 0,.int .u64 0,.int .i64 0,.int .u64 0,.int .u64 0]
def zie (L T:Nat) (M:Mem) (c:List V):Prop:= ∃aw N uw sv mv qv hv na nm nh,c=[aw,.int .i64 N,uw,sv,mv,qv,hv]/\uw.isCell=true/\sv.isCell=true/\qv.isCell=true/\na<2305843009213693952/\nm<2305843009213693952/\nh<2305843009213693952/\zda L T M aw 1 na [.int .u64 0]/\zda L T M mv 1 nm [.int .u64 0]/\zda L T M hv 7 nh shH
theorem zie.to {L T:Nat}{M M':Mem}{c:List V}(h:zie L T M c) (s:Shp L T M M'):zie L T M' c:=by
 obtain ⟨aw,N,uw,sv,mv,qv,hv,na,nm,nh,e,c1,c2,c3,l1,l2,l3,h1,h2,h3⟩:=h;exact ⟨aw,N,uw,sv,mv,qv,hv,na,nm,nh,e,c1,c2,c3,l1,l2,l3,h1.to s,h2.to s,h3.to s⟩
theorem zie.wide {L L' T T':Nat}{M M':Mem}{c:List V}(h:zie L T M c) (hL:L'<=L) (hT:T<=T') (k: ∀(c:Nat) (y:Blk),L<=c->M[c]? =some y->M'[c]? =some y):zie L' T' M' c:=by
 obtain ⟨aw,N,uw,sv,mv,qv,hv,na,nm,nh,e,c1,c2,c3,l1,l2,l3,h1,h2,h3⟩:=h;exact ⟨aw,N,uw,sv,mv,qv,hv,na,nm,nh,e,c1,c2,c3,l1,l2,l3,h1.wide hL hT k,h2.wide hL hT k,h3.wide hL hT k⟩
theorem zw4 {M0 g:Mem} {aw uw sv mv qv hv:V}{X:MiA}(hP:Ps M0.length g (fun M=> ∃va vm vs,zdu M aw uw sv mv qv hv va vm vs X)) (hK:Kin M0 (M0++g)):zie M0.length (M0.length+g.length) (M0++g) (miV X aw uw sv mv qv hv):=by
 obtain ⟨_,_,_,_,q⟩:=hP.ex;obtain ⟨c1,c2,c3,c4,c5,c6⟩:=q.cells;have l1:=q.h.la;have l2:=q.lk;have l3:=q.ld;exact ⟨aw,X.H.us.N,uw,sv,mv,qv,hv,X.H.na,X.nm,X.hs.length,rfl,c2,c3,c5,by omega,by omega,by omega,zqa (hP.imp fun M ⟨_,_,_,h⟩=>h.h.a) hK fun _ _=>rfl,zqa (hP.imp fun M ⟨_,_,_,h⟩=>h.k) hK fun _ _=>rfl,zqa (hP.imp fun M ⟨_,_,_,h⟩=>h.d) hK fun _ _=>rfl⟩
theorem zda.use {L T:Nat}{M:Mem}{v:V}{z n k:Nat}{sh:List V}(h:zda L T M v z n sh) (hk:k<n): ∃b i,(∀ki:IntKind,zaw z v (.int ki (k:Nat))=some (.ptr b (i+k) 0))/\ ∀o kind,sh[o]? =some (.int kind 0)-> ∃(x:Int) (Y:Int->Blk),zeF M[b]? none (i+k) o=some (.int kind x)/\(∀y,zbM M[b]? 1 (i+k) o (.int kind y)=some (Y y))/\ ∀y,Shp L T M (M.set b (Y y)):=by
 obtain ⟨_,_,h3⟩:=h;obtain ⟨b,i,cap,ex,els,rfl,a1,a2,a3,a5⟩:=h3 (by omega);refine ⟨b,i,fun ki=>zcj ki hk,fun o kind ho=> ?_⟩;obtain ⟨x,hl,hs⟩:=zda.cell a3 a1 a2 (a5 k hk) ho;exact ⟨x,fun y=>(hs y).choose,hl,fun y=>(hs y).choose_spec.1,fun y=>(hs y).choose_spec.2⟩
theorem znP {m:Mem} {aw uw sv mv qv hv:V}{va vm vs:Nat->V}{X:MiA}(h:zdu m aw uw sv mv qv hv va vm vs X){w:Int}:C Stl zfo [.agg (miV X aw uw sv mv qv hv),.int .i64 w] m (fun r _=>r= .bool true):=by
 obtain ⟨A1,A2,A3,A4,A5,A6⟩:=h.cells;have hh:=zU h;have hend:=zU (zxG h.h.wa h.wk []);clear h;refine fn rfl ?_;refine zsu.mono ?_;rintro _ _ ⟨rfl,rfl⟩;refine am ?_;refine (toL (zs2 hh.down.app)).mono ?_;rintro _ _ ⟨aw1,uw1,sv1,mv1,qv1,hv1,rfl,hF⟩;obtain ⟨G1,rfl,p1⟩:=hF.rd hh.down.b;obtain ⟨_,_,_,_,q1⟩:=p1.ex;obtain ⟨B1,B2,B3,B4,B5,B6⟩:=q1.cells;have r1:PLift (∀R,MiX (m++ .cells true [miV X aw uw sv mv qv hv]::(G1++R)) aw1 uw1 sv1 mv1 qv1 hv1 X):=⟨fun R=>p1.on⟩
 clear hF p1 q1;refine am ?_;refine (C.kin zuk (toL (ziJ (w:=w) hh.down.app))).mono ?_;rintro _ _ ⟨⟨Z,l,hZ,rfl,aw2,uw2,sv2,mv2,qv2,hv2,G2,rfl,rfl,p2⟩,kin⟩;obtain ⟨_,_,_,_,q2⟩:=p2.ex;obtain ⟨C1,C2,C3,C4,C5,C6⟩:=q2.cells;have o2:=zU (zw4 p2 kin);clear p2 q2 hZ kin;refine am ?_;refine (C.kin zuk (toL (zoY (ws:=[]) hh.down.app (.inl ⟨rfl,rfl⟩) (by decide) hend.down))).mono ?_;rintro _ _ ⟨⟨Z2,e2,l,hZ2,rfl,aw3,uw3,sv3,mv3,qv3,hv3,G3,rfl,rfl,p3⟩,kin⟩;obtain ⟨_,_,_,_,q3⟩:=p3.ex;obtain ⟨D1,D2,D3,D4,D5,D6⟩:=q3.cells;have o3:=zU (zw4 p3 kin);clear p3 q3 hZ2 kin;refine am ?_;obtain ⟨M3,eM3⟩: ∃M3,m++Blk.cells true [miV X aw uw sv mv qv hv]::(G1++ .cells true [miV X aw1 uw1 sv1 mv1 qv1 hv1]::(G2++ .cells true [miV Z.1 aw2 uw2 sv2 mv2 qv2 hv2]::(G3++[.cells true [miV Z2.1 aw3 uw3 sv3 mv3 qv3 hv3],.cells true [miV Z.1 aw2 uw2 sv2 mv2 qv2 hv2,miV Z2.1 aw3 uw3 sv3 mv3 qv3 hv3]])))=M3:=⟨_,rfl⟩
 obtain ⟨L,eL⟩: ∃L,List.length (m++Blk.cells true [miV X aw uw sv mv qv hv]::(G1++[.cells true [miV X aw1 uw1 sv1 mv1 qv1 hv1]]))=L:=⟨_,rfl⟩
 obtain ⟨T,eT⟩: ∃T,m.length+(G1.length+(G2.length+(G3.length+1+1)+1)+1)=T:=⟨_,rfl⟩
 have lL:L=m.length+(G1.length+1+1):=by rw [<-eL];simp
 have lL2:L<=T:=by omega
 have lM:M3.length=T+1:=by rw [<-eM3,<-eT];simp;omega
 have oa:zie L T M3 (miV Z.1 aw2 uw2 sv2 mv2 qv2 hv2):=by
  refine o2.down.wide (by omega) (by simp;omega) fun c y _ hy=> ?_
  have e:M3=(m++Blk.cells true [miV X aw uw sv mv qv hv]::(G1++[.cells true [miV X aw1 uw1 sv1 mv1 qv1 hv1]])++G2)++(.cells true [miV Z.1 aw2 uw2 sv2 mv2 qv2 hv2]::(G3++[.cells true [miV Z2.1 aw3 uw3 sv3 mv3 qv3 hv3],.cells true [miV Z.1 aw2 uw2 sv2 mv2 qv2 hv2,miV Z2.1 aw3 uw3 sv3 mv3 qv3 hv3]])):=by rw [<-eM3];simp
  rw [e];exact zb hy
 have ob:zie L T M3 (miV Z2.1 aw3 uw3 sv3 mv3 qv3 hv3):=by
  refine o3.down.wide (by simp;omega) (by simp;omega) fun c y _ hy=> ?_
  have e:M3=(m++Blk.cells true [miV X aw uw sv mv qv hv]::(G1++ .cells true [miV X aw1 uw1 sv1 mv1 qv1 hv1]::(G2++[.cells true [miV Z.1 aw2 uw2 sv2 mv2 qv2 hv2]]))++G3)++[.cells true [miV Z2.1 aw3 uw3 sv3 mv3 qv3 hv3],.cells true [miV Z.1 aw2 uw2 sv2 mv2 qv2 hv2,miV Z2.1 aw3 uw3 sv3 mv3 qv3 hv3]]:=by rw [<-eM3];simp
  rw [e];exact zb hy
 have oo:PLift (∀k,k<2->zie L T M3 (if k=0 then miV Z.1 aw2 uw2 sv2 mv2 qv2 hv2 else miV Z2.1 aw3 uw3 sv3 mv3 qv3 hv3)):=⟨fun k _=>by split;exact oa;exact ob⟩
 have rT:M3[T]? =some (.cells true ((List.range 2).map fun k=>if k=0 then miV Z.1 aw2 uw2 sv2 mv2 qv2 hv2 else miV Z2.1 aw3 uw3 sv3 mv3 qv3 hv3)):=by
  rw [<-eM3,<-eT,zg,zaY,zg,zaY,zg,zaY,zg];rfl
 have z0:M3[m.length]? =some (.cells true [miV X aw uw sv mv qv hv]):=by rw [<-eM3,zT];rfl
 have z1:M3[m.length+(G1.length+1)]? =some (.cells true [miV X aw1 uw1 sv1 mv1 qv1 hv1]):=by rw [<-eM3,zg,zaY,zT];rfl
 have kM:PLift (∀M,Shp L T M3 M->Grow (m++Blk.cells true [miV X aw uw sv mv qv hv]::(G1++[.cells true [miV X aw1 uw1 sv1 mv1 qv1 hv1]])) M):=⟨fun M hM=>zi0 fun c y _ hy=>hM.out c y (by have:=(List.getElem?_eq_some_iff.1 hy).1;rw [eL] at this;omega) (by
  have e:M3=(m++Blk.cells true [miV X aw uw sv mv qv hv]::(G1++[.cells true [miV X aw1 uw1 sv1 mv1 qv1 hv1]]))++(G2++ .cells true [miV Z.1 aw2 uw2 sv2 mv2 qv2 hv2]::(G3++[.cells true [miV Z2.1 aw3 uw3 sv3 mv3 qv3 hv3],.cells true [miV Z.1 aw2 uw2 sv2 mv2 qv2 hv2,miV Z2.1 aw3 uw3 sv3 mv3 qv3 hv3]])):=by rw [<-eM3];simp
  rw [e];exact zb hy)⟩
 have rw3:PLift (∀M,Shp L T M3 M->Rd M (.slice T 0 2 2 true 7) 7 2 (fun k=>if k=0 then miV Z.1 aw2 uw2 sv2 mv2 qv2 hv2 else miV Z2.1 aw3 uw3 sv3 mv3 qv3 hv3)):=⟨fun M hM=> .inl (Sl.mk (hM.out T _ (by omega) rT))⟩
 replace lL:m.length+(G1.length+1)<L:=by omega
 clear o2 o3 oa ob rT;rw [eM3];clear eM3 eL;obtain ⟨RV,eRV⟩: ∃RV,V.slice T 0 2 2 true 7=RV:=⟨_,rfl⟩
 rw [eRV] at rw3;have len2:zfl RV=some (.int .i64 ((2:Nat):Int)):=by rw [<-eRV];rfl
 refine range (α:=Unit) 2 (fun _=>[(38,RV),(2,.ptr m.length 0 0),(5,.ptr (m.length+(G1.length+1)) 0 0)]) (fun _ _ M=>Shp L T M3 M) () Shp.refl ?_ ?_ (fi:=by exact zi) (fn:=by exact zi) (h0:=by rw [<-eRV];exact zi)
 ·rintro k _ fr M hk F hM
  have hM':=zU hM;obtain ⟨a,N,u,s,mm,q,hd,na,nm,nh,e,c1,c2,c3,l1,l2,l3,h1,h2,h3⟩:=(oo.down k hk).to hM;have hr:=(rw3.down M hM).ar;have hix:=hr.2.2.2.1 .i64 k hk;have hld:=hr.2.2.2.2 k 0 (some 7) hk;replace hld:zak M (some 7) (atp RV k 0)=part [a,.int .i64 N,u,s,mm,q,hd] 0 (some 7):=hld.trans (congrArg (fun x=>part x 0 (some 7)) e);have d1:=h1.1;have d2:=h2.1;have d3:=h3.1;have e1:=h1.2.1;have e2:=h2.2.1;have e3:=h3.2.1;have h1':=zU h1;have h2':=zU h2;have h3':=zU h3;have hlM:=hM.len;clear hM hr h1 h2 h3 e z0 z1;refine am ?_;obtain ⟨M1,eM1⟩: ∃M1,M++[Blk.cells true [[a,.int .i64 N,u,s,mm,q,hd]]]=M1:=⟨_,rfl⟩
  have hM1:PLift (Shp L T M3 M1):=⟨by rw [<-eM1];exact hM'.down.push⟩
  have hB:M1[M.length]? =some (.cells true [[a,.int .i64 N,u,s,mm,q,hd]]):=by rw [<-eM1,zT];rfl
  have hMM:PLift (Shp L T M M1):=⟨by rw [<-eM1];exact Shp.refl.push⟩
  rw [eM1];clear eM1;refine range (α:=Unit) nm (fun _=>[(14,.ptr M.length 0 0),(40,.int .i64 (k:Nat)),(39,.int .i64 ((2:Nat):Int)),(38,RV),(2,.ptr m.length 0 0),(5,.ptr (m.length+(G1.length+1)) 0 0)]) (fun _ _ M'=>Shp L T M1 M') () Shp.refl ?_ ?_
  ·rintro k2 _ fr M' hk2 F hS
   obtain ⟨b,i,ix,us⟩:=(h2'.down.to (hMM.down.trans hS)).use hk2;obtain ⟨x,Y,hl,hst,hsh⟩:=us 0 .u64 rfl;have ix1:=ix .i64;have hB1:=hS.out M.length _ (by omega) hB;have fin:=zU (fun y=>hS.trans (hsh y));clear hS us ix hsh hB hld hix;refine am ?_;exact ⟨(),zi,fin.down _⟩
  rintro _ fr M2 F hM2;have hM2':=zU hM2;have hB2:=hM2.out M.length _ (by omega) hB;clear hM2 hB hld hix;refine am ?_;refine range (α:=Unit) nh (fun _=>[(14,.ptr M.length 0 0),(40,.int .i64 (k:Nat)),(39,.int .i64 ((2:Nat):Int)),(38,RV),(2,.ptr m.length 0 0),(5,.ptr (m.length+(G1.length+1)) 0 0)]) (fun _ _ M'=>Shp L T M2 M') () Shp.refl ?_ ?_
  ·rintro k2 _ fr M' hk2 F hS
   obtain ⟨b,i,ix,us⟩:=(h3'.down.to ((hMM.down.trans hM2'.down).trans hS)).use hk2;obtain ⟨x,Y,hl,hst,hsh⟩:=us 4 .i64 rfl;have ix1:=ix .i64;have hB1:=hS.out M.length _ (by omega) hB2;have fin:=zU (fun y=>hS.trans (hsh y));clear hS us ix hsh hB2;refine am ?_;exact ⟨(),zi,fin.down _⟩
  rintro _ fr M4 F hM4;have hM4':PLift (Shp L T M1 M4):=⟨hM2'.down.trans hM4⟩
  have hB4:=hM4.out M.length _ (by omega) hB2;clear hM4 hM2' hB2;refine am ?_;refine range (α:=Unit) na (fun _=>[(14,.ptr M.length 0 0),(40,.int .i64 (k:Nat)),(39,.int .i64 ((2:Nat):Int)),(38,RV),(2,.ptr m.length 0 0),(5,.ptr (m.length+(G1.length+1)) 0 0)]) (fun _ _ M'=>Shp L T M4 M') () Shp.refl ?_ ?_
  ·rintro k2 _ fr M' hk2 F hS
   obtain ⟨b,i,ix,us⟩:=(h1'.down.to ((hMM.down.trans hM4'.down).trans hS)).use hk2;obtain ⟨x,Y,hl,hst,hsh⟩:=us 0 .u64 rfl;have ix1:=ix .i64;have hB1:=hS.out M.length _ (by omega) hB4;have fin:=zU (fun y=>hS.trans (hsh y));clear hS us ix hsh hB4;refine am ?_;exact ⟨(),zi,fin.down _⟩
  rintro _ fr M5 F hM5;have fin:=zU ((hM1.down.trans hM4'.down).trans hM5);clear hM5 hB4;refine am ?_;exact ⟨(),zi,fin.down⟩
 ·rintro _ fr M F hM
  obtain ⟨R,rfl⟩:=kM.down M hM;have g0:=hM.out m.length _ (by omega) z0;have g1:=hM.out (m.length+(G1.length+1)) _ (by omega) z1;have Q1:zdu ((m++Blk.cells true [miV X aw uw sv mv qv hv]::(G1++[.cells true [miV X aw1 uw1 sv1 mv1 qv1 hv1]]))++R) aw uw sv mv qv hv va vm vs X:=by
   rw [List.append_assoc];exact hh.down.app
  obtain ⟨_,_,_,Q2⟩:=r1.down (.cells true [miV X aw1 uw1 sv1 mv1 qv1 hv1]::R);have e:m++Blk.cells true [miV X aw uw sv mv qv hv]::(G1++ .cells true [miV X aw1 uw1 sv1 mv1 qv1 hv1]::R)=(m++Blk.cells true [miV X aw uw sv mv qv hv]::(G1++[.cells true [miV X aw1 uw1 sv1 mv1 qv1 hv1]]))++R:=by simp
  rw [e] at Q2;obtain ⟨M,eM⟩: ∃M,(m++Blk.cells true [miV X aw uw sv mv qv hv]::(G1++[.cells true [miV X aw1 uw1 sv1 mv1 qv1 hv1]]))++R=M:=⟨_,rfl⟩
  rw [eM] at g0 g1 Q1 Q2 ⊢;have SP:=zU (zs3 Q1 Q2);clear hM eM Q1 Q2 z0 z1 e;refine am ?_;refine (toL SP.down).mono ?_;rintro _ _ ⟨rfl,G9,rfl⟩;exact zi
end Go.AM.G
