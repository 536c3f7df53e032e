import Derived.Test.YtfhbhfogcgfeeaaGreatDoorHvK
set_option linter.unusedVariables false
set_option linter.unusedSimpArgs false
set_option maxRecDepth 100000
namespace Go.AM.G
open Go Go.AM
def trK (s:MiA×Nat×Nat) (ws:List Nat):Nat->MiA×Nat×Nat
 |0=>s
 |k+1=>zdc (trK s ws k) (nx ws k)
def zfg (s:MiA×Nat×Nat) (ws:List Nat):MiA×Nat×Nat:=
 match ws.find? fun w=>decide ((zm s.1 w).2.2=0) with
 |some w=>zdc s w
 |none=>s
def zd4 (s:MiA×Nat×Nat) (ws all:List Nat):MiA×Nat×Nat:=if s.2.1<(trK s ws ws.length).2.1 then trK s ws ws.length else zfg (trK s ws ws.length) all
def zdd:Nat->MiA×Nat×Nat->List Nat->List Nat->Option (MiA×Nat×Nat)
 |0,s,_,_=>if zdS s.1=true then none else some s
 |f+1,s,ws,all=>if zdS s.1=true then zdd f (zd4 s ws all) ws all else some s
structure Rok (X:MiA) (s:MiA×Nat×Nat):Prop where
 ok:s.1.ok
 wk:w64 s.1.nm s.1.mw
 eH:s.1.H=X.H
 en:s.1.nm=X.nm
 el:s.1.hs.length=X.hs.length
 le:s.2.2<=s.2.1
 ms:s.2.1+mu s.1<=mu X
theorem Rok.try_ {X:MiA}{s:MiA×Nat×Nat}(h:Rok X s) (wa:w64 X.H.na X.H.a){w:Nat}(hw:w<X.hs.length):Rok X (zdc s w)/\s.2.1<=(zdc s w).2.1/\(zdc s w).2.1<=s.2.1+1:=by
 unfold zdc
 split
 ·rename_i e0
  obtain ⟨k1,k2,k3,k4,k5⟩:=zkx h.ok (by rw [h.eH];exact wa) h.wk (w:=w) (by rw [h.el];exact hw);have hm:=zxp h.ok (by rw [h.eH];exact wa) h.wk (by rw [h.el];exact hw) e0;have hm2:=h.ms;refine ⟨⟨k1,by rw [k4];exact k2,k3.trans h.eH,k4.trans h.en,k5.trans h.el,?_,?_⟩,by show s.2.1<=s.2.1+1;omega,by show s.2.1+1<=s.2.1+1;omega⟩
  ·show s.2.2+(if (zm s.1 w).2.1=5 then 1 else 0)<=s.2.1+1
   have:=h.le
   split<;>omega
  ·show s.2.1+1+mu (zm s.1 w).1<=mu X
   omega
 ·exact ⟨h,Nat.le_refl _,by omega⟩
theorem Rok.tr {X:MiA}{s:MiA×Nat×Nat}(h:Rok X s) (wa:w64 X.H.na X.H.a){ws:List Nat}(hw: ∀w,w∈ws->w<X.hs.length): ∀k,k<=ws.length->Rok X (trK s ws k)/\s.2.1<=(trK s ws k).2.1/\(trK s ws k).2.1<=s.2.1+k
 |0,_=>⟨h,Nat.le_refl _,Nat.le_refl _⟩
 |k+1,hk=>by
  obtain ⟨a1,a2,a3⟩:=Rok.tr h wa hw k (by omega);obtain ⟨b1,b2,b3⟩:=a1.try_ wa (hw _ (zaH (l:=ws) (i:=k) (by omega)));exact ⟨b1,by show s.2.1<=(zdc (trK s ws k) (nx ws k)).2.1;omega,by show (zdc (trK s ws k) (nx ws k)).2.1<=_;omega⟩
theorem Rok.first {X:MiA}{s:MiA×Nat×Nat}(h:Rok X s) (wa:w64 X.H.na X.H.a){ws:List Nat}(hw: ∀w,w∈ws->w<X.hs.length):Rok X (zfg s ws)/\(zfg s ws).2.1<=s.2.1+1:=by
 unfold zfg;cases e:ws.find? fun w=>decide ((zm s.1 w).2.2=0) with
 |none=>exact ⟨h,by show s.2.1<=s.2.1+1;omega⟩
 |some w=>
  obtain ⟨b1,b2,b3⟩:=h.try_ wa (hw _ (List.mem_of_find?_eq_some e));exact ⟨b1,b3⟩
theorem Rok.round {X:MiA}{s:MiA×Nat×Nat}(h:Rok X s) (wa:w64 X.H.na X.H.a){ws all:List Nat}(hw: ∀w,w∈ws->w<X.hs.length) (ha: ∀w,w∈all->w<X.hs.length):Rok X (zd4 s ws all)/\(zd4 s ws all).2.1<=s.2.1+ws.length+1:=by
 obtain ⟨a1,a2,a3⟩:=h.tr wa hw ws.length (Nat.le_refl _);obtain ⟨b1,b2⟩:=a1.first wa ha;unfold zd4
 split
 ·exact ⟨a1,by omega⟩
 ·exact ⟨b1,by omega⟩
theorem zvH {s:MiA×Nat×Nat}{w:Nat}(h:(zdc s w).2.1=s.2.1):zdc s w=s:=by
 unfold zdc at h ⊢
 split
 ·rename_i e
  rw [if_pos e] at h;dsimp only at h;omega
 ·rfl
theorem zsn {X:MiA}{s:MiA×Nat×Nat}(h:Rok X s) (wa:w64 X.H.na X.H.a){ws:List Nat}(hw: ∀w,w∈ws->w<X.hs.length): ∀k,k<=ws.length->(trK s ws k).2.1=s.2.1->trK s ws k=s
 |0,_,_=>rfl
 |k+1,hk,e=>by
  obtain ⟨a1,a2,a3⟩:=h.tr wa hw k (by omega);obtain ⟨b1,b2,b3⟩:=a1.try_ wa (hw _ (zaH (l:=ws) (i:=k) (by omega)));have e:(zdc (trK s ws k) (nx ws k)).2.1=s.2.1:=e;have ih:=zsn h wa hw k (by omega) (by omega);show zdc (trK s ws k) (nx ws k)=s;rw [ih] at e ⊢;exact zvH e
theorem zty {X:MiA}{s:MiA×Nat×Nat}(h:Rok X s) (wa:w64 X.H.na X.H.a){ws:List Nat}(hw: ∀w,w∈ws->w<X.hs.length) (hb:zdS s.1=true):s.2.1<(zd4 s ws (List.range X.hs.length)).2.1:=by
 obtain ⟨a1,a2,a3⟩:=h.tr wa hw ws.length (Nat.le_refl _);unfold zd4
 split
 ·assumption
 ·rw [zsn h wa hw ws.length (Nat.le_refl _) (by omega)]
  obtain ⟨w,h1,h2⟩:=zvF h.ok hb;unfold zfg;cases e:(List.range X.hs.length).find? fun w=>decide ((zm s.1 w).2.2=0) with
  |none=>
   have:=List.find?_eq_none.1 e w (List.mem_range.2 (by rw [<-h.el];exact h1));exact absurd (decide_eq_true h2) this
  |some v=>
   have h9:=List.find?_some e;have:=of_decide_eq_true h9;show s.2.1<(zdc s v).2.1;unfold zdc;rw [if_pos this];exact Nat.lt_succ_self _
theorem zpB {X:MiA}(wa:w64 X.H.na X.H.a){ws:List Nat}(hw: ∀w,w∈ws->w<X.hs.length): ∀d (s:MiA×Nat×Nat),Rok X s->mu X<s.2.1+d-> ∃Z,zdd d s ws (List.range X.hs.length)=some Z
 |0,s,h,hd=>absurd h.ms (by omega)
 |d+1,s,h,hd=>by
  unfold zdd
  by_cases hb:zdS s.1=true
  ·rw [if_pos hb]
   have:=zty h wa hw hb;exact zpB wa hw d _ (h.round wa hw (all:=List.range X.hs.length) fun w hw=>List.mem_range.1 hw).1 (by omega)
  ·rw [if_neg hb]
   exact ⟨_,rfl⟩
theorem Rok.lt {X:MiA}{s:MiA×Nat×Nat}(h:Rok X s) (hX:X.ok):s.2.1<2305843009213693952:=by
 have:=h.ms;have:=zy9 hX;omega
def nxI (ws:List Int) (i:Nat):Int:=ws.getD i 0
def zvI (n:Nat) (ws:List Int):Prop:= ∀i,i<ws.length->0<=nxI ws i/\nxI ws i<(n:Int)
def wlA (n:Nat) (ws:List Int):List Nat:=if ws=[] then List.range n else ws.map Int.toNat
theorem zxr {n:Nat}{ws:List Int}(hw:zvI n ws): ∀w,w∈wlA n ws->w<n:=by
 unfold wlA
 split
 ·intro w hw;exact List.mem_range.1 hw
 ·intro w hw'
  obtain ⟨x,hx,rfl⟩:=List.mem_map.1 hw';obtain ⟨i,hi,rfl⟩:=List.getElem_of_mem hx;have:=hw i hi;unfold nxI at this;rw [List.getD_eq_getElem?_getD,List.getElem?_eq_getElem hi] at this;simp only [Option.getD_some] at this;omega
theorem zza {M:Mem}{wv:V}{n:Nat}{ws:List Int}{WL:List Nat}(e:WL=wlA n ws) (e0:ws≠[]) (ht:zvI n ws) (h1:Rd M wv 1 ws.length (fun i=>[.int .i64 (nxI ws i)])):Rd M wv 1 WL.length (fun i=>[.int .i64 (nx WL i:Nat)]):=by
 have e2:WL=ws.map Int.toNat:=by rw [e];unfold wlA;rw [if_neg e0]
 have e3:WL.length=ws.length:=by rw [e2,List.length_map]
 have e4: ∀i,i<ws.length->((nx WL i:Nat):Int)=nxI ws i:=fun i hi=>by
  have h2:=ht i hi;have:nx WL i=(nxI ws i).toNat:=by
   rw [e2];unfold nx nxI;rw [List.getD_eq_getElem?_getD,List.getElem?_map,List.getD_eq_getElem?_getD,List.getElem?_eq_getElem hi];rfl
  omega
 rw [e3];have e5:(List.range ws.length).map (fun i=>[V.int .i64 (nxI ws i)])=(List.range ws.length).map (fun i=>[V.int .i64 (nx WL i:Nat)]):=List.map_congr_left fun i hi=>by rw [e4 i (List.mem_range.1 hi)]
 unfold Rd at h1 ⊢;rw [<-e5];exact h1
def zBu (X:MiA) (ws:List Int) (Z:MiA×Nat×Nat) (e:Int):Prop:=(¬ X.ok/\Z=(zMi,0,0)/\e=2)\/(X.ok/\¬ zvI X.hs.length ws/\Z=(X,0,0)/\e=11)\/(X.ok/\zvI X.hs.length ws/\(∃f,zdd f (X,0,0) (wlA X.hs.length ws) (List.range X.hs.length)=some Z)/\e=0)
def zzb (m:Mem) (X:MiA) (ws:List Int) (r:V) (m':Mem):Prop:= ∃Z e l,zBu X ws Z e/\r= .tup [.agg l,.int .i64 (Z.2.1:Nat),.int .i64 (Z.2.2:Nat),.int .i64 e]/\MiQ m Z.1 l m'
def ends (X:MiA) (ws:List Int):Prop:=X.ok->zvI X.hs.length ws-> ∃f Z,zdd f (X,0,0) (wlA X.hs.length ws) (List.range X.hs.length)=some Z
abbrev zvJ (l:List Nat):List (List V):=l.map fun a=>[V.int .i64 (a:Nat)]
theorem zvK {S:Sys}{base:Nat}{d t:Option Nat}{r:List zo}{fr:Frame}{m:Mem}{K:Frame->Mem->Prop}{n e e2:Nat}{k k2:Option Nat}{a x c c2:Arg}:O S base (⟨d,none,.store n a x,t,[(none,(e,(k,c))),(none,(e2,(k2,c2)))]⟩::r) fr m K↔ ∃m',zbi m n (a.get fr) (x.get fr)=some m'/\((∃u,zaq m' k (c.get fr)=some u/\V.beq u (fr e)=true)/\(∃u,zaq m' k2 (c2.get fr)=some u/\V.beq u (fr e2)=true))/\O S base r (putO fr d undef) m' K:=by
 rw [zaV rfl];simp only [zu,zO,List.all_cons,List.all_nil,zQ,Bool.not_true,Bool.false_or,Bool.and_true,Option.map_eq_some_iff,Prod.mk.injEq,Bool.and_eq_true];constructor
 ·rintro ⟨v,m',⟨y,h1,rfl,rfl⟩,h3,h2⟩
  refine ⟨y,h1,?_,h2⟩;obtain ⟨h3,h4⟩:=h3;constructor
  ·split at h3
   ·rename_i u hu
    exact ⟨u,hu,h3⟩
   ·cases h3
  ·split at h4
   ·rename_i u hu
    exact ⟨u,hu,h4⟩
   ·cases h4
 ·rintro ⟨m',h1,⟨⟨u,hu,hb⟩,⟨u2,hu2,hb2⟩⟩,h2⟩
  refine ⟨_,m',⟨m',h1,rfl,rfl⟩,⟨?_,?_⟩,h2⟩
  ·rw [hu];exact hb
  ·rw [hu2];exact hb2
theorem zk9 {m:Mem} {aw uw sv mv qv hv wv:V}{va vm vs:Nat->V}{X:MiA}{ws:List Int}(h:zfi m aw uw sv mv qv hv va vm vs X) (hw:Rd m wv 1 ws.length (fun i=>[.int .i64 (nxI ws i)])) (hl:ws.length<2305843009213693952) (hf:ends X ws):C S zfq [.agg (miV X aw uw sv mv qv hv),wv] m (zzb m X ws):=by
 obtain ⟨A1,A2,A3,A4,A5,A6⟩:=h.cells;have A7:=hw.ar.2.1;have hh:=zU h;have hw':=zU hw;have hf':=zU hf;obtain ⟨T,hT⟩: ∃T:V->Mem->Prop,T=zzb m X ws:=⟨_,rfl⟩
 rw [<-hT];have hT':=zU hT;clear h hT hw hf;refine fn rfl ?_;refine (zlV hh.down.app).mono ?_;rintro _ M0 ⟨hg,⟨hk,P,aw',uw',sv',qv',bm,bh,cm,ch,em,eh,Fh,Fq,rfl,hM⟩|⟨hk,rfl⟩⟩
 case inr=>
  obtain ⟨g,rfl⟩:=hg;have t:PLift (∀g,T (.tup [.agg [.nils,.int .i64 0,.nils,.nils,.nils,.nils,.nils],.int .i64 0,.int .i64 0,.int .i64 2]) (m++g)):=⟨fun g=>by rw [hT'.down];exact ⟨(zMi,0,0),2,_,.inl ⟨hk,rfl,rfl⟩,rfl,_,_,_,_,_,_,g,rfl,rfl,fun _ _=>⟨_,_,_,ztw⟩⟩⟩
  clear hk;refine am ?_;exact t.down _
 have hg':=zU hg;have hk':=zU hk;have z1:M0[m.length+1]? =some (.cells true [[.nils,.int .i64 0,.nils,.nils,.nils,.nils,.nils]]):=by
  obtain ⟨g,rfl⟩:=hg;rw [List.append_assoc,zi];rfl
 have l0:m.length+2<=M0.length:=by have:=hg.len;rw [List.length_append] at this;exact this
 have kM:PLift (∀(c:Nat) (y:Blk),m[c]? =some y->M0[c]? =some y):=⟨fun c y hy=>hg.get (zb hy)⟩
 have lo:List.length (m++[Blk.cells true [miV X aw uw sv mv qv hv],.cells true [[.nils,.int .i64 0,.nils,.nils,.nils,.nils,.nils]]])=m.length+2:=by simp
 rw [lo] at hM;have hM':=zU hM;have pM:=hM.p;obtain ⟨c1,c2,c3,c4⟩:=hM.o.c;clear hg hk hM lo;refine am ?_;refine (znX (k:=ws.length) (ws:=nxI ws) pM (zlU hw'.down fun c y _ hy=>kM.down c y hy) (by omega)).mono ?_;rintro _ _ ⟨⟨ht,rfl⟩|⟨ht,rfl⟩,⟨g,rfl⟩⟩
 case inr=>
  have t:PLift (∀M1 Y,M0++g=M1->T (.tup [.agg (miV X aw' uw' sv' (slM X bm cm em) qv' (slH X bh ch eh)),.int .i64 0,.int .i64 0,.int .i64 11]) (M1.set (m.length+1) Y)):=⟨fun M1 Y e=>by
   rw [hT'.down];subst e;refine ⟨(X,0,0),11,_,.inr (.inl ⟨hk'.down,ht,rfl,rfl⟩),rfl,hM'.down.o.res (by omega) (fun c y hc hy=> ?_) ?_ (fun c y hy=> ?_)⟩
   ·exact zx (by omega) (zb hy)
   ·rw [List.length_set,List.length_append];omega
   ·have:=(List.getElem?_eq_some_iff.1 hy).1
    exact zx (by omega) (zb (kM.down c y hy))⟩
  clear ht;obtain ⟨M1,e1⟩: ∃M1,M0++g=M1:=⟨_,rfl⟩
  have y1:M1[m.length+1]? =some (.cells true [[.nils,.int .i64 0,.nils,.nils,.nils,.nils,.nils]]):=by rw [<-e1];exact zb z1
  have p1:M1[P]? =some (.cells true [miV X aw' uw' sv' (slM X bm cm em) qv' (slH X bh ch eh)]):=by rw [<-e1];exact zb pM
  have s1: ∀Y,(M1.set (m.length+1) Y)[m.length+1]? =some Y:=fun Y=>zL (by rw [y1];rfl)
  have t1:=zU (fun Y=>t.down M1 Y e1);clear z1 pM l0;refine am ?_;exact t1.down _
 have ht':=zU ht;clear ht;have pb:= @zks;have h4:X.hs.length<=4:=by
  have:=hk'.down.2.2.1;have:=hk'.down.2.1.2.1;omega
 refine am ?_;refine range (α:=V) X.hs.length (fun v=>[(10,v),(8,.ptr P 0 0),(1,wv),(4,.ptr (m.length+1) 0 0)]) (fun k v M=> ∃g',M=M0++(g++g')/\Gw (M0.length+g.length) g' v 1 (zvJ (List.range k))) .nils ⟨[],by simp only [List.append_nil],.inl ⟨rfl,rfl⟩⟩ ?_ ?_
 ·rintro k v fr _ hk F ⟨g',rfl,hG⟩
  have vc:=hG.cell;obtain ⟨els,he⟩: ∃els,zvJ (List.range k)=els:=⟨_,rfl⟩
  have hle:els.length=k:=by rw [<-he];simp
  have he2:PLift (zvJ (List.range (k+1))=els++[[.int .i64 (k:Nat)]]):=⟨by rw [<-he,List.range_succ,zvJ,List.map_append];rfl⟩
  rw [he] at hG;obtain ⟨g2,l1,_,hp⟩:=Gw.push (A:=M0++g) (zero:=[.int .i64 0]) (bytes:=8) hG.cast rfl (by simp [roomy];omega);simp only [List.append_assoc,List.length_append] at hp;have l1':=zU l1;clear hG l1 he;refine am ?_;refine ⟨.slice (M0.length+g.length+(g'.length+1)) 0 (els.length+1) (els.length+1) false 1,zh,_,rfl,?_⟩;rw [he2.down];refine .inr ⟨g'.length+1,(by rw [List.length_append];rfl),?_⟩;rw [<-l1'.down,zi];rfl
 rintro av fr _ F ⟨g',rfl,hG⟩;have ac:=hG.cell;have hA:PLift (Gw (M0.length+g.length) g' av 1 (zvJ (List.range X.hs.length))):=⟨hG⟩
 have B:=(zlU (M':=M0) hw'.down fun c y _ hy=>kM.down c y hy).ar.1;clear hG;refine am ?_;obtain ⟨f,Zf,hrun⟩:=hf'.down hk'.down ht'.down;obtain ⟨WL,eWL⟩: ∃WL,wlA X.hs.length ws=WL:=⟨_,rfl⟩
 obtain ⟨AL,eAL⟩: ∃AL,List.range X.hs.length=AL:=⟨_,rfl⟩
 have lWL:WL.length<=ws.length+4:=by
  rw [<-eWL];unfold wlA
  split
  ·simp;omega
  ·simp
 have bWL: ∀w,w∈WL->w<X.hs.length:=by rw [<-eWL];exact zxr ht'.down
 have bAL: ∀w,w∈AL->w<X.hs.length:=by
  rw [<-eAL];intro w hw;exact List.mem_range.1 hw
 have lAL:AL.length<=4:=by rw [<-eAL];simp;omega
 have wa:w64 X.H.na X.H.a:=hh.down.h.wa;have hrun':PLift (zdd f (X,0,0) WL AL=some Zf):=⟨by rw [<-eWL,<-eAL];exact hrun⟩
 have eWL':=zU eWL;have eAL':=zU eAL;have bWL':=zU bWL;have bAL':=zU bAL;have wa':=zU wa;have lP:=(List.getElem?_eq_some_iff.1 hM'.down.p).1;have lbm:=(List.getElem?_eq_some_iff.1 hM'.down.o.m).1;have lbh:=(List.getElem?_eq_some_iff.1 hM'.down.o.d).1;have nP:=hM'.down.n;have nl:=hM'.down.o.l;clear hrun eWL eAL bWL bAL wa;have key: ∀(fr:Frame) (wv:V),Has fr [(1,wv),(8,.ptr P 0 0),(10,av),(4,.ptr (m.length+1) 0 0)]->wv.isCell=true->(∀M:Mem,(∀(c:Nat) (y:Blk),(c≠P/\c≠bm/\c≠bh/\c≠M0.length+(g.length+g'.length))->(M0++(g++g'))[c]? =some y->M[c]? =some y)->Rd M wv 1 WL.length (fun i=>[.int .i64 (nx WL i:Nat)])/\Rd M av 1 AL.length (fun i=>[.int .i64 (nx AL i:Nat)]))->W S zkq fr (M0++(g++g')) (zln [.cell 4 (some 7),.t 5,.t 6,.t 7] T):=by
  clear F A7 B hw' fr;intro fr wv F A7 hRd;have hRd':=zU hRd;clear hRd;have Mw:Rok X (X,0,0):=⟨hk'.down,hh.down.wk,rfl,rfl,rfl,Nat.le_refl _,by show 0+mu X<=mu X;omega⟩
  have Mw':=zU Mw;clear Mw;refine into ?_;obtain ⟨M1,eM1⟩: ∃M1,M0++(g++(g'++[Blk.cells true [[V.int .i64 0,.int .i64 0]]]))=M1:=⟨_,rfl⟩
  obtain ⟨Tt,eT⟩: ∃Tt,M0.length+(g.length+g'.length)=Tt:=⟨_,rfl⟩
  have lT:M0.length<=Tt/\Tt<M1.length:=⟨by omega,by rw [<-eM1];simp;omega⟩
  have tT:M1[Tt]? =some (.cells true [[.int .i64 0,.int .i64 0]]):=by
   rw [<-eM1,<-eT,zi,zi,zaa];rfl
  have k01:PLift (∀(c:Nat) (y:Blk),(M0++(g++g'))[c]? =some y->M1[c]? =some y):=⟨fun c y hy=>by
   rw [<-eM1,show M0++(g++(g'++[Blk.cells true [[V.int .i64 0,.int .i64 0]]]))=(M0++(g++g'))++[Blk.cells true [[V.int .i64 0,.int .i64 0]]] by simp];exact zb hy⟩
  have RY:Ry (m.length+2) M1 P Tt aw' uw' sv' qv' bm bh cm ch em eh (fun b=>Fh b/\b<M0.length) (fun b=>Fq b/\b<M0.length) (X,0,0):=by
   have hM:=hM'.down;refine ⟨⟨?_,?_,?_⟩,tT,by omega,by omega,by omega,fun e=>by omega,fun e=>by omega⟩
   ·rw [<-eM1];exact hM.o.small.grow
   ·rw [<-eM1];exact zb hM.p
   ·exact ⟨hM.n.1,hM.n.2.1,fun e=>hM.n.2.2.1 e.1,fun e=>hM.n.2.2.2.1 e.1,hM.n.2.2.2.2⟩
  have RY':=zU RY;rw [eT] at hRd';rw [eM1,eT];clear eM1 eT RY
  let I:=fun (d:Nat) (fr:Frame) (M:Mem)=> ∃(s:MiA×Nat×Nat) (qv1:V) (Fq1:Nat->Prop),Rok X s/\zdd d s WL AL=some Zf/\Ry (m.length+2) M P Tt aw' uw' sv' qv1 bm bh cm ch em eh (fun b=>Fh b/\b<M0.length) Fq1 s/\M1.length<=M.length/\(∀(c:Nat) (y:Blk),(c≠P/\c≠bm/\c≠bh/\c≠Tt)->M1[c]? =some y->M[c]? =some y)/\Has fr [(1,wv),(8,.ptr P 0 0),(10,av),(12,.ptr Tt 0 0),(4,.ptr (m.length+1) 0 0)]
  refine zW I ?_ f ⟨(X,0,0),qv',_,Mw'.down,hrun'.down,RY'.down,Nat.le_refl _,fun c y _ hy=>hy,zh⟩;rintro d fr M ⟨s,qv1,Fq1,hs,hr,hY,l1,kp,F⟩;have kp':=zU kp;have l1':=zU l1;have hs':=zU hs;have hr':=zU hr;have hY':=zU hY;have pMl:=hY.k.p;have tM:=hY.t;obtain ⟨vs1,hq1⟩:=hY.k.o.q.at;have hd1:Rd M (slH s.1 bh ch eh) 7 s.1.hs.length (fun i=>zH (hat s.1.hs i)):= .inl (by have:=Sl.mk (cap:=ch) (z:=7) (ex:=eh) hY.k.o.d;rw [List.length_map,List.length_range] at this;exact this);have BU:=zU (znV (X:=s.1) pMl hq1 hd1 hs.ok.2.1 hY.k.o.w.ld);clear hs hr hY l1 kp hq1 hd1;refine into ?_;refine BU.down.mono ?_;rintro _ _ ⟨rfl,g3,rfl⟩;obtain ⟨M2,eM2⟩: ∃M2,M++g3=M2:=⟨_,rfl⟩
  have g2: ∀(c:Nat) (y:Blk),M[c]? =some y->M2[c]? =some y:=fun c y hy=>by rw [<-eM2];exact zb hy
  have Y2:Ry (m.length+2) M2 P Tt aw' uw' sv' qv1 bm bh cm ch em eh (fun b=>Fh b/\b<M0.length) Fq1 s:=⟨hY'.down.k.to fun c y _ hy=>g2 c y hy,g2 _ _ hY'.down.t,hY'.down.n⟩
  have kp2: ∀(c:Nat) (y:Blk),(c≠P/\c≠bm/\c≠bh/\c≠Tt)->M1[c]? =some y->M2[c]? =some y:=fun c y hc hy=>g2 c y (kp'.down c y hc hy)
  have l2:M1.length<=M2.length:=by rw [<-eM2,List.length_append];have:=l1'.down;omega
  have p2:=Y2.k.p;have t2:=Y2.t;have y2:M2[m.length+1]? =some (.cells true [[.nils,.int .i64 0,.nils,.nils,.nils,.nils,.nils]]):=kp2 _ _ (by omega) (k01.down _ _ (zb z1));obtain ⟨f1,f2,f3,f4⟩:=Y2.k.o.c;have Y2':=zU Y2;have kp2':=zU kp2;have l2':=zU l2;clear Y2 kp2 l2 g2 pMl tM kp' l1' hY' z1 pM BU;rw [eM2];clear eM2 g3 M;cases hbz:zdS s.1 with
  |false=>
   have eZ:s=Zf:=by
    have:=hr'.down;cases d with
    |zero=>unfold zdd at this;rw [if_neg (by rw [hbz];decide)] at this;exact Option.some.inj this
    |succ d=>unfold zdd at this;rw [if_neg (by rw [hbz];decide)] at this;exact Option.some.inj this
   have t:PLift (∀Y,T (.tup [.agg (miV s.1 aw' uw' sv' (slM s.1 bm cm em) qv1 (slH s.1 bh ch eh)),.int .i64 (s.2.1:Nat),.int .i64 (s.2.2:Nat),.int .i64 0]) (M2.set (m.length+1) Y)):=⟨fun Y=>by
    rw [hT'.down];refine ⟨s,0,_,.inr (.inr ⟨hk'.down,ht'.down,⟨f,by rw [eWL'.down,eAL'.down,eZ];exact hrun'.down⟩,rfl⟩),rfl,Y2'.down.k.o.res (by omega) (fun c y hc hy=>zx (by omega) hy) (by rw [List.length_set];have:=l2'.down;omega) (fun c y hy=> ?_)⟩;have:=(List.getElem?_eq_some_iff.1 hy).1;exact zx (by omega) (kp2'.down c y (by omega) (k01.down _ _ (zb (kM.down c y hy))))⟩
   have s1: ∀Y,(M2.set (m.length+1) Y)[m.length+1]? =some Y:=fun Y=>zL (by rw [y2];rfl)
   have n1:(m.length+1=Tt)=False:=eq_false (by omega);have s2: ∀Y,(M2.set (m.length+1) Y)[Tt]? =some (.cells true [[.int .i64 (s.2.1:Nat),.int .i64 (s.2.2:Nat)]]):=fun Y=>by rw [zd2 n1];exact t2
   have oc:= @zvK;clear hbz eZ;refine am ?_;exact t.down _
  |true=>
   cases d with
   |zero=>have:=hr'.down;unfold zdd at this;rw [if_pos hbz] at this;cases this
   |succ d=>
    have hr2:PLift (zdd d (zd4 s WL AL) WL AL=some Zf):=⟨by have:=hr'.down;unfold zdd at this;rw [if_pos hbz] at this;exact this⟩
    have hrw:=(hRd'.down M2 fun c y hc hy=>kp2'.down c y hc (k01.down c y hy))
    have B1:=hrw.1.ar.1;have B2:=hrw.2.ar.1;clear hrw hbz;have kpm:PLift (∀M3:Mem,(∀(c:Nat) (y:Blk),(c≠P/\c≠bm/\c≠bh/\c≠Tt)->M1[c]? =some y->M3[c]? =some y)->Rd M3 wv 1 WL.length (fun i=>[.int .i64 (nx WL i:Nat)])/\Rd M3 av 1 AL.length (fun i=>[.int .i64 (nx AL i:Nat)])):=⟨fun M3 h3=>hRd'.down M3 fun c y hc hy=>h3 c y hc (k01.down c y hy)⟩
    refine am ?_;refine range (α:=Unit) WL.length (fun _=>[(63,wv),(12,.ptr Tt 0 0),(8,.ptr P 0 0),(13,.int .i64 (s.2.1:Nat)),(10,av),(1,wv),(4,.ptr (m.length+1) 0 0)]) (fun k _ M3=>M1.length<=M3.length/\(∀(c:Nat) (y:Blk),(c≠P/\c≠bm/\c≠bh/\c≠Tt)->M1[c]? =some y->M3[c]? =some y)/\ ∃qv2 Fq2,Ry (m.length+2) M3 P Tt aw' uw' sv' qv2 bm bh cm ch em eh (fun b=>Fh b/\b<M0.length) Fq2 (trK s WL k)) () ⟨l2'.down,kp2'.down,_,_,Y2'.down⟩ ?_ ?_
    ·rintro k _ fr M3 hk F ⟨l3,kp3,qv2,Fq2,hY⟩
     have B:=(kpm.down M3 kp3).1.ar;obtain ⟨a1,a2,a3⟩:=hs'.down.tr wa'.down bWL'.down k (by omega);have hlt1:=a1.lt hk'.down;have TR:=zU (zsk hY a1.ok (w:=nx WL k) (by rw [a1.el];exact bWL'.down _ (zaH hk)) (by omega) a1.le);have kp3':=zU kp3;have l3':=zU l3;clear hY kp3 l3 a1 a2 a3 hlt1;refine am ?_;refine TR.down.mono ?_;rintro r M4 ⟨hr,l4,kp4,hY4⟩;have fin:PLift (M1.length<=M4.length/\(∀(c:Nat) (y:Blk),(c≠P/\c≠bm/\c≠bh/\c≠Tt)->M1[c]? =some y->M4[c]? =some y)/\ ∃qv2 Fq2,Ry (m.length+2) M4 P Tt aw' uw' sv' qv2 bm bh cm ch em eh (fun b=>Fh b/\b<M0.length) Fq2 (trK s WL (k+1))):=⟨Nat.le_trans l3'.down l4,fun c y hc hy=>kp4 c y hc (kp3'.down c y hc hy),hY4⟩
     rw [hr];clear l4 kp4 hY4 hr;refine am ?_;exact ⟨(),zh,fin.down⟩
    rintro _ fr M3 F ⟨l3,kp3,qv2,Fq2,hY⟩;obtain ⟨s1,es1⟩: ∃s1,trK s WL WL.length=s1:=⟨_,rfl⟩
    obtain ⟨a1,a2,a3⟩:=hs'.down.tr wa'.down bWL'.down WL.length (Nat.le_refl _);rw [es1] at hY a1 a2 a3;have es1':=zU es1;have hY':=zU hY;have kp3':=zU kp3;have l3':=zU l3;have t3:=hY.t;have a1':=zU a1;have lt1:=a1.lt hk'.down;have lt0:=hs'.down.lt hk'.down;have B:=(kpm.down M3 kp3).2.ar.1;clear hY kp3 l3 es1 a1
    by_cases hlt:s.2.1<s1.2.1
    ·have c0:((s.2.1:Int)<(s1.2.1:Int))=True:=eq_true (by omega)
     have er:zd4 s WL AL=s1:=by unfold zd4;rw [es1'.down,if_pos hlt]
     have fin:PLift (zdd d s1 WL AL=some Zf):=⟨by rw [<-er];exact hr2.down⟩
     clear hlt er;refine am ?_;exact ⟨d,Nat.lt_succ_self d,s1,qv2,Fq2,a1'.down,fin.down,hY'.down,l3'.down,kp3'.down,zh⟩
    ·have c0:((s.2.1:Int)<(s1.2.1:Int))=False:=eq_false (by omega)
     have er:PLift (zd4 s WL AL=zfg s1 AL):=⟨by unfold zd4;rw [es1'.down,if_neg hlt]⟩
     clear hlt;refine am ?_;refine range (α:=Unit) AL.length (fun _=>[(80,av),(12,.ptr Tt 0 0),(8,.ptr P 0 0),(10,av),(1,wv),(4,.ptr (m.length+1) 0 0)]) (fun k _ M4=>M1.length<=M4.length/\(∀(c:Nat) (y:Blk),(c≠P/\c≠bm/\c≠bh/\c≠Tt)->M1[c]? =some y->M4[c]? =some y)/\(∃qv2 Fq2,Ry (m.length+2) M4 P Tt aw' uw' sv' qv2 bm bh cm ch em eh (fun b=>Fh b/\b<M0.length) Fq2 s1)/\ ∀i,i<k->(zm s1.1 (nx AL i)).2.2≠0) () ⟨l3'.down,kp3'.down,⟨_,_,hY'.down⟩,fun i h=>absurd h (Nat.not_lt_zero _)⟩ ?_ ?_
     ·rintro k _ fr M4 hk F ⟨l4,kp4,⟨qv3,Fq3,hY4⟩,hno⟩
      have B:=(kpm.down M4 kp4).2.ar;have TR:=zU (zsk hY4 a1'.down.ok (w:=nx AL k) (by rw [a1'.down.el];exact bAL'.down _ (zaH hk)) (by omega) a1'.down.le);have kp4':=zU kp4;have l4':=zU l4;have hno':=zU hno;clear hY4 kp4 l4 hno;refine am ?_;refine TR.down.mono ?_;rintro r M5 ⟨hr,l5,kp5,qv4,Fq4,hY5⟩;have l5':PLift (M1.length<=M5.length):=⟨Nat.le_trans l4'.down l5⟩
      have kp5':PLift (∀(c:Nat) (y:Blk),(c≠P/\c≠bm/\c≠bh/\c≠Tt)->M1[c]? =some y->M5[c]? =some y):=⟨fun c y hc hy=>kp5 c y hc (kp4'.down c y hc hy)⟩
      have hY5':=zU hY5;clear l5 kp5 hY5
      by_cases e5:(zm s1.1 (nx AL k)).2.2=0
      ·rw [hr,decide_eq_true e5]
       have ef:zfg s1 AL=zdc s1 (nx AL k):=by
        have:AL.find? (fun w=>decide ((zm s1.1 w).2.2=0))=some (nx AL k):=by
         rw [List.find?_eq_some_iff_getElem];refine ⟨decide_eq_true e5,k,hk,?_,fun j hj=> ?_⟩
         ·unfold nx;rw [List.getD_eq_getElem?_getD,List.getElem?_eq_getElem hk];rfl
         ·have:=hno'.down j hj
          unfold nx at this;rw [List.getD_eq_getElem?_getD,List.getElem?_eq_getElem (by omega)] at this
          simpa using this
        unfold zfg;rw [this]
       obtain ⟨q1,q2,q3⟩:=a1'.down.try_ wa'.down (w:=nx AL k) (bAL'.down _ (zaH hk));have fin:PLift (Rok X (zdc s1 (nx AL k))/\zdd d (zdc s1 (nx AL k)) WL AL=some Zf):=⟨q1,by rw [<-ef,<-er.down];exact hr2.down⟩
       clear hr e5 ef q1 q2 q3;refine am ?_;exact ⟨d,Nat.lt_succ_self d,zdc s1 (nx AL k),qv4,Fq4,fin.down.1,fin.down.2,hY5'.down,l5'.down,kp5'.down,zh⟩
      ·rw [hr,decide_eq_false e5]
       have et:zdc s1 (nx AL k)=s1:=by unfold zdc;rw [if_neg e5]
       rw [et] at hY5';have fin:PLift (∀i,i<k+1->(zm s1.1 (nx AL i)).2.2≠0):=⟨fun i hi=>by
        by_cases ei:i=k
        ·rw [ei];exact e5
        ·exact hno'.down i (by omega)⟩
       clear hr e5 et;refine am ?_;exact ⟨(),zh,l5'.down,kp5'.down,⟨_,_,hY5'.down⟩,fin.down⟩
     ·rintro _ fr M4 F ⟨l4,kp4,⟨qv3,Fq3,hY4⟩,hno⟩
      have ef:zfg s1 AL=s1:=by
       have:AL.find? (fun w=>decide ((zm s1.1 w).2.2=0))=none:=by
        rw [List.find?_eq_none];intro w hw;obtain ⟨i,hi,rfl⟩:=zeA hw
        simpa using hno i hi
       unfold zfg;rw [this]
      have fin:PLift (zdd d s1 WL AL=some Zf):=⟨by rw [<-ef,<-er.down];exact hr2.down⟩
      have l4':=zU l4;have kp4':=zU kp4;have hY4':=zU hY4;clear l4 kp4 hY4 hno ef;refine am ?_;exact ⟨d,Nat.lt_succ_self d,s1,qv3,Fq3,a1'.down,fin.down,hY4'.down,l4'.down,kp4'.down,zh⟩
 have hav:PLift (∀M:Mem,(∀(c:Nat) (y:Blk),(c≠P/\c≠bm/\c≠bh/\c≠M0.length+(g.length+g'.length))->(M0++(g++g'))[c]? =some y->M[c]? =some y)->Rd M av 1 AL.length (fun i=>[.int .i64 (nx AL i:Nat)])):=⟨fun M hM=>by
  have e:zvJ (List.range X.hs.length)=(List.range AL.length).map fun i=>[V.int .i64 (nx AL i:Nat)]:=by
   rw [<-eAL'.down];refine List.ext_getElem (by simp) fun i h1 h2=> ?_
   have h:i<X.hs.length:=by simpa using h1
   simp [nx,List.getD_eq_getElem?_getD,h]
  rcases hA.down with ⟨rfl,e2⟩|⟨j,rfl,hj⟩
  ·have hn:X.hs.length=0:=by have:=congrArg List.length e2;simpa using this
   have:AL.length=0:=by rw [<-eAL'.down,hn];rfl
   rw [this];exact .inl ⟨rfl,rfl⟩
  ·have hjl:=(List.getElem?_eq_some_iff.1 hj).1
   have hb:=hM (M0.length+g.length+j) _ (by omega) (by rw [Nat.add_assoc,zi,zi];exact hj);refine .inl ?_;rw [<-e];exact Sl.mk hb⟩
 by_cases e0:ws=[]
 ·have c0:((ws.length:Int)=0)=True:=eq_true (by rw [e0];rfl)
  have e1:WL=AL:=by rw [<-eWL'.down,<-eAL'.down];unfold wlA;rw [if_pos e0]
  have key':=zU (fun fr F=>key fr av F ac fun M hM=>⟨by rw [e1];exact hav.down M hM,hav.down M hM⟩);clear key e0 e1;refine am ?_;exact key'.down _ zh
 ·have c0:((ws.length:Int)=0)=False:=eq_false (by have:=List.length_pos_iff.2 e0;omega)
  have hwv: ∀M:Mem,(∀(c:Nat) (y:Blk),(c≠P/\c≠bm/\c≠bh/\c≠M0.length+(g.length+g'.length))->(M0++(g++g'))[c]? =some y->M[c]? =some y)->Rd M wv 1 WL.length (fun i=>[.int .i64 (nx WL i:Nat)]):=fun M hM=>by
   have h1:Rd M wv 1 ws.length (fun i=>[.int .i64 (nxI ws i)]):=zlU hw'.down fun c y _ hy=>by
    have:=(List.getElem?_eq_some_iff.1 hy).1;exact hM c y (by omega) (zb (kM.down c y hy))
   exact zza (eWL'.down▸rfl) e0 ht'.down h1
  have key':=zU (fun fr F=>key fr wv F A7 fun M hM=>⟨hwv M hM,hav.down M hM⟩);clear key e0 hwv;refine am ?_;exact key'.down _ zh
theorem zuF {X:MiA}(wa:w64 X.H.na X.H.a) (wk:w64 X.nm X.mw) (ws:List Int):ends X ws:=fun hk hw=>by
 have hb:=zxr hw;obtain ⟨Z,hZ⟩:=zpB wa hb (mu X+1) (X,0,0) ⟨hk,wk,rfl,rfl,rfl,Nat.le_refl _,by show 0+mu X<=mu X;omega⟩ (by show mu X<0+_;omega);exact ⟨_,Z,hZ⟩
end Go.AM.G
