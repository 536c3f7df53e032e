import Derived.Test.YtfhbhfogcgfeeaaGreatDoorHpH
set_option linter.unusedVariables false
set_option linter.unusedSimpArgs false
set_option maxRecDepth 100000
namespace Go.AM.G
open Go Go.AM
def zah:V->Option Nat
 | .slice b _ _ _ _ _=>some b
 |_=>none
def Gw (len:Nat) (g:Mem) (v:V) (z:Nat) (els:List (List V)):Prop:=(v= .nils/\els=[])\/ ∃j,v= .slice (len+j) 0 els.length els.length false z/\g[j]? =some (.cells true els)
def pushB (y:Option Blk) (f:List V->V×Mem):Option (V×Mem):=
 match y with
 |some (.cells _ (x::_))=>some (f x)
 |_=>none
section
variable {len z:Nat} {g g1 g2 G A:Mem}{v:V}{els:List (List V)}{y:Blk}
theorem zks {own:Bool}{x:List V}{l:List (List V)}{f:List V->V×Mem}:pushB (some (.cells own (x::l))) f=some (f x):=rfl
theorem Gw.cell (h:Gw len g v z els):v.isCell=true:=by
 rcases h with ⟨rfl,_⟩|⟨j,rfl,_⟩<;>rfl
theorem Gw.beq (h:Gw len g v z els):V.beq v v=true:=by
 rcases h with ⟨rfl,_⟩|⟨j,rfl,_⟩
 ·rfl
 ·simp [V.beq]
theorem Gw.app (h:Gw len g v z els):Gw len (g++G) v z els:=h.imp id fun ⟨j,h1,h2⟩=>⟨j,h1,zb h2⟩
theorem Gw.cast {c:Nat}(h:Gw len g v z els) (e:len=c:=by (try simp only [List.length_append,List.length_cons,List.length_nil])<;>omega):Gw c g v z els:=e▸h
theorem Gw.pre (L:Mem) (h:Gw (len+L.length) g v z els):Gw len (L++g) v z els:=h.imp id fun ⟨j,h1,h2⟩=>⟨L.length+j,by rw [h1,Nat.add_assoc],by rw [List.getElem?_append_right (by omega),<-h2];congr 1;omega⟩
theorem Gw.sl (h:Gw A.length g v z els):Sl (A++(g++G)) v z els:=by
 rcases h with ⟨rfl,rfl⟩|⟨j,rfl,h2⟩
 ·exact ⟨rfl,rfl⟩
 ·refine Sl.mk0 (own:=true) ?_
  rw [<-List.append_assoc];refine zb ?_;rw [List.getElem?_append_right (by omega),<-h2];congr 1;omega
theorem Gw.ne (h:Gw len g v z els):zah v≠some (len+g.length):=by
 rcases h with ⟨rfl,_⟩|⟨j,rfl,h2⟩
 ·intro h;cases h
 ·have:=(List.getElem?_eq_some_iff.1 h2).1
  intro h;injection h with h;omega
theorem Gw.one {x:List V}:Gw len [.cells true (els++[x])] (.slice len 0 (els.length+1) (els.length+1) false z) z (els++[x]):= .inr ⟨0,by simp,rfl⟩
theorem Gw.push {zero:List V}{bytes:Nat}(h:Gw A.length g v z els) (hz:zero.length=z) (hr:roomy (els.length+1) bytes=true):
  ∃g',g'.length=g.length/\(∀j,zah v≠some (A.length+j)->g'[j]? =g[j]?)/\ ∀G T,zM (A++(g++G)) zero bytes v (.slice T 0 1 1 true z)=pushB (A++(g++G))[T]? fun x=>(.slice (A.length+(g.length+G.length)) 0 (els.length+1) (els.length+1) false z,A++(g'++(G++[.cells true (els++[x])]))):=by
 subst hz;have hel: ∀(M:Mem) (T:Nat),zde M (.slice T 0 1 1 true zero.length)=(pushB M[T]? fun x=>(undef,[.cells true [x]])).map fun _=>match M[T]? with|some (.cells _ (x::_))=>[x]|_=>[]:=by
  intro M T;unfold zde elems pushB;dsimp only;cases M[T]? with
  |none=>rfl
  |some y=>
   cases y with
   |dead=>rfl
   |mp es=>rfl
   |cells o l=>cases l<;>simp
 rcases h with ⟨rfl,rfl⟩|⟨j,rfl,h2⟩
 ·refine ⟨g,rfl,fun _ _=>rfl,fun G T=> ?_⟩
  unfold zM;rw [hel];cases hT:(A++(g++G))[T]? with
  |none=>rfl
  |some y=>
   cases y with
   |dead=>rfl
   |mp es=>rfl
   |cells o l=>
    cases l with
    |nil=>rfl
    |cons x l=>
     have hr':roomy 1 bytes=true:=hr;simp [pushB,zOk,hr',List.append_assoc]
 ·have hj:=(List.getElem?_eq_some_iff.1 h2).1
  have hb: ∀G,(A++(g++G))[A.length+j]? =some (.cells true els):=fun G=>by
   rw [List.getElem?_append_right (by omega),Nat.add_sub_cancel_left];exact zb h2
  refine ⟨g.set j .dead,by simp,fun i hi=>List.getElem?_set_ne (fun e=>hi (by rw [e];rfl)),fun G T=> ?_⟩;unfold zM;rw [hel];have hs:(A++(g++G)).set (A.length+j) .dead=A++(g.set j .dead++G):=by
   rw [List.set_append_right _ _ (by omega),Nat.add_sub_cancel_left,List.set_append_left _ _ hj]
  cases hT:(A++(g++G))[T]? with
  |none=>rfl
  |some y=>
   cases y with
   |dead=>rfl
   |mp es=>rfl
   |cells o l=>
    cases l with
    |nil=>rfl
    |cons x l=>
     simp [pushB,zOk,hr,hb,hs,List.append_assoc]
theorem Gw.push2 {zero:List V}{bytes:Nat}(h:Gw A.length (g1++(y::g2)) v z els) (hn:zah v≠some (A.length+g1.length)) (hz:zero.length=z) (hr:roomy (els.length+1) bytes=true):
  ∃g1' g2',g1.length=g1'.length/\g2.length=g2'.length/\ ∀G T,zM (A++(g1++(y::(g2++G)))) zero bytes v (.slice T 0 1 1 true z)=pushB (A++(g1++(y::(g2++G))))[T]? fun x=>(.slice (A.length+(g1.length+(g2.length+G.length+1))) 0 (els.length+1) (els.length+1) false z,A++(g1'++(y::(g2'++(G++[.cells true (els++[x])]))))):=by
 obtain ⟨g',h1,h2,h3⟩:=h.push hz hr;have hy:g'[g1.length]? =some y:=by rw [h2 _ hn];simp
 have hl:=(List.getElem?_eq_some_iff.1 hy).1;have e:g'=g'.take g1.length++(y::g'.drop (g1.length+1)):=by
  conv=>lhs;rw [<-List.take_append_drop g1.length g']
  rw [List.drop_eq_getElem_cons hl,(List.getElem?_eq_some_iff.1 hy).2]
 simp only [List.length_append,List.length_cons] at h1;refine ⟨g'.take g1.length,g'.drop (g1.length+1),by simp;omega,by simp;omega,fun G T=> ?_⟩;have:=h3 G T;rw [e] at this;simp only [List.append_assoc,List.cons_append,List.length_append,List.length_cons] at this;rw [this]
 congr 1
 funext x
 congr 2
 omega
end
structure ObA where
 sp:Nat
 slot:Nat
 addr:Nat
 w:Nat
 cur:Bool
abbrev ObA.n (o:ObA):Nat:=o.w%256
abbrev obV (o:ObA):List V:=[.int .i64 (o.sp:Nat),.int .i64 (o.slot:Nat),.int .u64 (o.addr:Nat),.int .i64 (o.w%256:Nat),.int .u64 (unM o.w:Nat),.bool o.cur]
def adr (x:zak) (k:Nat):Nat:=(x.first*16+k*x.size).toNat
def zjB (H:zl) (i k:Nat):ObA:=⟨i,k,adr (H.sp i) k,H.a (adr (H.sp i) k),(H.sp i).swept||bit (H.sp i).mr.w k⟩
abbrev nsl (x:zak):Nat:=x.al.N.toNat
def zbA (H:zl) (i:Nat):Nat->List ObA
 |0=>[]
 |k+1=>if bit (H.sp i).al.w k=true then zbA H i k++[zjB H i k] else zbA H i k
def obs (H:zl):Nat->List ObA
 |0=>[]
 |i+1=>obs H i++zbA H i (nsl (H.sp i))
def zyg (x:zak) (w:Nat):Prop:=(siz (w%256+1):Int)=x.size/\(npg (w%256+1):Int)=x.pages
def zqs (H:zl) (i k:Nat):Prop:=bit (H.sp i).al.w k=true->zkf (H.a (adr (H.sp i) k))/\zyg (H.sp i) (H.a (adr (H.sp i) k))
def zcZ (H:zl) (i k:Nat):Prop:=(∀j,j<i-> ∀k,k<nsl (H.sp j)->zqs H j k)/\ ∀l,l<k->zqs H i l
def zl.lookOk (H:zl):Prop:=zcZ H H.ns 0
theorem zcZ.next {H:zl}{i k:Nat}(h:zcZ H i k) (hs:zqs H i k):zcZ H i (k+1):=⟨h.1,fun l hl=>by
 by_cases e:l=k
 ·exact e▸hs
 ·exact h.2 l (by omega)⟩
theorem zcZ.up {H:zl}{i:Nat}(h:zcZ H i (nsl (H.sp i))):zcZ H (i+1) 0:=⟨fun j hj=>by
 by_cases e:j=i
 ·exact e▸h.2
 ·exact h.1 j (by omega),fun l hl=>absurd hl (Nat.not_lt_zero _)⟩
theorem zcZ.no {H:zl}{i k:Nat}(hi:i<H.ns) (hk:k<nsl (H.sp i)) (hs:¬ zqs H i k):¬ H.lookOk:=fun e=>hs (e.1 i hi k hk)
theorem zve {H:zl}{i k:Nat}(h:bit (H.sp i).al.w k=true):(obs H i++zbA H i (k+1)).map obV=(obs H i++zbA H i k).map obV++[obV (zjB H i k)]:=by
 rw [show zbA H i (k+1)=zbA H i k++[zjB H i k] from if_pos h,<-List.append_assoc,List.map_append];rfl
theorem zwY {H:zl}{i k:Nat}(h:bit (H.sp i).al.w k=false):zbA H i (k+1)=zbA H i k:=if_neg (by rw [h];decide)
theorem zkV {H:zl}{i:Nat}: ∀k,(zbA H i k).length<=k
 |0=>Nat.le_refl _
 |k+1=>by
  have:= @zkV H i k;unfold zbA
  split
  ·simp;omega
  ·omega
structure SpF (H:zl) (i f p s n:Nat):Prop where
 hf:(H.sp i).first=f
 hp:(H.sp i).pages=p
 hs:(H.sp i).size=s
 hN:(H.sp i).al.N=n
 hM:(H.sp i).mr.N=n
 ha:(H.sp i).al.n=1
 hm:(H.sp i).mr.n=1
 n1:1<=n
 n8:n<=8
 f1:1<=f
 p1:1<=p/\p<=4
 fp:16*(f+p)<=H.na
 hna:H.na<=16384
 sh:(s=0/\n=1)\/(2<=s/\p=1/\n*s=16)
 s16:s<=16
theorem zl.framed.at {H:zl}(h:H.framed){i:Nat}(hi:i<H.ns): ∃f p s n,SpF H i f p s n:=by
 obtain ⟨h1,h2,h3,h4,h5,h6,h7⟩:=h;obtain ⟨f1,f2⟩:=h6 i hi;obtain ⟨⟨k1,k2,k3,k4,k5,k6,k7,k8⟩,_⟩:=h3.2 i hi;have hsl:=zrO (H.sp i).size;obtain ⟨_,_,a3,_⟩:=k4;obtain ⟨_,_,b3,_⟩:=k5;have hp:1<=(H.sp i).pages/\(H.sp i).pages<=4:=by rcases k1 with h|h<;>omega
 have hs:0<=(H.sp i).size/\(H.sp i).size<=16:=by rcases k1 with h|h<;>omega
 refine ⟨(H.sp i).first.toNat,(H.sp i).pages.toNat,(H.sp i).size.toNat,(zdV (H.sp i).size).toNat,by omega,by omega,by omega,by omega,by omega,by omega,by omega,by omega,by omega,by omega,by omega,by omega,h1,?_,by omega⟩;rcases k1 with ⟨e,_⟩|⟨e|e|e|e,e2⟩
 ·rw [e];exact .inl ⟨rfl,rfl⟩
 all_goals rw [e,e2];exact .inr ⟨by decide,rfl,by decide⟩
section
variable {H:zl} {i f p s n k:Nat}
theorem SpF.slot (h:SpF H i f p s n) (hk:k<n):16*f+(k*s+s)<=16*(f+p)/\k*s<=16:=by
 have:=h.s16;rcases h.sh with ⟨rfl,h2⟩|⟨_,rfl,h2⟩
 ·omega
 ·have:k*s+s<=n*s:=by rw [<-Nat.succ_mul];exact Nat.mul_le_mul_right s hk
  omega
theorem SpF.adr (h:SpF H i f p s n):adr (H.sp i) k=16*f+k*s:=by
 unfold G.adr;rw [h.hf,h.hs];rw [<-Int.natCast_mul];omega
theorem SpF.lt (h:SpF H i f p s n) (hk:k<n):16*f+k*s<H.na:=by
 have:=h.slot hk;have:=h.fp;have:=h.p1;rcases h.sh with ⟨rfl,h2⟩|⟨_,rfl,h2⟩<;>omega
theorem SpF.nsl (h:SpF H i f p s n):nsl (H.sp i)=n:=by
 show (H.sp i).al.N.toNat=n;rw [h.hN];rfl
end
theorem zqt {H:zl}(h:H.framed): ∀i,i<=H.ns->(obs H i).length<=8*i
 |0,_=>Nat.le_refl _
 |i+1,hi=>by
  obtain ⟨f,p,s,n,F⟩:=h.at (i:=i) (by omega);have h1:=zqt h i (by omega);have h2:= @zkV H i (nsl (H.sp i));have h3:=F.nsl;have h4:=F.n8;show (obs H i++zbA H i (nsl (H.sp i))).length<=_;rw [List.length_append];omega
end Go.AM.G
namespace Go.AM.G
open Go Go.AM
theorem zvf {m:Mem}{x:zak}{va vm:V}{f:Nat}(ha:va.isCell=true) (hb:vm.isCell=true) (hf:x.first=f) (h:f<=1024):C S zhV [.agg (zaS x va vm)] m (fun r m'=>r= .int .u64 (16*f:Nat)/\Grow m m'):=by
 have w1:IntKind.i64.wrap ((f:Int)*16)=((16*f:Nat):Int):=by rw [wrap_i64]<;>omega
 have w2:=un' (a:=16*f) (by omega);clear h;refine fn rfl ?_;exact ⟨_,rfl⟩
theorem zvg {L G0:Mem}{aw uw sv:V}{va vm:Nat->V}{H:zl}(h:zcY L aw uw sv va vm H) (hf:H.framed):C S zfu [.ptr L.length 0 0] (L++ .cells true [[aw,.int .i64 H.us.N,uw,sv,.nils]]::G0)
  (fun r m'=> ∃ov g,m'=L++ .cells true [[aw,.int .i64 H.us.N,uw,sv,ov]]::(G0++g)/\((H.lookOk/\r= .bool true/\Gw (L.length+(G0.length+1)) g ov 6 ((obs H H.ns).map obV))\/(¬ H.lookOk/\r= .bool false))):=by
 have A:=h.a.ar;have D:=h.s.s.ar;have pb:= @zks;have hls:H.ns<=256:=hf.2.2.1.1;have hf':=zU hf;clear hf;refine fn rfl ?_;refine range (α:=V) H.ns (fun _=>[(0,.ptr L.length 0 0),(15,sv)])
  (fun i ov M=>(∃g,M=L++ .cells true [[aw,.int .i64 H.us.N,uw,sv,ov]]::(G0++g)/\Gw (L.length+(G0.length+1)) g ov 6 ((obs H i).map obV))/\zcZ H i 0) .nils ⟨⟨[],by simp only [List.append_nil],.inl ⟨rfl,rfl⟩⟩,fun _ h=>absurd h (Nat.not_lt_zero _),fun _ h=>absurd h (Nat.not_lt_zero _)⟩ ?_ ?_
 ·rintro i ov fr _ hi F ⟨⟨g,rfl,hG⟩,hk⟩
  obtain ⟨f,p,s,n,P⟩:=hf'.down.at hi;have hk':=zU hk;have P':=zU P;have e:=h.s.e i hi;have A1:=e.a.ar;have A2:=e.k.ar;have e1:=P.hf;have e2:=P.hp;have e3:=P.hs;have e4:=P.hN;have e5:=P.hM;have n8:=P.n8;obtain ⟨sw,hsw⟩: ∃sw,(H.sp i).swept=sw:=⟨_,rfl⟩
  clear hk P;refine am ?_;have hne:PLift (zah ov≠some (L.length+(G0.length+1)+g.length)):=⟨hG.ne⟩
  refine range (α:=V) n (fun _=>[(0,.ptr L.length 0 0),(3,.int .i64 (i:Nat)),(4,.ptr (L.length+(G0.length+g.length+1)) 0 0),(15,sv),(16,.int .i64 (H.ns:Nat)),(17,.int .i64 (i:Nat))])
   (fun k ov M=> ∃g1 g2,M=L++ .cells true [[aw,.int .i64 H.us.N,uw,sv,ov]]::(G0++(g1++ .cells true [[.int .i64 f,.int .i64 p,.int .i64 s,.int .i64 n,va i,.int .i64 n,vm i,.bool sw]]::g2))/\g.length=g1.length/\Gw (L.length+(G0.length+1)) (g1++ .cells true [[.int .i64 f,.int .i64 p,.int .i64 s,.int .i64 n,va i,.int .i64 n,vm i,.bool sw]]::g2) ov 6 ((obs H i++zbA H i k).map obV)/\zah ov≠some (L.length+(G0.length+1)+g1.length)/\zcZ H i k) ov ⟨g,[],rfl,rfl,by simpa [zbA] using hG.app,hne.down,hk'.down⟩ ?_ ?_
  ·rintro k ov fr _ hk F ⟨g1,g2,rfl,l,hG,hn,ht⟩
   have ht':=zU ht;have hG':=zU hG;have hn':=zU hn;have P:=P'.down;have hs1:=P.slot hk;have hlt:=P.lt hk;have hna:=P.hna;have w1:IntKind.i64.wrap ((k:Int)*(s:Int))=((k*s:Nat):Int):=by rw [<-Int.natCast_mul];exact wn (by omega)
   have w2:=un' (a:=k*s) (by omega);have w3:IntKind.u64.wrap (((16*f:Nat):Int)+((k*s:Nat):Int))=((16*f+k*s:Nat):Int):=by rw [<-Int.natCast_add];exact un' (by omega)
   have hw:=zU (h.wa _ hlt);obtain ⟨w,ew⟩: ∃w,H.a (16*f+k*s)=w:=⟨_,rfl⟩
   have ewS:=zU ew;rw [ew] at hw;have f24:f<=1024:=by have:=P.fp;omega
   clear ht hG hn hs1 hna P;refine am ?_;refine (zke e.a.app e.wa (by have:=P'.down.ha;omega) (by have:=P'.down.ha;omega)).mono ?_;rintro _ _ ⟨rfl,⟨g3,rfl⟩⟩;cases hb:bit (H.sp i).al.w k with
   |false=>
    refine am ?_;refine ⟨ov,zh,g1,g2++g3,rfl,rfl,?_,hn'.down,ht'.down.next (fun e=>by rw [hb] at e;cases e)⟩;rw [zwY hb];have:=hG'.down.app (G:=g3)
    simpa only [List.append_assoc,List.cons_append] using this
   |true=>
   have hb':=zU hb;clear hb;refine am ?_;refine (zvf (x:=⟨f,p,s,⟨n,0,fun _=>0⟩,⟨n,0,fun _=>0⟩,sw⟩) (f:=f) A1.2.1 A2.2.1 rfl f24).mono ?_;rintro _ _ ⟨rfl,⟨g4,rfl⟩⟩;refine am ?_;refine (zge hw.down).mono ?_;rintro _ _ ⟨hu,⟨g5,rfl⟩⟩;rcases hu with ⟨hu,rfl⟩|⟨hu,rfl⟩
   case inr=>
    have hu':=zU hu;clear hu;refine am ?_;refine (zg5 (w:=1) (by omega) (by omega)).mono ?_;rintro _ _ ⟨rfl,⟨g6,rfl⟩⟩;refine am ?_;refine ⟨ov,_,rfl,.inr (zcZ.no hi (k:=k) (by rw [P'.down.nsl];exact hk) fun e=>hu'.down ?_)⟩;have:=(e hb'.down).1;rw [P'.down.adr,ewS.down] at this;exact this
   have hu':=zU hu;have wl:w%256<=48:=hu.2.1;have w4:IntKind.i64.wrap (((w%256:Nat):Int)+1)=((w%256+1:Nat):Int):=by rw [wrap_i64]<;>omega
   clear hu;refine am ?_;refine (zg5 (w:=w%256+1) (by omega) (by omega)).mono ?_;rintro _ _ ⟨rfl,⟨g6,rfl⟩⟩
   by_cases h1:(siz (w%256+1):Int)=s
   case neg=>
    have h1':=zU h1;have c1:=eq_false h1;clear h1;refine am ?_;refine ⟨ov,_,rfl,.inr (zcZ.no hi (k:=k) (by rw [P'.down.nsl];exact hk) fun e=>h1'.down ?_)⟩;have:=(e hb'.down).2.1;rw [P'.down.adr,ewS.down,P'.down.hs] at this;exact this
   have h1':=zU h1;have c1:=eq_true h1;clear h1
   by_cases h2:(npg (w%256+1):Int)=p
   case neg=>
    have h2':=zU h2;have c2:=eq_false h2;clear h2;refine am ?_;refine ⟨ov,_,rfl,.inr (zcZ.no hi (k:=k) (by rw [P'.down.nsl];exact hk) fun e=>h2'.down ?_)⟩;have:=(e hb'.down).2.2;rw [P'.down.adr,ewS.down,P'.down.hp] at this;exact this
   have h2':=zU h2;have c2:=eq_true h2;clear h2;have hok:PLift (zcZ H i (k+1)):=⟨ht'.down.next fun _=>by
    rw [P'.down.adr,ewS.down];exact ⟨hu'.down,h1'.down.trans P'.down.hs.symm,h2'.down.trans P'.down.hp.symm⟩⟩
   have hl:=zU (zqt hf'.down i (by omega));have hl2:=zU (@zkV H i k);have hels:=zU (zve (H:=H) (i:=i) hb'.down);obtain ⟨els,he⟩: ∃els,(obs H i++zbA H i k).map obV=els:=⟨_,rfl⟩
   have hle:els.length<=2056:=by
    have:=hl.down;have:=hl2.down;rw [<-he,List.length_map,List.length_append];omega
   have hG:=hG'.down;have hels':=zU (he▸hels.down);rw [he] at hG;clear hl hl2 he hels;obtain ⟨g1',g2',l1,l2,hp⟩:=Gw.push2 (A:=L++ .cells true [[aw,.int .i64 H.us.N,uw,sv,ov]]::G0) (zero:=[.int .i64 0,.int .i64 0,.int .u64 0,.int .i64 0,.int .u64 0,.bool false]) (bytes:=48) (hG.cast) (by simpa using hn'.down) rfl (by simp [roomy];omega);simp only [List.append_assoc,List.cons_append,List.length_append,List.length_cons] at hp;have oc:=hG.cell;have ob:=hG.beq;have l1':=zU l1;have l2':=zU l2;clear hG hle l1 l2;cases sw with
   |true=>
    have ex:obV (zjB H i k)=[.int .i64 i,.int .i64 k,.int .u64 (16*f+k*s:Nat),.int .i64 (w%256:Nat),.int .u64 (unM w:Nat),.bool true]:=by
     simp only [zjB,P'.down.adr,ewS.down,hsw,Bool.true_or]
    have ex':=zU ex;clear ex;refine am ?_;refine ⟨_,zh,g1',_,rfl,l1'.down,?_,?_,hok.down⟩
    ·rw [hels'.down,ex'.down]
     refine .inr ⟨_,(by rw [List.length_append];rfl),?_⟩;rw [l1'.down,l2'.down];exact zh
    ·show some _≠some _
     intro e
     injection e with e
     have:=l1'.down;have:=l2'.down
     try simp only [List.length_append,List.length_cons,List.length_nil] at e
     omega
   |false=>
    refine am ?_;refine (zke e.k.app e.wk (by have:=P'.down.hm;omega) (by have:=P'.down.hm;omega)).mono ?_;rintro _ _ ⟨rfl,⟨g7,rfl⟩⟩;have ex:obV (zjB H i k)=[.int .i64 i,.int .i64 k,.int .u64 (16*f+k*s:Nat),.int .i64 (w%256:Nat),.int .u64 (unM w:Nat),.bool (bit (H.sp i).mr.w k)]:=by
     simp only [zjB,P'.down.adr,ewS.down,hsw,Bool.false_or]
    have ex':=zU ex;clear ex;refine am ?_;refine ⟨_,zh,g1',_,rfl,l1'.down,?_,?_,hok.down⟩
    ·rw [hels'.down,ex'.down]
     refine .inr ⟨_,(by rw [List.length_append];rfl),?_⟩;rw [l1'.down,l2'.down];exact zh
    ·show some _≠some _
     intro e
     injection e with e
     have:=l1'.down;have:=l2'.down
     try simp only [List.length_append,List.length_cons,List.length_nil] at e
     omega
  ·rintro ov fr _ F ⟨g1,g2,rfl,l,hG,hn,ht⟩
   have ht':=zU ht;have hG':=zU hG;have hn':=zU hn;clear ht hG hn;refine ⟨ov,zh,⟨_,rfl,?_⟩,?_⟩
   ·show Gw _ _ _ _ ((obs H i++zbA H i (nsl (H.sp i))).map obV)
    rw [P'.down.nsl];exact hG'.down
   ·have:=ht'.down;rw [<-P'.down.nsl] at this;exact this.up
 ·rintro ov fr _ F ⟨⟨g,rfl,hG⟩,hk⟩
  have hk':=zU hk;have hG':=zU hG;clear hk hG;refine am ?_;exact ⟨ov,_,rfl,.inl ⟨hk'.down,hG'.down⟩⟩
end Go.AM.G
namespace Go.AM.G
open Go Go.AM
end Go.AM.G
