import Derived.Test.YtfhbhfogcgfeeaaGreatDoorHpP
set_option linter.unusedVariables false
set_option linter.unusedSimpArgs false
set_option maxRecDepth 100000
namespace Go.AM.G
open Go Go.AM
def bs (n:Nat) (t:Nat->Bool):List (List V):=(List.range n).map fun i=>[.bool (t i)]
theorem zvY {n:Nat}{t:Nat->Bool}:(bs n t).length=n:=by simp [bs]
theorem zpi {n i:Nat}{t:Nat->Bool}(h:i<n):(bs n t)[i]? =some [.bool (t i)]:=by simp [bs,h]
theorem zBC {n i:Nat}{t:Nat->Bool}{b:Bool}:(bs n t).set i [.bool b]=bs n (up t i b):=by
 apply List.ext_getElem?;intro j
 by_cases hj:j<n
 ·by_cases e:i=j
  ·subst e
   rw [List.getElem?_set_self (by rw [zvY];exact hj),zpi hj,zF]
  ·rw [List.getElem?_set_ne e,zpi hj,zpi hj,zab (Ne.symm e)]
 ·rw [List.getElem?_eq_none (by simp [zvY];omega),List.getElem?_eq_none (by rw [zvY];omega)]
theorem zAF {n i:Nat}{t:Nat->Bool}(h:i<n):zgY (some (.cells true (bs n t))) none i 0=some (.bool (t i)):=by
 rw [zdV,zpi h];rfl
theorem zzP {n i:Nat}{t:Nat->Bool}{b:Bool}(h:i<n):zcd (some (.cells true (bs n t))) 1 i 0 (.bool b)=some (.cells true (bs n (up t i b))):=by
 unfold zcd;simp only [zpi h];rw [if_pos ⟨rfl,Nat.le_refl _,rfl⟩,<-zBC];rfl
theorem zzQ {n i b:Nat}(ki:IntKind) (h:i<n):zak 1 (.slice b 0 n n true 1) (.int ki (i:Int))=some (.ptr b i 0):=by
 unfold zak;simp [h]
theorem zAG {n:Nat}:List.replicate n [V.bool false]=bs n fun _=>false:=by simp [bs,List.map_const']
theorem zeZ {m:Mem}{aw uw sv:V}{va vm:Nat->V}{H:zm}(h:zbQ m aw uw sv va vm H):C S zdR [.agg (zy H aw uw sv)] m (fun r m'=>okE H.right r/\Grow m m'):=by
 have A:=h.a.ar;have B:=h.u.ar;have D:=h.s.s.ar;obtain ⟨Z,hZ⟩: ∃Z,Z=H.right:=⟨_,rfl⟩
 rw [<-hZ];unfold zm.right at hZ;have hZ':=zU hZ;clear hZ;refine fn rfl ?_;refine (zmV h.app).mono ?_;rintro _ _ ⟨⟨hf,rfl⟩|⟨hf,rfl⟩,⟨g1,rfl⟩⟩
 case inr=>
  have hf':=zU hf;clear hf;refine am ?_;exact ⟨.inr ⟨fun e=>hf'.down (hZ'.down▸e).1,rfl⟩,_,rfl⟩
 have hf':=zU hf;have hna:=hf.na;have hol:=zdK hf;clear hf;refine am ?_;refine (zpf h.app hf'.down).mono ?_;rintro _ _ ⟨ov,g2,rfl,⟨hk,rfl,hG⟩|⟨hk,rfl⟩⟩
 case inr=>
  have hk':=zU hk;clear hk;refine am ?_;exact ⟨.inr ⟨fun e=>hk'.down (hZ'.down▸e).2.1,rfl⟩,_,rfl⟩
 obtain ⟨l,el⟩: ∃l,obs H H.ns=l:=⟨_,rfl⟩
 have hw:=zU (hk.wide hf'.down h.wa);have hS:PLift (H.soundOk->(∀p,p<l.length->(ob l p).cur=true->zjJ H.a l (ob l p))/\ ∀i,i<H.na->¬ covers l l.length i->H.a i=0):=⟨fun e=>by
  unfold zm.soundOk at e;rw [el] at e;exact e⟩
 have hS2:PLift (((∀p,p<l.length->(ob l p).cur=true->zjJ H.a l (ob l p))/\ ∀i,i<H.na->¬ covers l l.length i->H.a i=0)->Z):=⟨fun e=>by
  rw [hZ'.down];refine ⟨hf'.down,hk,?_⟩;unfold zm.soundOk;rw [el];exact e⟩
 have hS3:PLift (Z->H.soundOk):=⟨fun e=>by rw [hZ'.down] at e;exact e.2.2⟩
 rw [el] at hw hG hol;have hk':=zU hk;have oc:=hG.cell;have hO: ∀X,Obs (m++ .cells true [zy H aw uw sv]::(g1++(g2++X))) ov l:=fun X=>by
  have:=Gw.obs (G:=X) (A:=m++ .cells true [zy H aw uw sv]::g1) hG.cast
  simpa only [List.append_assoc,List.cons_append,List.nil_append,List.append_nil] using this
 have hO':=zU hO;obtain ⟨b1,b2,b3,b4,_⟩:=(hO []).ar;have b5: ∀X (i o:Nat) (k:Option Nat),i<l.length->zaf (m++ .cells true [zy H aw uw sv]::(g1++(g2++X))) k (atp ov i o)=part (obV (ob l i)) o k:=fun X i o k hi=>(hO X).ar.2.2.2.2 i o k hi
 clear hk hG el hO hZ';have z1:((0:Int)<=(H.na:Int))=True:=eq_true (by omega);have z2:((H.na:Int)<=(H.na:Int))=True:=eq_true (by omega);have rm:roomy H.na 1=true:=by simp [roomy];omega
 have e0:= @zAG H.na;have i1:= @zAF H.na;have i2:= @zzP H.na;have i3:= @zzQ H.na;refine am ?_;refine range (α:=Nat->Bool) l.length (fun _=>[(1,.ptr m.length 0 0),(3,ov),(5,.slice (m.length+(g1.length+g2.length+1)) 0 H.na H.na true 1),(30,ov)])
  (fun k th M=>(∃g,M=m++ .cells true [zy H aw uw sv]::(g1++(g2++ .cells true (bs H.na th)::g)))/\(∀i,i<H.na->(th i=true↔covers l k i))/\ ∀p,p<k->(ob l p).cur=true->zjJ H.a l (ob l p)) (fun _=>false)
  ⟨⟨[],rfl⟩,fun i _=>⟨fun e=>(by cases e),fun ⟨p,hp,_⟩=>absurd hp (Nat.not_lt_zero _)⟩,fun _ h=>absurd h (Nat.not_lt_zero _)⟩ ?_ ?_
 ·rintro k th fr _ hk F ⟨⟨g,rfl⟩,ht,hrf⟩
  have ht':=zU ht;have hrf':=zU hrf;have hb0:=hw.down.b k hk;have hc0:=hw.down.c k hk;obtain ⟨o,eo⟩: ∃o,ob l k=o:=⟨_,rfl⟩
  rw [eo] at hb0 hc0;have eo':=zU eo;have hn48:o.w%256<=48:=hc0.2.1.2.1;have hb:o.addr+o.w%256+1<=H.na:=hb0;clear ht hrf hb0 hc0;refine am ?_
  let I:=fun (d:Nat) (fr:Frame) (M:Mem)=> ∃(j:Nat) (th':Nat->Bool),j<=o.w%256+1/\d=o.w%256+1-j/\Has fr [(1,.ptr m.length 0 0),(3,ov),(5,.slice (m.length+(g1.length+g2.length+1)) 0 H.na H.na true 1),(30,ov),(31,.int .i64 (l.length:Nat)),(32,.int .i64 (k:Nat)),(7,.ptr (m.length+(g1.length+(g2.length+(g.length+1))+1)) 0 0),(8,.int .i64 (j:Nat))]/\M=m++ .cells true [zy H aw uw sv]::(g1++(g2++ .cells true (bs H.na th')::(g++[.cells true [obV o]])))/\ ∀i,i<H.na->(th' i=true↔covers l k i\/(o.addr<=i/\i<o.addr+j))
  refine zO I ?_ (o.w%256+1) ⟨0,th,Nat.zero_le _,rfl,zg,rfl,fun i hi=>by rw [ht'.down i hi];exact ⟨.inl,fun h=>h.resolve_right (by omega)⟩⟩;rintro d fr _ ⟨j,th',hj,rfl,F,rfl,ht⟩;have htt:=zU ht;clear ht
  by_cases hjn:j<=o.w%256
  ·have c1:((j:Int)<=((o.w%256:Nat):Int))=True:=eq_true (by omega)
   have w1:=un' (a:=j) (by omega);have w2:IntKind.u64.wrap ((o.addr:Int)+(j:Int))=((o.addr+j:Nat):Int):=by rw [wrap_u64]<;>omega
   have w3:IntKind.i64.wrap ((j:Int)+1)=((j+1:Nat):Int):=by rw [wrap_i64]<;>omega
   have lt:o.addr+j<H.na:=by omega
   refine into ?_;refine ⟨_,?_,j+1,up th' (o.addr+j) true,by omega,rfl,zg,rfl,fun i hi=> ?_⟩
   ·omega
   ·by_cases e:i=o.addr+j
    ·subst e
     rw [zF];exact ⟨fun _=> .inr (by omega),fun _=>rfl⟩
    ·rw [zab e,htt.down i hi]
     constructor
     ·rintro (h|h)
      ·exact .inl h
      ·exact .inr (by omega)
     ·rintro (h|h)
      ·exact .inl h
      ·exact .inr (by omega)
  ·have c1:((j:Int)<=((o.w%256:Nat):Int))=False:=eq_false (by omega)
   have htk:PLift (∀i,i<H.na->(th' i=true↔covers l (k+1) i)):=⟨fun i hi=>by
    rw [htt.down i hi];constructor
    ·rintro (⟨p,hp,h⟩|h)
     ·exact ⟨p,by omega,h⟩
     ·exact ⟨k,by omega,by rw [eo'.down];exact ⟨h.1,show i<=o.addr+o.w%256 by omega⟩⟩
    ·rintro ⟨p,hp,h⟩
     by_cases e:p=k
     ·subst e
      rw [eo'.down] at h;have h2:i<=o.addr+o.w%256:=h.2;exact .inr ⟨h.1,by omega⟩
     ·exact .inl ⟨p,by omega,h⟩⟩
   clear htt;refine into ?_
   let I2:=fun (d:Nat) (fr:Frame) (M:Mem)=> ∃(f:Nat) (g':Mem),f<=o.w%256/\d=o.w%256-f/\Has fr [(1,.ptr m.length 0 0),(3,ov),(5,.slice (m.length+(g1.length+g2.length+1)) 0 H.na H.na true 1),(30,ov),(31,.int .i64 (l.length:Nat)),(32,.int .i64 (k:Nat)),(7,.ptr (m.length+(g1.length+(g2.length+(g.length+1))+1)) 0 0),(9,.int .i64 (f:Nat))]/\M=m++ .cells true [zy H aw uw sv]::(g1++(g2++ .cells true (bs H.na th')::(g++ .cells true [obV o]::g')))/\ ∀f',f'<f->o.cur=true->(unM o.w).testBit f'=true->zgS l (H.a (o.addr+1+f'))
   refine zO I2 ?_ (o.w%256) ⟨0,[],Nat.zero_le _,rfl,zg,rfl,fun _ h=>absurd h (Nat.not_lt_zero _)⟩;rintro d fr _ ⟨f,g',hfn,rfl,F,rfl,hfr⟩;have hfr':=zU hfr;clear hfr
   by_cases hf:f<o.w%256
   ·have c2:((f:Int)<((o.w%256:Nat):Int))=True:=eq_true (by omega)
    have w1:IntKind.u64.wrap ((o.addr:Int)+1)=((o.addr+1:Nat):Int):=by rw [wrap_u64]<;>omega
    have w2:=un' (a:=f) (by omega);have w3:IntKind.u64.wrap (((o.addr+1:Nat):Int)+(f:Int))=((o.addr+1+f:Nat):Int):=by rw [wrap_u64]<;>omega
    have w4:IntKind.i64.wrap ((f:Int)+1)=((f+1:Nat):Int):=by rw [wrap_i64]<;>omega
    have lt:o.addr+1+f<H.na:=by omega
    have wlt:=zU (h.wa _ lt);have step:PLift ((o.cur=true->(unM o.w).testBit f=true->zgS l (H.a (o.addr+1+f)))-> ∀f',f'<f+1->o.cur=true->(unM o.w).testBit f'=true->zgS l (H.a (o.addr+1+f'))):=⟨fun hs f' hf' hc hb=>by
     by_cases e:f'=f
     ·subst e;exact hs hc hb
     ·exact hfr'.down f' (by omega) hc hb⟩
    cases hcu:o.cur with
    |false=>
     refine into ?_;refine into ?_;refine ⟨_,?_,f+1,g',by omega,rfl,zg,rfl,step.down fun e=>by rw [hcu] at e;cases e⟩;omega
    |true=>
    refine into ?_;refine (zdQ (f:=f) zsU (by omega)).mono ?_;rintro _ _ ⟨rfl,⟨g3,rfl⟩⟩;cases hbt:(unM o.w).testBit f with
    |false=>
     refine am ?_;refine into ?_;refine ⟨_,?_,f+1,g'++g3,by omega,rfl,zg,rfl,step.down fun _ e=>by rw [hbt] at e;cases e⟩;omega
    |true=>
    by_cases hw0:H.a (o.addr+1+f)=0
    ·have hw0':=zU hw0
     have c3:((H.a (o.addr+1+f):Int)=0)=True:=eq_true (by omega);clear hw0;refine am ?_;refine into ?_;refine ⟨_,?_,f+1,g'++g3,by omega,rfl,zg,rfl,step.down fun _ _=> .inl hw0'.down⟩;omega
    have hw0':=zU hw0;have c3:((H.a (o.addr+1+f):Int)=0)=False:=eq_false (by omega);clear hw0;refine am ?_;refine (zjf (l:=l) (hO'.down _) (by omega)).mono ?_;rintro _ _ ⟨rfl,⟨g4,rfl⟩⟩;cases hfd:fnd l (H.a (o.addr+1+f)) with
    |some y=>
     have f1:zkU (some y)= .tup [.agg (obV y),.bool true]:=rfl;have hfd':=zU hfd;clear hfd;refine am ?_;refine into ?_;refine ⟨_,?_,f+1,_,by omega,rfl,zg,rfl,step.down fun _ _=> .inr (by rw [hfd'.down];rfl)⟩;omega
    |none=>
     have f1:zkU none= .tup [.agg zOb,.bool false]:=rfl;have hfd':=zU hfd;clear hfd;refine am ?_;refine ⟨.inr ⟨fun e=> ?_,rfl⟩,_,rfl⟩;have:=(hS.down (hS3.down e)).1 k hk (by rw [eo'.down];exact hcu);rw [eo'.down] at this;rcases this f hf hbt with h|h
     ·exact hw0'.down h
     ·rw [hfd'.down] at h;cases h
   ·have ef:f=o.w%256:=by omega
    have ef':=zU ef;have c2:((f:Int)<((o.w%256:Nat):Int))=False:=eq_false (by omega);clear ef;refine into ?_;refine ⟨th',zg,⟨_,rfl⟩,htk.down,fun p hp hc=> ?_⟩
    by_cases e:p=k
    ·subst e
     rw [eo'.down] at hc ⊢;exact fun f' hf' hb'=>hfr'.down f' (by rw [ef'.down];exact hf') hc hb'
    ·exact hrf'.down p (by omega) hc
 ·rintro th fr _ F ⟨⟨g,rfl⟩,ht,hrf⟩
  have ht':=zU ht;have hrf':=zU hrf;clear ht hrf;refine am ?_;refine range (α:=Unit) H.na (fun _=>[(5,.slice (m.length+(g1.length+g2.length+1)) 0 H.na H.na true 1),(93,aw)])
   (fun i _ M=>M=m++ .cells true [zy H aw uw sv]::(g1++(g2++ .cells true (bs H.na th)::g))/\ ∀j,j<i->¬ covers l l.length j->H.a j=0) () ⟨rfl,fun _ h=>absurd h (Nat.not_lt_zero _)⟩ ?_ ?_
  ·rintro i _ fr _ hi F ⟨rfl,hz⟩
   have hz':=zU hz;clear hz;cases hth:th i with
   |true=>
    refine am ?_;refine ⟨(),zg,rfl,fun j hj hno=> ?_⟩
    by_cases e:j=i
    ·subst e;exact absurd ((ht'.down j hi).1 hth) hno
    ·exact hz'.down j (by omega) hno
   |false=>
    by_cases hw0:H.a i=0
    ·have hw0':=zU hw0
     have c3:((H.a i:Int)=0)=True:=eq_true (by omega);clear hw0;refine am ?_;refine ⟨(),zg,rfl,fun j hj hno=> ?_⟩
     by_cases e:j=i
     ·subst e;exact hw0'.down
     ·exact hz'.down j (by omega) hno
    ·have hw0':=zU hw0
     have c3:((H.a i:Int)=0)=False:=eq_false (by omega);clear hw0;refine am ?_;refine ⟨.inr ⟨fun e=>hw0'.down ((hS.down (hS3.down e)).2 i hi fun hc=> ?_),rfl⟩,_,rfl⟩;have:=(ht'.down i hi).2 hc;rw [hth] at this;cases this
  ·rintro _ fr _ F ⟨rfl,hz⟩
   have hz':=zU hz;clear hz;refine am ?_;exact ⟨.inl ⟨hS2.down ⟨hrf'.down,hz'.down⟩,rfl⟩,_,rfl⟩
def zcb (l:List ObA) (a:Nat):V:=
 if a=0 then .tup [.agg zOb,.int .i64 7] else match fnd l a with
 |some o=> .tup [.agg (obV o),.int .i64 0]
 |none=> .tup [.agg zOb,.int .i64 10]
def atV (l:List ObA) (a:Nat):V:=
 if a=0 then .tup [.agg [.int .i64 0,.int .u64 0],.int .i64 7] else match fnd l a with
 |some o=> .tup [.agg [.int .i64 (o.w%256:Nat),.int .u64 (unM o.w:Nat)],.int .i64 0]
 |none=> .tup [.agg [.int .i64 0,.int .u64 0],.int .i64 10]
def atR (H:zm) (a:Nat) (r:V):Prop:=(H.right/\r=atV (obs H H.ns) a)\/(¬ H.right/\r= .tup [.agg [.int .i64 0,.int .u64 0],.int .i64 2])
theorem zyb {M:Mem}{P a:Nat}{own:Bool} {aw nn uw sv ov:V}{l:List ObA}(hP:M[P]? =some (.cells own [[aw,nn,uw,sv,ov]])) (hv:Obs M ov l) (hr:rises l) (hl:l.length<1000000):C S zb5 [.ptr P 0 0,.int .u64 (a:Nat)] M (fun r m'=>r=zcb l a/\Grow M m'):=by
 have hr':=zU hr;clear hr;refine fn rfl ?_;refine (zrD (own:=own) (aw:=aw) (nn:=nn) (uw:=uw) (sv:=sv) (ov:=ov) (zb hP) hv.app hr'.down hl).mono ?_;rintro _ _ ⟨rfl,⟨g,rfl⟩⟩
 by_cases h0:a=0
 ·subst h0
  have e1:zcb l 0= .tup [.agg zOb,.int .i64 7]:=rfl;have c1:((0:Nat):Int)=0:=rfl;cases hf:fnd l 0 with
  |some o=>
   have f1:zkU (some o)= .tup [.agg (obV o),.bool true]:=rfl;refine am ?_;exact ⟨_,rfl⟩
  |none=>
   have f1:zkU none= .tup [.agg zOb,.bool false]:=rfl;refine am ?_;exact ⟨_,rfl⟩
 ·have c1:((a:Int)=0)=False:=eq_false (by omega)
  cases hf:fnd l a with
  |some o=>
   have f1:zkU (some o)= .tup [.agg (obV o),.bool true]:=rfl;have e1:zcb l a= .tup [.agg (obV o),.int .i64 0]:=by unfold zcb;rw [if_neg h0,hf]
   clear h0;refine am ?_;exact ⟨_,rfl⟩
  |none=>
   have f1:zkU none= .tup [.agg zOb,.bool false]:=rfl;have e1:zcb l a= .tup [.agg zOb,.int .i64 10]:=by unfold zcb;rw [if_neg h0,hf]
   clear h0;refine am ?_;exact ⟨_,rfl⟩
theorem zsW {m:Mem}{aw uw sv:V}{va vm:Nat->V}{H:zm}{a:Nat}(h:zbQ m aw uw sv va vm H):C S zfZ [.agg (zy H aw uw sv),.int .u64 (a:Nat)] m (fun r m'=>atR H a r/\Grow m m'):=by
 have A:=h.a.ar;have B:=h.u.ar;have D:=h.s.s.ar;refine fn rfl ?_;refine (zlu h.app).mono ?_;rintro _ _ (⟨hr,rfl,g,ov,rfl,hG⟩|⟨hr,rfl,⟨g,rfl⟩⟩)
 case inr=>
  have hr':=zU hr;clear hr;refine am ?_;exact ⟨.inr ⟨hr'.down,rfl⟩,_,rfl⟩
 obtain ⟨l,el⟩: ∃l,obs H H.ns=l:=⟨_,rfl⟩
 have hw:=hr.2.1.wide hr.1 h.wa;have hol:=zdK hr.1;rw [el] at hG hw hol;have hr':=zU hr;have hw':=zU hw;have hO:Obs (m++ .cells true [zy H aw uw sv]:: .cells true [[.int .i64 0,.int .u64 0]]:: .cells true [zy H aw uw sv]:: .cells true [[aw,.int .i64 H.us.N,uw,sv,ov]]::g) ov l:=by
  have:=Gw.obs (G:=[]) (A:=m++[.cells true [zy H aw uw sv],.cells true [[.int .i64 0,.int .u64 0]],.cells true [zy H aw uw sv],.cells true [[aw,.int .i64 H.us.N,uw,sv,ov]]]) hG.cast
  simpa only [List.append_assoc,List.cons_append,List.nil_append,List.append_nil] using this
 clear hG hr hw;obtain ⟨R,hR⟩: ∃R:V->Prop,R=atR H a:=⟨_,rfl⟩
 have hR':PLift (R (atV l a)):=⟨by rw [hR];exact .inl ⟨hr'.down,by rw [el]⟩⟩
 rw [<-hR];clear hR el;refine am ?_;refine (zyb (P:=m.length+(1+1+1)) (own:=true) (aw:=aw) (nn:= .int .i64 H.us.N) (uw:=uw) (sv:=sv) (ov:=ov) (l:=l) zg hO hw'.down.rises (by omega)).mono ?_;rintro _ _ ⟨rfl,⟨g2,rfl⟩⟩
 by_cases h0:a=0
 ·have e1:zcb l a= .tup [.agg zOb,.int .i64 7]:=if_pos h0
  have e2:atV l a= .tup [.agg [.int .i64 0,.int .u64 0],.int .i64 7]:=if_pos h0;rw [e2] at hR';clear h0 e2;refine am ?_;exact ⟨hR'.down,_,rfl⟩
 ·cases hf:fnd l a with
  |some o=>
   have e1:zcb l a= .tup [.agg (obV o),.int .i64 0]:=by unfold zcb;rw [if_neg h0,hf]
   have e2:atV l a= .tup [.agg [.int .i64 (o.w%256:Nat),.int .u64 (unM o.w:Nat)],.int .i64 0]:=by unfold atV;rw [if_neg h0,hf]
   rw [e2] at hR';clear h0 e2;refine am ?_;exact ⟨hR'.down,_,rfl⟩
  |none=>
   have e1:zcb l a= .tup [.agg zOb,.int .i64 10]:=by unfold zcb;rw [if_neg h0,hf]
   have e2:atV l a= .tup [.agg [.int .i64 0,.int .u64 0],.int .i64 10]:=by unfold atV;rw [if_neg h0,hf]
   rw [e2] at hR';clear h0 e2;refine am ?_;exact ⟨hR'.down,_,rfl⟩
def zbG:List ObA->List Nat
 | []=>[]
 |o::l=>if o.cur=true then o.addr::zbG l else zbG l
theorem zzR {l k:List ObA}:zbG (l++k)=zbG l++zbG k:=by
 induction l with
 |nil=>rfl
 |cons o l ih=>
  show (if o.cur=true then o.addr::zbG (l++k) else zbG (l++k))=_++zbG k
  by_cases h:o.cur=true
  ·rw [if_pos h,ih]
   show _=(if o.cur=true then o.addr::zbG l else zbG l)++zbG k;rw [if_pos h];rfl
  ·rw [if_neg h,ih]
   show _=(if o.cur=true then o.addr::zbG l else zbG l)++zbG k;rw [if_neg h]
theorem zuy {l:List ObA}:(zbG l).length<=l.length:=by
 induction l with
 |nil=>exact Nat.le_refl _
 |cons o l ih=>
  unfold zbG
  split<;>simp<;>omega
theorem zyc {l:List ObA}{k:Nat}(hk:k<l.length):zbG (l.take (k+1))=if (ob l k).cur=true then zbG (l.take k)++[(ob l k).addr] else zbG (l.take k):=by
 rw [List.take_add_one,zvU hk,zzR];show _++(if (ob l k).cur=true then [(ob l k).addr] else [])=_
 split<;>simp
abbrev zH (l:List Nat):List (List V):=l.map fun a=>[V.int .u64 (a:Nat)]
def zAH (H:zm) (m:Mem) (r:V) (m':Mem):Prop:=(H.right/\ ∃g v,m'=m++g/\r= .tup [v,.int .i64 0]/\Gw m.length g v 1 (zH (zbG (obs H H.ns))))\/(¬ H.right/\r= .tup [.nils,.int .i64 2]/\Grow m m')
theorem zlv {m:Mem}{aw uw sv:V}{va vm:Nat->V}{H:zm}(h:zbQ m aw uw sv va vm H):C S zg3 [.agg (zy H aw uw sv)] m (fun r m'=>zAH H m r m'):=by
 have A:=h.a.ar;have B:=h.u.ar;have D:=h.s.s.ar;have pb:= @zds;refine fn rfl ?_;refine (zeZ h.app).mono ?_;rintro _ _ ⟨⟨hr,rfl⟩|⟨hr,rfl⟩,⟨g1,rfl⟩⟩
 case inr=>
  have hr':=zU hr;clear hr;refine am ?_;exact .inr ⟨hr'.down,rfl,_,rfl⟩
 have hr':=zU hr;clear hr;refine am ?_;refine (zpf h.app hr'.down.1).mono ?_;rintro _ _ ⟨ov,g2,rfl,⟨hk,rfl,hG⟩|⟨hk,rfl⟩⟩
 case inr=>exact absurd hr'.down.2.1 hk
 obtain ⟨l,el⟩: ∃l,obs H H.ns=l:=⟨_,rfl⟩
 have hol:=zdK hr'.down.1;rw [el] at hG hol;have oc:=hG.cell;have hO: ∀X,Obs (m++ .cells true [zy H aw uw sv]::(g1++(g2++X))) ov l:=fun X=>by
  have:=Gw.obs (G:=X) (A:=m++ .cells true [zy H aw uw sv]::g1) hG.cast
  simpa only [List.append_assoc,List.cons_append,List.nil_append,List.append_nil] using this
 obtain ⟨b1,b2,b3,b4,_⟩:=(hO []).ar;have b5: ∀X (i o:Nat) (k:Option Nat),i<l.length->zaf (m++ .cells true [zy H aw uw sv]::(g1++(g2++X))) k (atp ov i o)=part (obV (ob l i)) o k:=fun X i o k hi=>(hO X).ar.2.2.2.2 i o k hi
 have el':=zU el;clear hk hG hO el;refine am ?_;refine range (α:=V) l.length (fun v=>[(4,v),(17,ov)]) (fun k v M=> ∃g,M=m++ .cells true [zy H aw uw sv]::(g1++(g2++g))/\Gw (m.length+(g1.length+g2.length+1)) g v 1 (zH (zbG (l.take k)))) .nils ⟨[],by simp only [List.append_nil],.inl ⟨rfl,rfl⟩⟩ ?_ ?_
 ·rintro k v fr _ hk F ⟨g,rfl,hG⟩
  have et:=zU (zyc hk);have hcl:(zbG (l.take k)).length<=2048:=by
   have:= @zuy (l.take k);simp only [List.length_take] at this;omega
  have vc:=hG.cell;obtain ⟨els,he⟩: ∃els,zH (zbG (l.take k))=els:=⟨_,rfl⟩
  have hl:els.length<=2048:=by rw [<-he,List.length_map];exact hcl
  rw [he] at hG;have he':=zU he;clear he hcl;cases hc:(ob l k).cur with
  |false=>
   refine am ?_;refine ⟨v,zg,_,rfl,?_⟩;rw [et.down,hc,if_neg (by decide),he'.down];exact hG.app
  |true=>
   obtain ⟨g',l1,_,hp⟩:=Gw.push (A:=m++ .cells true [zy H aw uw sv]::(g1++g2)) (zero:=[.int .u64 0]) (bytes:=8) (hG.cast) rfl (by simp [roomy];omega);simp only [List.append_assoc,List.cons_append,List.length_append,List.length_cons] at hp;have l1':=zU l1;clear hG l1 hl;refine am ?_;refine ⟨.slice (m.length+(g1.length+g2.length+1)+(g.length+(1+1))) 0 (els.length+1) (els.length+1) false 1,zg,_,rfl,?_⟩;rw [et.down,hc,if_pos rfl,zH,List.map_append,<-zH,he'.down];refine .inr ⟨_,(by rw [List.length_append];rfl),?_⟩;rw [<-l1'.down];exact zg
 ·rintro v fr _ F ⟨g,rfl,hG⟩
  rw [List.take_length] at hG;have hG':=zU hG;clear hG;refine am ?_;refine .inl ⟨hr'.down,_,v,rfl,rfl,?_⟩;rw [el'.down];have h1:Gw (m.length+(.cells true [zy H aw uw sv]::(g1++g2)).length) g v 1 (zH (zbG l)):=hG'.down.cast;have:=Gw.pre _ h1
  simpa only [List.append_assoc,List.cons_append] using this
theorem zuz: ∀l:List ObA,zkg (l.map obV)=zH (zbG l)
 | []=>rfl
 |o::l=>by
  have ih:=zuz l;show zkg (obV o::l.map obV)=zH (if o.cur=true then o.addr::zbG l else zbG l);cases h:o.cur with
  |true=>
   rw [if_pos rfl];show zkg ([.int .i64 (o.sp:Nat),.int .i64 (o.slot:Nat),.int .u64 (o.addr:Nat),.int .i64 (o.w%256:Nat),.int .u64 (unM o.w:Nat),.bool o.cur]::l.map obV)=_;rw [h,zkg,ih];rfl
  |false=>
   rw [if_neg (by decide)];show zkg ([.int .i64 (o.sp:Nat),.int .i64 (o.slot:Nat),.int .u64 (o.addr:Nat),.int .i64 (o.w%256:Nat),.int .u64 (unM o.w:Nat),.bool o.cur]::l.map obV)=_;rw [h,zkg,ih]
   all_goals (intros;rename_i e;simp at e)
theorem zkW {m:Mem}{aw uw sv:V}{va vm:Nat->V}{H:zm}(h:zbQ m aw uw sv va vm H):C S zbr [.agg (zy H aw uw sv)] m (fun r m'=>zAH H m r m'):=by
 obtain ⟨n,v,m1,e,hq⟩:=zlu h;have e:callN S.F S.X n za8 [.agg (zy H aw uw sv)] m=some (v,m1):=e;have key: ∀r m2,zlh (callN S.F S.X n) [.agg (zy H aw uw sv)] m=some (r,m2)->zAH H m r m2->C S zbr [.agg (zy H aw uw sv)] m (fun r m'=>zAH H m r m'):=fun r m2 e2 hr=>⟨n+1,r,m2,e2,hr⟩
 have hiH:zAA [.agg (zy H aw uw sv)]=true:=by
  have A:=h.a.ar.2.1;have B:=h.u.ar.2.1;have D:=h.s.s.ar.2.1;simp only [zAA,zy,A,B,D,Bool.and_true,Bool.and_eq_true];exact ⟨trivial,rfl⟩
 rcases hq with ⟨hr,rfl,g,ov,rfl,hG⟩|⟨hr,rfl,hg⟩
 ·obtain ⟨l,el⟩: ∃l,obs H H.ns=l:=⟨_,rfl⟩
  have hol:=zdK hr.1;rw [el] at hG hol;have hS:=Gw.sl (G:=[]) (A:=m++[.cells true [zy H aw uw sv],.cells true [[aw,.int .i64 H.us.N,uw,sv,ov]]]) hG.cast;simp only [List.append_assoc,List.cons_append,List.nil_append,List.append_nil] at hS;have hP:(m++ .cells true [zy H aw uw sv]:: .cells true [[aw,.int .i64 H.us.N,uw,sv,ov]]::g)[m.length+1]? =some (.cells true [[aw,.int .i64 H.us.N,uw,sv,ov]]):=zg;have hall:(l.map obV).all isO=true:=by
   rw [List.all_eq_true];intro x hx;obtain ⟨o,_,rfl⟩:=List.mem_map.1 hx;rfl
  have e1: ∀{y},(match zkg (l.map obV) with
     | []=>some (.tup [.nils,.int .i64 0],m++ .cells true [zy H aw uw sv]:: .cells true [[aw,.int .i64 H.us.N,uw,sv,ov]]::g)
     |a::r=>some (.tup [.slice (m++ .cells true [zy H aw uw sv]:: .cells true [[aw,.int .i64 H.us.N,uw,sv,ov]]::g).length 0 (r.length+1) (r.length+1) false 1,.int .i64 0],(m++ .cells true [zy H aw uw sv]:: .cells true [[aw,.int .i64 H.us.N,uw,sv,ov]]::g)++[.cells true (a::r)]))=some y->zlh (callN S.F S.X n) [.agg (zy H aw uw sv)] m=some y:=by
   intro y hy;unfold zlh;rw [if_pos hiH,e];simp only [hP,hS.1];rw [if_pos ⟨hall,by rw [List.length_map];omega,hS.2⟩];exact hy
  rw [zuz] at e1;cases hc:zH (zbG l) with
  |nil=>
   rw [hc] at e1;refine key _ _ (e1 rfl) (.inl ⟨hr,_,.nils,rfl,rfl,?_⟩);rw [el,hc];exact .inl ⟨rfl,rfl⟩
  |cons a r=>
   rw [hc] at e1;refine key _ _ (e1 rfl) (.inl ⟨hr,.cells true [zy H aw uw sv]:: .cells true [[aw,.int .i64 H.us.N,uw,sv,ov]]::(g++[.cells true (a::r)]),_,by simp,rfl,?_⟩);rw [el,hc];refine .inr ⟨g.length+2,by simp<;>omega,?_⟩;show (g++[Blk.cells true (a::r)])[g.length]? =_
   simp
 ·refine key _ _ ?_ (.inr ⟨hr,rfl,hg⟩)
  unfold zlh;rw [if_pos hiH,e];rfl
end Go.AM.G
