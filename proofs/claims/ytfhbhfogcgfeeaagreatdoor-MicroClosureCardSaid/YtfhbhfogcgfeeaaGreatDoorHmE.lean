import Derived.Test.YtfhbhfogcgfeeaaGreatDoorHmA
import Derived.Test.YtfhbhfogcgfeeaaGreatDoorHsJ
set_option linter.unusedVariables false
set_option linter.unusedSimpArgs false
set_option maxRecDepth 100000
namespace Go.AM.G
open Go Go.AM
theorem zu6 {m G:Mem}{es:List (Int×Int)}{v:V}{l:List Nat}{a:Nat}(hG:Gw (m.length+3) G v 1 (zD l)) (hE:MS es l) (hl:l.length<1000000):
  C S za0 [.int .u64 (a:Nat),.ptr (m.length+1) 0 0,.ptr (m.length+2) 0 0] (m++ .mp es:: .cells true [[.mp (some m.length)]]:: .cells true [[v]]::G)
   (fun _ M'=> ∃es' v' G',M'=m++ .mp es':: .cells true [[.mp (some m.length)]]:: .cells true [[v']]::G'/\Gw (m.length+3) G' v' 1 (zD (zgI l a))/\MS es' (zgI l a)/\G.length<=G'.length/\(∀j y,zah v≠some (m.length+3+j)->G[j]? =some y->G'[j]? =some y)/\(v'=v\/ ∃j,zah v'=some (m.length+3+j)/\G.length<=j)):=by
 have pb:= @zks;have vc:=hG.cell;have vb:=hG.beq;have hG':=zU hG;have hE':=zU hE;have he:=hE a;clear hG hE
 by_cases h0:a=0
 ·have c:((a:Int)=0)=True:=eq_true (by omega)
  have e:zgI l a=l:=if_pos (.inl h0);rw [e];clear h0 he e;refine fn rfl ?_;exact ⟨es,v,G,rfl,hG'.down,hE'.down,Nat.le_refl _,fun j y _ h=>h,.inl rfl⟩
 have c:((a:Int)=0)=False:=eq_false (by omega)
 by_cases hm:a∈l
 ·have e:zgI l a=l:=if_pos (.inr hm)
  rw [e];rw [if_pos hm] at he;clear h0 hm e;refine fn rfl ?_;exact ⟨es,v,G,rfl,hG'.down,hE'.down,Nat.le_refl _,fun j y _ h=>h,.inl rfl⟩
 ·have e:zgI l a=l++[a]:=if_neg (fun h=>by rcases h with h|h;exact h0 h;exact hm h)
  rw [e];rw [if_neg hm] at he;clear h0 hm e;have hlen:(zD l).length=l.length:=by simp
  have hrw:zD (l++[a])=zD l++[[.int .u64 (a:Nat)]]:=by simp [zD]
  rw [hrw];obtain ⟨els,hels⟩: ∃els,zD l=els:=⟨_,rfl⟩
  have hG:=hG'.down;rw [hels] at hG hlen ⊢;obtain ⟨G',l1,l2,hp⟩:=Gw.push (A:=m++[.mp (zhu (a:Int) 1 es),.cells true [[.mp (some m.length)]],.cells true [[v]]]) (zero:=[.int .u64 0]) (bytes:=8) (hG.cast) rfl (by simp [roomy];omega);simp only [List.append_assoc,List.cons_append,List.nil_append,List.length_append,List.length_cons,List.length_nil] at hp;have l1':=zU l1;have l2':=zU l2;clear hG l1 l2 hels hlen hrw;refine fn rfl ?_;have l1:=l1'.down;refine ⟨_,_,_,rfl,.inr ⟨G.length+1,?_,?_⟩,hE'.down.see,?_,fun j y hne hj=> ?_,.inr ⟨G.length+1,rfl,by omega⟩⟩
  ·rw [List.length_append];rfl
  ·rw [<-l1,List.getElem?_append_right (by omega),Nat.add_sub_cancel_left];rfl
  ·rw [List.length_append,l1];exact Nat.le_add_right _ _
  ·have:=l2'.down j (by simpa only [List.length_append,List.length_cons,List.length_nil] using hne)
   exact zb (this.trans hj)
theorem zrp {l:List Nat}:zgZ l.toArray []=zD l:=by simp [zgZ,zD]
theorem zm3 {M:Mem}{b:Nat}{l:List Nat}(hb:M[b]? =some (.cells true (zD l))) (hl:l.length<100000000000000000):C S zax [.slice b 0 l.length l.length false 1] M (fun r M'=>r= .tup []/\ ∃g,M'=M.set b (.cells true (zD (zbR l)))++g):=by
 have hlt:=(List.getElem?_eq_some_iff.1 hb).1;have:=ztf (cap:=l.length) (ex:=false) (r:=[]) (Pl.of hlt) (d:=l.toArray) (n:=l.length) (by simp) hl;have e:M.set b (.cells true (zgZ l.toArray []))=M:=by
  rw [zrp];obtain ⟨hlt,hg⟩:=List.getElem?_eq_some_iff.1 hb;rw [<-hg];exact List.set_getElem_self hlt
 have e2:at_ (fun X=>M.set b X) [] l.toArray=M:=e;rw [e2] at this;refine this.mono ?_;rintro _ _ ⟨rfl,g,rfl⟩;refine ⟨rfl,g,?_⟩;show M.set b (.cells true (zgZ (zbR l).toArray []))++g=_;rw [zrp]
theorem zxL {m:Mem}:C S zX [.nils,.int .i64 0,.int .i64 0] m (fun r m'=>r= .tup []/\ ∃g,m'=m++g):=by
 have w1:IntKind.i64.wrap ((0:Int)+1)=1:=by decide
 have w2:IntKind.i64.wrap (1:Int)=1:=by decide
 have c1:((1:Int)<0)=False:=eq_false (by omega);refine fn rfl ?_
 let I:=fun (d:Nat) (fr:Frame) (M:Mem)=>Has fr [(0,.nils),(2,.int .i64 0),(6,.int .i64 1)]/\ ∃g,M=m++g
 refine zW I ?_ 0 ⟨zh,[],by simp⟩;rintro d fr _ ⟨F,⟨g,rfl⟩⟩;refine into ?_;exact ⟨_,rfl⟩
theorem zxM {m:Mem}{lim:Nat}:C S zy [.nils,.int .i64 0,.int .i64 0,.int .i64 (lim:Nat)] m (fun r m'=>r= .tup []/\ ∃g,m'=m++g):=by
 have w1:IntKind.i64.wrap ((0:Int)-0)=0:=by decide
 have w2:IntKind.i64.wrap (0:Int)=0:=by decide
 have c1:((0:Int)<=12)=True:=eq_true (by omega);refine fn rfl ?_
 let I:=fun (d:Nat) (fr:Frame) (M:Mem)=>Has fr [(0,.nils),(1,.int .i64 0),(2,.int .i64 0)]/\ ∃g,M=m++g
 refine zW I ?_ 0 ⟨zh,[],by simp⟩;rintro d fr _ ⟨F,⟨g,rfl⟩⟩;refine into ?_;refine zxL.mono ?_;rintro _ _ ⟨rfl,g2,rfl⟩;refine am ?_;exact ⟨_,rfl⟩
theorem zo0 {m:Mem}:C S zax [.nils] m (fun r m'=>r= .tup []/\ ∃g,m'=m++g):=by
 have w1:IntKind.u64.wrap (0:Int)=0:=by decide
 refine fn rfl ?_;refine (zhR (n:=0) (by omega)).mono ?_;rintro _ _ ⟨rfl,rfl⟩;refine am ?_;refine zxM.mono ?_;rintro _ _ ⟨rfl,g,rfl⟩;refine am ?_;exact ⟨_,rfl⟩
theorem zwQ {l:List Nat}(h:l.Nodup):(zbR l).Pairwise (· < ·)/\(∀x,x∈zbR l↔x∈l)/\(zbR l).length=l.length:=by
 have hm: ∀x:Nat,x∈zbR l↔x∈l:=fun x=>List.mem_mergeSort
 have hp:(zbR l).Pairwise (fun x y=>decide (x<=y)=true):=List.pairwise_mergeSort (fun a b c h1 h2=>by simp at *; omega) (fun a b=>by simp;omega) _;have hn:(zbR l).Nodup:=(List.mergeSort_perm l _).nodup_iff.2 h;refine ⟨(hp.and hn).imp fun {a b} ⟨h1,h2⟩=> ?_,hm,by simp [zbR]⟩;have:=of_decide_eq_true h1;omega
theorem Wk.bound {rt cs K W:List Nat}{a:Nat->Nat}{k n:Nat}{l:List Nat}(h:Wk rt cs (zeT a K W) k n l) (hn:n<l.length) (hc: ∀x,x∈cs-> ∀b,zeT a K W x b->b≠0->b∈cs){f i:Nat}(hf:f<=a (nx l n)%256) (hi:i<=K.length):
  (zhQ K W (nx l n) (zfQ a (nx l n) l f) i).length<=cs.length:=by
 obtain ⟨x,ex⟩: ∃x,nx l n=x:=⟨_,rfl⟩
 rw [ex] at hf ⊢;have hx:=(h.rc x (ex▸zaH hn)).2.1;obtain ⟨_,a2,a3⟩:= @zm1 a x l f;obtain ⟨_,b2,b3⟩:= @zm2 K W x (zfQ a x l f) i;refine zgb (b2 (a2 h.nd)) fun y hy=> ?_
 rcases (b3 y).1 hy with hy|⟨hne,j,hj,h1,h2⟩
 ·rcases (a3 y).1 hy with hy|⟨hne,g,hg,h1,h2⟩
  ·exact (h.rc y hy).2.1
  ·exact hc x hx y (.inl ⟨g,by omega,h1,h2⟩) hne
 ·exact hc x hx y (.inr ⟨j,by omega,h1,h2⟩) hne
def Wlk (m:Mem) (M:Mem) (es:List (Int×Int)) (v:V) (l:List Nat) (G:Mem):Prop:=M=m++ .mp es:: .cells true [[.mp (some m.length)]]:: .cells true [[v]]::G/\Gw (m.length+3) G v 1 (zD l)/\MS es l
theorem Wlk.nus {m M G:Mem}{es:List (Int×Int)}{v:V}{l:List Nat}(h:Wlk m M es v l G):Nus M v l:=by
 obtain ⟨rfl,hG,_⟩:=h;have:=Gw.sl (G:=[]) (A:=m++[.mp es,.cells true [[.mp (some m.length)]],.cells true [[v]]]) hG.cast;refine Nus.of ?_
 simpa only [List.append_assoc,List.cons_append,List.nil_append,List.append_nil] using this
abbrev zwR (m:Mem):V:= .fn za0 [] [.ptr (m.length+1) 0 0,.ptr (m.length+2) 0 0]
theorem zwS {m M G:Mem}{es:List (Int×Int)}{v:V}{l:List Nat}{a:Nat}(h:Wlk m M es v l G) (hl:l.length<1000000):
  C S za0 [.int .u64 (a:Nat),.ptr (m.length+1) 0 0,.ptr (m.length+2) 0 0] M (fun _ M'=> ∃es' v' G',Wlk m M' es' v' (zgI l a) G'/\G.length<=G'.length/\(∀j y,zah v≠some (m.length+3+j)->G[j]? =some y->G'[j]? =some y)/\(v'=v\/ ∃j,zah v'=some (m.length+3+j)/\G.length<=j)):=by
 obtain ⟨rfl,hG,hE⟩:=h;refine (zu6 hG hE hl).mono ?_;rintro _ _ ⟨es',v',G',rfl,h1,h2,h3,h4,h5⟩;exact ⟨es',v',G',⟨rfl,h1,h2⟩,h3,h4,h5⟩
theorem zyE {m M G:Mem}{es:List (Int×Int)}{v:V}{l:List Nat}{x:Nat}{aw uw sv:V}{va vm:Nat->V}{H:zl}(h:zcY m aw uw sv va vm H) (hw:Wlk m M es v l G) (ha:x+1+H.a x%256<=H.na) (hu:zkf (H.a x)) (hna:H.na<1000000) (hb: ∀f,f<=H.a x%256->(zfQ H.a x l f).length<1000000):
  C S zhU [.agg (zB H aw uw sv),.int .u64 (x:Nat),zwR m] M (fun _ M'=> ∃es' v' G',Wlk m M' es' v' (zfQ H.a x l (H.a x%256)) G'):=by
 obtain ⟨rfl,hG,hE⟩:=hw;obtain ⟨T,hT⟩: ∃T:Mem->Nat->Mem->Prop,T=fun I f M=> ∃es v G2,Wlk m M es v (zfQ H.a x l f) G2/\(∀j y,I[j]? =some y->G2[G.length+j]? =some y)/\ ∀j,j<I.length->zah v≠some (m.length+3+(G.length+j)):=⟨_,rfl⟩
 have R:=zvi (each:=zwR m) (a:=x) (T:=T) (h.app (g:= .mp es:: .cells true [[.mp (some m.length)]]:: .cells true [[v]]::G)) ha hu hna rfl ?_ ?_ ?_ ?_ ?_
 ·refine C.mono R ?_
  rintro r M ⟨I,hM⟩;rw [hT] at hM;obtain ⟨es',v',G',h1,_⟩:=hM;exact ⟨es',v',G',h1⟩
 ·intro I
  rw [hT];refine ⟨es,v,G++I,⟨by simp only [List.append_assoc,List.cons_append],hG.app,hE⟩,fun j y hy=>by rw [List.getElem?_append_right (by omega),Nat.add_sub_cancel_left];exact hy,fun j hj e=> ?_⟩;rcases hG with ⟨rfl,_⟩|⟨j2,rfl,h2⟩
  ·cases e
  ·have:=(List.getElem?_eq_some_iff.1 h2).1
   injection e with e;omega
 ·rintro I f M hM
  rw [hT] at hM;obtain ⟨es',v',G',⟨rfl,_,_⟩,h2,_⟩:=hM;refine ⟨fun j y hy=> ?_,h.a.app⟩;have:=h2 j y hy;rw [List.length_append,show m.length+(Blk.mp es::Blk.cells true [[V.mp (some m.length)]]::Blk.cells true [[v]]::G).length+j=m.length+(G.length+j+3) by simp only [List.length_cons];omega,List.getElem?_append_right (by omega),Nat.add_sub_cancel_left];exact this
 ·rintro I f M g' hM
  rw [hT] at hM ⊢;obtain ⟨es',v',G',⟨rfl,h1,h3⟩,h2,h4⟩:=hM;exact ⟨es',v',G'++g',⟨by simp only [List.append_assoc,List.cons_append],h1.app,h3⟩,fun j y hy=>zb (h2 j y hy),h4⟩
 ·rintro I f M hf hbit hM
  rw [hT] at hM ⊢;have e:zfQ H.a x l (f+1)=zfQ H.a x l f:=if_neg (fun h=>by rw [hbit] at h;cases h);dsimp only at hM ⊢;rw [e];exact hM
 ·rintro I f M hf hbit hM
  rw [hT] at hM;obtain ⟨es',v',G',h1,h2,h4⟩:=hM;have e:zfQ H.a x l (f+1)=zgI (zfQ H.a x l f) (H.a (x+1+f)):=if_pos hbit;rw [hT];dsimp only;rw [e];refine C.mono (zwS h1 (hb f (by omega))) ?_;rintro r M2 ⟨es2,v2,G2,k1,k2,k3,k4⟩;refine ⟨es2,v2,G2,k1,fun j y hy=> ?_,fun j hj e=> ?_⟩
  ·have:=h2 j y hy
   exact k3 _ y (h4 j (List.getElem?_eq_some_iff.1 hy).1) this
  ·rcases k4 with rfl|⟨j2,k5,k6⟩
   ·exact h4 j hj e
   ·rw [k5] at e
    injection e with e
    have:=(List.getElem?_eq_some_iff.1 (h2 j I[j] (by simp [hj]))).1;omega
theorem zsS {m:Mem}{P:Nat}{own:Bool} {aw uw sv ov kv vv rv:V}{va vm:Nat->V}{H:zl}{cs K W rs:List Nat}(h:zcY m aw uw sv va vm H) (hP:m[P]? =some (.cells own [mgV (zB H aw uw sv) ov kv vv]))
  (hcur: ∀x,x∈cs->x+1+H.a x%256<=H.na/\zkf (H.a x)) (hc: ∀x,x∈cs-> ∀b,zeT H.a K W x b->b≠0->b∈cs) (hna:H.na<1000000) (hcl:cs.length<1000000)
  (hk:Nus m kv K) (hw:Nus m vv W) (hKW:K.length=W.length) (hKl:K.length<1000000) (hrs:Nus m rv rs) (hrl:rs.length<=17592186044416) (hd: ∀i,i<rs.length->nx rs i=0\/nx rs i∈cs) (oc:ov.isCell=true):
  C S zep [.ptr P 0 0,rv] m (fun r m'=> ∃g L,m'=m++g/\Gw m.length g r 1 (zD L)/\L.Pairwise (· < ·)/\L.length<=cs.length/\ ∀a,a∈L↔Rcb rs (zeT H.a K W) a):=by
 have A:=h.a.ar.2.1;have B:=h.u.ar.2.1;have D:=h.s.s.ar.2.1;have A1:=hk.ar.2.1;have A2:=hw.ar.2.1;have A3:=hrs.ar;have vm1: ∀x,(V.mp x).cells=[V.mp x]:=fun _=>rfl
 have vm2: ∀x,(V.mp x).isCell=true:=fun _=>rfl
 have hc':=zU hc;have hd':=zU hd;have hcur':=zU hcur;clear hc hd hcur;refine fn rfl ?_;refine range (α:=List (Int×Int)×V×List Nat) rs.length (fun _=>[(0,.ptr P 0 0),(6,.ptr (m.length+2) 0 0),(7,zwR m),(16,rv)])
  (fun k s M=> ∃G,Wlk m M s.1 s.2.1 s.2.2 G/\Wk rs cs (zeT H.a K W) k 0 s.2.2) ([],.nils,[]) ⟨[],⟨rfl,.inl ⟨rfl,rfl⟩,MS.nil⟩,Wk.zero⟩ ?_ ?_
 ·rintro k ⟨es,v,l⟩ fr M hk F ⟨G,hW,hwk⟩
  dsimp only at hW hwk;have hl:=hwk.len;have hwk':=zU hwk;have e:M=m++ .mp es:: .cells true [[.mp (some m.length)]]:: .cells true [[v]]::G:=hW.1;have A4:=(hrs.app (g:= .mp es:: .cells true [[.mp (some m.length)]]:: .cells true [[v]]::G)).ar;have hW':=zU hW;clear hwk hW;subst e;refine am ?_;refine (zwS hW'.down (by omega)).mono ?_;rintro _ M2 ⟨es',v',G',h1,_⟩;have h1':=zU h1;clear h1;refine am ?_;exact ⟨(es',v',zgI l (nx rs k)),zh,G',h1'.down,hwk'.down.root hk (hd'.down k hk)⟩
 ·rintro ⟨es,v,l⟩ fr M F ⟨G,hW,hwk⟩
  dsimp only at hW hwk;have hW':=zU hW;have hwk':=zU hwk;clear hW hwk;refine am ?_
  let I:=fun (d:Nat) (fr:Frame) (M:Mem)=> ∃n es v l G,Wlk m M es v l G/\Wk rs cs (zeT H.a K W) rs.length n l/\d=cs.length-n/\Has fr [(0,.ptr P 0 0),(6,.ptr (m.length+2) 0 0),(7,zwR m),(10,.int .i64 (n:Nat))]
  refine zW I ?_ cs.length ⟨0,es,v,l,G,hW'.down,hwk'.down,rfl,zh⟩;clear hW' hwk' F;rintro d fr _ ⟨n,es,v,l,G,hW,hwk,rfl,F⟩;have hle:=hwk.len;have hn:=hwk.le;have hV:=hW.nus;have hWe:M=M:=rfl;obtain ⟨rfl,hG,hE⟩:=hW;have hW':=zU (show Wlk m _ es v l G from ⟨rfl,hG,hE⟩);have hwk':=zU hwk;have n1:=hV.ar;have w1:IntKind.i64.wrap ((n:Int)+1)=((n+1:Nat):Int):=by rw [wrap_i64]<;>omega
  clear hG hE hwk hV hWe
  by_cases hlt:n<l.length
  ·have c1:((n:Int)<(l.length:Int))=True:=eq_true (by omega)
   have hx:=hwk'.down.rc _ (zaH hlt);have hbd:=fun f i hf hi=>hwk'.down.bound hlt hc'.down (f:=f) (i:=i) hf hi
   have hcu:=hcur'.down _ hx.2.1;have hnext:=hwk'.down.next hlt hc'.down;obtain ⟨x,ex⟩: ∃x,nx l n=x:=⟨_,rfl⟩
   rw [ex] at hbd hcu hnext;have hbd':=zU hbd;have hcu':=zU hcu;have hnext':=zU hnext;clear hx hbd hcu hnext;refine into ?_;refine (zyE (x:=x) h hW'.down hcu'.down.1 hcu'.down.2 hna (fun f hf=>by have:=hbd'.down f 0 hf (Nat.zero_le _);simp only [zhQ] at this;omega)).mono ?_;rintro _ M2 ⟨es2,v2,G2,h2⟩;obtain ⟨l1,el1⟩: ∃l1,zfQ H.a x l (H.a x%256)=l1:=⟨_,rfl⟩
   rw [el1] at h2;have hb2:=fun i hi=>hbd'.down (H.a x%256) i (Nat.le_refl _) hi
   have hnx:=hnext'.down;rw [el1] at hb2 hnx;have hb2':=zU hb2;have hnx':=zU hnx;have h2':=zU h2;have e2:M2=m++ .mp es2:: .cells true [[.mp (some m.length)]]:: .cells true [[v2]]::G2:=h2.1;have B1:=(hk.app (g:= .mp es2:: .cells true [[.mp (some m.length)]]:: .cells true [[v2]]::G2)).ar;clear h2 hb2 hnx el1 hW' n1 hbd' hnext';subst e2;refine am ?_;refine range (α:=List (Int×Int)×V×List Nat) K.length (fun _=>[(0,.ptr P 0 0),(6,.ptr (m.length+2) 0 0),(7,zwR m),(10,.int .i64 (n:Nat)),(11,.int .u64 (x:Nat)),(46,kv)])
    (fun i s M=> ∃G,Wlk m M s.1 s.2.1 s.2.2 G/\s.2.2=zhQ K W x l1 i) (es2,v2,l1) ⟨G2,h2'.down,rfl⟩ ?_ ?_
   ·rintro i ⟨es3,v3,l3⟩ fr M3 hi F ⟨G3,h3,e3⟩
    dsimp only at h3 e3;have hi2:i<W.length:=by omega
    have hl3:l3.length<1000000:=by rw [e3];have:=hb2'.down i (by omega);omega
    have h3':=zU h3;have em:M3=m++ .mp es3:: .cells true [[.mp (some m.length)]]:: .cells true [[v3]]::G3:=h3.1;have B2:=(hk.app (g:= .mp es3:: .cells true [[.mp (some m.length)]]:: .cells true [[v3]]::G3)).ar;have B3:=(hw.app (g:= .mp es3:: .cells true [[.mp (some m.length)]]:: .cells true [[v3]]::G3)).ar;have e3':=zU e3;clear h3 e3;subst em
    by_cases hx:nx K i=x
    ·have cx:(((nx K i:Nat):Int)=(x:Int))=True:=eq_true (by omega)
     have hs:zhQ K W x l1 (i+1)=zgI (zhQ K W x l1 i) (nx W i):=if_pos hx;have hs':=zU hs;clear hx hs;refine am ?_;refine (zwS h3'.down (by omega)).mono ?_;rintro _ M4 ⟨es4,v4,G4,h4,_⟩;have h4':=zU h4;clear h4;refine am ?_;refine ⟨(es4,v4,zgI l3 (nx W i)),zh,G4,h4'.down,?_⟩;rw [hs'.down,<-e3'.down]
    ·have cx:(((nx K i:Nat):Int)=(x:Int))=False:=eq_false (by omega)
     have hs:zhQ K W x l1 (i+1)=zhQ K W x l1 i:=if_neg hx;have hs':=zU hs;clear hx hs;refine am ?_;refine ⟨(es3,v3,l3),zh,G3,h3'.down,?_⟩;rw [hs'.down,<-e3'.down]
   ·rintro ⟨es3,v3,l3⟩ fr M3 F ⟨G3,h3,e3⟩
    dsimp only at h3 e3;have h3':=zU h3;have e3':=zU e3;clear h3 e3;refine am ?_;refine ⟨_,?_,n+1,es3,v3,l3,G3,h3'.down,?_,rfl,zh⟩
    ·omega
    ·rw [e3'.down];exact hnx'.down
  ·have hne:n=l.length:=by omega
   subst hne;have c1:((l.length:Int)<(l.length:Int))=False:=eq_false (by omega);have hs:=zwQ hwk'.down.nd;have hdone:=hwk'.down.done;have hs':=zU hs;have hdone':=zU hdone;clear hs hdone hlt;rcases hW'.down.2.1 with ⟨rfl,hnil⟩|⟨j,rfl,hj⟩
   ·have hl0:l=[]:=by cases l with|nil=>rfl|cons a l=>cases hnil
    subst hl0;clear hnil n1;refine into ?_;refine zo0.mono ?_;rintro _ _ ⟨rfl,g,rfl⟩;refine am ?_;exact ⟨_,[],rfl,.inl ⟨rfl,rfl⟩,List.Pairwise.nil,Nat.zero_le _,hdone'.down⟩
   ·have hul:(zD l).length=l.length:=by simp
    rw [hul] at n1 hW' ⊢;have hj':=zU hj;clear hj hul;have hlt2:=(List.getElem?_eq_some_iff.1 hj'.down).1;refine into ?_;refine (zm3 (b:=m.length+3+j) ?_ (by omega)).mono ?_
    ·rw [show m.length+3+j=m.length+(j+3) by omega,zi];exact hj'.down
    rintro _ _ ⟨rfl,g,rfl⟩;have e3:(m++ .mp es:: .cells true [[.mp (some m.length)]]:: .cells true [[.slice (m.length+3+j) 0 l.length l.length false 1]]::G).set (m.length+3+j) (.cells true (zD (zbR l)))=m++ .mp es:: .cells true [[.mp (some m.length)]]:: .cells true [[.slice (m.length+3+j) 0 l.length l.length false 1]]::G.set j (.cells true (zD (zbR l))):=by
     rw [show m.length+3+j=m.length+(j+3) by omega,zfn];rfl
    rw [e3];clear e3 n1;refine am ?_;refine ⟨_,zbR l,rfl,.inr ⟨j+3,?_,?_⟩,hs'.down.1,by rw [hs'.down.2.2];exact hle,fun a=>(hs'.down.2.1 a).trans (hdone'.down a)⟩
    ·rw [List.length_map,hs'.down.2.2,show m.length+3+j=m.length+(j+3) by omega]
    ·show (G.set j (.cells true (zD (zbR l)))++g)[j]? =_
     rw [List.getElem?_append_left (by simpa using hlt2)];simp [hlt2]
def mOk (cs rs K W:List Nat):Prop:= ∀a,a∈rs++(W++K)->a=0\/a∈cs
def zur (H:zl) (ok:Prop) (rs K W:List Nat) (m g:Mem) (r:V):Prop:=
 (¬ (H.right/\ok)/\r= .tup [.nils,.int .i64 2])\/
 (H.right/\ok/\¬ mOk (zdW (obs H H.ns)) rs K W/\r= .tup [.nils,.int .i64 10])\/
 (H.right/\ok/\mOk (zdW (obs H H.ns)) rs K W/\ ∃v L,r= .tup [v,.int .i64 0]/\Gw m.length g v 1 (zD L)/\L.Pairwise (· < ·)/\L.length<=2048/\ ∀a,a∈L↔Rcb rs (zeT H.a K W) a)
theorem zrq {m:Mem} {aw uw sv tv rv:V}{va vm:Nat->V}{H:zl}{ok:Prop}{rs K W:List Nat}(h:zcY m aw uw sv va vm H) (ht:tv.isCell=true) (hA:zkK m tv ok K W) (hKW:K.length=W.length) (hKl:K.length<1000000) (hrs:Nus m rv rs) (hrl:rs.length+(W.length+K.length)<=17592186044416):
  C S ziX [.agg (zB H aw uw sv),rv,.agg [tv]] m (fun r m'=> ∃g,m'=m++g/\zur H ok rs K W m g r):=by
 have A:=h.a.ar.2.1;have B:=h.u.ar.2.1;have D:=h.s.s.ar.2.1;have A1:=hrs.ar.2.1;have hA':=zU hA;obtain ⟨Q,hQ⟩: ∃Q,zur H ok rs K W m=Q:=⟨_,rfl⟩
 have hQ':=zU hQ;rw [hQ];clear hA hQ;refine fn rfl ?_;refine (zsR h.app ht hA'.down.app).mono ?_;rintro _ _ ⟨g1,rfl,⟨hR,hk,P,ov,kv,vv,rfl,hP,h1,h2,h3⟩|⟨hno,rfl⟩⟩
 case inr=>
  have hno':=zU hno;clear hno;refine am ?_;refine into ?_;refine ⟨_,rfl,?_⟩;rw [<-hQ'.down];exact .inl ⟨hno'.down,rfl⟩
 have hw:=hR.2.1.wide hR.1 h.wa;have hcs:=ziy (znA hw.rises);have hcl:(zdW (obs H H.ns)).length<=2048:=Nat.le_trans zny (zeK hR.1);have hcur:=fun a ha=>zl.right.cur hR h.wa (a:=a) ha
 have hna:=hR.1.na;obtain ⟨cs,ecs⟩: ∃cs,zdW (obs H H.ns)=cs:=⟨_,rfl⟩
 have ecs':=zU ecs;rw [ecs] at hcs hcl hcur h1;have hcur':=zU hcur;have hcs':=zU hcs;have hR':=zU hR;have hk':=zU hk;have h1':=zU h1;have h2':=zU h2;have h3':=zU h3;have hP':=zU hP;have hQE:PLift (∀g,¬ mOk cs rs K W->Q g (.tup [.nils,.int .i64 10])):=⟨fun g hn=>by rw [<-hQ'.down];exact .inr (.inl ⟨hR,hk,by rw [ecs];exact hn,rfl⟩)⟩
 have hQO:PLift (∀g v L,mOk cs rs K W->Gw m.length g v 1 (zD L)->L.Pairwise (· < ·)->L.length<=2048->(∀a,a∈L↔Rcb rs (zeT H.a K W) a)->Q g (.tup [v,.int .i64 0])):=⟨fun g v L hm a1 a2 a3 a4=>by rw [<-hQ'.down];exact .inr (.inr ⟨hR,hk,by rw [ecs];exact hm,v,L,rfl,a1,a2,a3,a4⟩)⟩
 clear hw hcs hcl hcur hR hk h1 h2 h3 hP hQ';refine am ?_;have hPm:(m++Blk.cells true [zB H aw uw sv]::Blk.cells true [[tv]]::g1)[m.length+2+P]? =some (Blk.cells true [mgV (zB H aw uw sv) ov kv vv]):=by
  rw [show m.length+2+P=m.length+(P+2) by omega,zi];exact hP'.down
 have n1:Nus (m++Blk.cells true [zB H aw uw sv]::Blk.cells true [[tv]]::g1) ov cs:=by simpa only [List.append_assoc,List.cons_append,List.nil_append] using h1'.down
 have n2:Nus (m++Blk.cells true [zB H aw uw sv]::Blk.cells true [[tv]]::g1) kv K:=by simpa only [List.append_assoc,List.cons_append,List.nil_append] using h2'.down
 have n3:Nus (m++Blk.cells true [zB H aw uw sv]::Blk.cells true [[tv]]::g1) vv W:=by simpa only [List.append_assoc,List.cons_append,List.nil_append] using h3'.down
 have oc:=n1.ar.2.1;have hPm':=zU hPm;have n1':=zU n1;have n2':=zU n2;have n3':=zU n3;have hcl':cs.length<=2048:=by rw [<-ecs];exact Nat.le_trans zny (zeK hR'.down.1)
 clear hPm n1 n2 n3 ecs h1' h2' h3' hP';refine (zu5 (own:=true) (hv:=zB H aw uw sv) hPm'.down rfl n1'.down hcs'.down (by omega) n2'.down n3'.down hrs.app hrl).mono ?_;rintro _ _ ⟨⟨hm,rfl⟩|⟨hm,rfl⟩,⟨g2,rfl⟩⟩
 case inr=>
  have hm':=zU hm;clear hm;refine am ?_;refine into ?_;exact ⟨_,rfl,hQE.down _ hm'.down⟩
 have hm':=zU hm;clear hm;refine am ?_;refine into ?_;have hd: ∀i,i<rs.length->nx rs i=0\/nx rs i∈cs:=fun i hi=>hm'.down _ (List.mem_append_left _ (zaH hi))
 have hc: ∀x,x∈cs-> ∀b,zeT H.a K W x b->b≠0->b∈cs:=by
  rintro x hx b (⟨f,hf,h4,rfl⟩|⟨i,hi,_,rfl⟩) hne
  ·exact (hcur'.down x hx).2.2.2.2 f hf h4 hne
  ·exact (hm'.down _ (List.mem_append_right _ (List.mem_append_left _ (zaH (by omega))))).resolve_left hne
 have R:=zsS (m:=m++Blk.cells true [zB H aw uw sv]::Blk.cells true [[tv]]::(g1++g2)) (P:=m.length+2+P) (own:=true) (rv:=rv) (rs:=rs) (cs:=cs) h.app (by have:=zb (g:=g2) hPm'.down;simpa only [List.append_assoc,List.cons_append] using this) (fun x hx=>⟨(hcur'.down x hx).2.1,(hcur'.down x hx).2.2.1⟩) hc (by omega) (by omega)
  (by have:=n2'.down.app (g:=g2);simpa only [List.append_assoc,List.cons_append] using this) (by have:=n3'.down.app (g:=g2);simpa only [List.append_assoc,List.cons_append] using this) hKW hKl hrs.app (by omega) hd oc
 have R':=zU R;clear R hd hc;refine R'.down.mono ?_;rintro r _ ⟨g3,L,rfl,hG,hs,hll,hmem⟩;have hG':=zU hG;have hs':=zU hs;have hmem':=zU hmem;clear R' hG hs hmem;refine am ?_;refine ⟨_,rfl,hQO.down _ r L hm'.down ?_ hs'.down (by omega) hmem'.down⟩;have h1:Gw (m.length+(Blk.cells true [zB H aw uw sv]::Blk.cells true [[tv]]::(g1++g2)).length) g3 r 1 (zD L):=hG'.down.cast;have:=Gw.pre _ h1
 simpa only [List.append_assoc,List.cons_append] using this
theorem zu7 {m:Mem}:C S ziZ [.agg [.nils]] m (fun r m'=>r= .int .i64 0/\Grow m m'):=by
 refine fn rfl ?_;exact ⟨_,rfl⟩
theorem zsU {m:Mem}:C S zds [.nils] m (fun r m'=>r= .nils/\Grow m m'):=by
 have e:eqV .slice .nils .nils=some true:=rfl;refine fn rfl ?_;exact Grow.refl _
theorem zsV {m:Mem}{f:V}:C S zcg [.nils,f] m (fun r m'=>r= .int .i64 (-1)/\m=m'):=by
 refine fn rfl ?_;refine range (α:=Unit) 0 (fun _=>[]) (fun k _ M=>m=M) () rfl ?_ ?_
 ·rintro k _ fr M hk F rfl
  exact absurd hk (Nat.not_lt_zero _)
 ·rintro _ fr M F rfl
  refine am ?_;trivial
theorem zrr {m:Mem}{f:V}:C S zb1 [.nils,f] m (fun r m'=>r= .nils/\m=m'):=by
 refine fn rfl ?_;refine zsV.mono ?_;rintro _ _ ⟨rfl,rfl⟩;refine am ?_;trivial
theorem zwT {m:Mem}{f:V}:C S zaD [.nils,.int .i64 0,.int .i64 0,f] m (fun r m'=>r= .tup []/\ ∃g,m'=m++g):=by
 have w1:IntKind.i64.wrap ((0:Int)+1)=1:=by decide
 have w2:IntKind.i64.wrap (1:Int)=1:=by decide
 have c1:((1:Int)<0)=False:=eq_false (by omega);refine fn rfl ?_
 let I:=fun (d:Nat) (fr:Frame) (M:Mem)=>Has fr [(0,.nils),(2,.int .i64 0),(8,.int .i64 1)]/\ ∃g,M=m++g
 refine zW I ?_ 0 ⟨zh,[],by simp⟩;rintro d fr _ ⟨F,⟨g,rfl⟩⟩;refine into ?_;exact ⟨_,rfl⟩
theorem zwU {m:Mem}{lim:Nat}{f:V}:C S zV [.nils,.int .i64 0,.int .i64 0,.int .i64 (lim:Nat),f] m (fun r m'=>r= .tup []/\ ∃g,m'=m++g):=by
 have w1:IntKind.i64.wrap ((0:Int)-0)=0:=by decide
 have w2:IntKind.i64.wrap (0:Int)=0:=by decide
 have c1:((0:Int)<=12)=True:=eq_true (by omega);refine fn rfl ?_
 let I:=fun (d:Nat) (fr:Frame) (M:Mem)=>Has fr [(0,.nils),(1,.int .i64 0),(2,.int .i64 0),(4,f)]/\ ∃g,M=m++g
 refine zW I ?_ 0 ⟨zh,[],by simp⟩;rintro d fr _ ⟨F,⟨g,rfl⟩⟩;refine into ?_;refine zwT.mono ?_;rintro _ _ ⟨rfl,g2,rfl⟩;refine am ?_;exact ⟨_,rfl⟩
theorem zu8 {m:Mem}{f:V}:C S zcA [.nils,f] m (fun r m'=>r= .tup []/\ ∃g,m'=m++g):=by
 have w1:IntKind.u64.wrap (0:Int)=0:=by decide
 refine fn rfl ?_;refine (zhR (n:=0) (by omega)).mono ?_;rintro _ _ ⟨rfl,rfl⟩;refine am ?_;refine zwU.mono ?_;rintro _ _ ⟨rfl,g,rfl⟩;refine am ?_;exact ⟨_,rfl⟩
theorem zxN {m:Mem}:zkK m .nils True [] []:=by
 intro g;refine fn rfl ?_;refine zu7.mono ?_;rintro _ _ ⟨rfl,⟨g1,rfl⟩⟩;refine am ?_;refine zsU.mono ?_;rintro _ _ ⟨rfl,⟨g2,rfl⟩⟩;refine am ?_;refine zrr.mono ?_;rintro _ _ ⟨rfl,rfl⟩;refine am ?_;refine zu8.mono ?_;rintro _ _ ⟨rfl,⟨g3,rfl⟩⟩;refine am ?_;refine range (α:=Unit) 0 (fun _=>[(7,.nils),(8,.nils)]) (fun k _ M=> ∃g',M=m++(g++g')) () ⟨_,rfl⟩ ?_ ?_
 ·rintro k _ fr M hk F _
  exact absurd hk (Nat.not_lt_zero _)
 ·rintro _ fr _ F ⟨g',rfl⟩
  refine am ?_;exact ⟨_,rfl,.inl ⟨_,_,rfl,rfl,rfl,.inl ⟨rfl,rfl⟩,.inl ⟨rfl,rfl⟩⟩⟩
end Go.AM.G
