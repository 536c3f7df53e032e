import Derived.Test.YtfhbhfogcgfeeaaGreatDoorHqA
set_option linter.unusedVariables false
set_option linter.unusedSimpArgs false
set_option maxRecDepth 100000
namespace Go.AM.G
open Go Go.AM
abbrev zno (n:Nat):List (List V):=List.replicate n [V.int .u64 0]
theorem zws {m:Mem}:C S za1 [.nils,.int .i64 0] m (fun r m'=>r= .nils/\m'=m):=by
 have w2:IntKind.i64.wrap (0:Int)=0:=by decide
 have c1:((0:Int)<0)=False:=eq_false (by omega);refine fn rfl ?_;trivial
theorem zuL {m:Mem}{n:Nat}(h1:0<n) (hn:n<=17592186044416):C S za1 [.nils,.int .i64 (n:Nat)] m (fun r m'=>r= .slice m.length 0 0 n false 1/\m'=m++[.cells true (zno n)]):=by
 have w1:IntKind.i64.wrap (0:Int)=0:=by decide
 have w3:=wn (a:=n) (by omega);have w2:IntKind.i64.wrap ((n:Int)-0)=(n:Int):=by rw [wrap_i64]<;>omega
 have c1:((n:Int)<0)=False:=eq_false (by omega);have c2:((0:Int)<(n:Int))=True:=eq_true (by omega);have rm:roomy n 8=true:=by simp [roomy];omega
 have ap:zhK m [.int .u64 0] 8 .nils (.int .i64 (n:Nat))=some (.slice m.length 0 n n false 1,m++[.cells true (zno n)]):=by
  unfold zhK;dsimp only;rw [Int.toNat_natCast,if_pos ⟨by omega,rm⟩];rfl
 have s1:zaV .nils none (some (.int .i64 0)) none=some .nils:=rfl;have s2:zaV (.slice m.length 0 n n false 1) none (some (.int .i64 0)) none=some (.slice m.length 0 0 n false 1):=by simp [zaV,bound]
 have z1:zOk (.slice m.length 0 n n false 1) 1=true:=rfl;have z2:zOk .nils 1=true:=rfl;have on: ∀{f:Arg->V},Option.map f none=none:=rfl;clear rm h1 hn;refine fn rfl ?_;trivial
def cat (ls:Nat->List Nat):Nat->List Nat
 |0=>[]
 |k+1=>cat ls k++ls k
theorem zwt {ls:Nat->List Nat}{i k:Nat}(h:i<=k):(cat ls i).length<=(cat ls k).length:=by
 induction k with
 |zero=>
   have:i=0:=by omega
   subst this;exact Nat.le_refl _
 |succ k ih=>
  by_cases e:i=k+1
  ·subst e;exact Nat.le_refl _
  ·have:=ih (by omega)
   simp only [cat,List.length_append];omega
theorem elY {m:Mem}{v:V}{l:List Nat}(h:Nus m v l):zcz m v=some (zJ l)/\zOk v 1=true:=by
 rcases h with ⟨h1,h2⟩|⟨h1,rfl⟩
 ·refine ⟨zfe ?_,h2⟩
  rw [h1];exact congrArg some (zkh (f:=fun p:Nat=>[V.int .u64 (p:Int)]) (l:=l)).symm
 ·have:l=[]:=List.eq_nil_of_length_eq_zero h1
  subst this;exact ⟨rfl,rfl⟩
theorem zwu {L l:List Nat}{t:Nat}(ht:L.length+l.length<=t):over (zJ L++zno (t-L.length)) L.length (zJ l)=zJ (L++l)++zno (t-(L++l).length):=by
 unfold over;have e1:(zJ L).length=L.length:=by simp
 rw [List.take_left' e1,List.length_map,List.drop_append,List.drop_of_length_le (by rw [e1];omega),e1,List.nil_append,Nat.add_sub_cancel_left,List.drop_replicate,zJ,zJ,zJ,List.map_append,List.append_assoc,List.length_append]
 congr 3
 omega
theorem zwv {M:Mem}{B t:Nat}{y:V}{L l:List Nat}(hB:M[B]? =some (.cells true (zJ L++zno (t-L.length)))) (hy:Nus M y l) (ht:L.length+l.length<=t):
  zF M [.int .u64 0] 8 (.slice B 0 L.length t false 1) y=some (.slice B 0 (L++l).length t false 1,M.set B (.cells true (zJ (L++l)++zno (t-(L++l).length)))):=by
 obtain ⟨h1,h2⟩:=elY hy;have hov:=zwu ht;unfold zF;rw [h1]
 by_cases hl:l=[]
 ·subst hl
  have:M.set B (.cells true (zJ (L++[])++zno (t-(L++[]).length)))=M:=by
   obtain ⟨hlt,hg⟩:=List.getElem?_eq_some_iff.1 hB;rw [List.append_nil,<-hg];exact List.set_getElem_self hlt
  rw [this];simp [h2]
 ·have hne:(zJ l).isEmpty=false:=by cases l<;>simp_all
  have hll:(zJ l).length=l.length:=by simp
  have hel:(zJ L++zno (t-L.length)).length=t:=by simp;omega
  simp only [List.length_cons,List.length_nil,h2,hB,hne,hll,hel,Bool.true_eq_false,Bool.false_eq_true,if_false,Nat.zero_add,ne_eq,not_true_eq_false];rw [if_pos (by omega),if_pos (by omega),if_pos ⟨trivial,by omega⟩,hov,List.length_append]
def Cw (len t:Nat) (g:Mem) (v:V) (L:List Nat):Prop:=(t=0/\v= .nils)\/ ∃j,v= .slice (len+j) 0 L.length t false 1/\g[j]? =some (.cells true (zJ L++zno (t-L.length)))
theorem Cw.cell {len t:Nat}{g:Mem}{v:V}{L:List Nat}(h:Cw len t g v L):v.isCell=true:=by
 rcases h with ⟨_,rfl⟩|⟨j,rfl,_⟩<;>rfl
theorem Cw.push {m g:Mem}{t:Nat}{v y:V}{L l:List Nat}(h:Cw m.length t g v L) (hy:Nus (m++g) y l) (ht:L.length+l.length<=t): ∃v' g',zF (m++g) [.int .u64 0] 8 v y=some (v',m++g')/\Cw m.length t g' v' (L++l)/\v'.isCell=true:=by
 rcases h with ⟨h0,rfl⟩|⟨j,rfl,hj⟩
 ·have hl:l=[]:=List.eq_nil_of_length_eq_zero (by omega)
  subst hl;obtain ⟨h1,h2⟩:=elY hy;refine ⟨.nils,g,?_,.inl ⟨h0,rfl⟩,rfl⟩;unfold zF;rw [h1];simp [h2]
 ·have hlt:=(List.getElem?_eq_some_iff.1 hj).1
  have hB:(m++g)[m.length+j]? =some (.cells true (zJ L++zno (t-L.length))):=by rw [zg];exact hj
  refine ⟨_,_,(zwv hB hy ht).trans (by rw [zfS]),.inr ⟨j,rfl,by simp [hlt]⟩,rfl⟩
theorem Cw.gw {len t:Nat}{g:Mem}{v:V}{L:List Nat}(h:Cw len t g v L) (ht:L.length=t):Gw len g v 1 (zJ L):=by
 rcases h with ⟨h0,rfl⟩|⟨j,rfl,hj⟩
 ·have:L=[]:=List.eq_nil_of_length_eq_zero (by omega)
  subst this;exact .inl ⟨rfl,rfl⟩
 ·refine .inr ⟨j,by rw [List.length_map,ht],?_⟩
  rw [hj,ht];simp
theorem zkD {m:Mem}{sv:V}{k:Nat}{vs:Nat->V}{ls:Nat->List Nat}(hs:Rd m sv 1 k (fun i=>[vs i])) (hr: ∀i,i<k->Nus m (vs i) (ls i)) (hk:k<1000000) (ht:(cat ls k).length<=17592186044416):
  C S zbz [sv] m (fun r m'=> ∃g,m'=m++g/\Gw m.length g r 1 (zJ (cat ls k))):=by
 have A:=hs.ar;have hr':=zU hr;have ht':=zU ht;clear hr ht;refine fn rfl ?_;refine range (α:=Nat) k (fun x=>[(0,sv),(9,sv),(3,.int .i64 (x:Nat))]) (fun j x M=>m=M/\x=(cat ls j).length) 0 ⟨rfl,rfl⟩ ?_ ?_
 ·rintro j x fr _ hj F ⟨rfl,hx⟩
  have B:=(hr'.down j hj).ar;have h1:(cat ls (j+1)).length=x+(ls j).length:=by rw [hx];simp [cat]
  have h2:=zwt (ls:=ls) (i:=j+1) (k:=k) hj;have h3:=ht'.down;have w1:IntKind.i64.wrap ((x:Int)+((ls j).length:Int))=((x+(ls j).length:Nat):Int):=by rw [wrap_i64]<;>omega
  have c1:(((x+(ls j).length:Nat):Int)<0)=False:=eq_false (by omega);have h1':=zU h1;clear hx h1 h2 h3;refine am ?_;exact ⟨x+(ls j).length,zi,rfl,h1'.down.symm⟩
 ·rintro x fr _ F ⟨rfl,hx⟩
  obtain ⟨t,et⟩: ∃t,(cat ls k).length=t:=⟨_,rfl⟩
  have ht2:t<=17592186044416:=et▸ht'.down;have et':=zU et;have key:C S za1 [.nils,.int .i64 (t:Nat)] m (fun r m'=> ∃g,m'=m++g/\Cw m.length t g r []):=by
   by_cases h0:t=0
   ·subst h0
    refine zws.mono ?_;rintro _ _ ⟨rfl,rfl⟩;exact ⟨[],by simp,.inl ⟨rfl,rfl⟩⟩
   ·refine (zuL (by omega) ht2).mono ?_
    rintro _ _ ⟨rfl,rfl⟩;exact ⟨_,rfl,.inr ⟨0,rfl,by simp⟩⟩
  rw [et] at hx;subst hx;clear et;refine am ?_;refine key.mono ?_;rintro v _ ⟨g,rfl,hv⟩;have vc:=hv.cell;refine am ?_;refine range (α:=V) k (fun v=>[(6,v),(25,sv)]) (fun j v M=> ∃g,M=m++g/\Cw m.length x g v (cat ls j)) v ⟨g,rfl,hv⟩ ?_ ?_
  ·rintro j v fr _ hj F ⟨g,rfl,hv⟩
   have A2:=(hs.app (g:=g)).ar;have B:=(hr'.down j hj).app (g:=g);have h1:(cat ls (j+1)).length=(cat ls j).length+(ls j).length:=by simp [cat]
   have h2:=zwt (ls:=ls) (i:=j+1) (k:=k) hj;have h3:=et'.down;obtain ⟨v',g',ap,hv',vc'⟩:=hv.push B (by omega);have hv'':=zU hv';have D:=B.ar;clear h1 h2 h3 hv hv' B;refine am ?_;exact ⟨v',zi,g',rfl,hv''.down⟩
  ·rintro v fr _ F ⟨g,rfl,hv⟩
   have hv':=zU (hv.gw et'.down);have vc:=hv.cell;clear hv;refine am ?_;exact ⟨g,rfl,hv'.down⟩
def zsr (m:Mem) (tv:V) (ok:Prop) (K W:List Nat):Prop:= ∀g:Mem,C S zqR [.agg [tv]] (m++g) (fun r m'=> ∃g',m'=m++(g++g')/\((ok/\ ∃kv vv,r= .tup [kv,vv,.int .i64 0]/\kv.isCell=true/\vv.isCell=true/\Nus m' kv K/\Nus m' vv W)\/(¬ ok/\ ∃kv vv,r= .tup [kv,vv,.int .i64 2]/\kv.isCell=true/\vv.isCell=true)))
theorem zsr.app {m g:Mem}{tv:V}{ok:Prop}{K W:List Nat}(h:zsr m tv ok K W):zsr (m++g) tv ok K W:=by
 intro g2;rw [List.append_assoc];refine (h (g++g2)).mono ?_;rintro r _ ⟨g',rfl,hr⟩;exact ⟨g',by simp only [List.append_assoc],hr⟩
def zqK (l:List Nat) (a:Nat):List Nat:=if a=0\/a∈l then l else l++[a]
def MS (es:List (Int×Int)) (l:List Nat):Prop:= ∀x:Nat,zul (x:Int) es=if x∈l then 1 else 0
theorem MS.nil:MS [] []:=fun x=>by simp [zul]
theorem zqL {l:List Nat}{a x:Nat}:x∈zqK l a↔x∈l\/(x=a/\a≠0):=by
 unfold zqK
 split
 ·rename_i h
  constructor
  ·exact .inl
  ·rintro (h1|⟨rfl,h2⟩)
   ·exact h1
   ·exact h.resolve_left h2
 ·rename_i h
  rw [List.mem_append,List.mem_singleton];constructor
  ·rintro (h1|rfl)
   ·exact .inl h1
   ·exact .inr ⟨rfl,fun e=>h (.inl e)⟩
  ·rintro (h1|⟨rfl,_⟩)
   ·exact .inl h1
   ·exact .inr rfl
theorem zqM {l:List Nat}{a:Nat}: ∃r,zqK l a=l++r:=by
 unfold zqK
 split
 ·exact ⟨[],by simp⟩
 ·exact ⟨[a],rfl⟩
theorem zl8 {l:List Nat}{a:Nat}(h:l.Nodup):(zqK l a).Nodup:=by
 unfold zqK
 split
 ·exact h
 ·rename_i hn
  rw [List.nodup_append];refine ⟨h,by simp,fun x hx y hy e=> ?_⟩;rw [List.mem_singleton] at hy;exact hn (.inr (hy▸e▸hx))
theorem zj4: ∀{l k:List Nat},l.Nodup->(∀x,x∈l->x∈k)->l.length<=k.length
 | [],_,_,_=>Nat.zero_le _
 |a::l,k,h,hs=>by
  rw [List.nodup_cons] at h;have:= @zj4 l (k.erase a) h.2 (fun x hx=>(List.mem_erase_of_ne (fun e=>h.1 (by rw [<-e];exact hx))).2 (hs x (List.mem_cons_of_mem _ hx)));have hm:=hs a (by simp);rw [List.length_erase_of_mem hm] at this;have:=List.length_pos_of_mem hm;simp only [List.length_cons];omega
inductive Rcb (rt:List Nat) (nxt:Nat->Nat->Prop):Nat->Prop
 |root {a:Nat}:a∈rt->a≠0->Rcb rt nxt a
 |step {a b:Nat}:Rcb rt nxt a->nxt a b->b≠0->Rcb rt nxt b
def zyF (a:Nat->Nat) (x b:Nat):Prop:= ∃f,f<a x%256/\(unM (a x)).testBit f=true/\a (x+1+f)=b
def zxn (a:Nat->Nat) (K W:List Nat) (x b:Nat):Prop:=zyF a x b\/ ∃i,i<K.length/\nx K i=x/\nx W i=b
def zl9 (a:Nat->Nat) (x:Nat) (l:List Nat):Nat->List Nat
 |0=>l
 |f+1=>if (unM (a x)).testBit f=true then zqK (zl9 a x l f) (a (x+1+f)) else zl9 a x l f
def znp (K W:List Nat) (x:Nat) (l:List Nat):Nat->List Nat
 |0=>l
 |i+1=>if nx K i=x then zqK (znp K W x l i) (nx W i) else znp K W x l i
theorem zj5 {l k r:List Nat}(h: ∃s,k=l++s) (h2: ∃s,r=k++s): ∃s,r=l++s:=by
 obtain ⟨s,rfl⟩:=h;obtain ⟨t,rfl⟩:=h2;exact ⟨s++t,by rw [List.append_assoc]⟩
theorem zqN {a:Nat->Nat}{x:Nat}{l:List Nat}: ∀f,(∃r,zl9 a x l f=l++r)/\(l.Nodup->(zl9 a x l f).Nodup)/\ ∀y,y∈zl9 a x l f↔y∈l\/(y≠0/\ ∃g,g<f/\(unM (a x)).testBit g=true/\a (x+1+g)=y)
 |0=>⟨⟨[],by simp [zl9]⟩,id,fun y=>by simp [zl9]⟩
 |f+1=>by
  obtain ⟨h1,h2,h3⟩:= @zqN a x l f;unfold zl9
  split
  ·rename_i hb
   refine ⟨zj5 h1 zqM,fun h=>zl8 (h2 h),fun y=> ?_⟩;rw [zqL,h3];constructor
   ·rintro ((h|⟨h,g,hg,h4,h5⟩)|⟨rfl,h⟩)
    ·exact .inl h
    ·exact .inr ⟨h,g,by omega,h4,h5⟩
    ·exact .inr ⟨h,f,by omega,hb,rfl⟩
   ·rintro (h|⟨h,g,hg,h4,h5⟩)
    ·exact .inl (.inl h)
    ·by_cases e:g=f
     ·subst e;exact .inr ⟨h5.symm,h5▸h⟩
     ·exact .inl (.inr ⟨h,g,by omega,h4,h5⟩)
  ·rename_i hb
   refine ⟨h1,h2,fun y=> ?_⟩;rw [h3];constructor
   ·rintro (h|⟨h,g,hg,h4,h5⟩)
    ·exact .inl h
    ·exact .inr ⟨h,g,by omega,h4,h5⟩
   ·rintro (h|⟨h,g,hg,h4,h5⟩)
    ·exact .inl h
    ·by_cases e:g=f
     ·subst e;exact absurd h4 hb
     ·exact .inr ⟨h,g,by omega,h4,h5⟩
theorem zqO {K W:List Nat}{x:Nat}{l:List Nat}: ∀k,(∃r,znp K W x l k=l++r)/\(l.Nodup->(znp K W x l k).Nodup)/\ ∀y,y∈znp K W x l k↔y∈l\/(y≠0/\ ∃i,i<k/\nx K i=x/\nx W i=y)
 |0=>⟨⟨[],by simp [znp]⟩,id,fun y=>by simp [znp]⟩
 |f+1=>by
  obtain ⟨h1,h2,h3⟩:= @zqO K W x l f;unfold znp
  split
  ·rename_i hb
   refine ⟨zj5 h1 zqM,fun h=>zl8 (h2 h),fun y=> ?_⟩;rw [zqL,h3];constructor
   ·rintro ((h|⟨h,g,hg,h4,h5⟩)|⟨rfl,h⟩)
    ·exact .inl h
    ·exact .inr ⟨h,g,by omega,h4,h5⟩
    ·exact .inr ⟨h,f,by omega,hb,rfl⟩
   ·rintro (h|⟨h,g,hg,h4,h5⟩)
    ·exact .inl (.inl h)
    ·by_cases e:g=f
     ·subst e;exact .inr ⟨h5.symm,h5▸h⟩
     ·exact .inl (.inr ⟨h,g,by omega,h4,h5⟩)
  ·rename_i hb
   refine ⟨h1,h2,fun y=> ?_⟩;rw [h3];constructor
   ·rintro (h|⟨h,g,hg,h4,h5⟩)
    ·exact .inl h
    ·exact .inr ⟨h,g,by omega,h4,h5⟩
   ·rintro (h|⟨h,g,hg,h4,h5⟩)
    ·exact .inl h
    ·by_cases e:g=f
     ·subst e;exact absurd h4 hb
     ·exact .inr ⟨h,g,by omega,h4,h5⟩
structure Wk (rt cs:List Nat) (nxt:Nat->Nat->Prop) (k n:Nat) (l:List Nat):Prop where
 nd:l.Nodup
 rc: ∀x,x∈l->x≠0/\x∈cs/\Rcb rt nxt x
 rt: ∀j,j<k->nx rt j≠0->nx rt j∈l
 le:n<=l.length
 cl: ∀p,p<n-> ∀b,nxt (nx l p) b->b≠0->b∈l
theorem Wk.len {rt cs:List Nat}{nxt:Nat->Nat->Prop}{k n:Nat}{l:List Nat}(h:Wk rt cs nxt k n l):l.length<=cs.length:=zj4 h.nd fun x hx=>(h.rc x hx).2.1
theorem zyf {l r:List Nat}{p:Nat}(h:p<l.length):nx (l++r) p=nx l p:=by
 unfold nx;rw [List.getD_eq_getElem?_getD,List.getD_eq_getElem?_getD,List.getElem?_append_left h]
theorem Wk.zero {rt cs:List Nat}{nxt:Nat->Nat->Prop}:Wk rt cs nxt 0 0 []:=⟨List.nodup_nil,fun x h=>by simp at h,fun j h=>absurd h (Nat.not_lt_zero _),Nat.le_refl _,fun p h=>absurd h (Nat.not_lt_zero _)⟩
theorem Wk.next {rt cs K W:List Nat}{a:Nat->Nat}{k n:Nat}{l:List Nat}(h:Wk rt cs (zxn a K W) k n l) (hn:n<l.length) (hc: ∀x,x∈cs-> ∀b,zxn a K W x b->b≠0->b∈cs):
  Wk rt cs (zxn a K W) k (n+1) (znp K W (nx l n) (zl9 a (nx l n) l (a (nx l n)%256)) K.length):=by
 obtain ⟨x,ex⟩: ∃x,nx l n=x:=⟨_,rfl⟩
 rw [ex];obtain ⟨a1,a2,a3⟩:= @zqN a x l (a x%256);obtain ⟨b1,b2,b3⟩:= @zqO K W x (zl9 a x l (a x%256)) K.length;obtain ⟨r,er⟩:=zj5 a1 b1;have hxl:x∈l:=ex▸zco hn;have hm: ∀y,y∈znp K W x (zl9 a x l (a x%256)) K.length↔y∈l\/(y≠0/\zxn a K W x y):=by
  intro y;rw [b3,a3];constructor
  ·rintro ((h|⟨h,h2⟩)|⟨h,h2⟩)
   ·exact .inl h
   ·exact .inr ⟨h,.inl h2⟩
   ·exact .inr ⟨h,.inr h2⟩
  ·rintro (h|⟨h,h2|h2⟩)
   ·exact .inl (.inl h)
   ·exact .inl (.inr ⟨h,h2⟩)
   ·exact .inr ⟨h,h2⟩
 refine ⟨b2 (a2 h.nd),fun y hy=> ?_,fun j hj hne=>(hm _).2 (.inl (h.rt j hj hne)),by rw [er,List.length_append];omega,fun p hp b hb hne=> ?_⟩
 ·rcases (hm y).1 hy with hy|⟨hne,hy⟩
  ·exact h.rc y hy
  ·obtain ⟨_,c2,c3⟩:=h.rc x hxl
   exact ⟨hne,hc x c2 y hy hne,.step c3 hy hne⟩
 ·rw [er,zyf (by omega)] at hb
  by_cases e:p=n
  ·subst e
   rw [ex] at hb;exact (hm b).2 (.inr ⟨hne,hb⟩)
  ·exact (hm b).2 (.inl (h.cl p (by omega) b hb hne))
end Go.AM.G
