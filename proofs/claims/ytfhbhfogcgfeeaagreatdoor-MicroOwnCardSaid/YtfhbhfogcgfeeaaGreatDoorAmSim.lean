import Derived.Test.YtfhbhfogcgfeeaaGreatDoorAmW
set_option linter.unusedVariables false
set_option linter.unusedSimpArgs false
namespace Go.AM
open Go
section
variable {S:Sys}{fr:Frame}{m:Mem}{Q:zal->Frame->Mem->Prop}{base:Nat}{K:Frame->Mem->Prop}{d:Option Nat}{t:Option Nat}{r:List zl}
theorem zbJ {i j:Nat}{v:V}:put fr i v j=if j=i then v else fr j:=rfl
theorem zfk {i:Nat}{v:V}:putO fr (some i) v=put fr i v:=rfl
theorem zn9 {v:V}:putO fr none v=fr:=rfl
theorem zhQ {i:Nat}:(Arg.t i).get fr=fr i:=rfl
theorem zvZ {v:V}:(Arg.c v).get fr=v:=rfl
theorem zx3 {x:Arg}:O S base (⟨d,none,.mv x,t,[]⟩::r) fr m K↔O S base r (putO fr d (x.get fr)) m K:=by
 rw [zaM rfl];simp only [zu,Option.some.injEq,Prod.mk.injEq,zM,List.all_nil];exact ⟨fun ⟨_,_,⟨a,b⟩,_,h⟩=>by subst a b;exact h,fun h=>⟨_,_,⟨rfl,rfl⟩,trivial,h⟩⟩
theorem zdd {op:AOp}{q:Option V}(hn:zwj op=true) (h:zu op (t.map (base+ ·)) fr m=q.map fun v=>(v,m)):O S base (⟨d,none,op,t,[]⟩::r) fr m K↔ ∃v,q=some v/\O S base r (putO fr d v) m K:=by
 rw [zaM hn,h];simp only [Option.map_eq_some_iff,Prod.mk.injEq,zM,List.all_nil];exact ⟨fun ⟨_,_,⟨x,hx,a,b⟩,_,h⟩=>by subst a b;exact ⟨_,hx,h⟩,fun ⟨v,hv,h⟩=>⟨_,_,⟨v,hv,rfl,rfl⟩,trivial,h⟩⟩
theorem zv0 {k:Option Nat}{x:Arg}:O S base (⟨d,none,.load k x,t,[]⟩::r) fr m K↔ ∃v,zak m k (x.get fr)=some v/\O S base r (putO fr d v) m K:=zdd rfl rfl
theorem ztq {op:BinOp}{x y:Arg}:O S base (⟨d,none,.bin op x y,t,[]⟩::r) fr m K↔ ∃v,bin op (x.get fr) (y.get fr)=some v/\O S base r (putO fr d v) m K:=zdd rfl rfl
theorem zyw {op:UnOp}{x:Arg}:O S base (⟨d,none,.un op x,t,[]⟩::r) fr m K↔ ∃v,un op (x.get fr)=some v/\O S base r (putO fr d v) m K:=zdd rfl rfl
theorem ztr {z} {ps}:O S base (⟨d,none,.build z ps,t,[]⟩::r) fr m K↔ ∃v,(zhJ z (ps.map fun (a,b,x)=>(a,b,x.get fr))).map .agg=some v/\O S base r (putO fr d v) m K:=zdd rfl rfl
theorem zyx {c:EqC}{x y:Arg}:O S base (⟨d,none,.eq c x y,t,[]⟩::r) fr m K↔ ∃v,eqV c (x.get fr) (y.get fr)=some v/\O S base r (putO fr d (.bool v)) m K:=by
 rw [zdd (q:=(eqV c (x.get fr) (y.get fr)).map .bool) rfl rfl];simp only [Option.map_eq_some_iff];exact ⟨fun ⟨_,⟨x,hx,a⟩,h⟩=>by subst a;exact ⟨_,hx,h⟩,fun ⟨v,hv,h⟩=>⟨_,⟨v,hv,rfl⟩,h⟩⟩
theorem zyy {c:EqC}{x y:Arg}:O S base (⟨d,none,.ne c x y,t,[]⟩::r) fr m K↔ ∃v,eqV c (x.get fr) (y.get fr)=some v/\O S base r (putO fr d (.bool !v)) m K:=by
 rw [zdd (q:=(eqV c (x.get fr) (y.get fr)).map fun b=> .bool !b) rfl rfl];simp only [Option.map_eq_some_iff];exact ⟨fun ⟨_,⟨x,hx,a⟩,h⟩=>by subst a;exact ⟨_,hx,h⟩,fun ⟨v,hv,h⟩=>⟨_,⟨v,hv,rfl⟩,h⟩⟩
def zts (off:Nat):V->Option V
 | .ptr b i j=>some (.ptr b i (j+off))
 |_=>none
theorem ztt {x:Arg}:O S base (⟨d,none,.nilck x,t,[]⟩::r) fr m K↔ ∃v,zts 0 (x.get fr)=some v/\O S base r (putO fr d v) m K:=
 zdd rfl (by simp only [zu];cases x.get fr<;>rfl)
theorem zkw {off:Nat}{x:Arg}:O S base (⟨d,none,.fieldAddr off x,t,[]⟩::r) fr m K↔ ∃v,zts off (x.get fr)=some v/\O S base r (putO fr d v) m K:=
 zdd rfl (by simp only [zu];cases x.get fr<;>rfl)
def zv1 (k:IntKind):V->Option V
 | .int _ n=>some (.int k (k.wrap n))
 |_=>none
theorem zv2 {k:IntKind}{x:Arg}:O S base (⟨d,none,.conv k x,t,[]⟩::r) fr m K↔ ∃v,zv1 k (x.get fr)=some v/\O S base r (putO fr d v) m K:=
 zdd rfl (by simp only [zu];cases x.get fr<;>rfl)
def zv3 (a b:V):V->Option V
 | .bool t=>some (if t then a else b)
 |_=>none
theorem zv4 {c a b:Arg}:O S base (⟨d,none,.pick c a b,t,[]⟩::r) fr m K↔ ∃v,zv3 (a.get fr) (b.get fr) (c.get fr)=some v/\O S base r (putO fr d v) m K:=
 zdd rfl (by simp only [zu];cases c.get fr<;>rfl)
def ztu (off:Nat) (k:Option Nat):V->Option V
 | .agg cs=>part cs off k
 |_=>none
theorem ztv {off:Nat}{k:Option Nat}{x:Arg}:O S base (⟨d,none,.field off k x,t,[]⟩::r) fr m K↔ ∃v,ztu off k (x.get fr)=some v/\O S base r (putO fr d v) m K:=
 zdd rfl (by simp only [zu];cases x.get fr<;>rfl)
def zaw (esz:Nat) (x ix:V):Option V:=
 match x,ix with
 | .slice b i len _ _ z,.int _ n=>if 0<=n/\n<len/\z=esz then some (.ptr b (i+n.toNat) 0) else none
 |_,_=>none
theorem ztw {esz:Nat}{x ix:Arg}:O S base (⟨d,none,.indexAddr esz x ix,t,[]⟩::r) fr m K↔ ∃v,zaw esz (x.get fr) (ix.get fr)=some v/\O S base r (putO fr d v) m K:=
 zdd rfl (by
  simp only [zu,zaw];cases x.get fr<;>cases ix.get fr<;>first|rfl|(dsimp only;split<;>rfl))
def zim (len esz:Nat) (x ix:V):Option V:=
 match x,ix with
 | .ptr b i j,.int _ n=>if 0<=n/\n<len then some (.ptr b i (j+n.toNat*esz)) else none
 |_,_=>none
theorem zlY {len esz:Nat}{x ix:Arg}:O S base (⟨d,none,.indexArr len esz x ix,t,[]⟩::r) fr m K↔ ∃v,zim len esz (x.get fr) (ix.get fr)=some v/\O S base r (putO fr d v) m K:=
 zdd rfl (by
  simp only [zu,zim];cases x.get fr<;>cases ix.get fr<;>first|rfl|(dsimp only;split<;>rfl))
def zoa (i:Nat):V->Option V
 | .tup vs=>vs[i]?
 |_=>none
theorem zob {i:Nat}{x:Arg}:O S base (⟨d,none,.extract i x,t,[]⟩::r) fr m K↔ ∃v,zoa i (x.get fr)=some v/\O S base r (putO fr d v) m K:=
 zdd rfl (by simp only [zu];cases x.get fr<;>rfl)
def zfl:V->Option V
 | .nils=>some (.int .i64 0)
 | .emp=>some (.int .i64 0)
 | .slice _ _ len _ _ _=>some (.int .i64 len)
 |_=>none
theorem zxJ {x:Arg}:O S base (⟨d,none,.len x,t,[]⟩::r) fr m K↔ ∃v,zfl (x.get fr)=some v/\O S base r (putO fr d v) m K:=
 zdd rfl (by simp only [zu];cases x.get fr<;>rfl)
def zv5:V->Option V
 | .nils=>some (.int .i64 0)
 | .slice _ _ _ cap true _=>some (.int .i64 cap)
 |_=>none
theorem ztx {x:Arg}:O S base (⟨d,none,.cap x,t,[]⟩::r) fr m K↔ ∃v,zv5 (x.get fr)=some v/\O S base r (putO fr d v) m K:=
 zdd rfl (by simp only [zu];cases x.get fr<;>first|rfl|(rename_i e _;cases e<;>rfl))
theorem zpk {z:List V}{n:Nat}{x y:Arg}:O S base (⟨d,none,.appz z n x y,t,[]⟩::r) fr m K↔ ∃v m',zhK m z n (x.get fr) (y.get fr)=some (v,m')/\O S base r (putO fr d v) m' K:=by
 rw [zaM rfl];simp [zu,zM]
theorem zi2 {x k:Arg}:O S base (⟨d,none,.lookup x k,t,[]⟩::r) fr m K↔ ∃v,zrX m (x.get fr) (k.get fr)=some v/\O S base r (putO fr d v) m K:=zdd rfl rfl
theorem zlq:O S base (⟨d,none,.mkmap,t,[]⟩::r) fr m K↔O S base r (putO fr d (.mp (some m.length))) (m++[.mp []]) K:=by
 rw [zaM rfl];simp only [zu,zM,List.all_nil,Option.some.injEq,Prod.mk.injEq];exact ⟨fun ⟨_,_,⟨a,b⟩,_,h⟩=>by subst a b;exact h,fun h=>⟨_,_,⟨rfl,rfl⟩,trivial,h⟩⟩
theorem zi3 {x k u:Arg}:O S base (⟨d,none,.mapset x k u,t,[]⟩::r) fr m K↔ ∃m',zoZ m (x.get fr) (k.get fr) (u.get fr)=some m'/\O S base r (putO fr d undef) m' K:=by
 rw [zaM rfl];simp only [zu,zM,List.all_nil,Option.map_eq_some_iff,Prod.mk.injEq];exact ⟨fun ⟨_,_,⟨x,hx,a,b⟩,_,h⟩=>by subst a b;exact ⟨_,hx,h⟩,fun ⟨v,hv,h⟩=>⟨_,_,⟨v,hv,rfl,rfl⟩,trivial,h⟩⟩
theorem zv6 {f:Nat}{a b:List Arg}:O S base (⟨d,none,.mkfn f a b,t,[]⟩::r) fr m K↔O S base r (putO fr d (.fn f (a.map (·.get fr)) (b.map (·.get fr)))) m K:=by
 rw [zdd (q:=some _) rfl rfl]
 simp
theorem zty {esz:Nat}{x:Arg}{lo hi mx:Option Arg}:O S base (⟨d,none,.slice esz x lo hi mx,t,[]⟩::r) fr m K↔ ∃v,(zOk (x.get fr) esz=true/\zaV (x.get fr) (lo.map (·.get fr)) (hi.map (·.get fr)) (mx.map (·.get fr))=some v)/\O S base r (putO fr d v) m K:=by
 rw [zaM rfl];simp only [zu,zM,List.all_nil];constructor
 ·rintro ⟨v,m',h1,_,h2⟩
  split at h1
  case isFalse=>cases h1
  rename_i hz
  simp only [Option.map_eq_some_iff,Prod.mk.injEq] at h1;obtain ⟨u,h3,rfl,rfl⟩:=h1;exact ⟨_,⟨hz,h3⟩,h2⟩
 ·rintro ⟨v,⟨hz,h3⟩,h2⟩
  exact ⟨v,m,by simp [hz,h3],trivial,h2⟩
theorem ztz {z:List V}:O S base (⟨d,none,.alloc z,none,[]⟩::r) fr m K↔O S base r (putO fr d (.ptr m.length 0 0)) (m++[.cells true [z]]) K:=by
 rw [zaM rfl];simp only [zu,zan,zM,List.all_nil,Option.map_none,Option.map_some,Option.some.injEq,Prod.mk.injEq];exact ⟨fun ⟨_,_,⟨a,b⟩,_,h⟩=>by subst a b;exact h,fun h=>⟨_,_,⟨rfl,rfl⟩,trivial,h⟩⟩
theorem zxK {x:Arg}:O S base (⟨d,none,.box x,none,[]⟩::r) fr m K↔(x.get fr).cells.all V.isCell=true/\O S base r (putO fr d (.ptr m.length 0 0)) (m++[.cells true [(x.get fr).cells]]) K:=by
 rw [zaM rfl];simp only [zu,zan,zM,List.all_nil,Option.map_none,Option.map_some];constructor
 ·rintro ⟨v,m',h1,_,h2⟩
  split at h1
  case isFalse=>cases h1
  rename_i hc
  cases h1;exact ⟨hc,h2⟩
 ·rintro ⟨hc,h2⟩
  exact ⟨_,_,if_pos hc,trivial,h2⟩
theorem zoc {z:List V}{k:Nat}:O S base (⟨d,none,.alloc z,some k,[]⟩::r) fr m K↔m[base+k]? =some .dead/\O S base r (putO fr d (.ptr (base+k) 0 0)) (m.set (base+k) (.cells true [z])) K:=by
 rw [zaM rfl];simp only [zu,zan,zM,Option.map_some,List.all_nil];constructor
 ·rintro ⟨v,m',h1,_,h2⟩
  split at h1
  ·rename_i hd
   simp only [Option.map_some,Option.some.injEq,Prod.mk.injEq] at h1;obtain ⟨rfl,rfl⟩:=h1;exact ⟨hd,h2⟩
  ·cases h1
 ·rintro ⟨hd,h2⟩
  exact ⟨_,_,by rw [hd];rfl,trivial,h2⟩
theorem ztA {x:Arg}{k:Nat}:O S base (⟨d,none,.box x,some k,[]⟩::r) fr m K↔m[base+k]? =some .dead/\(x.get fr).cells.all V.isCell=true/\O S base r (putO fr d (.ptr (base+k) 0 0)) (m.set (base+k) (.cells true [(x.get fr).cells])) K:=by
 rw [zaM rfl];simp only [zu,zan,zM,Option.map_some,List.all_nil];constructor
 ·rintro ⟨v,m',h1,_,h2⟩
  split at h1
  case isFalse=>cases h1
  rename_i hc
  split at h1
  ·rename_i hd
   simp only [Option.map_some,Option.some.injEq,Prod.mk.injEq] at h1;obtain ⟨rfl,rfl⟩:=h1;exact ⟨hd,hc,h2⟩
  ·cases h1
 ·rintro ⟨hd,hc,h2⟩
  exact ⟨_,_,by rw [hd,if_pos hc];rfl,trivial,h2⟩
theorem ztB {n:Nat}{a x:Arg}:O S base (⟨d,none,.store n a x,t,[]⟩::r) fr m K↔ ∃m',zaK m n (a.get fr) (x.get fr)=some m'/\O S base r (putO fr d undef) m' K:=by
 rw [zaM rfl];simp only [zu,zM,List.all_nil,Option.map_eq_some_iff,Prod.mk.injEq];exact ⟨fun ⟨_,_,⟨x,hx,a,b⟩,_,h⟩=>by subst a b;exact ⟨_,hx,h⟩,fun ⟨v,hv,h⟩=>⟨_,_,⟨v,hv,rfl,rfl⟩,trivial,h⟩⟩
theorem zqz {z:List V}{n:Nat}{x y:Arg}:O S base (⟨d,none,.append z n x y,t,[]⟩::r) fr m K↔ ∃v m',zF m z n (x.get fr) (y.get fr)=some (v,m')/\O S base r (putO fr d v) m' K:=by
 rw [zaM rfl];simp [zu,zM]
theorem zv7 {z:Nat}{x y:Arg}:O S base (⟨d,none,.copy z x y,t,[]⟩::r) fr m K↔ ∃v m',copyV m z (x.get fr) (y.get fr)=some (v,m')/\O S base r (putO fr d v) m' K:=by
 rw [zaM rfl];simp [zu,zM]
theorem ztC {z:List V}{x:Arg}:O S base (⟨d,none,.clear z x,t,[]⟩::r) fr m K↔ ∃v m',zdJ m z (x.get fr)=some (v,m')/\O S base r (putO fr d v) m' K:=by
 rw [zaM rfl];simp [zu,zM]
def zv8 (bytes:Nat) (l c:V):Option (Nat×Nat):=
 match l,c with
 | .int _ l,.int _ c=>if 0<=l/\l<=c/\roomy c.toNat bytes=true then some (l.toNat,c.toNat) else none
 |_,_=>none
theorem zi4 {n:Nat}{k k':IntKind}{l c:Int}:zv8 n (.int k l) (.int k' c)=if 0<=l/\l<=c/\roomy c.toNat n=true then some (l.toNat,c.toNat) else none:=rfl
theorem zod {z:List V}{n:Nat}{l c:Arg}:O S base (⟨d,none,.mkslice z n l c,none,[]⟩::r) fr m K↔ ∃p,zv8 n (l.get fr) (c.get fr)=some p/\O S base r (putO fr d (.slice m.length 0 p.1 p.2 true z.length)) (m++[.cells true (List.replicate p.2 z)]) K:=by
 rw [zaM rfl];simp only [zu,zan,zM,List.all_nil,Option.map_none];constructor
 ·rintro ⟨v,m',h1,_,h2⟩
  split at h1
  case h_2=>cases h1
  rename_i k1 n1 k2 n2 e1 e2
  split at h1
  case isFalse=>cases h1
  rename_i hc
  simp only [Option.map_some,Option.some.injEq,Prod.mk.injEq] at h1;obtain ⟨rfl,rfl⟩:=h1;exact ⟨_,by rw [e1,e2,zi4,if_pos hc],h2⟩
 ·rintro ⟨p,e,h2⟩
  unfold zv8 at e
  split at e
  case h_2=>cases e
  rename_i k1 n1 k2 n2 e1 e2
  split at e
  case isFalse=>cases e
  rename_i hc
  cases e;exact ⟨_,_,by rw [e1,e2];simp only [if_pos hc];rfl,trivial,h2⟩
theorem zqA {z:List V}{n:Nat} {ps}:O S base (⟨d,none,.bslice z n ps,none,[]⟩::r) fr m K↔ ∃els,zgH (List.replicate n z) z.length (ps.map fun (i,x)=>(i,x.get fr))=some els/\O S base r (putO fr d (.slice m.length 0 n n true z.length)) (m++[.cells true els]) K:=by
 rw [zaM rfl];simp only [zu,zan,zM,List.all_nil,Option.map_none,Option.bind_eq_some_iff];constructor
 ·rintro ⟨v,m',⟨els,h1,h3⟩,_,h2⟩
  simp only [Option.map_some,Option.some.injEq,Prod.mk.injEq] at h3;obtain ⟨rfl,rfl⟩:=h3;exact ⟨_,h1,h2⟩
 ·rintro ⟨els,h1,h2⟩
  exact ⟨_,_,⟨els,h1,rfl⟩,trivial,h2⟩
def aft (S:Sys) (base:Nat) (r:List zl) (fr:Frame) (d:Option Nat) (K:Frame->Mem->Prop) (v:V) (m:Mem):Prop:=O S base r (putO fr d v) m K
theorem zaF {v:V}:aft S base r fr d K v m=O S base r (putO fr d v) m K:=rfl
theorem ztD {as:List Arg}{g:Nat}{first cap:List V}:
  O S base (⟨d,none,.call (.c (.fn g first cap)) as,t,[]⟩::r) fr m K↔C S g (first++(as.map (·.get fr)++cap)) m (aft S base r fr d K):=by
 rw [zps (g:=g) (first:=first) (cap:=cap) rfl];simp only [zM,List.all_nil,true_and];exact Iff.rfl
theorem zxL {g:Nat}{op:AOp} {l}(h:fr g= .bool true):O S base (⟨d,some (g,true),op,t,l⟩::r) fr m K↔O S base (⟨d,none,op,t,l⟩::r) fr m K:=zyB h
theorem zxM {g:Nat}{op:AOp} {l}(h:fr g= .bool false):O S base (⟨d,some (g,false),op,t,l⟩::r) fr m K↔O S base (⟨d,none,op,t,l⟩::r) fr m K:=zyB h
theorem zv9 {g:Nat}{op:AOp} {l}(h:fr g= .bool false):O S base (⟨d,some (g,true),op,t,l⟩::r) fr m K↔O S base r (putO fr d undef) m K:=zxP h
theorem zwa {g:Nat}{op:AOp} {l}(h:fr g= .bool true):O S base (⟨d,some (g,false),op,t,l⟩::r) fr m K↔O S base r (putO fr d undef) m K:=zxP h
theorem zwb {g:Nat}{w:Bool}{op:AOp} {l}(h:fr g=undef):O S base (⟨d,some (g,w),op,t,l⟩::r) fr m K↔O S base r (putO fr d undef) m K:=by
 simp [O,zA,zdK,zO,h,undef]
theorem zoe {off b i j:Nat}:zts off (.ptr b i j)=some (.ptr b i (j+off)):=rfl
theorem zlZ {k k':IntKind}{n:Int}:zv1 k (.int k' n)=some (.int k (k.wrap n)):=rfl
theorem zkx {a b:V}{t:Bool}:zv3 a b (.bool t)=some (if t=true then a else b):=rfl
theorem zky {off:Nat}{k:Option Nat}{cs:List V}:ztu off k (.agg cs)=part cs off k:=rfl
theorem zhR {i:Nat}{vs:List V}:zoa i (.tup vs)=vs[i]? :=rfl
theorem zl0:zfl .nils=some (.int .i64 0):=rfl
theorem zkz {b i len cap z:Nat}{ex:Bool}:zfl (.slice b i len cap ex z)=some (.int .i64 len):=rfl
theorem zwc {k:IntKind}{n:Int}:un .neg (.int k n)=some (.int k (k.wrap (0-n))):=rfl
theorem zwd {b:Bool}:un .not (.bool b)=some (.bool !b):=rfl
section
variable {k k':IntKind}{a b:Int}
theorem zpl:bin .add (.int k a) (.int k b)=some (.int k (k.wrap (a+b))):=by simp [bin,zfd]
theorem ztE:bin .sub (.int k a) (.int k b)=some (.int k (k.wrap (a-b))):=by simp [bin,zfd]
theorem ztF:bin .mul (.int k a) (.int k b)=some (.int k (k.wrap (a*b))):=by simp [bin,zfd]
theorem ztG:bin .quo (.int k a) (.int k b)=if b=0 then none else some (.int k (k.wrap (a.tdiv b))):=by simp [bin,zfd]
theorem ztH:bin .rem (.int k a) (.int k b)=if b=0 then none else some (.int k (a.tmod b)):=by simp [bin,zfd]
theorem ztI:bin .and (.int k a) (.int k b)=some (.int k (k.wrap (BitVec.ofInt k.bits a &&& BitVec.ofInt k.bits b).toNat)):=by simp [bin,zfd]
theorem zwe:bin .or (.int k a) (.int k b)=some (.int k (k.wrap (BitVec.ofInt k.bits a ||| BitVec.ofInt k.bits b).toNat)):=by simp [bin,zfd]
theorem ztJ:bin .xor (.int k a) (.int k b)=some (.int k (k.wrap (BitVec.ofInt k.bits a ^^^ BitVec.ofInt k.bits b).toNat)):=by simp [bin,zfd]
theorem zl1:bin .andNot (.int k a) (.int k b)=some (.int k (k.wrap (BitVec.ofInt k.bits a &&& ~~~BitVec.ofInt k.bits b).toNat)):=by simp [bin,zfd]
theorem ztK:bin .eql (.int k a) (.int k b)=some (.bool (decide (a=b))):=by simp [bin,zfd]
theorem ztL:bin .neq (.int k a) (.int k b)=some (.bool (decide (a≠b))):=by simp [bin,zfd]
theorem zpm:bin .lss (.int k a) (.int k b)=some (.bool (decide (a<b))):=by simp [bin,zfd]
theorem ztM:bin .leq (.int k a) (.int k b)=some (.bool (decide (a<=b))):=by simp [bin,zfd]
theorem ztN:bin .gtr (.int k a) (.int k b)=some (.bool (decide (b<a))):=by simp [bin,zfd]
theorem ztO:bin .geq (.int k a) (.int k b)=some (.bool (decide (b<=a))):=by simp [bin,zfd]
theorem ztP:bin .shl (.int k a) (.int k' b)=shI .shl k a b:=by simp [bin]
theorem ztQ:bin .shr (.int k a) (.int k' b)=shI .shr k a b:=by simp [bin]
end
end
end Go.AM
namespace Go.AM
open Go
section
variable {S:Sys}{base:Nat}{d:Option Nat}{t:Option Nat}{r:List zl}{fr:Frame}{m:Mem}{K:Frame->Mem->Prop}
theorem zl2 {z:List V}{n k:Nat} {ps}:O S base (⟨d,none,.bslice z n ps,some k,[]⟩::r) fr m K↔m[base+k]? =some .dead/\ ∃els,zgH (List.replicate n z) z.length (ps.map fun (i,x)=>(i,x.get fr))=some els/\O S base r (putO fr d (.slice (base+k) 0 n n true z.length)) (m.set (base+k) (.cells true els)) K:=by
 rw [zaM rfl];simp only [zu,zan,zM,List.all_nil,Option.map_some,Option.bind_eq_some_iff];constructor
 ·rintro ⟨v,m',⟨els,h1,h3⟩,_,h2⟩
  split at h3
  ·rename_i hd
   simp only [Option.map_some,Option.some.injEq,Prod.mk.injEq] at h3;obtain ⟨rfl,rfl⟩:=h3;exact ⟨hd,_,h1,h2⟩
  ·cases h3
 ·rintro ⟨hd,els,h1,h2⟩
  exact ⟨_,_,⟨els,h1,by rw [hd];rfl⟩,trivial,h2⟩
theorem zof {z:List V}{n e:Nat}{k:Option Nat}{x y a:Arg}:O S base (⟨d,none,.append z n x y,t,[(none,(e,(k,a)))]⟩::r) fr m K↔ ∃v m',zF m z n (x.get fr) (y.get fr)=some (v,m')/\(∃u,zak m' k (a.get fr)=some u/\V.beq u (fr e)=true)/\O S base r (putO fr d v) m' K:=by
 rw [zaM rfl];simp only [zu,zM,List.all_cons,List.all_nil,zO,Bool.not_true,Bool.false_or,Bool.and_true];constructor
 ·rintro ⟨v,m',h1,h3,h2⟩
  refine ⟨v,m',h1,?_,h2⟩
  split at h3
  ·rename_i u hu
   exact ⟨u,hu,h3⟩
  ·cases h3
 ·rintro ⟨v,m',h1,⟨u,hu,h3⟩,h2⟩
  exact ⟨v,m',h1,by rw [hu];exact h3,h2⟩
theorem zkA {z:List V}{n k:Nat}{l c:Arg}:O S base (⟨d,none,.mkslice z n l c,some k,[]⟩::r) fr m K↔m[base+k]? =some .dead/\ ∃p,zv8 n (l.get fr) (c.get fr)=some p/\O S base r (putO fr d (.slice (base+k) 0 p.1 p.2 true z.length)) (m.set (base+k) (.cells true (List.replicate p.2 z))) K:=by
 rw [zaM rfl];simp only [zu,zan,zM,List.all_nil,Option.map_some];constructor
 ·rintro ⟨v,m',h1,_,h2⟩
  split at h1
  case h_2=>cases h1
  rename_i k1 n1 k2 n2 e1 e2
  split at h1
  case isFalse=>cases h1
  rename_i hc
  split at h1
  ·rename_i hd
   simp only [Option.map_some,Option.some.injEq,Prod.mk.injEq] at h1;obtain ⟨rfl,rfl⟩:=h1;exact ⟨hd,_,by rw [e1,e2,zi4,if_pos hc],h2⟩
  ·cases h1
 ·rintro ⟨hd,p,e,h2⟩
  unfold zv8 at e
  split at e
  case h_2=>cases e
  rename_i k1 n1 k2 n2 e1 e2
  split at e
  case isFalse=>cases e
  rename_i hc
  cases e;exact ⟨_,_,by rw [e1,e2];simp only [if_pos hc,hd];rfl,trivial,h2⟩
def zwf (x y:V):Option V:=
 match x,y with
 | .int k p,.int _ q=>some (.int k (if q<p then q else p))
 |_,_=>none
theorem zj0 {k k':IntKind}{p q:Int}:zwf (.int k p) (.int k' q)=some (.int k (if q<p then q else p)):=rfl
theorem zxN {x y:Arg}:O S base (⟨d,none,.min x y,t,[]⟩::r) fr m K↔ ∃v,zwf (x.get fr) (y.get fr)=some v/\O S base r (putO fr d v) m K:=by
 rw [zaM rfl];simp only [zu,zM,List.all_nil];constructor
 ·rintro ⟨v,m',h1,_,h2⟩
  split at h1
  ·rename_i k1 n1 k2 n2 e1 e2
   cases h1;exact ⟨_,by rw [e1,e2,zj0],h2⟩
  ·cases h1
 ·rintro ⟨v,e,h2⟩
  unfold zwf at e
  split at e
  ·rename_i k1 n1 k2 n2 e1 e2
   cases e;exact ⟨_,_,by rw [e1,e2],trivial,h2⟩
  ·cases e
def zx4 (S:Sys) (base:Nat) (l:List (Option (Nat×Bool)×Nat×Option Nat×Arg)) (r:List zl) (fr:Frame) (d:Option Nat) (K:Frame->Mem->Prop) (v:V) (m:Mem):Prop:=zM l fr m=true/\O S base r (putO fr d v) m K
theorem zi5 {l}{v:V}:zx4 S base l r fr d K v m=(zM l fr m=true/\O S base r (putO fr d v) m K):=rfl
theorem ztR {as:List Arg}{g:Nat}{first cap:List V} {c} {l}:
  O S base (⟨d,none,.call (.c (.fn g first cap)) as,t,c::l⟩::r) fr m K↔C S g (first++(as.map (·.get fr)++cap)) m (zx4 S base (c::l) r fr d K):=by
 rw [zps (g:=g) (first:=first) (cap:=cap) rfl];exact Iff.rfl
def CV (S:Sys) (v:V) (args:List V) (m:Mem) (Q:V->Mem->Prop):Prop:=
 match v with
 | .fn g first cap=>C S g (first++(args++cap)) m Q
 |_=>False
theorem zhS {g:Nat}{first cap args:List V}{Q:V->Mem->Prop}:CV S (.fn g first cap) args m Q=C S g (first++(args++cap)) m Q:=rfl
theorem ztS {i:Nat}{as:List Arg}:O S base (⟨d,none,.call (.t i) as,t,[]⟩::r) fr m K↔CV S (fr i) (as.map (·.get fr)) m (aft S base r fr d K):=by
 cases h:fr i with
 |fn g first cap=>
  rw [zps (f:= .t i) (g:=g) (first:=first) (cap:=cap) (by rw [zhQ];exact h)];simp only [zM,List.all_nil,true_and];exact Iff.rfl
 |_=>simp [O,zA,zdK,zO,step,h,CV,Arg.get]
theorem zqB {i:Nat}{as:List Arg} {c} {l}:O S base (⟨d,none,.call (.t i) as,t,c::l⟩::r) fr m K↔CV S (fr i) (as.map (·.get fr)) m (zx4 S base (c::l) r fr d K):=by
 cases h:fr i with
 |fn g first cap=>
  rw [zps (f:= .t i) (g:=g) (first:=first) (cap:=cap) (by rw [zhQ];exact h)];exact Iff.rfl
 |_=>simp [O,zA,zdK,zO,step,h,CV,Arg.get]
end
theorem zyz {S:Sys}{a b:zf}{fr:Frame}{m:Mem}{Q:zal->Frame->Mem->Prop}:W S (.cond (.c (.bool false)) a b) fr m Q↔W S b fr m Q:=zlr rfl
theorem zyA {S:Sys}{a b:zf}{fr:Frame}{m:Mem}{Q:zal->Frame->Mem->Prop}:W S (.cond (.c (.bool true)) a b) fr m Q↔W S a fr m Q:=zpq rfl
theorem ztT {k:IntKind}{n:Int}:V.beq (.int k n) (.int k n)=true:=by simp [V.beq]
end Go.AM
