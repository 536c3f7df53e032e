import Derived.Test.YtfhbhfogcgfeeaaGreatDoorAmW
set_option linter.unusedVariables false
set_option linter.unusedSimpArgs false
namespace Go.AM
open Go
section
variable {S:Sys}{fr:Frame}{m:Mem}{Q:zar->Frame->Mem->Prop}{base:Nat}{K:Frame->Mem->Prop}{d:Option Nat}{t:Option Nat}{r:List zo}
theorem zbU {i j:Nat}{v:V}:put fr i v j=if j=i then v else fr j:=rfl
theorem zga {i:Nat}{v:V}:putO fr (some i) v=put fr i v:=rfl
theorem zoM {v:V}:putO fr none v=fr:=rfl
theorem ziO {i:Nat}:(Arg.t i).get fr=fr i:=rfl
theorem zwe {v:V}:(Arg.c v).get fr=v:=rfl
theorem zyr {x:Arg}:O S base (⟨d,none,.mv x,t,[]⟩::r) fr m K↔O S base r (putO fr d (x.get fr)) m K:=by
 rw [zaV rfl];simp only [zu,Option.some.injEq,Prod.mk.injEq,zO,List.all_nil];exact ⟨fun ⟨_,_,⟨a,b⟩,_,h⟩=>by subst a b;exact h,fun h=>⟨_,_,⟨rfl,rfl⟩,trivial,h⟩⟩
theorem zdI {op:AOp}{q:Option V}(hn:zwy op=true) (h:zu op (t.map (base+ ·)) fr m=q.map fun v=>(v,m)):O S base (⟨d,none,op,t,[]⟩::r) fr m K↔ ∃v,q=some v/\O S base r (putO fr d v) m K:=by
 rw [zaV hn,h];simp only [Option.map_eq_some_iff,Prod.mk.injEq,zO,List.all_nil];exact ⟨fun ⟨_,_,⟨x,hx,a,b⟩,_,h⟩=>by subst a b;exact ⟨_,hx,h⟩,fun ⟨v,hv,h⟩=>⟨_,_,⟨v,hv,rfl,rfl⟩,trivial,h⟩⟩
theorem zwf {k:Option Nat}{x:Arg}:O S base (⟨d,none,.load k x,t,[]⟩::r) fr m K↔ ∃v,zaq m k (x.get fr)=some v/\O S base r (putO fr d v) m K:=zdI rfl rfl
theorem ztO {op:BinOp}{x y:Arg}:O S base (⟨d,none,.bin op x y,t,[]⟩::r) fr m K↔ ∃v,bin op (x.get fr) (y.get fr)=some v/\O S base r (putO fr d v) m K:=zdI rfl rfl
theorem zyV {op:UnOp}{x:Arg}:O S base (⟨d,none,.un op x,t,[]⟩::r) fr m K↔ ∃v,un op (x.get fr)=some v/\O S base r (putO fr d v) m K:=zdI rfl rfl
theorem ztP {z} {ps}:O S base (⟨d,none,.build z ps,t,[]⟩::r) fr m K↔ ∃v,(ziI z (ps.map fun (a,b,x)=>(a,b,x.get fr))).map .agg=some v/\O S base r (putO fr d v) m K:=zdI rfl rfl
theorem zyW {c:EqC}{x y:Arg}:O S base (⟨d,none,.eq c x y,t,[]⟩::r) fr m K↔ ∃v,eqV c (x.get fr) (y.get fr)=some v/\O S base r (putO fr d (.bool v)) m K:=by
 rw [zdI (q:=(eqV c (x.get fr) (y.get fr)).map .bool) rfl rfl];simp only [Option.map_eq_some_iff];exact ⟨fun ⟨_,⟨x,hx,a⟩,h⟩=>by subst a;exact ⟨_,hx,h⟩,fun ⟨v,hv,h⟩=>⟨_,⟨v,hv,rfl⟩,h⟩⟩
theorem zyX {c:EqC}{x y:Arg}:O S base (⟨d,none,.ne c x y,t,[]⟩::r) fr m K↔ ∃v,eqV c (x.get fr) (y.get fr)=some v/\O S base r (putO fr d (.bool !v)) m K:=by
 rw [zdI (q:=(eqV c (x.get fr) (y.get fr)).map fun b=> .bool !b) rfl rfl];simp only [Option.map_eq_some_iff];exact ⟨fun ⟨_,⟨x,hx,a⟩,h⟩=>by subst a;exact ⟨_,hx,h⟩,fun ⟨v,hv,h⟩=>⟨_,⟨v,hv,rfl⟩,h⟩⟩
def ztQ (off:Nat):V->Option V
 | .ptr b i j=>some (.ptr b i (j+off))
 |_=>none
theorem ztR {x:Arg}:O S base (⟨d,none,.nilck x,t,[]⟩::r) fr m K↔ ∃v,ztQ 0 (x.get fr)=some v/\O S base r (putO fr d v) m K:=
 zdI rfl (by simp only [zu];cases x.get fr<;>rfl)
theorem zlg {off:Nat}{x:Arg}:O S base (⟨d,none,.fieldAddr off x,t,[]⟩::r) fr m K↔ ∃v,ztQ off (x.get fr)=some v/\O S base r (putO fr d v) m K:=
 zdI rfl (by simp only [zu];cases x.get fr<;>rfl)
def zwg (k:IntKind):V->Option V
 | .int _ n=>some (.int k (k.wrap n))
 |_=>none
theorem zwh {k:IntKind}{x:Arg}:O S base (⟨d,none,.conv k x,t,[]⟩::r) fr m K↔ ∃v,zwg k (x.get fr)=some v/\O S base r (putO fr d v) m K:=
 zdI rfl (by simp only [zu];cases x.get fr<;>rfl)
def zwi (a b:V):V->Option V
 | .bool t=>some (if t then a else b)
 |_=>none
theorem zwj {c a b:Arg}:O S base (⟨d,none,.pick c a b,t,[]⟩::r) fr m K↔ ∃v,zwi (a.get fr) (b.get fr) (c.get fr)=some v/\O S base r (putO fr d v) m K:=
 zdI rfl (by simp only [zu];cases c.get fr<;>rfl)
def ztS (off:Nat) (k:Option Nat):V->Option V
 | .agg cs=>part cs off k
 |_=>none
theorem ztT {off:Nat}{k:Option Nat}{x:Arg}:O S base (⟨d,none,.field off k x,t,[]⟩::r) fr m K↔ ∃v,ztS off k (x.get fr)=some v/\O S base r (putO fr d v) m K:=
 zdI rfl (by simp only [zu];cases x.get fr<;>rfl)
def zaB (esz:Nat) (x ix:V):Option V:=
 match x,ix with
 | .slice b i len _ _ z,.int _ n=>if 0<=n/\n<len/\z=esz then some (.ptr b (i+n.toNat) 0) else none
 |_,_=>none
theorem ztU {esz:Nat}{x ix:Arg}:O S base (⟨d,none,.indexAddr esz x ix,t,[]⟩::r) fr m K↔ ∃v,zaB esz (x.get fr) (ix.get fr)=some v/\O S base r (putO fr d v) m K:=
 zdI rfl (by
  simp only [zu,zaB];cases x.get fr<;>cases ix.get fr<;>first|rfl|(dsimp only;split<;>rfl))
def zjh (len esz:Nat) (x ix:V):Option V:=
 match x,ix with
 | .ptr b i j,.int _ n=>if 0<=n/\n<len then some (.ptr b i (j+n.toNat*esz)) else none
 |_,_=>none
theorem zmS {len esz:Nat}{x ix:Arg}:O S base (⟨d,none,.indexArr len esz x ix,t,[]⟩::r) fr m K↔ ∃v,zjh len esz (x.get fr) (ix.get fr)=some v/\O S base r (putO fr d v) m K:=
 zdI rfl (by
  simp only [zu,zjh];cases x.get fr<;>cases ix.get fr<;>first|rfl|(dsimp only;split<;>rfl))
def zoN (i:Nat):V->Option V
 | .tup vs=>vs[i]?
 |_=>none
theorem zoO {i:Nat}{x:Arg}:O S base (⟨d,none,.extract i x,t,[]⟩::r) fr m K↔ ∃v,zoN i (x.get fr)=some v/\O S base r (putO fr d v) m K:=
 zdI rfl (by simp only [zu];cases x.get fr<;>rfl)
def zhK:V->Option V
 | .nils=>some (.int .i64 0)
 | .emp=>some (.int .i64 0)
 | .slice _ _ len _ _ _=>some (.int .i64 len)
 |_=>none
theorem zx9 {x:Arg}:O S base (⟨d,none,.len x,t,[]⟩::r) fr m K↔ ∃v,zhK (x.get fr)=some v/\O S base r (putO fr d v) m K:=
 zdI rfl (by simp only [zu];cases x.get fr<;>rfl)
def zwk:V->Option V
 | .nils=>some (.int .i64 0)
 | .slice _ _ _ cap true _=>some (.int .i64 cap)
 |_=>none
theorem ztV {x:Arg}:O S base (⟨d,none,.cap x,t,[]⟩::r) fr m K↔ ∃v,zwk (x.get fr)=some v/\O S base r (putO fr d v) m K:=
 zdI rfl (by simp only [zu];cases x.get fr<;>first|rfl|(rename_i e _;cases e<;>rfl))
theorem zp0 {z:List V}{n:Nat}{x y:Arg}:O S base (⟨d,none,.appz z n x y,t,[]⟩::r) fr m K↔ ∃v m',zlc m z n (x.get fr) (y.get fr)=some (v,m')/\O S base r (putO fr d v) m' K:=by
 rw [zaV rfl];simp [zu,zO]
theorem zj1 {x k:Arg}:O S base (⟨d,none,.lookup x k,t,[]⟩::r) fr m K↔ ∃v,zqM m (x.get fr) (k.get fr)=some v/\O S base r (putO fr d v) m K:=zdI rfl rfl
theorem zmh:O S base (⟨d,none,.mkmap,t,[]⟩::r) fr m K↔O S base r (putO fr d (.mp (some m.length))) (m++[.mp []]) K:=by
 rw [zaV rfl];simp only [zu,zO,List.all_nil,Option.some.injEq,Prod.mk.injEq];exact ⟨fun ⟨_,_,⟨a,b⟩,_,h⟩=>by subst a b;exact h,fun h=>⟨_,_,⟨rfl,rfl⟩,trivial,h⟩⟩
theorem zj2 {x k u:Arg}:O S base (⟨d,none,.mapset x k u,t,[]⟩::r) fr m K↔ ∃m',zqO m (x.get fr) (k.get fr) (u.get fr)=some m'/\O S base r (putO fr d undef) m' K:=by
 rw [zaV rfl];simp only [zu,zO,List.all_nil,Option.map_eq_some_iff,Prod.mk.injEq];exact ⟨fun ⟨_,_,⟨x,hx,a,b⟩,_,h⟩=>by subst a b;exact ⟨_,hx,h⟩,fun ⟨v,hv,h⟩=>⟨_,_,⟨v,hv,rfl,rfl⟩,trivial,h⟩⟩
theorem zwl {f:Nat}{a b:List Arg}:O S base (⟨d,none,.mkfn f a b,t,[]⟩::r) fr m K↔O S base r (putO fr d (.fn f (a.map (·.get fr)) (b.map (·.get fr)))) m K:=by
 rw [zdI (q:=some _) rfl rfl]
 simp
theorem ztW {esz:Nat}{x:Arg}{lo hi mx:Option Arg}:O S base (⟨d,none,.slice esz x lo hi mx,t,[]⟩::r) fr m K↔ ∃v,(zOk (x.get fr) esz=true/\za6 (x.get fr) (lo.map (·.get fr)) (hi.map (·.get fr)) (mx.map (·.get fr))=some v)/\O S base r (putO fr d v) m K:=by
 rw [zaV rfl];simp only [zu,zO,List.all_nil];constructor
 ·rintro ⟨v,m',h1,_,h2⟩
  split at h1
  case isFalse=>cases h1
  rename_i hz
  simp only [Option.map_eq_some_iff,Prod.mk.injEq] at h1;obtain ⟨u,h3,rfl,rfl⟩:=h1;exact ⟨_,⟨hz,h3⟩,h2⟩
 ·rintro ⟨v,⟨hz,h3⟩,h2⟩
  exact ⟨v,m,by simp [hz,h3],trivial,h2⟩
theorem ztX {z:List V}:O S base (⟨d,none,.alloc z,none,[]⟩::r) fr m K↔O S base r (putO fr d (.ptr m.length 0 0)) (m++[.cells true [z]]) K:=by
 rw [zaV rfl];simp only [zu,zaE,zO,List.all_nil,Option.map_none,Option.map_some,Option.some.injEq,Prod.mk.injEq];exact ⟨fun ⟨_,_,⟨a,b⟩,_,h⟩=>by subst a b;exact h,fun h=>⟨_,_,⟨rfl,rfl⟩,trivial,h⟩⟩
theorem zya {x:Arg}:O S base (⟨d,none,.box x,none,[]⟩::r) fr m K↔(x.get fr).cells.all V.isCell=true/\O S base r (putO fr d (.ptr m.length 0 0)) (m++[.cells true [(x.get fr).cells]]) K:=by
 rw [zaV rfl];simp only [zu,zaE,zO,List.all_nil,Option.map_none,Option.map_some];constructor
 ·rintro ⟨v,m',h1,_,h2⟩
  split at h1
  case isFalse=>cases h1
  rename_i hc
  cases h1;exact ⟨hc,h2⟩
 ·rintro ⟨hc,h2⟩
  exact ⟨_,_,if_pos hc,trivial,h2⟩
theorem zoP {z:List V}{k:Nat}:O S base (⟨d,none,.alloc z,some k,[]⟩::r) fr m K↔m[base+k]? =some .dead/\O S base r (putO fr d (.ptr (base+k) 0 0)) (m.set (base+k) (.cells true [z])) K:=by
 rw [zaV rfl];simp only [zu,zaE,zO,Option.map_some,List.all_nil];constructor
 ·rintro ⟨v,m',h1,_,h2⟩
  split at h1
  ·rename_i hd
   simp only [Option.map_some,Option.some.injEq,Prod.mk.injEq] at h1;obtain ⟨rfl,rfl⟩:=h1;exact ⟨hd,h2⟩
  ·cases h1
 ·rintro ⟨hd,h2⟩
  exact ⟨_,_,by rw [hd];rfl,trivial,h2⟩
theorem ztY {x:Arg}{k:Nat}:O S base (⟨d,none,.box x,some k,[]⟩::r) fr m K↔m[base+k]? =some .dead/\(x.get fr).cells.all V.isCell=true/\O S base r (putO fr d (.ptr (base+k) 0 0)) (m.set (base+k) (.cells true [(x.get fr).cells])) K:=by
 rw [zaV rfl];simp only [zu,zaE,zO,Option.map_some,List.all_nil];constructor
 ·rintro ⟨v,m',h1,_,h2⟩
  split at h1
  case isFalse=>cases h1
  rename_i hc
  split at h1
  ·rename_i hd
   simp only [Option.map_some,Option.some.injEq,Prod.mk.injEq] at h1;obtain ⟨rfl,rfl⟩:=h1;exact ⟨hd,hc,h2⟩
  ·cases h1
 ·rintro ⟨hd,hc,h2⟩
  exact ⟨_,_,by rw [hd,if_pos hc];rfl,trivial,h2⟩
theorem ztZ {n:Nat}{a x:Arg}:O S base (⟨d,none,.store n a x,t,[]⟩::r) fr m K↔ ∃m',zbi m n (a.get fr) (x.get fr)=some m'/\O S base r (putO fr d undef) m' K:=by
 rw [zaV rfl];simp only [zu,zO,List.all_nil,Option.map_eq_some_iff,Prod.mk.injEq];exact ⟨fun ⟨_,_,⟨x,hx,a,b⟩,_,h⟩=>by subst a b;exact ⟨_,hx,h⟩,fun ⟨v,hv,h⟩=>⟨_,_,⟨v,hv,rfl,rfl⟩,trivial,h⟩⟩
theorem zrd {z:List V}{n:Nat}{x y:Arg}:O S base (⟨d,none,.append z n x y,t,[]⟩::r) fr m K↔ ∃v m',zM m z n (x.get fr) (y.get fr)=some (v,m')/\O S base r (putO fr d v) m' K:=by
 rw [zaV rfl];simp [zu,zO]
theorem zwm {z:Nat}{x y:Arg}:O S base (⟨d,none,.copy z x y,t,[]⟩::r) fr m K↔ ∃v m',copyV m z (x.get fr) (y.get fr)=some (v,m')/\O S base r (putO fr d v) m' K:=by
 rw [zaV rfl];simp [zu,zO]
theorem zt0 {z:List V}{x:Arg}:O S base (⟨d,none,.clear z x,t,[]⟩::r) fr m K↔ ∃v m',zfM m z (x.get fr)=some (v,m')/\O S base r (putO fr d v) m' K:=by
 rw [zaV rfl];simp [zu,zO]
def zwn (bytes:Nat) (l c:V):Option (Nat×Nat):=
 match l,c with
 | .int _ l,.int _ c=>if 0<=l/\l<=c/\roomy c.toNat bytes=true then some (l.toNat,c.toNat) else none
 |_,_=>none
theorem zj3 {n:Nat}{k k':IntKind}{l c:Int}:zwn n (.int k l) (.int k' c)=if 0<=l/\l<=c/\roomy c.toNat n=true then some (l.toNat,c.toNat) else none:=rfl
theorem zoQ {z:List V}{n:Nat}{l c:Arg}:O S base (⟨d,none,.mkslice z n l c,none,[]⟩::r) fr m K↔ ∃p,zwn n (l.get fr) (c.get fr)=some p/\O S base r (putO fr d (.slice m.length 0 p.1 p.2 true z.length)) (m++[.cells true (List.replicate p.2 z)]) K:=by
 rw [zaV rfl];simp only [zu,zaE,zO,List.all_nil,Option.map_none];constructor
 ·rintro ⟨v,m',h1,_,h2⟩
  split at h1
  case h_2=>cases h1
  rename_i k1 n1 k2 n2 e1 e2
  split at h1
  case isFalse=>cases h1
  rename_i hc
  simp only [Option.map_some,Option.some.injEq,Prod.mk.injEq] at h1;obtain ⟨rfl,rfl⟩:=h1;exact ⟨_,by rw [e1,e2,zj3,if_pos hc],h2⟩
 ·rintro ⟨p,e,h2⟩
  unfold zwn at e
  split at e
  case h_2=>cases e
  rename_i k1 n1 k2 n2 e1 e2
  split at e
  case isFalse=>cases e
  rename_i hc
  cases e;exact ⟨_,_,by rw [e1,e2];simp only [if_pos hc];rfl,trivial,h2⟩
theorem zre {z:List V}{n:Nat} {ps}:O S base (⟨d,none,.bslice z n ps,none,[]⟩::r) fr m K↔ ∃els,zht (List.replicate n z) z.length (ps.map fun (i,x)=>(i,x.get fr))=some els/\O S base r (putO fr d (.slice m.length 0 n n true z.length)) (m++[.cells true els]) K:=by
 rw [zaV rfl];simp only [zu,zaE,zO,List.all_nil,Option.map_none,Option.bind_eq_some_iff];constructor
 ·rintro ⟨v,m',⟨els,h1,h3⟩,_,h2⟩
  simp only [Option.map_some,Option.some.injEq,Prod.mk.injEq] at h3;obtain ⟨rfl,rfl⟩:=h3;exact ⟨_,h1,h2⟩
 ·rintro ⟨els,h1,h2⟩
  exact ⟨_,_,⟨els,h1,rfl⟩,trivial,h2⟩
def aft (S:Sys) (base:Nat) (r:List zo) (fr:Frame) (d:Option Nat) (K:Frame->Mem->Prop) (v:V) (m:Mem):Prop:=O S base r (putO fr d v) m K
theorem zaK {v:V}:aft S base r fr d K v m=O S base r (putO fr d v) m K:=rfl
theorem zt1 {as:List Arg}{g:Nat}{first cap:List V}:
  O S base (⟨d,none,.call (.c (.fn g first cap)) as,t,[]⟩::r) fr m K↔C S g (first++(as.map (·.get fr)++cap)) m (aft S base r fr d K):=by
 rw [zp8 (g:=g) (first:=first) (cap:=cap) rfl];simp only [zO,List.all_nil,true_and];exact Iff.rfl
theorem zyb {g:Nat}{op:AOp} {l}(h:fr g= .bool true):O S base (⟨d,some (g,true),op,t,l⟩::r) fr m K↔O S base (⟨d,none,op,t,l⟩::r) fr m K:=zy0 h
theorem zyc {g:Nat}{op:AOp} {l}(h:fr g= .bool false):O S base (⟨d,some (g,false),op,t,l⟩::r) fr m K↔O S base (⟨d,none,op,t,l⟩::r) fr m K:=zy0 h
theorem zwo {g:Nat}{op:AOp} {l}(h:fr g= .bool false):O S base (⟨d,some (g,true),op,t,l⟩::r) fr m K↔O S base r (putO fr d undef) m K:=zyf h
theorem zwp {g:Nat}{op:AOp} {l}(h:fr g= .bool true):O S base (⟨d,some (g,false),op,t,l⟩::r) fr m K↔O S base r (putO fr d undef) m K:=zyf h
theorem zwq {g:Nat}{w:Bool}{op:AOp} {l}(h:fr g=undef):O S base (⟨d,some (g,w),op,t,l⟩::r) fr m K↔O S base r (putO fr d undef) m K:=by
 simp [O,zC,zeL,zQ,h,undef]
theorem zoR {off b i j:Nat}:ztQ off (.ptr b i j)=some (.ptr b i (j+off)):=rfl
theorem zmT {k k':IntKind}{n:Int}:zwg k (.int k' n)=some (.int k (k.wrap n)):=rfl
theorem zlh {a b:V}{t:Bool}:zwi a b (.bool t)=some (if t=true then a else b):=rfl
theorem zli {off:Nat}{k:Option Nat}{cs:List V}:ztS off k (.agg cs)=part cs off k:=rfl
theorem ziP {i:Nat}{vs:List V}:zoN i (.tup vs)=vs[i]? :=rfl
theorem zmU:zhK .nils=some (.int .i64 0):=rfl
theorem zlj {b i len cap z:Nat}{ex:Bool}:zhK (.slice b i len cap ex z)=some (.int .i64 len):=rfl
theorem zwr {k:IntKind}{n:Int}:un .neg (.int k n)=some (.int k (k.wrap (0-n))):=rfl
theorem zws {b:Bool}:un .not (.bool b)=some (.bool !b):=rfl
section
variable {k k':IntKind}{a b:Int}
theorem zp1:bin .add (.int k a) (.int k b)=some (.int k (k.wrap (a+b))):=by simp [bin,zf3]
theorem zt2:bin .sub (.int k a) (.int k b)=some (.int k (k.wrap (a-b))):=by simp [bin,zf3]
theorem zt3:bin .mul (.int k a) (.int k b)=some (.int k (k.wrap (a*b))):=by simp [bin,zf3]
theorem zt4:bin .quo (.int k a) (.int k b)=if b=0 then none else some (.int k (k.wrap (a.tdiv b))):=by simp [bin,zf3]
theorem zt5:bin .rem (.int k a) (.int k b)=if b=0 then none else some (.int k (a.tmod b)):=by simp [bin,zf3]
theorem zt6:bin .and (.int k a) (.int k b)=some (.int k (k.wrap (BitVec.ofInt k.bits a &&& BitVec.ofInt k.bits b).toNat)):=by simp [bin,zf3]
theorem zwt:bin .or (.int k a) (.int k b)=some (.int k (k.wrap (BitVec.ofInt k.bits a ||| BitVec.ofInt k.bits b).toNat)):=by simp [bin,zf3]
theorem zt7:bin .xor (.int k a) (.int k b)=some (.int k (k.wrap (BitVec.ofInt k.bits a ^^^ BitVec.ofInt k.bits b).toNat)):=by simp [bin,zf3]
theorem zmV:bin .andNot (.int k a) (.int k b)=some (.int k (k.wrap (BitVec.ofInt k.bits a &&& ~~~BitVec.ofInt k.bits b).toNat)):=by simp [bin,zf3]
theorem zt8:bin .eql (.int k a) (.int k b)=some (.bool (decide (a=b))):=by simp [bin,zf3]
theorem zt9:bin .neq (.int k a) (.int k b)=some (.bool (decide (a≠b))):=by simp [bin,zf3]
theorem zp2:bin .lss (.int k a) (.int k b)=some (.bool (decide (a<b))):=by simp [bin,zf3]
theorem zua:bin .leq (.int k a) (.int k b)=some (.bool (decide (a<=b))):=by simp [bin,zf3]
theorem zue:bin .gtr (.int k a) (.int k b)=some (.bool (decide (b<a))):=by simp [bin,zf3]
theorem zuf:bin .geq (.int k a) (.int k b)=some (.bool (decide (b<=a))):=by simp [bin,zf3]
theorem zug:bin .shl (.int k a) (.int k' b)=shI .shl k a b:=by simp [bin]
theorem zuh:bin .shr (.int k a) (.int k' b)=shI .shr k a b:=by simp [bin]
end
end
end Go.AM
namespace Go.AM
open Go
section
variable {S:Sys}{base:Nat}{d:Option Nat}{t:Option Nat}{r:List zo}{fr:Frame}{m:Mem}{K:Frame->Mem->Prop}
theorem zmW {z:List V}{n k:Nat} {ps}:O S base (⟨d,none,.bslice z n ps,some k,[]⟩::r) fr m K↔m[base+k]? =some .dead/\ ∃els,zht (List.replicate n z) z.length (ps.map fun (i,x)=>(i,x.get fr))=some els/\O S base r (putO fr d (.slice (base+k) 0 n n true z.length)) (m.set (base+k) (.cells true els)) K:=by
 rw [zaV rfl];simp only [zu,zaE,zO,List.all_nil,Option.map_some,Option.bind_eq_some_iff];constructor
 ·rintro ⟨v,m',⟨els,h1,h3⟩,_,h2⟩
  split at h3
  ·rename_i hd
   simp only [Option.map_some,Option.some.injEq,Prod.mk.injEq] at h3;obtain ⟨rfl,rfl⟩:=h3;exact ⟨hd,_,h1,h2⟩
  ·cases h3
 ·rintro ⟨hd,els,h1,h2⟩
  exact ⟨_,_,⟨els,h1,by rw [hd];rfl⟩,trivial,h2⟩
theorem zoS {z:List V}{n e:Nat}{k:Option Nat}{x y a:Arg}:O S base (⟨d,none,.append z n x y,t,[(none,(e,(k,a)))]⟩::r) fr m K↔ ∃v m',zM m z n (x.get fr) (y.get fr)=some (v,m')/\(∃u,zaq m' k (a.get fr)=some u/\V.beq u (fr e)=true)/\O S base r (putO fr d v) m' K:=by
 rw [zaV rfl];simp only [zu,zO,List.all_cons,List.all_nil,zQ,Bool.not_true,Bool.false_or,Bool.and_true];constructor
 ·rintro ⟨v,m',h1,h3,h2⟩
  refine ⟨v,m',h1,?_,h2⟩
  split at h3
  ·rename_i u hu
   exact ⟨u,hu,h3⟩
  ·cases h3
 ·rintro ⟨v,m',h1,⟨u,hu,h3⟩,h2⟩
  exact ⟨v,m',h1,by rw [hu];exact h3,h2⟩
theorem zlk {z:List V}{n k:Nat}{l c:Arg}:O S base (⟨d,none,.mkslice z n l c,some k,[]⟩::r) fr m K↔m[base+k]? =some .dead/\ ∃p,zwn n (l.get fr) (c.get fr)=some p/\O S base r (putO fr d (.slice (base+k) 0 p.1 p.2 true z.length)) (m.set (base+k) (.cells true (List.replicate p.2 z))) K:=by
 rw [zaV rfl];simp only [zu,zaE,zO,List.all_nil,Option.map_some];constructor
 ·rintro ⟨v,m',h1,_,h2⟩
  split at h1
  case h_2=>cases h1
  rename_i k1 n1 k2 n2 e1 e2
  split at h1
  case isFalse=>cases h1
  rename_i hc
  split at h1
  ·rename_i hd
   simp only [Option.map_some,Option.some.injEq,Prod.mk.injEq] at h1;obtain ⟨rfl,rfl⟩:=h1;exact ⟨hd,_,by rw [e1,e2,zj3,if_pos hc],h2⟩
  ·cases h1
 ·rintro ⟨hd,p,e,h2⟩
  unfold zwn at e
  split at e
  case h_2=>cases e
  rename_i k1 n1 k2 n2 e1 e2
  split at e
  case isFalse=>cases e
  rename_i hc
  cases e;exact ⟨_,_,by rw [e1,e2];simp only [if_pos hc,hd];rfl,trivial,h2⟩
def zwu (x y:V):Option V:=
 match x,y with
 | .int k p,.int _ q=>some (.int k (if q<p then q else p))
 |_,_=>none
theorem zkG {k k':IntKind}{p q:Int}:zwu (.int k p) (.int k' q)=some (.int k (if q<p then q else p)):=rfl
theorem zyd {x y:Arg}:O S base (⟨d,none,.min x y,t,[]⟩::r) fr m K↔ ∃v,zwu (x.get fr) (y.get fr)=some v/\O S base r (putO fr d v) m K:=by
 rw [zaV rfl];simp only [zu,zO,List.all_nil];constructor
 ·rintro ⟨v,m',h1,_,h2⟩
  split at h1
  ·rename_i k1 n1 k2 n2 e1 e2
   cases h1;exact ⟨_,by rw [e1,e2,zkG],h2⟩
  ·cases h1
 ·rintro ⟨v,e,h2⟩
  unfold zwu at e
  split at e
  ·rename_i k1 n1 k2 n2 e1 e2
   cases e;exact ⟨_,_,by rw [e1,e2],trivial,h2⟩
  ·cases e
def zys (S:Sys) (base:Nat) (l:List (Option (Nat×Bool)×Nat×Option Nat×Arg)) (r:List zo) (fr:Frame) (d:Option Nat) (K:Frame->Mem->Prop) (v:V) (m:Mem):Prop:=zO l fr m=true/\O S base r (putO fr d v) m K
theorem zj4 {l}{v:V}:zys S base l r fr d K v m=(zO l fr m=true/\O S base r (putO fr d v) m K):=rfl
theorem zui {as:List Arg}{g:Nat}{first cap:List V} {c} {l}:
  O S base (⟨d,none,.call (.c (.fn g first cap)) as,t,c::l⟩::r) fr m K↔C S g (first++(as.map (·.get fr)++cap)) m (zys S base (c::l) r fr d K):=by
 rw [zp8 (g:=g) (first:=first) (cap:=cap) rfl];exact Iff.rfl
def CV (S:Sys) (v:V) (args:List V) (m:Mem) (Q:V->Mem->Prop):Prop:=
 match v with
 | .fn g first cap=>C S g (first++(args++cap)) m Q
 |_=>False
theorem ziQ {g:Nat}{first cap args:List V}{Q:V->Mem->Prop}:CV S (.fn g first cap) args m Q=C S g (first++(args++cap)) m Q:=rfl
theorem zuj {i:Nat}{as:List Arg}:O S base (⟨d,none,.call (.t i) as,t,[]⟩::r) fr m K↔CV S (fr i) (as.map (·.get fr)) m (aft S base r fr d K):=by
 cases h:fr i with
 |fn g first cap=>
  rw [zp8 (f:= .t i) (g:=g) (first:=first) (cap:=cap) (by rw [ziO];exact h)];simp only [zO,List.all_nil,true_and];exact Iff.rfl
 |_=>simp [O,zC,zeL,zQ,step,h,CV,Arg.get]
theorem zrf {i:Nat}{as:List Arg} {c} {l}:O S base (⟨d,none,.call (.t i) as,t,c::l⟩::r) fr m K↔CV S (fr i) (as.map (·.get fr)) m (zys S base (c::l) r fr d K):=by
 cases h:fr i with
 |fn g first cap=>
  rw [zp8 (f:= .t i) (g:=g) (first:=first) (cap:=cap) (by rw [ziO];exact h)];exact Iff.rfl
 |_=>simp [O,zC,zeL,zQ,step,h,CV,Arg.get]
end
theorem zyY {S:Sys}{a b:zf}{fr:Frame}{m:Mem}{Q:zar->Frame->Mem->Prop}:W S (.cond (.c (.bool false)) a b) fr m Q↔W S b fr m Q:=zmi rfl
theorem zyZ {S:Sys}{a b:zf}{fr:Frame}{m:Mem}{Q:zar->Frame->Mem->Prop}:W S (.cond (.c (.bool true)) a b) fr m Q↔W S a fr m Q:=zp6 rfl
theorem zuk {k:IntKind}{n:Int}:V.beq (.int k n) (.int k n)=true:=by simp [V.beq]
end Go.AM
