import Derived.Test.YtfhbhfogcgfeeaaGreatDoorAmW
set_option linter.unusedVariables false
set_option linter.unusedSimpArgs false
namespace Go.AM
open Go
section
variable {S:Sys}{fr:Frame}{m:Mem}{Q:zaq->Frame->Mem->Prop}{base:Nat}{K:Frame->Mem->Prop}{d:Option Nat}{t:Option Nat}{r:List zo}
theorem zbY {i j:Nat}{v:V}:put fr i v j=if j=i then v else fr j:=rfl
theorem zfT {i:Nat}{v:V}:putO fr (some i) v=put fr i v:=rfl
theorem zqV {v:V}:putO fr none v=fr:=rfl
theorem ziM {i:Nat}:(Arg.t i).get fr=fr i:=rfl
theorem zy8 {v:V}:(Arg.c v).get fr=v:=rfl
theorem zBk {x:Arg}:O S base (⟨d,none,.mv x,t,[]⟩::r) fr m K↔O S base r (putO fr d (x.get fr)) m K:=by
 rw [zaS rfl];simp only [zA,Option.some.injEq,Prod.mk.injEq,zS,List.all_nil];exact ⟨fun ⟨_,_,⟨a,b⟩,_,h⟩=>by subst a b;exact h,fun h=>⟨_,_,⟨rfl,rfl⟩,trivial,h⟩⟩
theorem zdx {op:AOp}{q:Option V}(hn:zzs op=true) (h:zA op (t.map (base+ ·)) fr m=q.map fun v=>(v,m)):O S base (⟨d,none,op,t,[]⟩::r) fr m K↔ ∃v,q=some v/\O S base r (putO fr d v) m K:=by
 rw [zaS hn,h];simp only [Option.map_eq_some_iff,Prod.mk.injEq,zS,List.all_nil];exact ⟨fun ⟨_,_,⟨x,hx,a,b⟩,_,h⟩=>by subst a b;exact ⟨_,hx,h⟩,fun ⟨v,hv,h⟩=>⟨_,_,⟨v,hv,rfl,rfl⟩,trivial,h⟩⟩
theorem zy9 {k:Option Nat}{x:Arg}:O S base (⟨d,none,.load k x,t,[]⟩::r) fr m K↔ ∃v,zaf m k (x.get fr)=some v/\O S base r (putO fr d v) m K:=zdx rfl rfl
theorem zwL {op:BinOp}{x y:Arg}:O S base (⟨d,none,.bin op x y,t,[]⟩::r) fr m K↔ ∃v,bin op (x.get fr) (y.get fr)=some v/\O S base r (putO fr d v) m K:=zdx rfl rfl
theorem zBJ {op:UnOp}{x:Arg}:O S base (⟨d,none,.un op x,t,[]⟩::r) fr m K↔ ∃v,un op (x.get fr)=some v/\O S base r (putO fr d v) m K:=zdx rfl rfl
theorem zwM {z} {ps}:O S base (⟨d,none,.build z ps,t,[]⟩::r) fr m K↔ ∃v,(ziG z (ps.map fun (a,b,x)=>(a,b,x.get fr))).map .agg=some v/\O S base r (putO fr d v) m K:=zdx rfl rfl
theorem zBK {c:EqC}{x y:Arg}:O S base (⟨d,none,.eq c x y,t,[]⟩::r) fr m K↔ ∃v,eqV c (x.get fr) (y.get fr)=some v/\O S base r (putO fr d (.bool v)) m K:=by
 rw [zdx (q:=(eqV c (x.get fr) (y.get fr)).map .bool) rfl rfl];simp only [Option.map_eq_some_iff];exact ⟨fun ⟨_,⟨x,hx,a⟩,h⟩=>by subst a;exact ⟨_,hx,h⟩,fun ⟨v,hv,h⟩=>⟨_,⟨v,hv,rfl⟩,h⟩⟩
theorem zBL {c:EqC}{x y:Arg}:O S base (⟨d,none,.ne c x y,t,[]⟩::r) fr m K↔ ∃v,eqV c (x.get fr) (y.get fr)=some v/\O S base r (putO fr d (.bool !v)) m K:=by
 rw [zdx (q:=(eqV c (x.get fr) (y.get fr)).map fun b=> .bool !b) rfl rfl];simp only [Option.map_eq_some_iff];exact ⟨fun ⟨_,⟨x,hx,a⟩,h⟩=>by subst a;exact ⟨_,hx,h⟩,fun ⟨v,hv,h⟩=>⟨_,⟨v,hv,rfl⟩,h⟩⟩
def zwN (off:Nat):V->Option V
 | .ptr b i j=>some (.ptr b i (j+off))
 |_=>none
theorem zwO {x:Arg}:O S base (⟨d,none,.nilck x,t,[]⟩::r) fr m K↔ ∃v,zwN 0 (x.get fr)=some v/\O S base r (putO fr d v) m K:=
 zdx rfl (by simp only [zA];cases x.get fr<;>rfl)
theorem zlP {off:Nat}{x:Arg}:O S base (⟨d,none,.fieldAddr off x,t,[]⟩::r) fr m K↔ ∃v,zwN off (x.get fr)=some v/\O S base r (putO fr d v) m K:=
 zdx rfl (by simp only [zA];cases x.get fr<;>rfl)
def zza (k:IntKind):V->Option V
 | .int _ n=>some (.int k (k.wrap n))
 |_=>none
theorem zzb {k:IntKind}{x:Arg}:O S base (⟨d,none,.conv k x,t,[]⟩::r) fr m K↔ ∃v,zza k (x.get fr)=some v/\O S base r (putO fr d v) m K:=
 zdx rfl (by simp only [zA];cases x.get fr<;>rfl)
def zzc (a b:V):V->Option V
 | .bool t=>some (if t then a else b)
 |_=>none
theorem zzd {c a b:Arg}:O S base (⟨d,none,.pick c a b,t,[]⟩::r) fr m K↔ ∃v,zzc (a.get fr) (b.get fr) (c.get fr)=some v/\O S base r (putO fr d v) m K:=
 zdx rfl (by simp only [zA];cases c.get fr<;>rfl)
def zwP (off:Nat) (k:Option Nat):V->Option V
 | .agg cs=>part cs off k
 |_=>none
theorem zwQ {off:Nat}{k:Option Nat}{x:Arg}:O S base (⟨d,none,.field off k x,t,[]⟩::r) fr m K↔ ∃v,zwP off k (x.get fr)=some v/\O S base r (putO fr d v) m K:=
 zdx rfl (by simp only [zA];cases x.get fr<;>rfl)
def zak (esz:Nat) (x ix:V):Option V:=
 match x,ix with
 | .slice b i len _ _ z,.int _ n=>if 0<=n/\n<len/\z=esz then some (.ptr b (i+n.toNat) 0) else none
 |_,_=>none
theorem zwR {esz:Nat}{x ix:Arg}:O S base (⟨d,none,.indexAddr esz x ix,t,[]⟩::r) fr m K↔ ∃v,zak esz (x.get fr) (ix.get fr)=some v/\O S base r (putO fr d v) m K:=
 zdx rfl (by
  simp only [zA,zak];cases x.get fr<;>cases ix.get fr<;>first|rfl|(dsimp only;split<;>rfl))
def zjr (len esz:Nat) (x ix:V):Option V:=
 match x,ix with
 | .ptr b i j,.int _ n=>if 0<=n/\n<len then some (.ptr b i (j+n.toNat*esz)) else none
 |_,_=>none
theorem znO {len esz:Nat}{x ix:Arg}:O S base (⟨d,none,.indexArr len esz x ix,t,[]⟩::r) fr m K↔ ∃v,zjr len esz (x.get fr) (ix.get fr)=some v/\O S base r (putO fr d v) m K:=
 zdx rfl (by
  simp only [zA,zjr];cases x.get fr<;>cases ix.get fr<;>first|rfl|(dsimp only;split<;>rfl))
def zqW (i:Nat):V->Option V
 | .tup vs=>vs[i]?
 |_=>none
theorem zqX {i:Nat}{x:Arg}:O S base (⟨d,none,.extract i x,t,[]⟩::r) fr m K↔ ∃v,zqW i (x.get fr)=some v/\O S base r (putO fr d v) m K:=
 zdx rfl (by simp only [zA];cases x.get fr<;>rfl)
def zg1:V->Option V
 | .nils=>some (.int .i64 0)
 | .emp=>some (.int .i64 0)
 | .slice _ _ len _ _ _=>some (.int .i64 len)
 |_=>none
theorem zA0 {x:Arg}:O S base (⟨d,none,.len x,t,[]⟩::r) fr m K↔ ∃v,zg1 (x.get fr)=some v/\O S base r (putO fr d v) m K:=
 zdx rfl (by simp only [zA];cases x.get fr<;>rfl)
def zze:V->Option V
 | .nils=>some (.int .i64 0)
 | .slice _ _ _ cap true _=>some (.int .i64 cap)
 |_=>none
theorem zwS {x:Arg}:O S base (⟨d,none,.cap x,t,[]⟩::r) fr m K↔ ∃v,zze (x.get fr)=some v/\O S base r (putO fr d v) m K:=
 zdx rfl (by simp only [zA];cases x.get fr<;>first|rfl|(rename_i e _;cases e<;>rfl))
theorem zse {z:List V}{n:Nat}{x y:Arg}:O S base (⟨d,none,.appz z n x y,t,[]⟩::r) fr m K↔ ∃v m',zlK m z n (x.get fr) (y.get fr)=some (v,m')/\O S base r (putO fr d v) m' K:=by
 rw [zaS rfl];simp [zA,zS]
theorem zj4 {x k:Arg}:O S base (⟨d,none,.lookup x k,t,[]⟩::r) fr m K↔ ∃v,zvi m (x.get fr) (k.get fr)=some v/\O S base r (putO fr d v) m K:=zdx rfl rfl
theorem znf:O S base (⟨d,none,.mkmap,t,[]⟩::r) fr m K↔O S base r (putO fr d (.mp (some m.length))) (m++[.mp []]) K:=by
 rw [zaS rfl];simp only [zA,zS,List.all_nil,Option.some.injEq,Prod.mk.injEq];exact ⟨fun ⟨_,_,⟨a,b⟩,_,h⟩=>by subst a b;exact h,fun h=>⟨_,_,⟨rfl,rfl⟩,trivial,h⟩⟩
theorem zj5 {x k u:Arg}:O S base (⟨d,none,.mapset x k u,t,[]⟩::r) fr m K↔ ∃m',zvj m (x.get fr) (k.get fr) (u.get fr)=some m'/\O S base r (putO fr d undef) m' K:=by
 rw [zaS rfl];simp only [zA,zS,List.all_nil,Option.map_eq_some_iff,Prod.mk.injEq];exact ⟨fun ⟨_,_,⟨x,hx,a,b⟩,_,h⟩=>by subst a b;exact ⟨_,hx,h⟩,fun ⟨v,hv,h⟩=>⟨_,_,⟨v,hv,rfl,rfl⟩,trivial,h⟩⟩
theorem zzf {f:Nat}{a b:List Arg}:O S base (⟨d,none,.mkfn f a b,t,[]⟩::r) fr m K↔O S base r (putO fr d (.fn f (a.map (·.get fr)) (b.map (·.get fr)))) m K:=by
 rw [zdx (q:=some _) rfl rfl]
 simp
theorem zwT {esz:Nat}{x:Arg}{lo hi mx:Option Arg}:O S base (⟨d,none,.slice esz x lo hi mx,t,[]⟩::r) fr m K↔ ∃v,(zOk (x.get fr) esz=true/\zaz (x.get fr) (lo.map (·.get fr)) (hi.map (·.get fr)) (mx.map (·.get fr))=some v)/\O S base r (putO fr d v) m K:=by
 rw [zaS rfl];simp only [zA,zS,List.all_nil];constructor
 ·rintro ⟨v,m',h1,_,h2⟩
  split at h1
  case isFalse=>cases h1
  rename_i hz
  simp only [Option.map_eq_some_iff,Prod.mk.injEq] at h1;obtain ⟨u,h3,rfl,rfl⟩:=h1;exact ⟨_,⟨hz,h3⟩,h2⟩
 ·rintro ⟨v,⟨hz,h3⟩,h2⟩
  exact ⟨v,m,by simp [hz,h3],trivial,h2⟩
theorem zwU {z:List V}:O S base (⟨d,none,.alloc z,none,[]⟩::r) fr m K↔O S base r (putO fr d (.ptr m.length 0 0)) (m++[.cells true [z]]) K:=by
 rw [zaS rfl];simp only [zA,zaI,zS,List.all_nil,Option.map_none,Option.map_some,Option.some.injEq,Prod.mk.injEq];exact ⟨fun ⟨_,_,⟨a,b⟩,_,h⟩=>by subst a b;exact h,fun h=>⟨_,_,⟨rfl,rfl⟩,trivial,h⟩⟩
theorem zA1 {x:Arg}:O S base (⟨d,none,.box x,none,[]⟩::r) fr m K↔(x.get fr).cells.all V.isCell=true/\O S base r (putO fr d (.ptr m.length 0 0)) (m++[.cells true [(x.get fr).cells]]) K:=by
 rw [zaS rfl];simp only [zA,zaI,zS,List.all_nil,Option.map_none,Option.map_some];constructor
 ·rintro ⟨v,m',h1,_,h2⟩
  split at h1
  case isFalse=>cases h1
  rename_i hc
  cases h1;exact ⟨hc,h2⟩
 ·rintro ⟨hc,h2⟩
  exact ⟨_,_,if_pos hc,trivial,h2⟩
theorem zqY {z:List V}{k:Nat}:O S base (⟨d,none,.alloc z,some k,[]⟩::r) fr m K↔m[base+k]? =some .dead/\O S base r (putO fr d (.ptr (base+k) 0 0)) (m.set (base+k) (.cells true [z])) K:=by
 rw [zaS rfl];simp only [zA,zaI,zS,Option.map_some,List.all_nil];constructor
 ·rintro ⟨v,m',h1,_,h2⟩
  split at h1
  ·rename_i hd
   simp only [Option.map_some,Option.some.injEq,Prod.mk.injEq] at h1;obtain ⟨rfl,rfl⟩:=h1;exact ⟨hd,h2⟩
  ·cases h1
 ·rintro ⟨hd,h2⟩
  exact ⟨_,_,by rw [hd];rfl,trivial,h2⟩
theorem zwV {x:Arg}{k:Nat}:O S base (⟨d,none,.box x,some k,[]⟩::r) fr m K↔m[base+k]? =some .dead/\(x.get fr).cells.all V.isCell=true/\O S base r (putO fr d (.ptr (base+k) 0 0)) (m.set (base+k) (.cells true [(x.get fr).cells])) K:=by
 rw [zaS rfl];simp only [zA,zaI,zS,Option.map_some,List.all_nil];constructor
 ·rintro ⟨v,m',h1,_,h2⟩
  split at h1
  case isFalse=>cases h1
  rename_i hc
  split at h1
  ·rename_i hd
   simp only [Option.map_some,Option.some.injEq,Prod.mk.injEq] at h1;obtain ⟨rfl,rfl⟩:=h1;exact ⟨hd,hc,h2⟩
  ·cases h1
 ·rintro ⟨hd,hc,h2⟩
  exact ⟨_,_,by rw [hd,if_pos hc];rfl,trivial,h2⟩
theorem zwW {n:Nat}{a x:Arg}:O S base (⟨d,none,.store n a x,t,[]⟩::r) fr m K↔ ∃m',zbg m n (a.get fr) (x.get fr)=some m'/\O S base r (putO fr d undef) m' K:=by
 rw [zaS rfl];simp only [zA,zS,List.all_nil,Option.map_eq_some_iff,Prod.mk.injEq];exact ⟨fun ⟨_,_,⟨x,hx,a,b⟩,_,h⟩=>by subst a b;exact ⟨_,hx,h⟩,fun ⟨v,hv,h⟩=>⟨_,_,⟨v,hv,rfl,rfl⟩,trivial,h⟩⟩
theorem ztF {z:List V}{n:Nat}{x y:Arg}:O S base (⟨d,none,.append z n x y,t,[]⟩::r) fr m K↔ ∃v m',zL m z n (x.get fr) (y.get fr)=some (v,m')/\O S base r (putO fr d v) m' K:=by
 rw [zaS rfl];simp [zA,zS]
theorem zzg {z:Nat}{x y:Arg}:O S base (⟨d,none,.copy z x y,t,[]⟩::r) fr m K↔ ∃v m',copyV m z (x.get fr) (y.get fr)=some (v,m')/\O S base r (putO fr d v) m' K:=by
 rw [zaS rfl];simp [zA,zS]
theorem zwX {z:List V}{x:Arg}:O S base (⟨d,none,.clear z x,t,[]⟩::r) fr m K↔ ∃v m',zfu m z (x.get fr)=some (v,m')/\O S base r (putO fr d v) m' K:=by
 rw [zaS rfl];simp [zA,zS]
def zzh (bytes:Nat) (l c:V):Option (Nat×Nat):=
 match l,c with
 | .int _ l,.int _ c=>if 0<=l/\l<=c/\roomy c.toNat bytes=true then some (l.toNat,c.toNat) else none
 |_,_=>none
theorem zj6 {n:Nat}{k k':IntKind}{l c:Int}:zzh n (.int k l) (.int k' c)=if 0<=l/\l<=c/\roomy c.toNat n=true then some (l.toNat,c.toNat) else none:=rfl
theorem zqZ {z:List V}{n:Nat}{l c:Arg}:O S base (⟨d,none,.mkslice z n l c,none,[]⟩::r) fr m K↔ ∃p,zzh n (l.get fr) (c.get fr)=some p/\O S base r (putO fr d (.slice m.length 0 p.1 p.2 true z.length)) (m++[.cells true (List.replicate p.2 z)]) K:=by
 rw [zaS rfl];simp only [zA,zaI,zS,List.all_nil,Option.map_none];constructor
 ·rintro ⟨v,m',h1,_,h2⟩
  split at h1
  case h_2=>cases h1
  rename_i k1 n1 k2 n2 e1 e2
  split at h1
  case isFalse=>cases h1
  rename_i hc
  simp only [Option.map_some,Option.some.injEq,Prod.mk.injEq] at h1;obtain ⟨rfl,rfl⟩:=h1;exact ⟨_,by rw [e1,e2,zj6,if_pos hc],h2⟩
 ·rintro ⟨p,e,h2⟩
  unfold zzh at e
  split at e
  case h_2=>cases e
  rename_i k1 n1 k2 n2 e1 e2
  split at e
  case isFalse=>cases e
  rename_i hc
  cases e;exact ⟨_,_,by rw [e1,e2];simp only [if_pos hc];rfl,trivial,h2⟩
theorem ztG {z:List V}{n:Nat} {ps}:O S base (⟨d,none,.bslice z n ps,none,[]⟩::r) fr m K↔ ∃els,zht (List.replicate n z) z.length (ps.map fun (i,x)=>(i,x.get fr))=some els/\O S base r (putO fr d (.slice m.length 0 n n true z.length)) (m++[.cells true els]) K:=by
 rw [zaS rfl];simp only [zA,zaI,zS,List.all_nil,Option.map_none,Option.bind_eq_some_iff];constructor
 ·rintro ⟨v,m',⟨els,h1,h3⟩,_,h2⟩
  simp only [Option.map_some,Option.some.injEq,Prod.mk.injEq] at h3;obtain ⟨rfl,rfl⟩:=h3;exact ⟨_,h1,h2⟩
 ·rintro ⟨els,h1,h2⟩
  exact ⟨_,_,⟨els,h1,rfl⟩,trivial,h2⟩
def aft (S:Sys) (base:Nat) (r:List zo) (fr:Frame) (d:Option Nat) (K:Frame->Mem->Prop) (v:V) (m:Mem):Prop:=O S base r (putO fr d v) m K
theorem zam {v:V}:aft S base r fr d K v m=O S base r (putO fr d v) m K:=rfl
theorem zwY {as:List Arg}{g:Nat}{first cap:List V}:
  O S base (⟨d,none,.call (.c (.fn g first cap)) as,t,[]⟩::r) fr m K↔C S g (first++(as.map (·.get fr)++cap)) m (aft S base r fr d K):=by
 rw [zsm (g:=g) (first:=first) (cap:=cap) rfl];simp only [zS,List.all_nil,true_and];exact Iff.rfl
theorem zA2 {g:Nat}{op:AOp} {l}(h:fr g= .bool true):O S base (⟨d,some (g,true),op,t,l⟩::r) fr m K↔O S base (⟨d,none,op,t,l⟩::r) fr m K:=zBO h
theorem zA3 {g:Nat}{op:AOp} {l}(h:fr g= .bool false):O S base (⟨d,some (g,false),op,t,l⟩::r) fr m K↔O S base (⟨d,none,op,t,l⟩::r) fr m K:=zBO h
theorem zzi {g:Nat}{op:AOp} {l}(h:fr g= .bool false):O S base (⟨d,some (g,true),op,t,l⟩::r) fr m K↔O S base r (putO fr d undef) m K:=zA6 h
theorem zzj {g:Nat}{op:AOp} {l}(h:fr g= .bool true):O S base (⟨d,some (g,false),op,t,l⟩::r) fr m K↔O S base r (putO fr d undef) m K:=zA6 h
theorem zzk {g:Nat}{w:Bool}{op:AOp} {l}(h:fr g=undef):O S base (⟨d,some (g,w),op,t,l⟩::r) fr m K↔O S base r (putO fr d undef) m K:=by
 simp [O,zI,zez,zV,h,undef]
theorem zq0 {off b i j:Nat}:zwN off (.ptr b i j)=some (.ptr b i (j+off)):=rfl
theorem znP {k k':IntKind}{n:Int}:zza k (.int k' n)=some (.int k (k.wrap n)):=rfl
theorem zlQ {a b:V}{t:Bool}:zzc a b (.bool t)=some (if t=true then a else b):=rfl
theorem zlR {off:Nat}{k:Option Nat}{cs:List V}:zwP off k (.agg cs)=part cs off k:=rfl
theorem ziN {i:Nat}{vs:List V}:zqW i (.tup vs)=vs[i]? :=rfl
theorem znQ:zg1 .nils=some (.int .i64 0):=rfl
theorem zlS {b i len cap z:Nat}{ex:Bool}:zg1 (.slice b i len cap ex z)=some (.int .i64 len):=rfl
theorem zzl {k:IntKind}{n:Int}:un .neg (.int k n)=some (.int k (k.wrap (0-n))):=rfl
theorem zzm {b:Bool}:un .not (.bool b)=some (.bool !b):=rfl
section
variable {k k':IntKind}{a b:Int}
theorem zsf:bin .add (.int k a) (.int k b)=some (.int k (k.wrap (a+b))):=by simp [bin,zfM]
theorem zwZ:bin .sub (.int k a) (.int k b)=some (.int k (k.wrap (a-b))):=by simp [bin,zfM]
theorem zw0:bin .mul (.int k a) (.int k b)=some (.int k (k.wrap (a*b))):=by simp [bin,zfM]
theorem zw1:bin .quo (.int k a) (.int k b)=if b=0 then none else some (.int k (k.wrap (a.tdiv b))):=by simp [bin,zfM]
theorem zw2:bin .rem (.int k a) (.int k b)=if b=0 then none else some (.int k (a.tmod b)):=by simp [bin,zfM]
theorem zw3:bin .and (.int k a) (.int k b)=some (.int k (k.wrap (BitVec.ofInt k.bits a &&& BitVec.ofInt k.bits b).toNat)):=by simp [bin,zfM]
theorem zzn:bin .or (.int k a) (.int k b)=some (.int k (k.wrap (BitVec.ofInt k.bits a ||| BitVec.ofInt k.bits b).toNat)):=by simp [bin,zfM]
theorem zw4:bin .xor (.int k a) (.int k b)=some (.int k (k.wrap (BitVec.ofInt k.bits a ^^^ BitVec.ofInt k.bits b).toNat)):=by simp [bin,zfM]
theorem znR:bin .andNot (.int k a) (.int k b)=some (.int k (k.wrap (BitVec.ofInt k.bits a &&& ~~~BitVec.ofInt k.bits b).toNat)):=by simp [bin,zfM]
theorem zw5:bin .eql (.int k a) (.int k b)=some (.bool (decide (a=b))):=by simp [bin,zfM]
theorem zw6:bin .neq (.int k a) (.int k b)=some (.bool (decide (a≠b))):=by simp [bin,zfM]
theorem zsg:bin .lss (.int k a) (.int k b)=some (.bool (decide (a<b))):=by simp [bin,zfM]
theorem zw7:bin .leq (.int k a) (.int k b)=some (.bool (decide (a<=b))):=by simp [bin,zfM]
theorem zw8:bin .gtr (.int k a) (.int k b)=some (.bool (decide (b<a))):=by simp [bin,zfM]
theorem zw9:bin .geq (.int k a) (.int k b)=some (.bool (decide (b<=a))):=by simp [bin,zfM]
theorem zxa:bin .shl (.int k a) (.int k' b)=shI .shl k a b:=by simp [bin]
theorem zxb:bin .shr (.int k a) (.int k' b)=shI .shr k a b:=by simp [bin]
end
end
end Go.AM
namespace Go.AM
open Go
section
variable {S:Sys}{base:Nat}{d:Option Nat}{t:Option Nat}{r:List zo}{fr:Frame}{m:Mem}{K:Frame->Mem->Prop}
theorem znS {z:List V}{n k:Nat} {ps}:O S base (⟨d,none,.bslice z n ps,some k,[]⟩::r) fr m K↔m[base+k]? =some .dead/\ ∃els,zht (List.replicate n z) z.length (ps.map fun (i,x)=>(i,x.get fr))=some els/\O S base r (putO fr d (.slice (base+k) 0 n n true z.length)) (m.set (base+k) (.cells true els)) K:=by
 rw [zaS rfl];simp only [zA,zaI,zS,List.all_nil,Option.map_some,Option.bind_eq_some_iff];constructor
 ·rintro ⟨v,m',⟨els,h1,h3⟩,_,h2⟩
  split at h3
  ·rename_i hd
   simp only [Option.map_some,Option.some.injEq,Prod.mk.injEq] at h3;obtain ⟨rfl,rfl⟩:=h3;exact ⟨hd,_,h1,h2⟩
  ·cases h3
 ·rintro ⟨hd,els,h1,h2⟩
  exact ⟨_,_,⟨els,h1,by rw [hd];rfl⟩,trivial,h2⟩
theorem zq1 {z:List V}{n e:Nat}{k:Option Nat}{x y a:Arg}:O S base (⟨d,none,.append z n x y,t,[(none,(e,(k,a)))]⟩::r) fr m K↔ ∃v m',zL m z n (x.get fr) (y.get fr)=some (v,m')/\(∃u,zaf m' k (a.get fr)=some u/\V.beq u (fr e)=true)/\O S base r (putO fr d v) m' K:=by
 rw [zaS rfl];simp only [zA,zS,List.all_cons,List.all_nil,zV,Bool.not_true,Bool.false_or,Bool.and_true];constructor
 ·rintro ⟨v,m',h1,h3,h2⟩
  refine ⟨v,m',h1,?_,h2⟩
  split at h3
  ·rename_i u hu
   exact ⟨u,hu,h3⟩
  ·cases h3
 ·rintro ⟨v,m',h1,⟨u,hu,h3⟩,h2⟩
  exact ⟨v,m',h1,by rw [hu];exact h3,h2⟩
theorem zlT {z:List V}{n k:Nat}{l c:Arg}:O S base (⟨d,none,.mkslice z n l c,some k,[]⟩::r) fr m K↔m[base+k]? =some .dead/\ ∃p,zzh n (l.get fr) (c.get fr)=some p/\O S base r (putO fr d (.slice (base+k) 0 p.1 p.2 true z.length)) (m.set (base+k) (.cells true (List.replicate p.2 z))) K:=by
 rw [zaS rfl];simp only [zA,zaI,zS,List.all_nil,Option.map_some];constructor
 ·rintro ⟨v,m',h1,_,h2⟩
  split at h1
  case h_2=>cases h1
  rename_i k1 n1 k2 n2 e1 e2
  split at h1
  case isFalse=>cases h1
  rename_i hc
  split at h1
  ·rename_i hd
   simp only [Option.map_some,Option.some.injEq,Prod.mk.injEq] at h1;obtain ⟨rfl,rfl⟩:=h1;exact ⟨hd,_,by rw [e1,e2,zj6,if_pos hc],h2⟩
  ·cases h1
 ·rintro ⟨hd,p,e,h2⟩
  unfold zzh at e
  split at e
  case h_2=>cases e
  rename_i k1 n1 k2 n2 e1 e2
  split at e
  case isFalse=>cases e
  rename_i hc
  cases e;exact ⟨_,_,by rw [e1,e2];simp only [if_pos hc,hd];rfl,trivial,h2⟩
def zzo (x y:V):Option V:=
 match x,y with
 | .int k p,.int _ q=>some (.int k (if q<p then q else p))
 |_,_=>none
theorem zlb {k k':IntKind}{p q:Int}:zzo (.int k p) (.int k' q)=some (.int k (if q<p then q else p)):=rfl
theorem zA4 {x y:Arg}:O S base (⟨d,none,.min x y,t,[]⟩::r) fr m K↔ ∃v,zzo (x.get fr) (y.get fr)=some v/\O S base r (putO fr d v) m K:=by
 rw [zaS rfl];simp only [zA,zS,List.all_nil];constructor
 ·rintro ⟨v,m',h1,_,h2⟩
  split at h1
  ·rename_i k1 n1 k2 n2 e1 e2
   cases h1;exact ⟨_,by rw [e1,e2,zlb],h2⟩
  ·cases h1
 ·rintro ⟨v,e,h2⟩
  unfold zzo at e
  split at e
  ·rename_i k1 n1 k2 n2 e1 e2
   cases e;exact ⟨_,_,by rw [e1,e2],trivial,h2⟩
  ·cases e
def zBl (S:Sys) (base:Nat) (l:List (Option (Nat×Bool)×Nat×Option Nat×Arg)) (r:List zo) (fr:Frame) (d:Option Nat) (K:Frame->Mem->Prop) (v:V) (m:Mem):Prop:=zS l fr m=true/\O S base r (putO fr d v) m K
theorem zj7 {l}{v:V}:zBl S base l r fr d K v m=(zS l fr m=true/\O S base r (putO fr d v) m K):=rfl
theorem zxc {as:List Arg}{g:Nat}{first cap:List V} {c} {l}:
  O S base (⟨d,none,.call (.c (.fn g first cap)) as,t,c::l⟩::r) fr m K↔C S g (first++(as.map (·.get fr)++cap)) m (zBl S base (c::l) r fr d K):=by
 rw [zsm (g:=g) (first:=first) (cap:=cap) rfl];exact Iff.rfl
def CV (S:Sys) (v:V) (args:List V) (m:Mem) (Q:V->Mem->Prop):Prop:=
 match v with
 | .fn g first cap=>C S g (first++(args++cap)) m Q
 |_=>False
theorem ziO {g:Nat}{first cap args:List V}{Q:V->Mem->Prop}:CV S (.fn g first cap) args m Q=C S g (first++(args++cap)) m Q:=rfl
theorem zxd {i:Nat}{as:List Arg}:O S base (⟨d,none,.call (.t i) as,t,[]⟩::r) fr m K↔CV S (fr i) (as.map (·.get fr)) m (aft S base r fr d K):=by
 cases h:fr i with
 |fn g first cap=>
  rw [zsm (f:= .t i) (g:=g) (first:=first) (cap:=cap) (by rw [ziM];exact h)];simp only [zS,List.all_nil,true_and];exact Iff.rfl
 |_=>simp [O,zI,zez,zV,step,h,CV,Arg.get]
theorem ztH {i:Nat}{as:List Arg} {c} {l}:O S base (⟨d,none,.call (.t i) as,t,c::l⟩::r) fr m K↔CV S (fr i) (as.map (·.get fr)) m (zBl S base (c::l) r fr d K):=by
 cases h:fr i with
 |fn g first cap=>
  rw [zsm (f:= .t i) (g:=g) (first:=first) (cap:=cap) (by rw [ziM];exact h)];exact Iff.rfl
 |_=>simp [O,zI,zez,zV,step,h,CV,Arg.get]
end
theorem zBM {S:Sys}{a b:zf}{fr:Frame}{m:Mem}{Q:zaq->Frame->Mem->Prop}:W S (.cond (.c (.bool false)) a b) fr m Q↔W S b fr m Q:=zng rfl
theorem zBN {S:Sys}{a b:zf}{fr:Frame}{m:Mem}{Q:zaq->Frame->Mem->Prop}:W S (.cond (.c (.bool true)) a b) fr m Q↔W S a fr m Q:=zsk rfl
theorem zxe {k:IntKind}{n:Int}:V.beq (.int k n) (.int k n)=true:=by simp [V.beq]
end Go.AM
