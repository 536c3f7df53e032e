import Derived.Test.YtfhbhfogcgfeeaaGreatDoorAmAll
set_option linter.unusedVariables false
set_option linter.unusedSimpArgs false
namespace Go.AM.Q
open Go Go.AM
abbrev t (i:Nat):Arg:= .t i
abbrev i64 (n:Int):V:= .int .i64 n
abbrev u64 (n:Int):V:= .int .u64 n
abbrev ci (n:Int):Arg:= .c (.int .i64 n)
abbrev o (d:Nat) (p:AOp):zo:=⟨some d,none,p,none,[]⟩
abbrev oi (d k:Nat) (p:AOp):zo:=⟨some d,none,p,some k,[]⟩
abbrev T (d g:Nat) (p:AOp):zo:=⟨some d,some (g,true),p,none,[]⟩
abbrev F (d g:Nat) (p:AOp):zo:=⟨some d,some (g,false),p,none,[]⟩
abbrev m (d x:Nat):zo:=⟨some d,none,.mv (.t x),none,[]⟩
abbrev mc (d:Nat) (v:V):zo:=⟨some d,none,.mv (.c v),none,[]⟩
abbrev l (d x:Nat):zo:=⟨some d,none,.load none (.t x),none,[]⟩
abbrev lk (d k x:Nat):zo:=⟨some d,none,.load (some k) (.t x),none,[]⟩
abbrev fa (d f x:Nat):zo:=⟨some d,none,.fieldAddr f (.t x),none,[]⟩
abbrev ix (d z x i:Nat):zo:=⟨some d,none,.indexAddr z (.t x) (.t i),none,[]⟩
abbrev bn (d:Nat) (p:BinOp) (x y:Nat):zo:=⟨some d,none,.bin p (.t x) (.t y),none,[]⟩
abbrev bc (d:Nat) (p:BinOp) (x:Nat) (n:Int):zo:=⟨some d,none,.bin p (.t x) (.c (.int .i64 n)),none,[]⟩
abbrev st (n a x:Nat):zo:=⟨none,none,.store n (.t a) (.t x),none,[]⟩
abbrev ln (d x:Nat):zo:=⟨some d,none,.len (.t x),none,[]⟩
abbrev ca (d f:Nat) (as:List Arg):zo:=⟨some d,none,.call (.c (.fn f [] [])) as,none,[]⟩
abbrev xt (d k x:Nat):zo:=⟨some d,none,.extract k (.t x),none,[]⟩
abbrev mT (d g x:Nat):zo:=⟨some d,some (g,true),.mv (.t x),none,[]⟩
abbrev mF (d g x:Nat):zo:=⟨some d,some (g,false),.mv (.t x),none,[]⟩
abbrev pa (d c x:Nat):zo:=⟨some d,none,.pick (.t c) (.t x) (.c (.bool false)),none,[]⟩
abbrev po (d c x:Nat):zo:=⟨some d,none,.pick (.t c) (.c (.bool true)) (.t x),none,[]⟩
abbrev rg (ops:List zo):zf:= .region ops
abbrev dw (k:Nat) (ops:List zo):zf:= .draw k ops
abbrev s (a b:zf):zf:= .seq a b
abbrev c (x:Nat) (a b:zf):zf:= .cond (.t x) a b
abbrev i (x:Nat) (a:zf):zf:= .cond (.t x) a .skip
abbrev b (k:Nat) (a:zf):zf:= .block k a
abbrev L (k:Nat) (a:zf):zf:= .block k (.loop a)
abbrev e (k:Nat):zf:= .exit k
end Go.AM.Q
namespace Go.AM
open Go
def zhG (x:Option Blk) (k:Option Nat) (i o:Nat):Option V:=
 match x with
 |some (.cells _ els)=>(els[i]?).bind fun el=>part el o k
 |_=>none
def zcW (y:Option Blk) (n i o:Nat) (x:V):Option Blk:=
 match y with
 |some (.cells true els)=>match els[i]? with
  |some el=>if x.cells.length=n/\o+n<=el.length/\x.cells.all V.isCell=true then some (.cells true (els.set i (splice el o x.cells))) else none
  |none=>none
 |_=>none
section
variable {m g G:Mem}{k:Option Nat} {b i o n j:Nat}{own:Bool}{els:List (List V)}{el:List V}{x:V}{y z:Blk}
theorem zir:zaq m k (.ptr b i o)=zhG m[b]? k i o:=by
 unfold zaq zhG;dsimp only;cases m[b]? with
 |none=>rfl
 |some y=>cases y<;>rfl
theorem zgF:zbi m n (.ptr b i o) x=(zcW m[b]? n i o x).map (m.set b):=by
 unfold zbi zcW;dsimp only;cases m[b]? with
 |none=>rfl
 |some y=>
  cases y with
  |dead=>rfl
  |mp es=>rfl
  |cells own els=>
   cases own with
   |false=>rfl
   |true=>
    dsimp only;cases els[i]? with
    |none=>rfl
    |some el=>dsimp only;split<;>rfl
def zyn (x:Option Blk) (k:Int):Option V:=
 match x with
 |some (.mp es)=>some (.int .i64 (zfN k es))
 |_=>none
def zyo (y:Option Blk) (k v:Int):Option Blk:=
 match y with
 |some (.mp es)=>some (.mp (zhu k v es))
 |_=>none
theorem zl8 {k:Int}:zqM m (.mp (some b)) (.int .u64 k)=zyn m[b]? k:=by
 unfold zqM zn3 zyn;dsimp only;cases m[b]? with
 |none=>rfl
 |some y=>cases y<;>rfl
theorem zl9 {k v:Int}:zqO m (.mp (some b)) (.int .u64 k) (.int .i64 v)=(zyo m[b]? k v).map (m.set b):=by
 unfold zqO zyo;dsimp only;cases m[b]? with
 |none=>rfl
 |some y=>cases y<;>rfl
theorem zma {k:Int}{es:List (Int×Int)}:zyn (some (.mp es)) k=some (.int .i64 (zfN k es)):=rfl
theorem zmb {k v:Int}{es:List (Int×Int)}:zyo (some (.mp es)) k v=some (.mp (zhu k v es)):=rfl
theorem zgG:zwk .nils=some (.int .i64 0):=rfl
theorem zjU {b i len cap z:Nat}:zwk (.slice b i len cap true z)=some (.int .i64 cap):=rfl
theorem zeR:zhG (some (.cells own els)) k i o=(els[i]?).bind fun el=>part el o k:=rfl
theorem zis:zcW (some (.cells true [el])) n 0 o x=if x.cells.length=n/\o+n<=el.length/\x.cells.all V.isCell=true then some (.cells true [splice el o x.cells]) else none:=rfl
theorem zi:(m++G)[m.length+j]? =G[j]? :=by rw [List.getElem?_append_right (by omega)];congr 1;omega
theorem zaa:(m++G)[m.length]? =G[0]? :=by rw [List.getElem?_append_right (by omega)];congr 1;omega
theorem zjV (h:(m[b]?).isSome=true):(m++G)[b]? =m[b]? :=List.getElem?_append_left (by obtain ⟨y,hy⟩:=Option.isSome_iff_exists.1 h;exact (List.getElem?_eq_some_iff.1 hy).1)
theorem zfn:(m++G).set (m.length+j) y=m++G.set j y:=by rw [List.set_append_right _ _ (by omega)];congr 2;omega
theorem zhH:(m++G).set m.length y=m++G.set 0 y:=by rw [List.set_append_right _ _ (by omega)];congr 2;omega
theorem zpT {a b c:Mem}:(a++b)++c=a++(b++c):=List.append_assoc a b c
theorem zxF {a b:Mem}:(a++b).length=a.length+b.length:=List.length_append
theorem ztH:(y::G).set 0 z=z::G:=rfl
theorem setMs:(y::G).set (j+1) z=y::G.set j z:=rfl
theorem ztI:(y::G)[0]? =some y:=rfl
theorem zb9:(y::G)[j+1]? =G[j]? :=rfl
theorem ztJ {x:Blk}:List.replicate 0 x=[]:=rfl
theorem ztK {x:Blk}{n:Nat}:List.replicate (n+1) x=x::List.replicate n x:=rfl
def In (len:Nat) (g:Mem) (v:V) (z:Nat) (els:List (List V)):Prop:= ∀A:Mem,A.length=len->zcy len (A++g) v z els
theorem In.app {len:Nat}{v:V}{z:Nat}(h:In len g v z els):In len (g++G) v z els:=fun A hA=>by rw [<-List.append_assoc];exact (h A hA).app
theorem In.pre {len:Nat}{v:V}{z:Nat}(L:Mem) (h:In (len+L.length) g v z els):In len (L++g) v z els:=fun A hA=>by
 rw [<-List.append_assoc];exact (h (A++L) (by simp [hA])).weaken (by omega)
theorem In.cast {a c:Nat}{v:V}{z:Nat}(h:In a g v z els) (e:a=c:=by (try simp only [List.length_append,List.length_cons,List.length_nil])<;>omega):In c g v z els:=e▸h
theorem In.cell {len:Nat}{v:V}{z:Nat}(h:In len g v z els):v.isCell=true:=(h (List.replicate len .dead) (by simp)).1.cell
theorem In.len {len:Nat}{v:V}{z:Nat}(h:In len g v z els):zhK v=some (.int .i64 els.length):=(h (List.replicate len .dead) (by simp)).1.len
theorem In.one {cap len:Nat}{ex:Bool}{z:Nat}:In len [.cells true els] (.slice len 0 els.length cap ex z) z els:=fun A hA=> .mk (.inr ⟨len,cap,ex,Nat.le_refl _,rfl,by rw [<-hA,List.getElem?_concat_length]⟩)
theorem In.mk {v:V}{z:Nat}(h:zcy m.length (m++g) v z els):In m.length g v z els:=by
 intro A hA;refine hA▸h.to fun c y hc hy=> ?_
 rw [List.getElem?_append_right (by omega)] at hy ⊢;rw [hA];exact hy
end
def zpU (c:V) (w:Bool) (x:Option V) (u:V):Bool:=
 match c,x with
 | .bool b,some v=> !(b == w)||V.beq v u
 | .bool b,none=> !(b == w)
 |_,_=>true
theorem zjW {g d:Nat}{w:Bool}{k:Option Nat}{a:Arg}{r:List (Option (Nat×Bool)×Nat×Option Nat×Arg)}{fr:Frame}{m:Mem}:zO ((some (g,w),d,k,a)::r) fr m=(zpU (fr g) w (zaq m k (a.get fr)) (fr d)&&zO r fr m):=by
 simp only [zO,List.all_cons,zQ]
 congr 1
 unfold zpU;cases fr g<;>cases zaq m k (a.get fr)<;>simp
theorem zjX {d:Nat}{k:Option Nat}{a:Arg}{r:List (Option (Nat×Bool)×Nat×Option Nat×Arg)}{fr:Frame}{m:Mem}:zO ((none,d,k,a)::r) fr m=(zpU (.bool true) true (zaq m k (a.get fr)) (fr d)&&zO r fr m):=by
 simp only [zO,List.all_cons,zQ]
 congr 1
 unfold zpU;cases zaq m k (a.get fr)<;>simp
theorem zmc {fr:Frame}{m:Mem}:zO [] fr m=true:=rfl
theorem zpV {v u:V}:zpU (.bool true) true (some v) u=V.beq v u:=rfl
theorem zpW {v u:V}:zpU (.bool false) false (some v) u=V.beq v u:=rfl
theorem zmd {x:Option V}{u:V}:zpU (.bool true) false x u=true:=by cases x<;>rfl
theorem zme {x:Option V}{u:V}:zpU (.bool false) true x u=true:=by cases x<;>rfl
theorem zpX {w:Bool}{x:Option V}{u:V}:zpU undef w x u=true:=rfl
theorem zmf {a b:List V}:V.beq (.agg a) (.agg b)=V.beqs a b:=by simp only [V.beq]
theorem zit {a b:V}{l k:List V}:V.beqs (a::l) (b::k)=(V.beq a b&&V.beqs l k):=by simp only [V.beqs]
theorem zjY:V.beqs [] []=true:=rfl
theorem zjZ {b:Bool}:V.beq (.bool b) (.bool b)=true:=by cases b<;>rfl
def zv9 (x y:V):Option V:=
 match x,y with
 | .int k p,.int _ q=>some (.int k (if q>p then q else p))
 |_,_=>none
theorem zf9 {k k':IntKind}{p q:Int}:zv9 (.int k p) (.int k' q)=some (.int k (if q>p then q else p)):=rfl
theorem ztL {S:Sys}{base:Nat}{d:Option Nat}{t:Option Nat}{r:List zo}{fr:Frame}{m:Mem}{K:Frame->Mem->Prop}{x y:Arg}:O S base (⟨d,none,.max x y,t,[]⟩::r) fr m K↔ ∃v,zv9 (x.get fr) (y.get fr)=some v/\O S base r (putO fr d v) m K:=by
 rw [zaV rfl];simp only [zu,zO,List.all_nil];constructor
 ·rintro ⟨v,m',h1,_,h2⟩
  split at h1
  ·rename_i k1 n1 k2 n2 e1 e2
   cases h1;exact ⟨_,by rw [e1,e2,zf9],h2⟩
  ·cases h1
 ·rintro ⟨v,e,h2⟩
  unfold zv9 at e
  split at e
  ·rename_i k1 n1 k2 n2 e1 e2
   cases e;exact ⟨_,_,by rw [e1,e2],trivial,h2⟩
  ·cases e
theorem zdi {len esz b i j:Nat}{k:IntKind}{n:Int}:zjh len esz (.ptr b i j) (.int k n)=if 0<=n/\n<len then some (.ptr b i (j+n.toNat*esz)) else none:=rfl
theorem zmg {a:V}{b:Mem}{P:V->Mem->Prop}:(∃v m',(a,b)=(v,m')/\P v m')=P a b:=by
 apply propext;constructor
 ·rintro ⟨_,_,h,h2⟩;cases h;exact h2
 ·intro h;exact ⟨_,_,rfl,h⟩
theorem am {p q:Prop}(h:q) (e:p=q:=by
  (try simp only [zhx,zjQ] at F)
  (conv=>
   lhs
   simp (maxDischargeDepth:=30) only [*, amL,zmg,zaK,zj4,zjW,zjX,zmc,zpV,zpW,zmd,zme,zpX,zmf,zit,zjY,zjZ,ztL,zf9,zdi,zir,zgF,zeR,zis,ztV,zp0,zj1,zmh,zj2,zgG,zjU,zl8,zl9,zma,zmb,zi,zaa,zjV,zfn,zhH,zpT,zxF,ztH,setMs,ztI,zb9,ztJ,ztK,ziJ,Nat.reduceEqDiff,reduceCtorEq,↓reduceIte,Nat.reduceAdd,zbn,zdf,Int.reduceNeg,splice,Nat.reduceLeDiff,part,ziI,zht,Nat.reduceLT,Int.reduceLT,Int.reduceLE,Int.reduceEq,Int.reduceAdd,Int.reduceSub,Int.reduceMul,Int.reduceToNat,Nat.reduceMul,Int.cast_ofNat_Int])):p:=e▸h
theorem zh {p:Prop}(e:p:=by
  (try simp only [zhx,zjQ] at F)
  simp (maxDischargeDepth:=30) only [*, amL,zmg,zaK,zj4,zjW,zjX,zmc,zpV,zpW,zmd,zme,zpX,zmf,zit,zjY,zjZ,ztL,zf9,zdi,zir,zgF,zeR,zis,ztV,zp0,zj1,zmh,zj2,zgG,zjU,zl8,zl9,zma,zmb,zi,zaa,zjV,zfn,zhH,zpT,zxF,ztH,setMs,ztI,zb9,ztJ,ztK,ziJ,Nat.reduceEqDiff,reduceCtorEq,↓reduceIte,Nat.reduceAdd,zbn,zdf,Int.reduceNeg,splice,Nat.reduceLeDiff,part,ziI,zht,Nat.reduceLT,Int.reduceLT,Int.reduceLE,Int.reduceEq,Int.reduceAdd,Int.reduceSub,Int.reduceMul,Int.reduceToNat,Nat.reduceMul,Int.cast_ofNat_Int]):p:=e
theorem into {S:Sys}{c:zf}{fr:Frame}{m:Mem}{Q:zar->Frame->Mem->Prop}{q:Prop}(h:q) (e:W S c fr m Q=q:=by
  (try simp only [zhx,zjQ] at F)
  (conv=>
   lhs
   (conv=>arg 2;whnf)
   simp (maxDischargeDepth:=30) only [*, amL,zmg,zaK,zj4,zjW,zjX,zmc,zpV,zpW,zmd,zme,zpX,zmf,zit,zjY,zjZ,ztL,zf9,zdi,zir,zgF,zeR,zis,ztV,zp0,zj1,zmh,zj2,zgG,zjU,zl8,zl9,zma,zmb,zi,zaa,zjV,zfn,zhH,zpT,zxF,ztH,setMs,ztI,zb9,ztJ,ztK,ziJ,Nat.reduceEqDiff,reduceCtorEq,↓reduceIte,Nat.reduceAdd,zbn,zdf,Int.reduceNeg,splice,Nat.reduceLeDiff,part,ziI,zht,Nat.reduceLT,Int.reduceLT,Int.reduceLE,Int.reduceEq,Int.reduceAdd,Int.reduceSub,Int.reduceMul,Int.reduceToNat,Nat.reduceMul,Int.cast_ofNat_Int])):W S c fr m Q:=e▸h
theorem fn {S:Sys}{f:Nat}{a:ze}{args:List V}{m:Mem}{P:V->Mem->Prop}{q:Prop}(hF:S.F f=some a) (h:q) (e:W S a.body (ziJ args) m (zln a.results P)=q:=by
  (conv=>
   lhs
   (conv=>arg 2;whnf)
   (conv=>arg 5;arg 1;whnf)
   simp (maxDischargeDepth:=30) only [*, amL,zmg,zaK,zj4,zjW,zjX,zmc,zpV,zpW,zmd,zme,zpX,zmf,zit,zjY,zjZ,ztL,zf9,zdi,zir,zgF,zeR,zis,ztV,zp0,zj1,zmh,zj2,zgG,zjU,zl8,zl9,zma,zmb,zi,zaa,zjV,zfn,zhH,zpT,zxF,ztH,setMs,ztI,zb9,ztJ,ztK,ziJ,Nat.reduceEqDiff,reduceCtorEq,↓reduceIte,Nat.reduceAdd,zbn,zdf,Int.reduceNeg,splice,Nat.reduceLeDiff,part,ziI,zht,Nat.reduceLT,Int.reduceLT,Int.reduceLE,Int.reduceEq,Int.reduceAdd,Int.reduceSub,Int.reduceMul,Int.reduceToNat,Nat.reduceMul,Int.cast_ofNat_Int]))
  (hX:S.X f=none:=by rfl) (hl:args.length=a.nparams:=by rfl):C S f args m P:=zyu hX hF hl (e▸h)
end Go.AM
namespace Go.AM
open Go
def Rd (m:Mem) (v:V) (z n:Nat) (f:Nat->List V):Prop:=Sl m v z ((List.range n).map f)\/(n=0/\v= .emp)
abbrev Ar (m:Mem) (v:V) (z n:Nat) (f:Nat->List V):Prop:=
 zhK v=some (.int .i64 (n:Int))/\v.isCell=true/\zOk v z=true/\(∀(ki:IntKind) (i:Nat),i<n->zaB z v (.int ki (i:Int))=some (atp v i 0))/\ ∀(i o:Nat) (k:Option Nat),i<n->zaq m k (atp v i o)=part (f i) o k
section
variable {m g:Mem}{v:V}{z n:Nat}{f:Nat->List V}
theorem Sl.beq' {els:List (List V)}(h:Sl m v z els):V.beq v v=true:=by
 obtain ⟨h,_⟩:=h;cases v with
 |slice=>simp [V.beq]
 |nils=>rfl
 |_=>simp [elems] at h
theorem Rd.ar (h:Rd m v z n f):Ar m v z n f:=by
 rcases h with h|⟨rfl,rfl⟩
 ·refine ⟨by simpa using h.len,h.cell,h.2,fun ki i hi=> ?_,fun i o k hi=>h.load (by simp [hi])⟩
  have:=h.index (ki:=ki) (n:=(i:Int)) (by omega) (by simpa using hi)
  simpa using this
 ·exact ⟨rfl,rfl,rfl,fun _ _ h=>absurd h (Nat.not_lt_zero _),fun _ _ _ h=>absurd h (Nat.not_lt_zero _)⟩
theorem Rd.app (h:Rd m v z n f):Rd (m++g) v z n f:=h.imp (fun h=>h.app) id
theorem Rd.grow {m':Mem}(h:Rd m v z n f) (hg:Grow m m'):Rd m' v z n f:=h.imp (fun h=>h.grow hg) id
end
abbrev zG (w:Nat->Nat) (i:Nat):List V:=[.int .u64 (w i:Int)]
theorem wn {a:Nat}(h:a<9223372036854775808):IntKind.i64.wrap (a:Int)=(a:Int):=wrap_i64 (by omega) (by omega)
theorem un' {a:Nat}(h:a<18446744073709551616):IntKind.u64.wrap (a:Int)=(a:Int):=wrap_u64 (by omega) (by omega)
theorem zj0 {a:Nat}{b:Nat}:(a:Int).tdiv (b:Int)=((a/b:Nat):Int):=(Int.ofNat_tdiv a b).symm
theorem zx8 {a:Nat}{b:Nat}:(a:Int).tmod (b:Int)=((a%b:Nat):Int):=(Int.ofNat_tmod a b).symm
theorem q64 {a:Nat}:(a:Int).tdiv 64=((a/64:Nat):Int):=zj0 (b:=64)
theorem r64 {a:Nat}:(a:Int).tmod 64=((a%64:Nat):Int):=zx8 (b:=64)
theorem c64:((64:Int)=0)=False:=by decide
theorem zrc {w k:Nat}(hw:w<18446744073709551616) (hk:k<64):shI .shr .u64 (w:Int) (k:Int)=some (.int .u64 ((w >>> k:Nat):Int)):=by
 unfold shI;rw [if_neg (by omega)];have e:Nat.min (k:Int).toNat IntKind.u64.bits=k:=by
  show Nat.min (k:Int).toNat 64=k;rw [Int.toNat_natCast];exact Nat.min_eq_left (by omega)
 simp only [e,Option.some.injEq,V.int.injEq,true_and];rw [Nat.shiftRight_eq_div_pow,Int.fdiv_eq_ediv_of_nonneg _ (by exact Int.le_of_lt (Int.pow_pos (by decide)))]
 simp
theorem zwa {a b:Nat}(ha:a<18446744073709551616):IntKind.u64.wrap ↑(BitVec.ofInt IntKind.u64.bits (a:Int) &&& BitVec.ofInt IntKind.u64.bits (b:Int)).toNat=((a &&& b:Nat):Int):=by
 have h:(BitVec.ofInt IntKind.u64.bits (a:Int) &&& BitVec.ofInt IntKind.u64.bits (b:Int)).toNat=(a &&& b)%2^64:=by
  show (BitVec.ofNat 64 a &&& BitVec.ofNat 64 b).toNat=_;rw [BitVec.toNat_and,BitVec.toNat_ofNat,BitVec.toNat_ofNat,Nat.and_mod_two_pow]
 rw [h];have:a &&& b<=a:=Nat.and_le_left;rw [Nat.mod_eq_of_lt (by omega),un' (by omega)]
theorem and1 {a:Nat}(ha:a<18446744073709551616):IntKind.u64.wrap ↑(BitVec.ofInt IntKind.u64.bits (a:Int) &&& BitVec.ofInt IntKind.u64.bits 1).toNat=((a%2:Nat):Int):=by
 have:=zwa (a:=a) (b:=1) ha;rw [Nat.and_one_is_mod] at this;exact this
theorem zwb {w k:Nat}:decide ((((w >>> k)%2:Nat):Int)=1)=w.testBit k:=by
 rw [Nat.testBit_eq_decide_div_mod_eq,Nat.shiftRight_eq_div_pow];exact decide_eq_decide.2 (by omega)
theorem range {S:Sys} {s i n t a b:Nat}{body c:zf}{fr:Frame}{m:Mem}{Q:zar->Frame->Mem->Prop}{α:Type}(len:Nat) (L:α->List (Nat×V)) (P:Nat->α->Mem->Prop) (x0:α) (p0:P 0 x0 m)
  (step: ∀(k:Nat) (x:α) (fr:Frame) (m:Mem),k<len->Has fr ((i,.int .i64 (k:Nat))::(n,.int .i64 (len:Nat))::L x)->P k x m->W S body fr m (zmF a b Q (zsv i n len L P k)))
  (fin: ∀(x:α) (fr:Frame) (m:Mem),Has fr (L x)->P len x m->Q .normal fr m)
  (hc:c=zv1 s i n t a b body:=by rfl) (hk: ∀x,(L x).map (·.1)=(L x0).map (·.1):=by exact fun _=>rfl) (hd:(((L x0).map (·.1)).contains s||((L x0).map (·.1)).contains i||((L x0).map (·.1)).contains t||s == i||s == n||t == i||t == n||i == n||a == b)=false:=by rfl) (hlen:len<2^62:=by omega)
  (fi:fr i= .int .i64 0:=by exact zh) (fn:fr n= .int .i64 (len:Nat):=by exact zh) (h0:Has fr (L x0):=by exact zh):W S (.loop c) fr m (zj8 a Q):=
 zxy len _ L P x0 hc hk hd hlen fi fn h0 p0 step fin
def up {α:Type}(f:Nat->α) (p:Nat) (v:α):Nat->α:=fun x=>if x=p then v else f x
theorem zK {α:Type}{f:Nat->α}{p:Nat}{v:α}:up f p v p=v:=if_pos rfl
theorem zaM {α:Type}{f:Nat->α}{p x:Nat}{v:α}(h:x≠p):up f p v x=f x:=if_neg h
theorem map_set {n p:Nat}{f:Nat->List V}{x:List V}:((List.range n).map f).set p x=(List.range n).map (up f p x):=by
 apply List.ext_getElem?;intro i
 by_cases hi:i<n
 ·by_cases e:p=i
  ·subst e
   rw [List.getElem?_set_self (by simpa using hi)];simp [hi,zK]
  ·rw [List.getElem?_set_ne e]
   simp [hi,zaM (Ne.symm e)]
 ·rw [List.getElem?_eq_none (by simp;omega),List.getElem?_eq_none (by simp;omega)]
theorem zpY {w:Nat->Nat}{p x:Nat}:up (zG w) p [.int .u64 (x:Int)]=zG (up w p x):=by
 funext i
 by_cases e:i=p
 ·subst e;simp [zK]
 ·simp [zaM e]
abbrev Fu (B:Nat) (m:Mem) (v:V) (n:Nat) (w:Nat->Nat):Prop:=zcy B m v 1 ((List.range n).map (zG w))
theorem Fu.rd {B n:Nat}{m:Mem}{v:V}{w:Nat->Nat}(h:Fu B m v n w):Rd m v 1 n (zG w):= .inl h.1
theorem ztM {m M:Mem}(h: ∀c y,c<m.length->m[c]? =some y->M[c]? =some y):Grow m M:=by
 refine ⟨M.drop m.length,?_⟩;have:M.take m.length=m:=by
  apply List.ext_getElem?;intro c
  by_cases hc:c<m.length
  ·rw [List.getElem?_take,if_pos hc]
   have h0:=List.getElem?_eq_getElem hc;rw [h0];exact h c _ hc h0
  ·rw [List.getElem?_eq_none (by simp;omega),List.getElem?_eq_none (by omega)]
 conv=>lhs;rw [<-List.take_append_drop m.length M,this]
theorem zx {M:Mem}{b c:Nat}{x y:Blk}(hne:b≠c) (h:M[c]? =some y):(M.set b x)[c]? =some y:=by rw [List.getElem?_set_ne hne];exact h
theorem zaU {M:Mem}{b:Nat}{x y:Blk}(h:M[b]? =some y):(M.set b x)[b]? =some x:=List.getElem?_set_self (List.getElem?_eq_some_iff.1 h).1
theorem zyp {k:Nat}(hk:k<64):shI .shl .u64 1 (k:Int)=some (.int .u64 ((2^k:Nat):Int)):=by
 unfold shI;rw [if_neg (by omega)];have e:Nat.min (k:Int).toNat IntKind.u64.bits=k:=by
  show Nat.min (k:Int).toNat 64=k;rw [Int.toNat_natCast];exact Nat.min_eq_left (by omega)
 have h:(2^k:Nat)<18446744073709551616:=Nat.lt_of_lt_of_le (Nat.pow_lt_pow_right (by decide) hk) (by decide);simp only [e,Int.one_mul,Option.some.injEq,V.int.injEq,true_and];have:((2:Int)^k)=((2^k:Nat):Int):=by simp
 rw [this,un' h]
theorem orN {a b:Nat}(ha:a<18446744073709551616) (hb:b<18446744073709551616):IntKind.u64.wrap ↑(BitVec.ofInt IntKind.u64.bits (a:Int) ||| BitVec.ofInt IntKind.u64.bits (b:Int)).toNat=((a ||| b:Nat):Int):=by
 have h:(BitVec.ofInt IntKind.u64.bits (a:Int) ||| BitVec.ofInt IntKind.u64.bits (b:Int)).toNat=a ||| b:=by
  show (BitVec.ofNat 64 a ||| BitVec.ofNat 64 b).toNat=_;rw [BitVec.toNat_or,BitVec.toNat_ofNat,BitVec.toNat_ofNat,Nat.mod_eq_of_lt ha,Nat.mod_eq_of_lt hb]
 rw [h,un' (Nat.or_lt_two_pow (n:=64) ha hb)]
def andNot (a b:Nat):Nat:=(BitVec.ofNat 64 a &&& ~~~BitVec.ofNat 64 b).toNat
theorem ztN {a b:Nat}:IntKind.u64.wrap ↑(BitVec.ofInt IntKind.u64.bits (a:Int) &&& ~~~BitVec.ofInt IntKind.u64.bits (b:Int)).toNat=(andNot a b:Int):=by
 show IntKind.u64.wrap ((andNot a b:Nat):Int)=_;exact un' (BitVec.isLt _)
end Go.AM
