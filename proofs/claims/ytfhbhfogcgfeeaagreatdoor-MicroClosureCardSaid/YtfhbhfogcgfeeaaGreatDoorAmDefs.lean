import Derived.WalkKit
set_option linter.unusedVariables false
set_option linter.unusedSimpArgs false
namespace Go.AM
open Go
abbrev zU.{u}{p:Sort u}(h:p):PLift p:=⟨h⟩
inductive V where
 |bool (b:Bool)
 |int (k:IntKind) (n:Int)
 |nilp
 |ptr (b i j:Nat)
 |nils
 |emp
 |slice (b i len cap:Nat) (ex:Bool) (z:Nat)
 |nilf
 |fn (f:Nat) (first cap:List V)
 |agg (cs:List V)
 |tup (vs:List V)
 |mp (b:Option Nat)
 deriving Inhabited
def undef:V:= .tup []
def V.isCell:V->Bool
 | .agg _| .tup _=>false
 |_=>true
def V.cells:V->List V
 | .agg cs=>cs
 |v=>[v]
inductive Blk where
 |dead
 |cells (own:Bool) (els:List (List V))
 |mp (es:List (Int×Int))
 deriving Inhabited
abbrev Mem:=List Blk
abbrev Frame:=Nat->V
def put (fr:Frame) (i:Nat) (v:V):Frame:=fun j=>if j=i then v else fr j
def putO (fr:Frame) (d:Option Nat) (v:V):Frame:=
 match d with
 |some i=>put fr i v
 |none=>fr
inductive Arg where
 |t (i:Nat)
 |c (v:V)
 deriving Inhabited
def Arg.get (fr:Frame):Arg->V
 | .t i=>fr i
 | .c v=>v
inductive EqC where
 |bool|ptr|slice|fn
 |flat (sh:List Bool)
 deriving Inhabited
inductive AOp where
 |mv (x:Arg)
 |nilck (x:Arg)
 |pick (c a b:Arg)
 |alloc (zero:List V)
 |box (x:Arg)
 |build (zero:List V) (parts:List (Nat×Nat×Arg))
 |bslice (zero:List V) (n:Nat) (parts:List (Nat×Arg))
 |load (k:Option Nat) (a:Arg)
 |store (n:Nat) (a x:Arg)
 |bin (op:BinOp) (x y:Arg)
 |eq (c:EqC) (x y:Arg)
 |ne (c:EqC) (x y:Arg)
 |un (op:UnOp) (x:Arg)
 |conv (k:IntKind) (x:Arg)
 |mkfn (f:Nat) (first cap:List Arg)
 |mkslice (zero:List V) (bytes:Nat) (l c:Arg)
 |slice (esz:Nat) (x:Arg) (lo hi mx:Option Arg)
 |fieldAddr (off:Nat) (x:Arg)
 |field (off:Nat) (k:Option Nat) (x:Arg)
 |indexAddr (esz:Nat) (x ix:Arg)
 |indexArr (len esz:Nat) (x ix:Arg)
 |extract (i:Nat) (x:Arg)
 |len (x:Arg)
 |cap (x:Arg)
 |appz (zero:List V) (bytes:Nat) (x n:Arg)
 |mkmap
 |lookup (x k:Arg)
 |lookup2 (x k:Arg)
 |mlen (x:Arg)
 |mapset (x k v:Arg)
 |append (zero:List V) (bytes:Nat) (x y:Arg)
 |copy (esz:Nat) (x y:Arg)
 |clear (zero:List V) (x:Arg)
 |min (x y:Arg)
 |max (x y:Arg)
 |call (f:Arg) (args:List Arg)
 deriving Inhabited
structure zo where
 dst:Option Nat
 g:Option (Nat×Bool)
 op:AOp
 res:Option Nat
 chk:List (Option (Nat×Bool)×Nat×Option Nat×Arg)
 deriving Inhabited
inductive zf where
 |skip
 |region (ops:List zo)
 |draw (k:Nat) (ops:List zo)
 |seq (a b:zf)
 |cond (c:Arg) (thn els:zf)
 |block (id:Nat) (body:zf)
 |loop (body:zf)
 |exit (id:Nat)
 |ret
 deriving Inhabited
inductive RV where
 |t (i:Nat)
 |cell (a:Nat) (k:Option Nat)
 deriving Inhabited
structure ze where
 nparams:Nat
 ntmps:Nat
 body:zf
 results:List RV
 deriving Inhabited
def eqL:List Bool->List V->List V->Option Bool
 | [],[],[]=>some true
 |true::sh,.bool a::xs,.bool b::ys=>(eqL sh xs ys).map fun r=>decide (a=b)&&r
 |false::sh,.int k a::xs,.int k' b::ys=>if k=k' then (eqL sh xs ys).map fun r=>decide (a=b)&&r else none
 |_,_,_=>none
def eqV (c:EqC) (x y:V):Option Bool:=
 match c,x,y with
 | .bool,.bool a,.bool b=>some (decide (a=b))
 | .ptr,.nilp,.nilp=>some true
 | .ptr,.nilp,.ptr _ _ _=>some false
 | .ptr,.ptr _ _ _,.nilp=>some false
 | .slice,.nils,.nils=>some true
 | .slice,.nils,.slice _ _ _ _ _ _=>some false
 | .slice,.slice _ _ _ _ _ _,.nils=>some false
 | .slice,.emp,.nils=>some false
 | .fn,.nilf,.nilf=>some true
 | .fn,.nilf,.fn _ _ _=>some false
 | .fn,.fn _ _ _,.nilf=>some false
 | .flat sh,.agg xs,.agg ys=>eqL sh xs ys
 |_,_,_=>none
mutual
def V.beq:V->V->Bool
 | .bool a,.bool b=>a == b
 | .int k a,.int k' b=>decide (k=k')&&decide (a=b)
 | .nilp,.nilp=>true
 | .ptr b i j,.ptr b' i' j'=>decide (b=b')&&decide (i=i')&&decide (j=j')
 | .nils,.nils=>true
 | .slice b i l c e z,.slice b' i' l' c' e' z'=>decide (b=b')&&decide (i=i')&&decide (l=l')&&decide (c=c')&&e == e'&&decide (z=z')
 | .nilf,.nilf=>true
 | .mp a,.mp b=>decide (a=b)
 | .fn f a b,.fn f' a' b'=>decide (f=f')&&V.beqs a a'&&V.beqs b b'
 | .agg a,.agg b=>V.beqs a b
 | .tup a,.tup b=>V.beqs a b
 |_,_=>false
def V.beqs:List V->List V->Bool
 | [],[]=>true
 |a::as,b::bs=>V.beq a b&&V.beqs as bs
 |_,_=>false
end
def zf3 (op:BinOp) (k:IntKind) (a b:Int):Option V:=
 match op with
 | .add=>some (.int k (k.wrap (a+b)))
 | .sub=>some (.int k (k.wrap (a-b)))
 | .mul=>some (.int k (k.wrap (a*b)))
 | .quo=>if b=0 then none else some (.int k (k.wrap (a.tdiv b)))
 | .rem=>if b=0 then none else some (.int k (a.tmod b))
 | .and=>some (.int k (k.wrap (BitVec.ofInt k.bits a &&& BitVec.ofInt k.bits b).toNat))
 | .or=>some (.int k (k.wrap (BitVec.ofInt k.bits a ||| BitVec.ofInt k.bits b).toNat))
 | .xor=>some (.int k (k.wrap (BitVec.ofInt k.bits a ^^^ BitVec.ofInt k.bits b).toNat))
 | .andNot=>some (.int k (k.wrap (BitVec.ofInt k.bits a &&& ~~~BitVec.ofInt k.bits b).toNat))
 | .eql=>some (.bool (decide (a=b)))
 | .neq=>some (.bool (decide (a≠b)))
 | .lss=>some (.bool (decide (a<b)))
 | .leq=>some (.bool (decide (a<=b)))
 | .gtr=>some (.bool (decide (b<a)))
 | .geq=>some (.bool (decide (b<=a)))
 | .shl| .shr=>none
def shI (op:BinOp) (k:IntKind) (a b:Int):Option V:=
 if b<0 then none else
 match op with
 | .shl=>some (.int k (k.wrap (a*2^(Nat.min b.toNat k.bits))))
 | .shr=>some (.int k (a.fdiv (2^(Nat.min b.toNat k.bits))))
 |_=>none
def bin (op:BinOp) (x y:V):Option V:=
 match op,x,y with
 | .shl,.int k a,.int _ b| .shr,.int k a,.int _ b=>shI op k a b
 |_,.int k a,.int k' b=>if k=k' then zf3 op k a b else none
 |_,_,_=>none
def un (op:UnOp) (x:V):Option V:=
 match op,x with
 | .neg,.int k n=>some (.int k (k.wrap (0-n)))
 | .xor,.int k n=>some (.int k (k.wrap (BitVec.ofInt k.bits (if k.signed then -1 else k.max) ^^^ BitVec.ofInt k.bits n).toNat))
 | .not,.bool b=>some (.bool !b)
 |_,_=>none
def part (el:List V) (j:Nat) (k:Option Nat):Option V:=
 match k with
 |none=>el[j]?
 |some n=>if j+n<=el.length then some (.agg ((el.drop j).take n)) else none
def zaq (m:Mem) (k:Option Nat) (a:V):Option V:=
 match a with
 | .ptr b i j=>
  match m[b]? with
  |some (.cells _ els)=>(els[i]?).bind fun el=>part el j k
  |_=>none
 |_=>none
def splice (el:List V) (j:Nat) (cs:List V):List V:=el.take j++(cs++el.drop (j+cs.length))
def zbi (m:Mem) (n:Nat) (a x:V):Option Mem:=
 match a with
 | .ptr b i j=>
  match m[b]? with
  |some (.cells true els)=>
   match els[i]? with
   |some el=>if x.cells.length=n/\j+n<=el.length/\x.cells.all V.isCell=true then some (m.set b (.cells true (els.set i (splice el j x.cells)))) else none
   |none=>none
  |_=>none
 |_=>none
def elems (m:Mem) (x:V):Option (List (List V)):=
 match x with
 | .nils=>some []
 | .slice b i len _ _ _=>
  match m[b]? with
  |some (.cells _ els)=>if i+len<=els.length then some ((els.drop i).take len) else none
  |_=>none
 |_=>none
def over (els:List (List V)) (i:Nat) (ys:List (List V)):List (List V):=els.take i++(ys++els.drop (i+ys.length))
def zOk (x:V) (z:Nat):Bool:=
 match x with
 | .slice _ _ _ _ _ z'=>decide (z'=z)
 |_=>true
def roomy (n bytes:Nat):Bool:=decide (n*bytes<=140737488355328)&&decide (n<=140737488355328)
def zde (m:Mem) (y:V):Option (List (List V)):=
 match y with
 | .emp=>some []
 |y=>elems m y
theorem zf4 {m:Mem}{y:V}{ys:List (List V)}(h:elems m y=some ys):zde m y=some ys:=by
 cases y<;>first|exact h|simp [elems] at h
def zM (m:Mem) (zero:List V) (bytes:Nat) (x y:V):Option (V×Mem):=
 match zde m y with
 |none=>none
 |some ys=>
  if zOk y zero.length=false then none else
  match x with
  | .nils=>
   if ys.isEmpty then some (.nils,m)
   else if roomy ys.length bytes then some (.slice m.length 0 ys.length ys.length false zero.length,m++[.cells true ys]) else none
  | .slice b i len cap ex z=>
   if z≠zero.length then none else
   if ys.isEmpty then some (.slice b i len cap ex z,m) else
   match m[b]? with
   |some (.cells own els)=>
    if i+len<=els.length then
     if len+ys.length<=cap then
      if own/\i+len+ys.length<=els.length then some (.slice b i (len+ys.length) cap ex z,m.set b (.cells true (over els (i+len) ys))) else none
     else if roomy (len+ys.length) bytes then
      if ex then some (.slice m.length 0 (len+ys.length) (len+ys.length) false z,m++[.cells true ((els.drop i).take len++ys)])
      else if own/\i+len=els.length then some (.slice m.length 0 (len+ys.length) (len+ys.length) false z,m.set b .dead++[.cells true (els.drop i++ys)])
      else none
     else none
    else none
   |_=>none
  |_=>none
def copyV (m:Mem) (z:Nat) (x y:V):Option (V×Mem):=
 match elems m x,elems m y with
 |some xs,some ys=>
  let n:=Nat.min ys.length xs.length
  match x with
  | .slice b i _ _ _ _=>
   if zOk x z=false\/zOk y z=false then none else
   match m[b]? with
   |some (.cells true els)=>some (.int .i64 n,m.set b (.cells true (over els i (ys.take n))))
   |_=>none
  |_=>some (.int .i64 0,m)
 |_,_=>none
def zfM (m:Mem) (zero:List V) (x:V):Option (V×Mem):=
 match x with
 | .nils=>some (undef,m)
 | .slice b i len _ _ z=>
  if z≠zero.length then none else
  match m[b]? with
  |some (.cells true els)=>if i+len<=els.length then some (undef,m.set b (.cells true (over els i (List.replicate len zero)))) else none
  |_=>none
 |_=>none
def bound (d:Nat) (top:Nat) (x:Option V):Option Nat:=
 match x with
 |none=>some d
 |some (.int _ n)=>if 0<=n/\n<=top then some n.toNat else none
 |some _=>none
def za6 (x:V) (lo hi mx:Option V):Option V:=
 match x with
 | .nils=>(bound 0 0 mx).bind fun _=>(bound 0 0 hi).bind fun _=>(bound 0 0 lo).bind fun _=>some .nils
 | .slice b i len cap ex z=>
  (bound cap cap mx).bind fun m=>(bound len m hi).bind fun h=>(bound 0 h lo).bind fun l=>
  some (.slice b (i+l) (h-l) (m-l) (ex||mx.isSome) z)
 |_=>none
def ziI (cells:List V):List (Nat×Nat×V)->Option (List V)
 | []=>some cells
 |(off,size,v)::r=>if v.cells.length=size/\off+size<=cells.length then ziI (splice cells off v.cells) r else none
def zht (els:List (List V)) (esz:Nat):List (Nat×V)->Option (List (List V))
 | []=>some els
 |(i,v)::r=>if v.cells.length=esz/\i<els.length/\v.cells.all V.isCell=true then zht (els.set i v.cells) esz r else none
def zlc (m:Mem) (zero:List V) (bytes:Nat) (x n:V):Option (V×Mem):=
 match x,n with
 | .nils,.int _ n=>if 0<n/\roomy n.toNat bytes=true then some (.slice m.length 0 n.toNat n.toNat false zero.length,m++[.cells true (List.replicate n.toNat zero)]) else none
 |_,_=>none
def zfN (k:Int):List (Int×Int)->Int
 | []=>0
 |(a,b)::r=>if k=a then b else zfN k r
def zhu (k v:Int):List (Int×Int)->List (Int×Int)
 | []=>[(k,v)]
 |(a,b)::r=>if k=a then (k,v)::r else (a,b)::zhu k v r
def zn3 (m:Mem) (x:V):Option (List (Int×Int)):=
 match x with
 | .mp none=>some []
 | .mp (some b)=>match m[b]? with
  |some (.mp es)=>some es
  |_=>none
 |_=>none
def zqM (m:Mem) (x k:V):Option V:=
 match k with
 | .int .u64 k=>(zn3 m x).map fun es=> .int .i64 (zfN k es)
 |_=>none
def zpD (k:Int):List (Int×Int)->Bool
 | []=>false
 |(a,_)::r=>if k=a then true else zpD k r
def zqN (m:Mem) (x k:V):Option V:=
 match k with
 | .int .u64 k=>(zn3 m x).map fun es=> .tup [.int .i64 (zfN k es),.bool (zpD k es)]
 |_=>none
def zvL (m:Mem) (x:V):Option V:=(zn3 m x).map fun es=> .int .i64 (es.length:Nat)
def zqO (m:Mem) (x k v:V):Option Mem:=
 match x,k,v with
 | .mp (some b),.int .u64 k,.int .i64 v=>match m[b]? with
  |some (.mp es)=>some (m.set b (.mp (zhu k v es)))
  |_=>none
 |_,_,_=>none
def zaE (m:Mem) (tgt:Option Nat) (x:Blk):Option (Nat×Mem):=
 match tgt with
 |none=>some (m.length,m++[x])
 |some id=>match m[id]? with
  |some .dead=>some (id,m.set id x)
  |_=>none
def zu (o:AOp) (tgt:Option Nat) (fr:Frame) (m:Mem):Option (V×Mem):=
 let q (r:Option V):Option (V×Mem):=r.map fun v=>(v,m)
 match o with
 | .mv x=>some (x.get fr,m)
 | .nilck x=>match x.get fr with
  | .ptr b i j=>some (.ptr b i j,m)
  |_=>none
 | .pick c a b=>match c.get fr with
  | .bool t=>some (if t then a.get fr else b.get fr,m)
  |_=>none
 | .alloc z=>(zaE m tgt (.cells true [z])).map fun (b,m')=>(.ptr b 0 0,m')
 | .box x=>if (x.get fr).cells.all V.isCell then (zaE m tgt (.cells true [(x.get fr).cells])).map fun (b,m')=>(.ptr b 0 0,m') else none
 | .build z ps=>q ((ziI z (ps.map fun (a,b,x)=>(a,b,x.get fr))).map .agg)
 | .bslice z n ps=>(zht (List.replicate n z) z.length (ps.map fun (i,x)=>(i,x.get fr))).bind fun els=>(zaE m tgt (.cells true els)).map fun (b,m')=>(.slice b 0 n n true z.length,m')
 | .load k a=>q (zaq m k (a.get fr))
 | .store n a x=>(zbi m n (a.get fr) (x.get fr)).map fun m'=>(undef,m')
 | .bin op x y=>q (bin op (x.get fr) (y.get fr))
 | .eq c x y=>q ((eqV c (x.get fr) (y.get fr)).map .bool)
 | .ne c x y=>q ((eqV c (x.get fr) (y.get fr)).map fun b=> .bool !b)
 | .un op x=>q (un op (x.get fr))
 | .conv k x=>match x.get fr with
  | .int _ n=>some (.int k (k.wrap n),m)
  |_=>none
 | .mkfn f first cap=>some (.fn f (first.map (·.get fr)) (cap.map (·.get fr)),m)
 | .mkslice z bytes l c=>match l.get fr,c.get fr with
  | .int _ l,.int _ c=>if 0<=l/\l<=c/\roomy c.toNat bytes=true then (zaE m tgt (.cells true (List.replicate c.toNat z))).map fun (b,m')=>(.slice b 0 l.toNat c.toNat true z.length,m') else none
  |_,_=>none
 | .slice esz x lo hi mx=>if zOk (x.get fr) esz=true then q (za6 (x.get fr) (lo.map (·.get fr)) (hi.map (·.get fr)) (mx.map (·.get fr))) else none
 | .fieldAddr off x=>match x.get fr with
  | .ptr b i j=>some (.ptr b i (j+off),m)
  |_=>none
 | .field off k x=>match x.get fr with
  | .agg cs=>q (part cs off k)
  |_=>none
 | .indexAddr esz x ix=>match x.get fr,ix.get fr with
  | .slice b i len _ _ z,.int _ n=>if 0<=n/\n<len/\z=esz then some (.ptr b (i+n.toNat) 0,m) else none
  |_,_=>none
 | .indexArr len esz x ix=>match x.get fr,ix.get fr with
  | .ptr b i j,.int _ n=>if 0<=n/\n<len then some (.ptr b i (j+n.toNat*esz),m) else none
  |_,_=>none
 | .extract i x=>match x.get fr with
  | .tup vs=>q vs[i]?
  |_=>none
 | .len x=>match x.get fr with
  | .nils=>some (.int .i64 0,m)
  | .emp=>some (.int .i64 0,m)
  | .slice _ _ len _ _ _=>some (.int .i64 len,m)
  |_=>none
 | .cap x=>match x.get fr with
  | .nils=>some (.int .i64 0,m)
  | .slice _ _ _ cap true _=>some (.int .i64 cap,m)
  |_=>none
 | .appz z bytes x n=>zlc m z bytes (x.get fr) (n.get fr)
 | .mkmap=>some (.mp (some m.length),m++[.mp []])
 | .lookup x k=>q (zqM m (x.get fr) (k.get fr))
 | .lookup2 x k=>q (zqN m (x.get fr) (k.get fr))
 | .mlen x=>q (zvL m (x.get fr))
 | .mapset x k v=>(zqO m (x.get fr) (k.get fr) (v.get fr)).map fun m'=>(undef,m')
 | .append z bytes x y=>zM m z bytes (x.get fr) (y.get fr)
 | .copy z x y=>copyV m z (x.get fr) (y.get fr)
 | .clear z x=>zfM m z (x.get fr)
 | .min x y=>match x.get fr,y.get fr with
  | .int k a,.int _ b=>some (.int k (if b<a then b else a),m)
  |_,_=>none
 | .max x y=>match x.get fr,y.get fr with
  | .int k a,.int _ b=>some (.int k (if b>a then b else a),m)
  |_,_=>none
 | .call _ _=>none
inductive zar where
 |normal
 |exit (id:Nat)
 |ret
 deriving DecidableEq,Inhabited
abbrev zS:=Nat->List V->Mem->Option (V×Mem)
def step (call:zS) (o:AOp) (tgt:Option Nat) (fr:Frame) (m:Mem):Option (V×Mem):=
 match o with
 | .call f args=>match f.get fr with
  | .fn g first cap=>call g (first++(args.map (·.get fr)++cap)) m
  |_=>none
 |o=>zu o tgt fr m
def zQ (g:Option (Nat×Bool)) (fr:Frame):Bool:=
 match g with
 |none=>true
 |some (t,want)=>match fr t with
  | .bool b=>b == want
  |_=>false
def zO (chk:List (Option (Nat×Bool)×Nat×Option Nat×Arg)) (fr:Frame) (m:Mem):Bool:=
 chk.all fun (g,d,k,a)=> !zQ g fr||match zaq m k (a.get fr) with
  |some v=>V.beq v (fr d)
  |none=>false
def zeL (call:zS) (base:Nat) (o:zo) (fr:Frame) (m:Mem):Option (Frame×Mem):=
 if zQ o.g fr then
  match step call o.op (o.res.map (base+ ·)) fr m with
  |some (v,m')=>if zO o.chk fr m' then some (putO fr o.dst v,m') else none
  |none=>none
 else some (putO fr o.dst undef,m)
def zC (call:zS) (base:Nat):List zo->Frame->Mem->Option (Frame×Mem)
 | [],fr,m=>some (fr,m)
 |o::r,fr,m=>match zeL call base o fr m with
  |some (fr',m')=>zC call base r fr' m'
  |none=>none
def iter (f:Frame->Mem->Option (zar×Frame×Mem)):Nat->Frame->Mem->Option (zar×Frame×Mem)
 |0,_,_=>none
 |n+1,fr,m=>match f fr m with
  |some (.normal,fr',m')=>iter f n fr' m'
  |r=>r
def exec (call:zS) (n:Nat):zf->Frame->Mem->Option (zar×Frame×Mem)
 | .skip,fr,m=>some (.normal,fr,m)
 | .region ops,fr,m=>(zC call 0 ops fr m).map fun (fr',m')=>(.normal,fr',m')
 | .draw k ops,fr,m=>(zC call m.length ops fr (m++List.replicate k .dead)).map fun (fr',m')=>(.normal,fr',m')
 | .seq a b,fr,m=>match exec call n a fr m with
  |some (.normal,fr',m')=>exec call n b fr' m'
  |r=>r
 | .cond c a b,fr,m=>match c.get fr with
  | .bool true=>exec call n a fr m
  | .bool false=>exec call n b fr m
  |_=>none
 | .block id c,fr,m=>match exec call n c fr m with
  |some (.exit id',fr',m')=>if id'=id then some (.normal,fr',m') else some (.exit id',fr',m')
  |r=>r
 | .loop c,fr,m=>iter (exec call n c) n fr m
 | .exit id,fr,m=>some (.exit id,fr,m)
 | .ret,fr,m=>some (.ret,fr,m)
def zdf (fr:Frame) (m:Mem):RV->Option V
 | .t i=>some (fr i)
 | .cell a k=>zaq m k (fr a)
def zbn (l:List RV) (fr:Frame) (m:Mem):Option V:=
 (l.mapM (zdf fr m)).map fun vs=>match vs with
  | [v]=>v
  |vs=> .tup vs
def ziJ (args:List V):Frame:=fun i=>args.getD i undef
abbrev Told:=Nat->Option (zS->List V->Mem->Option (V×Mem))
def callN (F:Nat->Option ze) (X:Told):Nat->zS
 |0,_,_,_=>none
 |n+1,f,args,m=>match X f with
  |some t=>t (callN F X n) args m
  |none=>match F f with
   |none=>none
   |some fn=>
    if args.length=fn.nparams then
     match exec (callN F X n) n fn.body (ziJ args) m with
     |some (.normal,fr,m')|some (.ret,fr,m')=>(zbn fn.results fr m').map fun v=>(v,m')
     |_=>none
    else none
end Go.AM
namespace Go.AM
open Go
def cellOf:Value->Option V
 | .bool b=>some (.bool b)
 | .int k n=>some (.int k n)
 | .pointer none=>some .nilp
 | .slice none 0 0=>some .nils
 | .nilFunc=>some .nilf
 | .map none=>some (.mp none)
 |_=>none
def ofV:Value->Option V
 | .agg cs=>(cs.toList.mapM cellOf).map .agg
 | .tuple ⟨[]⟩=>some undef
 |v=>cellOf v
def z8 (N:Nat):Operand->Option Arg
 | .tmp t=>if t<N then some (.t t) else none
 | .const v=>(ofV v).map .c
 | .global _=>none
 | .func f=>some (.c (.fn f [] []))
def zn4 (N:Nat):Option Operand->Option (Option Arg)
 |none=>some none
 |some o=>(z8 N o).map some
section
variable (P:Program)
def zbB (t:TypeId):Option Nat:=(P.info? t).map (·.size)
def zhr (t:TypeId):Option Bool:=(P.underlying t).map fun
 | .struct _| .array _ _=>true
 |_=>false
def zhv (t:TypeId):Option (Option Nat):=
 match zhr P t,zbB P t with
 |some true,some n=>some (some n)
 |some false,some 1=>some none
 |_,_=>none
def zd5 (t:TypeId):Option (List V):=
 match P.info? t with
 |some i=>(i.zero.bind fun z=>z.cells.toList.mapM cellOf).bind fun l=>if l.length=i.size/\0<l.length then some l else none
 |none=>none
def zgz (t:TypeId):Option Nat:=(P.info? t).map (·.bytes)
def zd6 (t:TypeId):Option TypeId:=
 match P.underlying t with
 |some (.slice e)=>some e
 |_=>none
def zeM (g:TypeId->Option (List Bool)) (off:Nat):List Field->Option (List Bool)
 | []=>some []
 |f::r=>match g f.type with
  |some a=>if f.offset=off/\f.name≠ "_" /\zbB P f.type=some a.length then (zeM g (off+a.length) r).map (a++ ·) else none
  |none=>none
def zbT:Nat->TypeId->Option (List Bool)
 |0,_=>none
 |d+1,t=>match P.underlying t with
  |some .bool=>some [true]
  |some (.int _)=>some [false]
  |some (.struct fields)=>if P.stoodInHeld t=false then zeM P (zbT d) 0 fields.toList else none
  |_=>none
def zos (t:TypeId):Option EqC:=
 match P.underlying t with
 |some .bool=>some .bool
 |some (.pointer _)=>some .ptr
 |some (.slice _)=>some .slice
 |some (.func _ _ _)=>some .fn
 |some (.struct _)=>if P.eqGuardType P.depth t=false then (zbT P 8 t).map .flat else none
 |_=>none
def zmp (t:TypeId):Bool:=
 match P.underlying t with
 |some (.map k e)=>(match P.underlying k,(P.info? e).bind (·.zero) with
  |some (.int .u64),some (.int .i64 0)=>true
  |_,_=>false)
 |_=>false
def zxs (t:TypeId):Bool:=match P.underlying t with|some (.int _)=>true|_=>false
def zA (N:Nat) (o:Oper):Option AOp:=
 let A:=z8 N
 match o.op with
 | .move x| .assign x=>(A x).map .mv
 | .pick c a b=>do pure (.pick (<-A c) (<-A a) (<-A b))
 | .alloc e=>(zd5 P e).map .alloc
 | .box _ x=>(A x).map .box
 | .build t ps=>match P.underlying t with
  |some (.struct fields)=>do
   let z <-zd5 P t
   let places <-fields.toList.mapM (fun f=>(P.info? f.type).map fun i=>(f.offset,i.size))
   let l <-ps.toList.mapM fun p=>(places[p.1]?).bind fun q=>(A p.2).map fun a=>(q.1,q.2,a)
   pure (.build z l)
  |some (.array _ e)=>do
   let z <-zd5 P t
   let n <-zbB P e
   let l <-ps.toList.mapM fun p=>(A p.2).map fun a=>(p.1*n,n,a)
   pure (.build z l)
  |_=>none
 | .buildSlice t n ps=>do
  let e <-zd6 P t
  let z <-zd5 P e
  if n*z.length>2^24 then none
  pure (.bslice z n (<-ps.toList.mapM fun p=>(A p.2).map fun a=>(p.1,a)))
 | .load t a=>do pure (.load (<-zhv P t) (<-A a))
 | .store t a x=>do pure (.store (<-zbB P t) (<-A a) (<-A x))
 | .nilCheck x=>(A x).map .nilck
 | .binOp op t x y _=>do
  let x <-A x
  let y <-A y
  if zxs P t then pure (.bin op x y) else
  match op with
  | .eql=>do pure (.eq (<-zos P t) x y)
  | .neq=>do pure (.ne (<-zos P t) x y)
  |_=>none
 | .unOp op _ x=>(A x).map (.un op)
 | .convert src dst x=>match P.underlying src,P.underlying dst with
  |some _,some (.int k)=>(A x).map (.conv k)
  |_,_=>none
 | .makeFunc (.func f) first cap=>do pure (.mkfn f (<-first.toList.mapM A) (<-cap.toList.mapM A))
 | .makeSlice t l c=>do
  let e <-zd6 P t
  let b <-zgz P e
  if b=0 then none
  pure (.mkslice (<-zd5 P e) b (<-A l) (<-A c))
 | .makeMap t none=>if zmp P t then some .mkmap else none
 | .lookup t x k false=>if zmp P t then do pure (.lookup (<-A x) (<-A k)) else none
 | .lookup t x k true=>if zmp P t then do pure (.lookup2 (<-A x) (<-A k)) else none
 | .mapUpdate t x k v=>if zmp P t then do pure (.mapset (<-A x) (<-A k) (<-A v)) else none
 | .slice t x lo hi mx=>do
  let e <-zd6 P t
  let n <-zbB P e
  if mx.isSome&&hi.isNone then none
  pure (.slice n (<-A x) (<-zn4 N lo) (<-zn4 N hi) (<-zn4 N mx))
 | .fieldAddr s x f=>match P.underlying s with
  |some (.struct fields)=>do
   let f <-fields[f]?
   let n <-zbB P f.type
   if n=0 then none
   pure (.fieldAddr f.offset (<-A x))
  |_=>none
 | .field t x f=>match P.underlying t with
  |some (.struct fields)=>do
   let f <-fields[f]?
   pure (.field f.offset (<-zhv P f.type) (<-A x))
  |_=>none
 | .indexAddr t x ix=>match P.underlying t with
  |some (.slice e)=>do pure (.indexAddr (<-zbB P e) (<-A x) (<-A ix))
  |some (.array n e)=>do pure (.indexArr n (<-zbB P e) (<-A x) (<-A ix))
  |_=>none
 | .extract t i=>do pure (.extract i (<-A t))
 | .call { callee:= .builtin b,args,argTypes }=>
  match b,args.toList,argTypes.toList with
  | .len,[x],t::_=>if zmp P t then do pure (.mlen (<-A x)) else do
   let _ <-zd6 P t
   pure (.len (<-A x))
  | .cap,[x],t::_=>do
   let _ <-zd6 P t
   pure (.cap (<-A x))
  | .append,[x,y],[t,u]=>do
   let e <-zd6 P t
   if u≠t then (if zxs P u then (do
    let b <-zgz P e
    if b=0 then none
    pure (.appz (<-zd5 P e) b (<-A x) (<-A y))) else none) else
   let b <-zgz P e
   if b=0 then none
   pure (.append (<-zd5 P e) b (<-A x) (<-A y))
  | .copy,[x,y],t::_=>do
   let e <-zd6 P t
   pure (.copy (<-zbB P e) (<-A x) (<-A y))
  | .clear,[x],t::_=>do
   let e <-zd6 P t
   pure (.clear (<-zd5 P e) (<-A x))
  | .min,[x,y],_=>do pure (.min (<-A x) (<-A y))
  | .max,[x,y],_=>do pure (.max (<-A x) (<-A y))
  |_,_,_=>none
 |_=>none
def zvM:AOp->Bool
 | .call _ _=>true
 |_=>false
def zmq (N:Nat) (o:Oper):Option AOp:=
 match o.op with
 | .call { callee:= .value f,args,.. }=>do pure (.call (<-z8 N f) (<-args.toList.mapM (z8 N)))
 |_=>match zA P N o with
  |some a=>if zvM a then none else some a
  |none=>none
def zot (N:Nat) (d:Option Tmp):Option (Option Nat):=
 match d with
 |none=>some none
 |some t=>if t<N then some (some t) else none
def zmr (N:Nat) (ops:Array Oper) (g:Option (Nat×Bool)):Option (Option (Nat×Bool)):=
 match g with
 |none=>some none
 |some (j,want)=>match (ops[j]?).bind (·.dst) with
  |some t=>if t<N then some (some (t,want)) else none
  |none=>none
def zeN (N:Nat) (ops:Array Oper) (o:Oper):Option zo:=do
 pure { dst:= <-zot N o.dst,g:= <-zmr N ops o.guard,op:= <-zmq P N o,res:=none,chk:=[] }
inductive Cls where
 |pure|load|alloc|eff
 deriving DecidableEq
def zbC:AOp->Cls
 | .alloc _| .box _| .bslice _ _ _| .mkslice _ _ _ _=> .alloc
 | .load _ _=> .load
 | .store _ _ _| .append _ _ _ _| .copy _ _ _| .clear _ _| .call _ _| .appz _ _ _ _| .mkmap| .lookup _ _| .lookup2 _ _| .mlen _| .mapset _ _ _=> .eff
 |_=> .pure
def zjK (o:Oper):List Nat:=(o.after.toList.filter (Region.binds .any ·)).map (·.on)
def before (ops:Array Oper):List Nat:=
 ops.toList.foldl (init:=[]) fun acc o=>acc++[(zjK o).foldl (fun s e=>s ||| 2^e ||| acc.getD e 0) 0]
def ready (bs:List Nat) (done:Nat) (n:Nat):List Nat:=(List.range n).filter fun i=> !done.testBit i&&(bs.getD i 0 &&& done) == bs.getD i 0
def zl5 (bs:List Nat) (cls:List Cls) (n:Nat):Nat->Nat->List Nat->List Nat
 |0,_,acc=>acc.reverse
 |k+1,done,acc=>
  let rd:=ready bs done n
  let first (c:Nat->Bool):=rd.find? c
  match (first fun i=>cls.getD i .pure == .pure||cls.getD i .pure == .load) with
  |some i=>zl5 bs cls n k (done ||| 2^i) (i::acc)
  |none=>match (first fun i=>cls.getD i .pure == .eff) with
   |some i=>zl5 bs cls n k (done ||| 2^i) (i::acc)
   |none=>match rd with
    |i::_=>zl5 bs cls n k (done ||| 2^i) (i::acc)
    | []=>acc.reverse
def canon (bs:List Nat) (cls:List Cls) (n:Nat):List Nat:=zl5 bs cls n n 0 []
def zyU (bs:List Nat) (x y:Nat):Bool:= !((bs.getD x 0).testBit y)&& !((bs.getD y 0).testBit x)
def zsq (a b:Cls):Bool:=
 match a,b with
 | .pure,_|_,.pure| .load,.load| .load,.eff|_,.alloc=>true
 |_,_=>false
def zpE (aops:List zo) (bs:List Nat) (y:Nat):List Nat->List (Option (Nat×Bool)×Nat×Option Nat×Arg)
 | []=>[]
 |x::r=>if zyU bs x y then
   match aops[x]? with
   |some { dst:=some d,g,op:= .load k a,.. }=>(g,d,k,a)::zpE aops bs y r
   |_=>zpE aops bs y r
  else zpE aops bs y r
def layOut (aops:List zo) (bs:List Nat):List Nat->Nat->List Nat->List (Nat×zo)
 |_,_,[]=>[]
 |prev,k,y::r=>
  match aops[y]? with
  |some o=>match zbC o.op with
   | .eff=>(y,{ o with chk:=zpE aops bs y prev })::layOut aops bs (prev++[y]) k r
   | .alloc=>(y,{ o with res:=some k })::layOut aops bs (prev++[y]) (k+1) r
   |_=>(y,o)::layOut aops bs (prev++[y]) k r
  |none=>[]
def Arg.slots:Arg->List Nat
 | .t i=>[i]
 | .c _=>[]
def zjL:Option Arg->List Nat
 |some a=>a.slots
 |none=>[]
def AOp.slots:AOp->List Nat
 | .mv x| .nilck x| .box x| .load _ x| .un _ x| .conv _ x| .fieldAddr _ x| .field _ _ x| .extract _ x| .len x| .cap x| .mlen x| .clear _ x=>x.slots
 | .pick c a b| .mapset c a b=>c.slots++(a.slots++b.slots)
 | .alloc _| .mkmap=>[]
 | .build _ ps=>ps.flatMap fun p=>p.2.2.slots
 | .bslice _ _ ps=>ps.flatMap fun p=>p.2.slots
 | .store _ a x| .bin _ a x| .eq _ a x| .ne _ a x| .mkslice _ _ a x| .indexAddr _ a x| .indexArr _ _ a x| .append _ _ a x| .copy _ a x| .min a x| .max a x| .lookup a x| .lookup2 a x| .appz _ _ a x=>a.slots++x.slots
 | .mkfn _ a b=>a.flatMap Arg.slots++b.flatMap Arg.slots
 | .slice _ x lo hi mx=>x.slots++(zjL lo++(zjL hi++zjL mx))
 | .call f as=>f.slots++as.flatMap Arg.slots
def zpF:Option (Nat×Bool)->List Nat
 |some (t,_)=>[t]
 |none=>[]
def zb8 (l:List (Option (Nat×Bool)×Nat×Option Nat×Arg)):List Nat:=l.flatMap fun (g,d,_,a)=>zpF g++(d::a.slots)
def zo.reads (o:zo):List Nat:=zpF o.g++o.op.slots
def noSlot (d:Option Nat) (l:List Nat):Bool:=
 match d with
 |none=>true
 |some d=> !l.contains d
def zsr (x y:zo):Bool:=noSlot x.dst y.reads&&(noSlot y.dst (x.reads++zb8 x.chk)&&noSlot y.dst x.dst.toList)
def zeO (x y:zo):Bool:=
 match x.op,x.dst with
 | .load k (.t a),some d=>y.chk.any fun (g',d',k',a')=>g' == x.g&&d' == d&&k' == k&&(match a' with| .t b=>b == a|_=>false)
 |_,_=>false
def steady (x y:zo):Bool:=zbC x.op != .load||noSlot y.dst (x.reads++x.dst.toList)
def zms (x y:zo):Bool:=zsq (zbC x.op) (zbC y.op)&&(zsr x y&&(!(zbC x.op == .load&&zbC y.op == .eff)||zeO x y))
def zcG (x y:zo):Bool:=x.res.isNone||x.res != y.res
def zmt (bs:List Nat) (x y:Nat×zo):Bool:=
 ((bs.getD y.1 0).testBit x.1||zms x.2 y.2)&&(steady x.2 y.2&&zcG x.2 y.2)
def zpG (bs:List Nat):List (Nat×zo)->Bool
 | []=>true
 |x::r=>(r.all fun y=>zmt bs x y)&&zpG bs r
def zdT (k:Nat) (x:zo):Bool:=
 (zbC x.op == .eff||x.chk.isEmpty)&&((zbC x.op != .load||noSlot x.dst x.reads)&&(match x.res with|some j=>decide (j<k)&&zbC x.op == .alloc|none=>zbC x.op != .alloc))
def bitsOk (ops:List Oper) (bs:List Nat):Bool:=
 ops.zipIdx.all fun (o,i)=>(List.range ops.length).all fun x=> !(bs.getD i 0).testBit x||(zjK o).any fun e=>e == x||(bs.getD e 0).testBit x
def zl6 (ops:Array Oper):List Nat->List Nat->Bool
 |_,[]=>true
 |prev,y::r=>(match ops[y]? with|some o=>(zjK o).all fun e=>prev.contains e|none=>false)&&zl6 ops (prev++[y]) r
def zpH:List Nat->Bool
 | []=>true
 |x::r=> !r.contains x&&zpH r
def zmu (N:Nat) (ops:Array Oper):Option (Nat×List zo):=do
 let aops <-ops.toList.mapM (zeN P N ops)
 let bs:=before ops
 let order:=canon bs (aops.map fun o=>zbC o.op) ops.size
 let l:=layOut aops bs [] 0 order
 let k:=(l.filter fun x=>zbC x.2.op == .alloc).length
 if ((l.length == ops.size&&(List.range ops.size).all (fun j=>order.contains j))&&zpH order)&&((order.all (· <ops.size)&&(l.map (·.1) == order))&&((zl6 ops [] order&&bitsOk ops.toList bs)&&((zpG bs l&&l.all (fun x=>zdT k x.2))&&l.all (fun x=>(aops[x.1]?).any fun y=>y.dst == x.2.dst&&y.g == x.2.g)))) then pure (k,l.map (·.2)) else none
def zz (N:Nat):Code->Option zf
 | .skip=>some .skip
 | .region _ ops draw=>if draw then (zmu P N ops).map fun (k,l)=> .draw k l else match ops.toList.mapM (zeN P N ops) with
  |some l=>some (.region l)
  |none=>some (.loop .skip)
 | .seq a b=>do pure (.seq (<-zz N a) (<-zz N b))
 | .cond c a b=>do pure (.cond (<-z8 N c) (<-zz N a) (<-zz N b))
 | .block id c=>do pure (.block id (<-zz N c))
 | .loop c=>do pure (.loop (<-zz N c))
 | .exit id=>some (.exit id)
 | .ret=>some .ret
 | .label _=>some .skip
 | .scope c=>zz N c
 |_=>none
def zuG (N:Nat):ResultVar->Option RV
 | .tmp t=>if t<N then some (.t t) else none
 | .cell a t=>if a<N then (zhv P t).map (.cell a) else none
def zf5 (fn:Func):Option ze:=do
 let c <-fn.body
 if fn.name == "runtime.NumGoroutine" then none
 if fn.ntmps<fn.params.size+fn.nfree then none
 pure { nparams:=fn.params.size+fn.nfree,ntmps:=fn.ntmps,body:= <-zz P fn.ntmps c,results:= <-fn.results.toList.mapM (zuG P fn.ntmps) }
end
end Go.AM
