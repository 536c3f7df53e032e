/- An intermediate code with an abstract memory, its meaning, and a translation of the model's functions into it. -/
import Derived.WalkKit
set_option linter.unusedVariables false
set_option linter.unusedSimpArgs false
namespace Go.AM
open Go

inductive V where
  | bool (b : Bool)
  | int (k : IntKind) (n : Int)
  | nilp
  | ptr (b i j : Nat)
  | nils
  /-- an empty slice, not nil, of which no place is known. -/
  | emp
  | slice (b i len cap : Nat) (ex : Bool) (z : Nat)
  | nilf
  | fn (f : Nat) (first cap : List V)
  | agg (cs : List V)
  | tup (vs : List V)
  /-- a map of whole words to whole numbers; none: nil. -/
  | mp (b : Option Nat)
  deriving Inhabited

def undef : V := .tup []
def V.isCell : V → Bool
  | .agg _ | .tup _ => false
  | _ => true
def V.cells : V → List V
  | .agg cs => cs
  | v => [v]

inductive Blk where
  | dead
  | cells (own : Bool) (els : List (List V))
  | mp (es : List (Int × Int))
  deriving Inhabited

abbrev Mem := List Blk
abbrev Frame := Nat → V
def put (fr : Frame) (i : Nat) (v : V) : Frame := fun j => if j = i then v else fr j
def putO (fr : Frame) (d : Option Nat) (v : V) : Frame :=
  match d with
  | some i => put fr i v
  | none => fr

inductive Arg where
  | t (i : Nat)
  | c (v : V)
  deriving Inhabited
def Arg.get (fr : Frame) : Arg → V
  | .t i => fr i
  | .c v => v

inductive EqC where
  | bool | ptr | slice | fn
  | flat (sh : List Bool)
  deriving Inhabited

inductive AOp where
  | mv (x : Arg)
  | nilck (x : Arg)
  | pick (c a b : Arg)
  | alloc (zero : List V)
  | box (x : Arg)
  | build (zero : List V) (parts : List (Nat × Nat × Arg))
  | bslice (zero : List V) (n : Nat) (parts : List (Nat × Arg))
  | load (k : Option Nat) (a : Arg)
  | store (n : Nat) (a x : Arg)
  | bin (op : BinOp) (x y : Arg)
  | eq (c : EqC) (x y : Arg)
  | ne (c : EqC) (x y : Arg)
  | un (op : UnOp) (x : Arg)
  | conv (k : IntKind) (x : Arg)
  | mkfn (f : Nat) (first cap : List Arg)
  | mkslice (zero : List V) (bytes : Nat) (l c : Arg)
  | slice (esz : Nat) (x : Arg) (lo hi mx : Option Arg)
  | fieldAddr (off : Nat) (x : Arg)
  | field (off : Nat) (k : Option Nat) (x : Arg)
  | indexAddr (esz : Nat) (x ix : Arg)
  | indexArr (len esz : Nat) (x ix : Arg)
  | extract (i : Nat) (x : Arg)
  | len (x : Arg)
  | cap (x : Arg)
  /-- onto nil, so many zeros. -/
  | appz (zero : List V) (bytes : Nat) (x n : Arg)
  | mkmap
  | lookup (x k : Arg)
  | mapset (x k v : Arg)
  | append (zero : List V) (bytes : Nat) (x y : Arg)
  | copy (esz : Nat) (x y : Arg)
  | clear (zero : List V) (x : Arg)
  | min (x y : Arg)
  | max (x y : Arg)
  | call (f : Arg) (args : List Arg)
  deriving Inhabited

structure AOper where
  dst : Option Nat
  g : Option (Nat × Bool)
  op : AOp
  res : Option Nat
  chk : List (Option (Nat × Bool) × Nat × Option Nat × Arg)
  deriving Inhabited

inductive ACode where
  | skip
  | region (ops : List AOper)
  | draw (k : Nat) (ops : List AOper)
  | seq (a b : ACode)
  | cond (c : Arg) (thn els : ACode)
  | block (id : Nat) (body : ACode)
  | loop (body : ACode)
  | exit (id : Nat)
  | ret
  deriving Inhabited

inductive RV where
  | t (i : Nat)
  | cell (a : Nat) (k : Option Nat)
  deriving Inhabited

structure AFunc where
  nparams : Nat
  ntmps : Nat
  body : ACode
  results : List RV
  deriving Inhabited

/-! ### values -/
/-- whole numbers (false) and bools (true), cell by cell. -/
def eqL : List Bool → List V → List V → Option Bool
  | [], [], [] => some true
  | true :: sh, .bool a :: xs, .bool b :: ys => (eqL sh xs ys).map fun r => decide (a = b) && r
  | false :: sh, .int k a :: xs, .int k' b :: ys => if k = k' then (eqL sh xs ys).map fun r => decide (a = b) && r else none
  | _, _, _ => none
def eqV (c : EqC) (x y : V) : Option Bool :=
  match c, x, y with
  | .bool, .bool a, .bool b => some (decide (a = b))
  | .ptr, .nilp, .nilp => some true
  | .ptr, .nilp, .ptr _ _ _ => some false
  | .ptr, .ptr _ _ _, .nilp => some false
  | .slice, .nils, .nils => some true
  | .slice, .nils, .slice _ _ _ _ _ _ => some false
  | .slice, .slice _ _ _ _ _ _, .nils => some false
  | .slice, .emp, .nils => some false
  | .fn, .nilf, .nilf => some true
  | .fn, .nilf, .fn _ _ _ => some false
  | .fn, .fn _ _ _, .nilf => some false
  | .flat sh, .agg xs, .agg ys => eqL sh xs ys
  | _, _, _ => none

mutual
def V.beq : V → V → Bool
  | .bool a, .bool b => a == b
  | .int k a, .int k' b => decide (k = k') && decide (a = b)
  | .nilp, .nilp => true
  | .ptr b i j, .ptr b' i' j' => decide (b = b') && decide (i = i') && decide (j = j')
  | .nils, .nils => true
  | .slice b i l c e z, .slice b' i' l' c' e' z' => decide (b = b') && decide (i = i') && decide (l = l') && decide (c = c') && e == e' && decide (z = z')
  | .nilf, .nilf => true
  | .mp a, .mp b => decide (a = b)
  | .fn f a b, .fn f' a' b' => decide (f = f') && V.beqs a a' && V.beqs b b'
  | .agg a, .agg b => V.beqs a b
  | .tup a, .tup b => V.beqs a b
  | _, _ => false
def V.beqs : List V → List V → Bool
  | [], [] => true
  | a :: as, b :: bs => V.beq a b && V.beqs as bs
  | _, _ => false
end

def binI (op : BinOp) (k : IntKind) (a b : Int) : Option V :=
  match op with
  | .add => some (.int k (k.wrap (a + b)))
  | .sub => some (.int k (k.wrap (a - b)))
  | .mul => some (.int k (k.wrap (a * b)))
  | .quo => if b = 0 then none else some (.int k (k.wrap (a.tdiv b)))
  | .rem => if b = 0 then none else some (.int k (a.tmod b))
  | .and => some (.int k (k.wrap (BitVec.ofInt k.bits a &&& BitVec.ofInt k.bits b).toNat))
  | .or => some (.int k (k.wrap (BitVec.ofInt k.bits a ||| BitVec.ofInt k.bits b).toNat))
  | .xor => some (.int k (k.wrap (BitVec.ofInt k.bits a ^^^ BitVec.ofInt k.bits b).toNat))
  | .andNot => some (.int k (k.wrap (BitVec.ofInt k.bits a &&& ~~~BitVec.ofInt k.bits b).toNat))
  | .eql => some (.bool (decide (a = b)))
  | .neq => some (.bool (decide (a ≠ b)))
  | .lss => some (.bool (decide (a < b)))
  | .leq => some (.bool (decide (a ≤ b)))
  | .gtr => some (.bool (decide (b < a)))
  | .geq => some (.bool (decide (b ≤ a)))
  | .shl | .shr => none
def shI (op : BinOp) (k : IntKind) (a b : Int) : Option V :=
  if b < 0 then none else
  match op with
  | .shl => some (.int k (k.wrap (a * 2 ^ (Nat.min b.toNat k.bits))))
  | .shr => some (.int k (a.fdiv (2 ^ (Nat.min b.toNat k.bits))))
  | _ => none
def bin (op : BinOp) (x y : V) : Option V :=
  match op, x, y with
  | .shl, .int k a, .int _ b | .shr, .int k a, .int _ b => shI op k a b
  | _, .int k a, .int k' b => if k = k' then binI op k a b else none
  | _, _, _ => none
def un (op : UnOp) (x : V) : Option V :=
  match op, x with
  | .neg, .int k n => some (.int k (k.wrap (0 - n)))
  | .xor, .int k n => some (.int k (k.wrap (BitVec.ofInt k.bits (if k.signed then -1 else k.max) ^^^ BitVec.ofInt k.bits n).toNat))
  | .not, .bool b => some (.bool !b)
  | _, _ => none

/-! ### memory -/
/-- cells j .. of an element: one, or n of them as an aggregate. -/
def part (el : List V) (j : Nat) (k : Option Nat) : Option V :=
  match k with
  | none => el[j]?
  | some n => if j + n ≤ el.length then some (.agg ((el.drop j).take n)) else none
def loadV (m : Mem) (k : Option Nat) (a : V) : Option V :=
  match a with
  | .ptr b i j =>
    match m[b]? with
    | some (.cells _ els) => (els[i]?).bind fun el => part el j k
    | _ => none
  | _ => none
def splice (el : List V) (j : Nat) (cs : List V) : List V := el.take j ++ (cs ++ el.drop (j + cs.length))
def storeV (m : Mem) (n : Nat) (a x : V) : Option Mem :=
  match a with
  | .ptr b i j =>
    match m[b]? with
    | some (.cells true els) =>
      match els[i]? with
      | some el => if x.cells.length = n ∧ j + n ≤ el.length ∧ x.cells.all V.isCell = true then some (m.set b (.cells true (els.set i (splice el j x.cells)))) else none
      | none => none
    | _ => none
  | _ => none
/-- the elements that a slice shows. -/
def elems (m : Mem) (x : V) : Option (List (List V)) :=
  match x with
  | .nils => some []
  | .slice b i len _ _ _ =>
    match m[b]? with
    | some (.cells _ els) => if i + len ≤ els.length then some ((els.drop i).take len) else none
    | _ => none
  | _ => none
/-- elements i .. of a list are others. -/
def over (els : List (List V)) (i : Nat) (ys : List (List V)) : List (List V) := els.take i ++ (ys ++ els.drop (i + ys.length))
/-- are a slice's elements of so many cells? -/
def zOk (x : V) (z : Nat) : Bool :=
  match x with
  | .slice _ _ _ _ _ z' => decide (z' = z)
  | _ => true
def roomy (n bytes : Nat) : Bool := decide (n * bytes ≤ 140737488355328) && decide (n ≤ 140737488355328)
/-- what is appended; nothing of an empty slice, wherever it is. -/
def elemsY (m : Mem) (y : V) : Option (List (List V)) :=
  match y with
  | .emp => some []
  | y => elems m y
theorem elemsY_of {m : Mem} {y : V} {ys : List (List V)} (h : elems m y = some ys) : elemsY m y = some ys := by
  cases y <;> first | exact h | simp [elems] at h
def appendV (m : Mem) (zero : List V) (bytes : Nat) (x y : V) : Option (V × Mem) :=
  match elemsY m y with
  | none => none
  | some ys =>
    if zOk y zero.length = false then none else
    match x with
    | .nils =>
      if ys.isEmpty then some (.nils, m)
      else if roomy ys.length bytes then some (.slice m.length 0 ys.length ys.length false zero.length, m ++ [.cells true ys]) else none
    | .slice b i len cap ex z =>
      if z ≠ zero.length then none else
      if ys.isEmpty then some (.slice b i len cap ex z, m) else
      match m[b]? with
      | some (.cells own els) =>
        if i + len ≤ els.length then
          if len + ys.length ≤ cap then
            if own ∧ i + len + ys.length ≤ els.length then some (.slice b i (len + ys.length) cap ex z, m.set b (.cells true (over els (i + len) ys))) else none
          else if roomy (len + ys.length) bytes then
            if ex then some (.slice m.length 0 (len + ys.length) (len + ys.length) false z, m ++ [.cells true ((els.drop i).take len ++ ys)])
            else if own ∧ i + len = els.length then some (.slice m.length 0 (len + ys.length) (len + ys.length) false z, m.set b .dead ++ [.cells true (els.drop i ++ ys)])
            else none
          else none
        else none
      | _ => none
    | _ => none
def copyV (m : Mem) (z : Nat) (x y : V) : Option (V × Mem) :=
  match elems m x, elems m y with
  | some xs, some ys =>
    let n := Nat.min ys.length xs.length
    match x with
    | .slice b i _ _ _ _ =>
      if zOk x z = false ∨ zOk y z = false then none else
      match m[b]? with
      | some (.cells true els) => some (.int .i64 n, m.set b (.cells true (over els i (ys.take n))))
      | _ => none
    | _ => some (.int .i64 0, m)
  | _, _ => none
def clearV (m : Mem) (zero : List V) (x : V) : Option (V × Mem) :=
  match x with
  | .nils => some (undef, m)
  | .slice b i len _ _ z =>
    if z ≠ zero.length then none else
    match m[b]? with
    | some (.cells true els) => if i + len ≤ els.length then some (undef, m.set b (.cells true (over els i (List.replicate len zero)))) else none
    | _ => none
  | _ => none
def bound (d : Nat) (top : Nat) (x : Option V) : Option Nat :=
  match x with
  | none => some d
  | some (.int _ n) => if 0 ≤ n ∧ n ≤ top then some n.toNat else none
  | some _ => none
def sliceV (x : V) (lo hi mx : Option V) : Option V :=
  match x with
  | .nils => (bound 0 0 mx).bind fun _ => (bound 0 0 hi).bind fun _ => (bound 0 0 lo).bind fun _ => some .nils
  | .slice b i len cap ex z =>
    (bound cap cap mx).bind fun m => (bound len m hi).bind fun h => (bound 0 h lo).bind fun l =>
    some (.slice b (i + l) (h - l) (m - l) (ex || mx.isSome) z)
  | _ => none
def fillA (cells : List V) : List (Nat × Nat × V) → Option (List V)
  | [] => some cells
  | (off, size, v) :: r => if v.cells.length = size ∧ off + size ≤ cells.length then fillA (splice cells off v.cells) r else none
def fillE (els : List (List V)) (esz : Nat) : List (Nat × V) → Option (List (List V))
  | [] => some els
  | (i, v) :: r => if v.cells.length = esz ∧ i < els.length ∧ v.cells.all V.isCell = true then fillE (els.set i v.cells) esz r else none

def appzV (m : Mem) (zero : List V) (bytes : Nat) (x n : V) : Option (V × Mem) :=
  match x, n with
  | .nils, .int _ n => if 0 < n ∧ roomy n.toNat bytes = true then some (.slice m.length 0 n.toNat n.toNat false zero.length, m ++ [.cells true (List.replicate n.toNat zero)]) else none
  | _, _ => none
def getE (k : Int) : List (Int × Int) → Int
  | [] => 0
  | (a, b) :: r => if k = a then b else getE k r
def setE (k v : Int) : List (Int × Int) → List (Int × Int)
  | [] => [(k, v)]
  | (a, b) :: r => if k = a then (k, v) :: r else (a, b) :: setE k v r
def mpOf (m : Mem) (x : V) : Option (List (Int × Int)) :=
  match x with
  | .mp none => some []
  | .mp (some b) => match m[b]? with
    | some (.mp es) => some es
    | _ => none
  | _ => none
def getV (m : Mem) (x k : V) : Option V :=
  match k with
  | .int .u64 k => (mpOf m x).map fun es => .int .i64 (getE k es)
  | _ => none
def setV (m : Mem) (x k v : V) : Option Mem :=
  match x, k, v with
  | .mp (some b), .int .u64 k, .int .i64 v => match m[b]? with
    | some (.mp es) => some (m.set b (.mp (setE k v es)))
    | _ => none
  | _, _, _ => none

/-- a new block: at the end, or in a place that was kept for it. -/
def newBlk (m : Mem) (tgt : Option Nat) (x : Blk) : Option (Nat × Mem) :=
  match tgt with
  | none => some (m.length, m ++ [x])
  | some id => match m[id]? with
    | some .dead => some (id, m.set id x)
    | _ => none
/-- an operation that calls no function. -/
def prim (o : AOp) (tgt : Option Nat) (fr : Frame) (m : Mem) : Option (V × Mem) :=
  let q (r : Option V) : Option (V × Mem) := r.map fun v => (v, m)
  match o with
  | .mv x => some (x.get fr, m)
  | .nilck x => match x.get fr with
    | .ptr b i j => some (.ptr b i j, m)
    | _ => none
  | .pick c a b => match c.get fr with
    | .bool t => some (if t then a.get fr else b.get fr, m)
    | _ => none
  | .alloc z => (newBlk m tgt (.cells true [z])).map fun (b, m') => (.ptr b 0 0, m')
  | .box x => if (x.get fr).cells.all V.isCell then (newBlk m tgt (.cells true [(x.get fr).cells])).map fun (b, m') => (.ptr b 0 0, m') else none
  | .build z ps => q ((fillA z (ps.map fun (a, b, x) => (a, b, x.get fr))).map .agg)
  | .bslice z n ps => (fillE (List.replicate n z) z.length (ps.map fun (i, x) => (i, x.get fr))).bind fun els => (newBlk m tgt (.cells true els)).map fun (b, m') => (.slice b 0 n n true z.length, m')
  | .load k a => q (loadV m k (a.get fr))
  | .store n a x => (storeV m n (a.get fr) (x.get fr)).map fun m' => (undef, m')
  | .bin op x y => q (bin op (x.get fr) (y.get fr))
  | .eq c x y => q ((eqV c (x.get fr) (y.get fr)).map .bool)
  | .ne c x y => q ((eqV c (x.get fr) (y.get fr)).map fun b => .bool !b)
  | .un op x => q (un op (x.get fr))
  | .conv k x => match x.get fr with
    | .int _ n => some (.int k (k.wrap n), m)
    | _ => none
  | .mkfn f first cap => some (.fn f (first.map (·.get fr)) (cap.map (·.get fr)), m)
  | .mkslice z bytes l c => match l.get fr, c.get fr with
    | .int _ l, .int _ c => if 0 ≤ l ∧ l ≤ c ∧ roomy c.toNat bytes = true then (newBlk m tgt (.cells true (List.replicate c.toNat z))).map fun (b, m') => (.slice b 0 l.toNat c.toNat true z.length, m') else none
    | _, _ => none
  | .slice esz x lo hi mx => if zOk (x.get fr) esz = true then q (sliceV (x.get fr) (lo.map (·.get fr)) (hi.map (·.get fr)) (mx.map (·.get fr))) else none
  | .fieldAddr off x => match x.get fr with
    | .ptr b i j => some (.ptr b i (j + off), m)
    | _ => none
  | .field off k x => match x.get fr with
    | .agg cs => q (part cs off k)
    | _ => none
  | .indexAddr esz x ix => match x.get fr, ix.get fr with
    | .slice b i len _ _ z, .int _ n => if 0 ≤ n ∧ n < len ∧ z = esz then some (.ptr b (i + n.toNat) 0, m) else none
    | _, _ => none
  | .indexArr len esz x ix => match x.get fr, ix.get fr with
    | .ptr b i j, .int _ n => if 0 ≤ n ∧ n < len then some (.ptr b i (j + n.toNat * esz), m) else none
    | _, _ => none
  | .extract i x => match x.get fr with
    | .tup vs => q vs[i]?
    | _ => none
  | .len x => match x.get fr with
    | .nils => some (.int .i64 0, m)
    | .emp => some (.int .i64 0, m)
    | .slice _ _ len _ _ _ => some (.int .i64 len, m)
    | _ => none
  | .cap x => match x.get fr with
    | .nils => some (.int .i64 0, m)
    | .slice _ _ _ cap true _ => some (.int .i64 cap, m)
    | _ => none
  | .appz z bytes x n => appzV m z bytes (x.get fr) (n.get fr)
  | .mkmap => some (.mp (some m.length), m ++ [.mp []])
  | .lookup x k => q (getV m (x.get fr) (k.get fr))
  | .mapset x k v => (setV m (x.get fr) (k.get fr) (v.get fr)).map fun m' => (undef, m')
  | .append z bytes x y => appendV m z bytes (x.get fr) (y.get fr)
  | .copy z x y => copyV m z (x.get fr) (y.get fr)
  | .clear z x => clearV m z (x.get fr)
  | .min x y => match x.get fr, y.get fr with
    | .int k a, .int _ b => some (.int k (if b < a then b else a), m)
    | _, _ => none
  | .max x y => match x.get fr, y.get fr with
    | .int k a, .int _ b => some (.int k (if b > a then b else a), m)
    | _, _ => none
  | .call _ _ => none

/-! ### code -/
inductive AExit where
  | normal
  | exit (id : Nat)
  | ret
  deriving DecidableEq, Inhabited

abbrev CallF := Nat → List V → Mem → Option (V × Mem)

def step (call : CallF) (o : AOp) (tgt : Option Nat) (fr : Frame) (m : Mem) : Option (V × Mem) :=
  match o with
  | .call f args => match f.get fr with
    | .fn g first cap => call g (first ++ (args.map (·.get fr) ++ cap)) m
    | _ => none
  | o => prim o tgt fr m
def wantedA (g : Option (Nat × Bool)) (fr : Frame) : Bool :=
  match g with
  | none => true
  | some (t, want) => match fr t with
    | .bool b => b == want
    | _ => false
def chkOk (chk : List (Option (Nat × Bool) × Nat × Option Nat × Arg)) (fr : Frame) (m : Mem) : Bool :=
  chk.all fun (g, d, k, a) => !wantedA g fr || match loadV m k (a.get fr) with
    | some v => V.beq v (fr d)
    | none => false
/-- one operation; base: where the places begin that the region kept. -/
def run1 (call : CallF) (base : Nat) (o : AOper) (fr : Frame) (m : Mem) : Option (Frame × Mem) :=
  if wantedA o.g fr then
    match step call o.op (o.res.map (base + ·)) fr m with
    | some (v, m') => if chkOk o.chk fr m' then some (putO fr o.dst v, m') else none
    | none => none
  else some (putO fr o.dst undef, m)
def runOps (call : CallF) (base : Nat) : List AOper → Frame → Mem → Option (Frame × Mem)
  | [], fr, m => some (fr, m)
  | o :: r, fr, m => match run1 call base o fr m with
    | some (fr', m') => runOps call base r fr' m'
    | none => none
def iter (f : Frame → Mem → Option (AExit × Frame × Mem)) : Nat → Frame → Mem → Option (AExit × Frame × Mem)
  | 0, _, _ => none
  | n + 1, fr, m => match f fr m with
    | some (.normal, fr', m') => iter f n fr' m'
    | r => r
def exec (call : CallF) (n : Nat) : ACode → Frame → Mem → Option (AExit × Frame × Mem)
  | .skip, fr, m => some (.normal, fr, m)
  | .region ops, fr, m => (runOps call 0 ops fr m).map fun (fr', m') => (.normal, fr', m')
  | .draw k ops, fr, m => (runOps call m.length ops fr (m ++ List.replicate k .dead)).map fun (fr', m') => (.normal, fr', m')
  | .seq a b, fr, m => match exec call n a fr m with
    | some (.normal, fr', m') => exec call n b fr' m'
    | r => r
  | .cond c a b, fr, m => match c.get fr with
    | .bool true => exec call n a fr m
    | .bool false => exec call n b fr m
    | _ => none
  | .block id c, fr, m => match exec call n c fr m with
    | some (.exit id', fr', m') => if id' = id then some (.normal, fr', m') else some (.exit id', fr', m')
    | r => r
  | .loop c, fr, m => iter (exec call n c) n fr m
  | .exit id, fr, m => some (.exit id, fr, m)
  | .ret, fr, m => some (.ret, fr, m)
def results1 (fr : Frame) (m : Mem) : RV → Option V
  | .t i => some (fr i)
  | .cell a k => loadV m k (fr a)
def resultsA (l : List RV) (fr : Frame) (m : Mem) : Option V :=
  (l.mapM (results1 fr m)).map fun vs => match vs with
    | [v] => v
    | vs => .tup vs
def args0 (args : List V) : Frame := fun i => args.getD i undef
/-- functions that are told, not walked: what they do, given what calls do. -/
abbrev Told := Nat → Option (CallF → List V → Mem → Option (V × Mem))
def callN (F : Nat → Option AFunc) (X : Told) : Nat → CallF
  | 0, _, _, _ => none
  | n + 1, f, args, m => match X f with
    | some t => t (callN F X n) args m
    | none => match F f with
      | none => none
      | some fn =>
        if args.length = fn.nparams then
          match exec (callN F X n) n fn.body (args0 args) m with
          | some (.normal, fr, m') | some (.ret, fr, m') => (resultsA fn.results fr m').map fun v => (v, m')
          | _ => none
        else none
end Go.AM
