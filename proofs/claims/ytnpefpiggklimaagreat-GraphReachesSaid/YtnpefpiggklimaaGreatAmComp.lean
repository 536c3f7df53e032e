/- The translation of the model's functions into the intermediate code. -/
import Derived.Test.YtnpefpiggklimaaGreatAmDefs
set_option linter.unusedVariables false
set_option linter.unusedSimpArgs false
namespace Go.AM
open Go

def cellOf : Value → Option V
  | .bool b => some (.bool b)
  | .int k n => some (.int k n)
  | .pointer none => some .nilp
  | .slice none 0 0 => some .nils
  | .nilFunc => some .nilf
  | .map none => some (.mp none)
  | _ => none
def ofV : Value → Option V
  | .agg cs => (cs.toList.mapM cellOf).map .agg
  | .tuple ⟨[]⟩ => some undef
  | v => cellOf v
def argC (N : Nat) : Operand → Option Arg
  | .tmp t => if t < N then some (.t t) else none
  | .const v => (ofV v).map .c
  | .global _ => none
  | .func f => some (.c (.fn f [] []))

def optC (N : Nat) : Option Operand → Option (Option Arg)
  | none => some none
  | some o => (argC N o).map some

section
variable (P : Program)
def sizeT (t : TypeId) : Option Nat := (P.info? t).map (·.size)
def aggT (t : TypeId) : Option Bool := (P.underlying t).map fun
  | .struct _ | .array _ _ => true
  | _ => false
/-- is a variable of the type one cell (none), or an aggregate of n (some n)? -/
def kindT (t : TypeId) : Option (Option Nat) :=
  match aggT P t, sizeT P t with
  | some true, some n => some (some n)
  | some false, some 1 => some none
  | _, _ => none
def zeroT (t : TypeId) : Option (List V) :=
  match P.info? t with
  | some i => (i.zero.bind fun z => z.cells.toList.mapM cellOf).bind fun l => if l.length = i.size ∧ 0 < l.length then some l else none
  | none => none
def bytesT (t : TypeId) : Option Nat := (P.info? t).map (·.bytes)
def elemT (t : TypeId) : Option TypeId :=
  match P.underlying t with
  | some (.slice e) => some e
  | _ => none
/-- '==' of the type is '==' of its cells, whole numbers and bools: which. -/
def flatShapes (g : TypeId → Option (List Bool)) (off : Nat) : List Field → Option (List Bool)
  | [] => some []
  | f :: r => match g f.type with
    | some a => if f.offset = off ∧ f.name ≠ "_" ∧ sizeT P f.type = some a.length then (flatShapes g (off + a.length) r).map (a ++ ·) else none
    | none => none
def flatShape : Nat → TypeId → Option (List Bool)
  | 0, _ => none
  | d + 1, t => match P.underlying t with
    | some .bool => some [true]
    | some (.int _) => some [false]
    | some (.struct fields) => if P.stoodInHeld t = false then flatShapes P (flatShape d) 0 fields.toList else none
    | _ => none
def eqCls (t : TypeId) : Option EqC :=
  match P.underlying t with
  | some .bool => some .bool
  | some (.pointer _) => some .ptr
  | some (.slice _) => some .slice
  | some (.func _ _ _) => some .fn
  | some (.struct _) => if P.eqGuardType P.depth t = false then (flatShape P 8 t).map .flat else none
  | _ => none
/-- a map of whole words to whole numbers? -/
def mapT (t : TypeId) : Bool :=
  match P.underlying t with
  | some (.map k e) => (match P.underlying k, (P.info? e).bind (·.zero) with
    | some (.int .u64), some (.int .i64 0) => true
    | _, _ => false)
  | _ => false
def intT (t : TypeId) : Bool := match P.underlying t with | some (.int _) => true | _ => false

def compPrim (N : Nat) (o : Oper) : Option AOp :=
  let A := argC N
  match o.op with
  | .move x | .assign x => (A x).map .mv
  | .pick c a b => do pure (.pick (← A c) (← A a) (← A b))
  | .alloc e => (zeroT P e).map .alloc
  | .box _ x => (A x).map .box
  | .build t ps => match P.underlying t with
    | some (.struct fields) => do
      let z ← zeroT P t
      let places ← fields.toList.mapM (fun f => (P.info? f.type).map fun i => (f.offset, i.size))
      let l ← ps.toList.mapM fun p => (places[p.1]?).bind fun q => (A p.2).map fun a => (q.1, q.2, a)
      pure (.build z l)
    | some (.array _ e) => do
      let z ← zeroT P t
      let n ← sizeT P e
      let l ← ps.toList.mapM fun p => (A p.2).map fun a => (p.1 * n, n, a)
      pure (.build z l)
    | _ => none
  | .buildSlice t n ps => do
    let e ← elemT P t
    let z ← zeroT P e
    if n * z.length > 2 ^ 24 then none
    pure (.bslice z n (← ps.toList.mapM fun p => (A p.2).map fun a => (p.1, a)))
  | .load t a => do pure (.load (← kindT P t) (← A a))
  | .store t a x => do pure (.store (← sizeT P t) (← A a) (← A x))
  | .nilCheck x => (A x).map .nilck
  | .binOp op t x y _ => do
    let x ← A x
    let y ← A y
    if intT P t then pure (.bin op x y) else
    match op with
    | .eql => do pure (.eq (← eqCls P t) x y)
    | .neq => do pure (.ne (← eqCls P t) x y)
    | _ => none
  | .unOp op _ x => (A x).map (.un op)
  | .convert src dst x => match P.underlying src, P.underlying dst with
    | some _, some (.int k) => (A x).map (.conv k)
    | _, _ => none
  | .makeFunc (.func f) first cap => do pure (.mkfn f (← first.toList.mapM A) (← cap.toList.mapM A))
  | .makeSlice t l c => do
    let e ← elemT P t
    let b ← bytesT P e
    if b = 0 then none
    pure (.mkslice (← zeroT P e) b (← A l) (← A c))
  | .makeMap t none => if mapT P t then some .mkmap else none
  | .lookup t x k false => if mapT P t then do pure (.lookup (← A x) (← A k)) else none
  | .mapUpdate t x k v => if mapT P t then do pure (.mapset (← A x) (← A k) (← A v)) else none
  | .slice t x lo hi mx => do
    let e ← elemT P t
    let n ← sizeT P e
    if mx.isSome && hi.isNone then none
    pure (.slice n (← A x) (← optC N lo) (← optC N hi) (← optC N mx))
  | .fieldAddr s x f => match P.underlying s with
    | some (.struct fields) => do
      let f ← fields[f]?
      let n ← sizeT P f.type
      if n = 0 then none
      pure (.fieldAddr f.offset (← A x))
    | _ => none
  | .field t x f => match P.underlying t with
    | some (.struct fields) => do
      let f ← fields[f]?
      pure (.field f.offset (← kindT P f.type) (← A x))
    | _ => none
  | .indexAddr t x ix => match P.underlying t with
    | some (.slice e) => do pure (.indexAddr (← sizeT P e) (← A x) (← A ix))
    | some (.array n e) => do pure (.indexArr n (← sizeT P e) (← A x) (← A ix))
    | _ => none
  | .extract t i => do pure (.extract i (← A t))
  | .call { callee := .builtin b, args, argTypes } =>
    match b, args.toList, argTypes.toList with
    | .len, [x], t :: _ => do
      let _ ← elemT P t
      pure (.len (← A x))
    | .cap, [x], t :: _ => do
      let _ ← elemT P t
      pure (.cap (← A x))
    | .append, [x, y], [t, u] => do
      let e ← elemT P t
      if u ≠ t then (if intT P u then (do
        let b ← bytesT P e
        if b = 0 then none
        pure (.appz (← zeroT P e) b (← A x) (← A y))) else none) else
      let b ← bytesT P e
      if b = 0 then none
      pure (.append (← zeroT P e) b (← A x) (← A y))
    | .copy, [x, y], t :: _ => do
      let e ← elemT P t
      pure (.copy (← sizeT P e) (← A x) (← A y))
    | .clear, [x], t :: _ => do
      let e ← elemT P t
      pure (.clear (← zeroT P e) (← A x))
    | .min, [x, y], _ => do pure (.min (← A x) (← A y))
    | .max, [x, y], _ => do pure (.max (← A x) (← A y))
    | _, _, _ => none
  | _ => none
def isCall : AOp → Bool
  | .call _ _ => true
  | _ => false
def compOp (N : Nat) (o : Oper) : Option AOp :=
  match o.op with
  | .call { callee := .value f, args, .. } => do pure (.call (← argC N f) (← args.toList.mapM (argC N)))
  | _ => match compPrim P N o with
    | some a => if isCall a then none else some a
    | none => none

def slotC (N : Nat) (d : Option Tmp) : Option (Option Nat) :=
  match d with
  | none => some none
  | some t => if t < N then some (some t) else none
def guardC (N : Nat) (ops : Array Oper) (g : Option (Nat × Bool)) : Option (Option (Nat × Bool)) :=
  match g with
  | none => some none
  | some (j, want) => match (ops[j]?).bind (·.dst) with
    | some t => if t < N then some (some (t, want)) else none
    | none => none
def compOper (N : Nat) (ops : Array Oper) (o : Oper) : Option AOper := do
  pure { dst := ← slotC N o.dst, g := ← guardC N ops o.guard, op := ← compOp P N o, res := none, chk := [] }

/-! ### regions that draw their order -/
inductive Cls where
  | pure | load | alloc | eff
  deriving DecidableEq
def clsOf : AOp → Cls
  | .alloc _ | .box _ | .bslice _ _ _ | .mkslice _ _ _ _ => .alloc
  | .load _ _ => .load
  | .store _ _ _ | .append _ _ _ _ | .copy _ _ _ | .clear _ _ | .call _ _ | .appz _ _ _ _ | .mkmap | .lookup _ _ | .mapset _ _ _ => .eff
  | _ => .pure
def edges (o : Oper) : List Nat := (o.after.toList.filter (Region.binds .any ·)).map (·.on)
/-- of each operation a number whose bits are what goes ahead of it. -/
def before (ops : Array Oper) : List Nat :=
  ops.toList.foldl (init := []) fun acc o => acc ++ [(edges o).foldl (fun s e => s ||| 2 ^ e ||| acc.getD e 0) 0]
def ready (bs : List Nat) (done : Nat) (n : Nat) : List Nat := (List.range n).filter fun i => !done.testBit i && (bs.getD i 0 &&& done) == bs.getD i 0
def canonGo (bs : List Nat) (cls : List Cls) (n : Nat) : Nat → Nat → List Nat → List Nat
  | 0, _, acc => acc.reverse
  | k + 1, done, acc =>
    let rd := ready bs done n
    let first (c : Nat → Bool) := rd.find? c
    match (first fun i => cls.getD i .pure == .pure || cls.getD i .pure == .load) with
    | some i => canonGo bs cls n k (done ||| 2 ^ i) (i :: acc)
    | none => match (first fun i => cls.getD i .pure == .eff) with
      | some i => canonGo bs cls n k (done ||| 2 ^ i) (i :: acc)
      | none => match rd with
        | i :: _ => canonGo bs cls n k (done ||| 2 ^ i) (i :: acc)
        | [] => acc.reverse
def canon (bs : List Nat) (cls : List Cls) (n : Nat) : List Nat := canonGo bs cls n n 0 []
def unord (bs : List Nat) (x y : Nat) : Bool := !((bs.getD x 0).testBit y) && !((bs.getD y 0).testBit x)
/-- may x stand ahead of y in the canonical order, though nothing orders them? -/
def pairOk (a b : Cls) : Bool :=
  match a, b with
  | .pure, _ | _, .pure | .load, .load | .load, .eff | _, .alloc => true
  | _, _ => false
def chkFor (aops : List AOper) (bs : List Nat) (y : Nat) : List Nat → List (Option (Nat × Bool) × Nat × Option Nat × Arg)
  | [] => []
  | x :: r => if unord bs x y then
      match aops[x]? with
      | some { dst := some d, g, op := .load k a, .. } => (g, d, k, a) :: chkFor aops bs y r
      | _ => chkFor aops bs y r
    else chkFor aops bs y r
/-- the operations in that order; what makes a block has a place kept for it (from k on). -/
def layOut (aops : List AOper) (bs : List Nat) : List Nat → Nat → List Nat → List (Nat × AOper)
  | _, _, [] => []
  | prev, k, y :: r =>
    match aops[y]? with
    | some o => match clsOf o.op with
      | .eff => (y, { o with chk := chkFor aops bs y prev }) :: layOut aops bs (prev ++ [y]) k r
      | .alloc => (y, { o with res := some k }) :: layOut aops bs (prev ++ [y]) (k + 1) r
      | _ => (y, o) :: layOut aops bs (prev ++ [y]) k r
    | none => []
def Arg.slots : Arg → List Nat
  | .t i => [i]
  | .c _ => []
def optSlots : Option Arg → List Nat
  | some a => a.slots
  | none => []
def AOp.slots : AOp → List Nat
  | .mv x | .nilck x | .box x | .load _ x | .un _ x | .conv _ x | .fieldAddr _ x | .field _ _ x | .extract _ x | .len x | .cap x | .clear _ x => x.slots
  | .pick c a b | .mapset c a b => c.slots ++ (a.slots ++ b.slots)
  | .alloc _ | .mkmap => []
  | .build _ ps => ps.flatMap fun p => p.2.2.slots
  | .bslice _ _ ps => ps.flatMap fun p => p.2.slots
  | .store _ a x | .bin _ a x | .eq _ a x | .ne _ a x | .mkslice _ _ a x | .indexAddr _ a x | .indexArr _ _ a x | .append _ _ a x | .copy _ a x | .min a x | .max a x | .lookup a x | .appz _ _ a x => a.slots ++ x.slots
  | .mkfn _ a b => a.flatMap Arg.slots ++ b.flatMap Arg.slots
  | .slice _ x lo hi mx => x.slots ++ (optSlots lo ++ (optSlots hi ++ optSlots mx))
  | .call f as => f.slots ++ as.flatMap Arg.slots
def gSlots : Option (Nat × Bool) → List Nat
  | some (t, _) => [t]
  | none => []
def chkSlots (l : List (Option (Nat × Bool) × Nat × Option Nat × Arg)) : List Nat := l.flatMap fun (g, d, _, a) => gSlots g ++ (d :: a.slots)
/-- what it reads, what is checked behind it left out. -/
def AOper.reads (o : AOper) : List Nat := gSlots o.g ++ o.op.slots
def noSlot (d : Option Nat) (l : List Nat) : Bool :=
  match d with
  | none => true
  | some d => !l.contains d
/-- the two have no slot in common that one of them writes. -/
def apartA (x y : AOper) : Bool := noSlot x.dst y.reads && (noSlot y.dst (x.reads ++ chkSlots x.chk) && noSlot y.dst x.dst.toList)
/-- x's load is looked at again behind y. -/
def chkHas (x y : AOper) : Bool :=
  match x.op, x.dst with
  | .load k (.t a), some d => y.chk.any fun (g', d', k', a') => g' == x.g && d' == d && k' == k && (match a' with | .t b => b == a | _ => false)
  | _, _ => false
/-- nothing behind a load writes what it reads, or its own slot. -/
def steady (x y : AOper) : Bool := clsOf x.op != .load || noSlot y.dst (x.reads ++ x.dst.toList)
def indep (x y : AOper) : Bool := pairOk (clsOf x.op) (clsOf y.op) && (apartA x y && (!(clsOf x.op == .load && clsOf y.op == .eff) || chkHas x y))
def resApart (x y : AOper) : Bool := x.res.isNone || x.res != y.res
def pairA (bs : List Nat) (x y : Nat × AOper) : Bool :=
  ((bs.getD y.1 0).testBit x.1 || indep x.2 y.2) && (steady x.2 y.2 && resApart x.2 y.2)
def pairsA (bs : List Nat) : List (Nat × AOper) → Bool
  | [] => true
  | x :: r => (r.all fun y => pairA bs x y) && pairsA bs r
/-- of each by itself. -/
def lonely (k : Nat) (x : AOper) : Bool :=
  (clsOf x.op == .eff || x.chk.isEmpty) && ((clsOf x.op != .load || noSlot x.dst x.reads) && (match x.res with | some j => decide (j < k) && clsOf x.op == .alloc | none => clsOf x.op != .alloc))
/-- each bit is there because of an edge. -/
def bitsOk (ops : List Oper) (bs : List Nat) : Bool :=
  ops.zipIdx.all fun (o, i) => (List.range ops.length).all fun x => !(bs.getD i 0).testBit x || (edges o).any fun e => e == x || (bs.getD e 0).testBit x
/-- what goes ahead of each stands ahead of it. -/
def aheadOk (ops : Array Oper) : List Nat → List Nat → Bool
  | _, [] => true
  | prev, y :: r => (match ops[y]? with | some o => (edges o).all fun e => prev.contains e | none => false) && aheadOk ops (prev ++ [y]) r
def nodupN : List Nat → Bool
  | [] => true
  | x :: r => !r.contains x && nodupN r
def compDraw (N : Nat) (ops : Array Oper) : Option (Nat × List AOper) := do
  let aops ← ops.toList.mapM (compOper P N ops)
  let bs := before ops
  let order := canon bs (aops.map fun o => clsOf o.op) ops.size
  let l := layOut aops bs [] 0 order
  let k := (l.filter fun x => clsOf x.2.op == .alloc).length
  if ((l.length == ops.size && (List.range ops.size).all (fun j => order.contains j)) && nodupN order) && ((order.all (· < ops.size) && (l.map (·.1) == order)) && ((aheadOk ops [] order && bitsOk ops.toList bs) && ((pairsA bs l && l.all (fun x => lonely k x.2)) && l.all (fun x => (aops[x.1]?).any fun y => y.dst == x.2.dst && y.g == x.2.g)))) then pure (k, l.map (·.2)) else none

def compCode (N : Nat) : Code → Option ACode
  | .skip => some .skip
  | .region _ ops draw => if draw then (compDraw P N ops).map fun (k, l) => .draw k l else match ops.toList.mapM (compOper P N ops) with
    | some l => some (.region l)
    | none => some (.loop .skip) -- of what is not covered (a panic) nothing is told
  | .seq a b => do pure (.seq (← compCode N a) (← compCode N b))
  | .cond c a b => do pure (.cond (← argC N c) (← compCode N a) (← compCode N b))
  | .block id c => do pure (.block id (← compCode N c))
  | .loop c => do pure (.loop (← compCode N c))
  | .exit id => some (.exit id)
  | .ret => some .ret
  | _ => none
def resC (N : Nat) : ResultVar → Option RV
  | .tmp t => if t < N then some (.t t) else none
  | .cell a t => if a < N then (kindT P t).map (.cell a) else none
def compFunc (fn : Func) : Option AFunc := do
  let c ← fn.body
  if fn.name == "runtime.NumGoroutine" then none
  if fn.ntmps < fn.params.size + fn.nfree then none
  pure { nparams := fn.params.size + fn.nfree, ntmps := fn.ntmps, body := ← compCode P fn.ntmps c, results := ← fn.results.toList.mapM (resC P fn.ntmps) }
end
end Go.AM
