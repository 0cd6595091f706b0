/- How Go's operations, code and functions are resolved into the engine's. No condition. -/
import Derived.Test.YtkaigfcjejabfaaGreatDoorXR
namespace Go.Proofs.YtkaigfcjejabfaaGreatDoor
open Go
namespace X

def ofScalar : Value → Option AV
  | .bool b => some (.bool b)
  | .int k n => some (.int k n)
  | .string s => some (.str s.data.toList)
  | .pointer none => some .nilptr
  | .slice none 0 0 => some .nilslice
  | .map none => some .nilmap
  | .nilFunc => some .nilfunc
  | .nilIface => some .niliface
  | .func (.func f) ⟨[]⟩ ⟨[]⟩ => some (.func (.func f) [])
  | _ => none

def ofValue : Value → Option AV
  | .agg cs => (cs.toList.mapM ofScalar).map .agg
  | .tuple ⟨[]⟩ => some (.tuple [])
  | v => ofScalar v

section
variable (P : Program) (G : Nat → Option AV)

def compArg : Operand → Option Arg
  | .tmp t => some (.tmp t)
  | .const v => (ofValue v).map .const
  | .global g => (G g).map .const
  | .func f => some (.const (.func (.func f) []))

def compArgO : Option Operand → Option (Option Arg)
  | none => some none
  | some x => (compArg G x).map some

/-- The kinds of a type's cells, where they are numbers, strings and bools, one behind the other. -/
def flatFs (rec : TypeId → Option (List FK)) : List Field → Nat → Option (List FK)
  | [], _ => some []
  | f :: fs, off =>
    if f.name ≠ "_" ∧ f.offset = off then
      (rec f.type).bind fun ks => if (P.info? f.type).map (·.size) = some ks.length then (flatFs rec fs (off + ks.length)).map (ks ++ ·) else none
    else none

def flatK : Nat → TypeId → Option (List FK)
  | 0, _ => none
  | d + 1, t =>
    match P.underlying t with
    | some (.int _) => some [.int]
    | some .string => some [.str]
    | some .bool => some [.bool]
    | some (.struct fs) => if P.stoodInHeld t then none else flatFs P (flatK d) fs.toList 0
    | _ => none

/-- As what values of a type are held against each other. -/
def ekOf (t : TypeId) : EK :=
  match P.underlying t with
  | some (.int _) => .one .int
  | some .string => .one .str
  | some .bool => .one .bool
  | some (.struct _) => if P.eqGuardType P.depth t then .other else match flatK P 8 t with | some fs => .agg fs | none => .other
  | some (.pointer el) => if 0 < P.cellsOf el then .ptr else .other
  | some (.interface _) => .iface
  | some (.slice _) => .slice
  | some (.func _ _ _) => .func
  | some (.map _ _) => .map
  | _ => .other

def isAggT (t : TypeId) : Option (Option Nat) :=
  match P.underlying t, P.info? t with
  | some (.struct _), some i | some (.array _ _), some i => some (some i.size)
  | some _, some _ => some none
  | _, _ => none

def keyOf (t : TypeId) : Option EK :=
  match ekOf P t with
  | .one f => some (.one f)
  | .agg fs => some (.agg fs)
  | _ => none

def compBuiltin (b : Builtin) (argTypes : List TypeId) (args : List Operand) : Option XOp :=
  match b, argTypes, args with
  | .len, [t], [x] =>
    (compArg G x).map (.len (ekOf P t))
  | .append, [t, u], [x, y] =>
    match P.underlying t with
    | some (.slice el) => (P.info? el).bind fun i => i.zero.bind fun z =>
      match P.underlying u with
      | some (.slice _) => if z.cells.size = i.size ∧ 0 < i.bytes ∧ t = u then (compArg G x).bind fun x => (compArg G y).map fun y => .append i.size i.bytes x y else none
      | some .string => if z.cells.size = i.size ∧ 0 < i.bytes ∧ i.size = 1 then (compArg G x).bind fun x => (compArg G y).map fun y => .append i.size i.bytes x y else none
      | _ => none
    | _ => none
  | .copy, [t, _], [x, y] =>
    match P.underlying t with
    | some (.slice el) => (P.info? el).bind fun i => if 0 < i.size then (compArg G x).bind fun x => (compArg G y).map fun y => .copy i.size x y else none
    | _ => none
  | .clear, [t], [x] =>
    match P.underlying t with
    | some (.slice el) => (P.info? el).bind fun i => i.zero.bind fun z => (ofValue z).bind fun v =>
      if v.cells.length = i.size ∧ v.cells.all AV.storable ∧ 0 < i.size then (compArg G x).map (.clear i.size v) else none
    | _ => none
  | .max, _, xs => (xs.mapM (compArg G)).map (.mm true)
  | .min, _, xs => (xs.mapM (compArg G)).map (.mm false)
  | _, _, _ => none

/-- Parts of a literal: where each lies, and what it is. -/
def compParts (pl : Nat → Option (Nat × Nat)) (parts : List (Nat × Operand)) : Option (List (Nat × Nat × Arg)) :=
  parts.mapM fun p => (pl p.1).bind fun q => (compArg G p.2).map fun x => (q.1, q.2, x)

def fieldPlaces (fs : Array Field) (i : Nat) : Option (Nat × Nat) := (fs[i]?).bind fun f => (P.info? f.type).map fun s => (f.offset, s.size)

def compOp (own : Bool) (op : Op) : Option XOp :=
  match op with
  | .move x | .assign x => (compArg G x).map .mov
  | .pick c a b => (compArg G c).bind fun c => (compArg G a).bind fun a => (compArg G b).map fun b => .pick c a b
  | .alloc t => (P.info? t).bind fun i => i.zero.bind fun z => (ofValue z).map fun v => .box i.size (.const v)
  | .box t x => (P.info? t).bind fun i => (compArg G x).map fun x => .box i.size x
  | .build t parts => (P.info? t).bind fun i => i.zero.bind fun z => (ofValue z).bind fun v =>
    match v, P.underlying t with
    | .agg zs, some (.struct fs) =>
      if fs.toList.all fun f => (P.info? f.type).isSome then (compParts G (fieldPlaces P fs) parts.toList).map fun ps => .build zs ps else none
    | .agg zs, some (.array _ el) => (P.info? el).bind fun s => (compParts G (fun i => some (i * s.size, s.size)) parts.toList).map fun ps => .build zs ps
    | _, _ => none
  | .buildSlice t len parts =>
    match P.underlying t with
    | some (.slice el) => (P.info? el).bind fun i => i.zero.bind fun z => (ofValue z).bind fun v =>
      if len * i.size ≤ 16777216 ∧ v.cells.length = i.size ∧ v.cells.all AV.storable ∧ 0 < i.size then
        (parts.toList.mapM fun p => (compArg G p.2).map fun x => (p.1, x)).map fun ps => .lit i.size (List.replicate len v) ps own
      else none
    | _ => none
  | .load t a => (isAggT P t).bind fun n => (compArg G a).map fun a => .load n a
  | .store t a x => (P.info? t).bind fun i => (compArg G a).bind fun a => (compArg G x).map fun x => .store i.size a x
  | .nilCheck x => (compArg G x).map .nilCheck
  | .binOp op t x y _ => (compArg G x).bind fun x => (compArg G y).map fun y => .bin op (ekOf P t) x y
  | .unOp op _ x => (compArg G x).map (.un op)
  | .convert s d x =>
    match P.underlying s, P.underlying d with
    | some (.int _), some (.int k) => (compArg G x).map (.convInt k)
    | _, _ => none
  | .makeInterface t x =>
    match P.underlying t with
    | some (.interface _) | none => none
    | some _ => (compArg G x).map (.mkIface t)
  | .makeFunc fn first cap =>
    match fn, first.toList with
    | .func f, [] => (cap.toList.mapM (compArg G)).map (.mkFunc (.func f))
    | _, _ => none
  | .makeMap _ none => some .mkMap
  | .makeSlice t l c =>
    match P.underlying t with
    | some (.slice el) => (P.info? el).bind fun i => i.zero.bind fun z => (ofValue z).bind fun v =>
      if v.cells.length = i.size ∧ v.cells.all AV.storable ∧ 0 < i.size then (compArg G l).bind fun l => (compArg G c).map fun c => .mkSlice i.size i.bytes v l c else none
    | _ => none
  | .slice t x lo hi none => (compArg G x).bind fun x => (compArgO G lo).bind fun lo => (compArgO G hi).bind fun hi =>
    match P.underlying t with
    | some .string => some (.sliceStr x lo hi)
    | some (.slice el) => (P.info? el).map fun i => .sliceSl i.size x lo hi
    | _ => none
  | .fieldAddr s x k =>
    match P.underlying s with
    | some (.struct fs) => (fs[k]?).bind fun f => (P.info? f.type).bind fun i => if 0 < i.size then (compArg G x).map (.fieldAddr f.offset) else none
    | _ => none
  | .field s x k =>
    match P.underlying s with
    | some (.struct fs) => (fs[k]?).bind fun f => (isAggT P f.type).bind fun n => (compArg G x).map (.field f.offset n)
    | _ => none
  | .indexAddr t x i =>
    match P.underlying t with
    | some (.slice el) => (P.info? el).bind fun j => (compArg G x).bind fun x => (compArg G i).map fun i => .indexAddr j.size x i
    | _ => none
  | .index t x i =>
    match P.underlying t with
    | some .string => (compArg G x).bind fun x => (compArg G i).map fun i => .indexStr x i
    | _ => none
  | .lookup t m k ok =>
    match P.underlying t with
    | some (.map kt el) => (keyOf P kt).bind fun fl => (P.info? el).bind fun i => i.zero.bind fun z => (ofValue z).bind fun v =>
      (compArg G m).bind fun m => (compArg G k).map fun k => .lookup fl v ok m k
    | _ => none
  | .mapUpdate t m k x =>
    match P.underlying t with
    | some (.map kt _) => (keyOf P kt).bind fun fl => (compArg G m).bind fun m => (compArg G k).bind fun k => (compArg G x).map fun x => .mapUpdate fl m k x
    | _ => none
  | .extract x i => (compArg G x).map fun x => .extract x i
  | .call c =>
    match c.callee with
    | .builtin b => compBuiltin P G b c.argTypes.toList c.args.toList
    | .value f => (compArg G f).bind fun f => (c.args.toList.mapM (compArg G)).map fun as => if own then .pcall f as else .call f as
    | .invoke _ _ => none
  | _ => none

/-- An operation; a guard is told by the register that it looks at. -/
def compOper (own : Bool) (ops : Array Oper) (o : Oper) : Option XOper :=
  match o.guard with
  | none => some { dst := o.dst, guard := none, op := (compOp P G own o.op).getD .fail }
  | some (j, want) => ((ops[j]?).bind (·.dst)).map fun t => { dst := o.dst, guard := some (t, want), op := (compOp P G own o.op).getD .fail }

/-! ### regions that draw their order -/

inductive Class where
  | none | look | read | make | mapWrite | write
  deriving DecidableEq

def XOp.class (X : Prog) : XOp → Class
  | .mov _ | .pick .. | .build .. | .lit _ _ _ false | .nilCheck _ | .un .. | .convInt .. | .same _ | .mkIface .. | .mkFunc .. | .sliceStr .. | .fieldAddr .. | .field .. | .indexStr ..
  | .mm .. | .extract .. => .none
  | .bin _ ek _ _ => if ek = .ptr then .read else .none
  | .len ek _ => if ek = .map then .read else .none
  | .load .. | .indexAddr .. | .sliceSl .. => .look
  | .lookup .. | .pcall .. => .read
  | .box .. | .lit _ _ _ true | .mkMap | .mkSlice .. => .make
  | .mapUpdate .. => .mapWrite
  | .call (.const (.func (.func f) _)) _ => match X.mode f with | .pure => .read | .fresh => .make | _ => .write
  | _ => .write

def XOp.args : XOp → List Arg
  | .mov x | .same x | .box _ x | .load _ x | .clear _ _ x | .nilCheck x | .un _ x | .convInt _ x | .mkIface _ x | .fieldAddr _ x | .field _ _ x | .len _ x | .extract x _ => [x]
  | .pick c a b => [c, a, b]
  | .build _ ps => ps.map (·.2.2)
  | .lit _ _ ps _ => ps.map (·.2)
  | .store _ a x => [a, x]
  | .bin _ _ x y | .indexAddr _ x y | .indexStr x y | .append _ _ x y | .copy _ x y | .lookup _ _ _ x y | .mkSlice _ _ _ x y => [x, y]
  | .mkFunc _ cap => cap
  | .mkMap | .fail => []
  | .sliceStr x lo hi | .sliceSl _ x lo hi => x :: (lo.toList ++ hi.toList)
  | .mapUpdate _ m k x => [m, k, x]
  | .mm _ xs => xs
  | .call f as | .pcall f as => f :: as

def Arg.tmps : Arg → List Nat
  | .tmp t => [t]
  | .const _ => []

/-- The registers that an operation looks at. -/
def XOper.looks (o : XOper) : List Nat := (o.op.args.flatMap Arg.tmps) ++ (match o.guard with | some (t, _) => [t] | none => [])

def apart (x y : XOper) : Bool :=
  (match x.dst with | some d => !y.looks.contains d && y.dst != some d | none => true) && (match y.dst with | some d => !x.looks.contains d | none => true)

/-- May 'y' be carried out ahead of 'x', that stands before it? -/
def flips (X : Prog) (x y : XOper) : Bool :=
  apart x y && match x.op.class X, y.op.class X with
    | .none, _ | _, .none => true
    | .read, .read | .read, .make | .look, .look | .look, .read | .read, .look | .look, .make => true
    | .look, .mapWrite | .mapWrite, .look => true
    | _, _ => false

/-- All that must come before, of the edges that bind in any mode. -/
def befores (ops : List Oper) : List (List Nat) :=
  ops.foldl (fun acc o => acc ++ [(o.after.toList.filter (Region.binds .any)).flatMap fun e => e.on :: acc.getD e.on []]) []

/-- What an operation looks into or writes. -/
def XOp.addr : XOp → Option Arg
  | .load _ a | .store _ a _ => some a
  | .indexAddr _ x _ | .sliceSl _ x _ _ | .append _ _ x _ => some x
  | _ => none

def XOp.writes : XOp → Bool
  | .store .. | .append .. => true
  | _ => false

/-- 'y' may be carried out ahead of 'x' where they have to do with different blocks. -/
def dyn (X : Prog) (x y : XOper) : Option (Arg × Arg) :=
  if apart x y && decide (x.op.class X = .look) && y.op.writes then x.op.addr.bind fun a => y.op.addr.map fun b => (a, b) else none

def pairChk (X : Prog) (bs : List (List Nat)) (p q : Nat × XOper) : Option (List (Arg × Arg)) :=
  if (bs.getD q.1 []).contains p.1 || flips X p.2 q.2 then some [] else (dyn X p.2 q.2).map fun c => [c]

def pairsChk (X : Prog) (bs : List (List Nat)) : List (Nat × XOper) → Option (List (Arg × Arg))
  | [] => some []
  | p :: rest => (rest.mapM (pairChk X bs p)).bind fun l => (pairsChk X bs rest).map fun m => l.flatten ++ m

/-- No address is overwritten from its use on. -/
def stable : List XOper → Bool
  | [] => true
  | x :: rest => (match x.op.addr with | some a => a.tmps.all fun t => (x :: rest).all fun o => o.dst != some t | none => true) && stable rest

def distinct : List Nat → Bool
  | [] => true
  | x :: xs => !xs.any (Nat.beq x) && distinct xs

/-- What binds an operation stands before it. -/
def backOk (ops : Array Oper) : Bool := (List.range ops.size).all fun i =>
  match ops[i]? with
  | some o => o.after.all fun d => !Region.binds .any d || Nat.blt d.on i
  | none => true

structure Hints where
  own : Nat → Nat → Bool
  order : Nat → Option (List Nat)
  keep : Nat → Option (List Nat)
  loop : Nat → Option (List Nat)

def compRegion (X : Prog) (h : Hints) (id : Nat) (ops : Array Oper) (draw : Bool) : Option XCode :=
  let order := (h.order id).getD (List.range ops.size)
  if !draw then ((List.range ops.size).mapM fun i => (ops[i]?).bind (compOper P G (h.own id i) ops)).map fun xs => .region xs []
  else (order.mapM fun i => ((ops[i]?).bind (compOper P G (h.own id i) ops)).map fun x => (i, x)).bind fun xs =>
    if distinct order ∧ order.length = ops.size ∧ (List.range ops.size).all (fun i => order.contains i) ∧ backOk ops then
      (pairsChk X (befores ops.toList) xs).bind fun chk => if chk.isEmpty || stable (xs.map (·.2)) then some (.region (xs.map (·.2)) chk) else none
    else none

def kept (k : Option (List Nat)) (c : XCode) : XCode :=
  match k with
  | none => c
  | some l => .seq c (.keep l)

def compCode (X : Prog) (h : Hints) (blk : Nat) : Code → Option XCode
  | .skip => some .skip
  | .region id ops draw => (compRegion P G X h id ops draw).map (kept (h.keep id))
  | .seq a b => (compCode X h blk a).bind fun a => (compCode X h blk b).map fun b => .seq a b
  | .cond c a b => (compArg G c).bind fun c => (compCode X h blk a).bind fun a => (compCode X h blk b).map fun b => .cond c a b
  | .block id b => (compCode X h id b).map (.block id)
  | .loop b => (compCode X h blk b).map fun b =>
    match h.loop blk with
    | none => .loop b
    | some l => .seq (.keep l) (.loop (.seq b (.keep l)))
  | .exit id => some (.exit id)
  | .ret => some .ret
  | _ => some .fail

/-- Registers that an operation writes and looks at as a guard lie in the frame. -/
def operFits (n : Nat) (ops : Array Oper) (o : Oper) : Bool :=
  (match o.dst with | some t => decide (t < n) | none => true) && (match o.guard with | some (j, _) => (match (ops[j]?).bind (·.dst) with | some t => decide (t < n) | none => true) | none => true)

/-- Registers lie in the frame. -/
def codeFits (n : Nat) : Code → Bool
  | .region _ ops _ => ops.toList.all (operFits n ops)
  | .seq a b | .cond _ a b => codeFits n a && codeFits n b
  | .block _ b | .loop b => codeFits n b
  | _ => true

def compResult : ResultVar → Option XRes
  | .tmp t => some (.tmp t)
  | .cell a t => (isAggT P t).map fun n => .cell a n

def compFunc (X : Prog) (h : Hints) (f : Nat) : Option XFunc :=
  (P.funcs[f]?).bind fun fn => fn.body.bind fun c =>
    (compCode P G X h 0 c).bind fun code =>
    (fn.results.toList.mapM (compResult P)).bind fun rs =>
    if (fn.name == "runtime.NumGoroutine") = false ∧ codeFits fn.ntmps c ∧ fn.params.size + fn.nfree ≤ fn.ntmps then some { nparams := fn.params.size + fn.nfree, results := rs, code } else none
end

end X
end Go.Proofs.YtkaigfcjejabfaaGreatDoor
