/- The engine's core: abstract values, a small heap, resolved operations and their deterministic semantics; how Go's operations are resolved. No condition. -/
import Derived.Orders
namespace Go.Proofs.YtkaigfcjejabfaaGreatDoor
open Go
namespace X

/-- Abstract values. 'ptr', 'slice', 'map', 'iter' refer to the engine's own heap; 'vptr', 'vslice', 'vmap' are what can no longer change, written out. -/
inductive AV where
  | undef
  | bool (b : Bool)
  | int (k : IntKind) (n : Int)
  | str (s : List UInt8)
  | nilptr | nilslice | nilmap | nilfunc | niliface
  | ptr (b i off : Nat)
  | slice (b off len : Nat)
  | map (b : Nat)
  | iter (b : Nat)
  | vptr (cs : List AV)
  | vslice (es : List AV)
  | vmap (ks vs : List AV)
  | func (fn : Fn) (cap : List AV)
  | iface (t : Nat) (v : AV)
  | agg (cs : List AV)
  | tuple (vs : List AV)
  deriving Inhabited

def AV.cells : AV → List AV
  | .agg cs => cs
  | v => [v]

/-- Blocks of the engine's heap: elements of 'sz' cells each; a map, in the order of insertion; what may not be looked at any more. -/
inductive Blk where
  | arr (sz : Nat) (es : List AV)
  | map (ks vs : List AV)
  | dead
  deriving Inhabited

abbrev Heap := List Blk
abbrev Env := Nat → AV

def Env.set (e : Env) (t : Nat) (v : AV) : Env := fun x => if Nat.beq x t then v else e x

inductive Arg where
  | tmp (t : Nat)
  | const (v : AV)
  deriving Inhabited

def Arg.ev (e : Env) : Arg → AV
  | .tmp t => e t
  | .const v => v

/-- Kinds of flat cells: numbers, strings, bools. -/
inductive FK where
  | int | str | bool
  deriving DecidableEq, Inhabited

/-- What two values are held against each other as. -/
inductive EK where
  | one (f : FK)
  | agg (fs : List FK)
  | ptr | iface | slice | func | map | other
  deriving DecidableEq, Inhabited

inductive Mode where
  | pure | shared | cut | fresh
  deriving DecidableEq, Inhabited

inductive XOp where
  | mov (x : Arg)
  | pick (c a b : Arg)
  | box (sz : Nat) (x : Arg)
  | build (zero : List AV) (parts : List (Nat × Nat × Arg))
  | lit (sz : Nat) (zero : List AV) (parts : List (Nat × Arg)) (own : Bool)
  | load (n : Option Nat) (a : Arg)
  | store (n : Nat) (a x : Arg)
  | nilCheck (x : Arg)
  | bin (op : BinOp) (ek : EK) (x y : Arg)
  | un (op : UnOp) (x : Arg)
  | convInt (k : IntKind) (x : Arg)
  | same (x : Arg)
  | mkIface (t : Nat) (x : Arg)
  | mkFunc (fn : Fn) (cap : List Arg)
  | mkMap
  | mkSlice (sz bytes : Nat) (zero : AV) (len cap : Arg)
  | sliceStr (x : Arg) (lo hi : Option Arg)
  | sliceSl (sz : Nat) (x : Arg) (lo hi : Option Arg)
  | fieldAddr (off : Nat) (x : Arg)
  | field (off : Nat) (n : Option Nat) (x : Arg)
  | indexAddr (sz : Nat) (x i : Arg)
  | indexStr (x i : Arg)
  | lookup (ek : EK) (zero : AV) (ok : Bool) (m k : Arg)
  | mapUpdate (ek : EK) (m k x : Arg)
  | len (ek : EK) (x : Arg)
  | append (sz bytes : Nat) (x y : Arg)
  | copy (sz : Nat) (x y : Arg)
  | clear (sz : Nat) (zero : AV) (x : Arg)
  | mm (max : Bool) (xs : List Arg)
  | extract (x : Arg) (i : Nat)
  | call (f : Arg) (args : List Arg)
  | pcall (f : Arg) (args : List Arg)
  | fail
  deriving Inhabited

structure XOper where
  dst : Option Nat
  guard : Option (Nat × Bool)
  op : XOp
  deriving Inhabited

inductive XCode where
  | skip
  | region (ops : List XOper) (apart : List (Arg × Arg))
  | seq (a b : XCode)
  | cond (c : Arg) (a b : XCode)
  | block (id : Nat) (b : XCode)
  | loop (b : XCode)
  | keep (l : List Nat)
  | exit (id : Nat)
  | ret
  | fail
  deriving Inhabited

/-- A function's result: a register, or what a variable holds in the end. -/
inductive XRes where
  | tmp (t : Nat)
  | cell (t : Nat) (n : Option Nat)
  deriving Inhabited

structure XFunc where
  nparams : Nat
  results : List XRes
  code : XCode
  deriving Inhabited

/-- What an engine runs: its functions, how each is called, and functions whose answers are known from elsewhere. -/
structure Prog where
  fn : Nat → Option XFunc
  mode : Nat → Mode
  prim : Nat → List AV → Option AV

/-! ### helpers on values -/

/-- A value that can stand in one cell. -/
def AV.storable : AV → Bool
  | .agg _ | .tuple _ | .undef => false
  | _ => true

def AV.setCells (e : AV) (off : Nat) (cs : List AV) : AV :=
  match e, cs with
  | .agg ds, cs => .agg (ds.take off ++ cs ++ ds.drop (off + cs.length))
  | _, [c] => c
  | e, _ => e

def intBin (op : BinOp) (k : IntKind) (a b : Int) : Option AV :=
  match op with
  | .add => some (.int k (k.wrap (a + b)))
  | .sub => some (.int k (k.wrap (a - b)))
  | .mul => some (.int k (k.wrap (a * b)))
  | .quo => if b = 0 then none else some (.int k (k.wrap (a.tdiv b)))
  | .rem => if b = 0 then none else some (.int k (a.tmod b))
  | .and => some (.int k (k.wrap (BitVec.ofInt k.bits a &&& BitVec.ofInt k.bits b).toNat))
  | .or => some (.int k (k.wrap (BitVec.ofInt k.bits a ||| BitVec.ofInt k.bits b).toNat))
  | .xor => some (.int k (k.wrap (BitVec.ofInt k.bits a ^^^ BitVec.ofInt k.bits b).toNat))
  | .andNot => some (.int k (k.wrap (BitVec.ofInt k.bits a &&& ~~~BitVec.ofInt k.bits b).toNat))
  | .eql => some (.bool (a == b))
  | .neq => some (.bool (a != b))
  | .lss => some (.bool (decide (a < b)))
  | .leq => some (.bool (decide (a ≤ b)))
  | .gtr => some (.bool (decide (a > b)))
  | .geq => some (.bool (decide (a ≥ b)))
  | .shl | .shr => none

def intShift (op : BinOp) (k : IntKind) (a b : Int) : Option AV :=
  if b < 0 then none else
  match op with
  | .shl => some (.int k (k.wrap (a * 2 ^ (min b.toNat k.bits))))
  | .shr => some (.int k (a.fdiv (2 ^ (min b.toNat k.bits))))
  | _ => none

def strBin (op : BinOp) (s t : List UInt8) : Option AV :=
  match op with
  | .add => if s.length + t.length ≤ 9223372036854775807 then some (.str (s ++ t)) else none
  | .eql => some (.bool (s == t))
  | .neq => some (.bool (!(s == t)))
  | .lss => some (.bool (Op.bytesLess s t))
  | .leq => some (.bool (Op.bytesLess s t || s == t))
  | .gtr => some (.bool (!(Op.bytesLess s t || s == t)))
  | .geq => some (.bool (!Op.bytesLess s t))
  | _ => none

def eqCell : FK → AV → AV → Option Bool
  | .int, .int j a, .int k b => if j = k then some (a == b) else none
  | .str, .str s, .str t => some (s == t)
  | .bool, .bool a, .bool b => some (a == b)
  | _, _, _ => none

def eqCells : List FK → List AV → List AV → Option Bool
  | [], [], [] => some true
  | f :: fs, a :: as, b :: bs => (eqCell f a b).bind fun x => (eqCells fs as bs).bind fun y => some (x && y)
  | _, _, _ => none

/-- Keys held against each other. -/
def eqKey (k : EK) (a b : AV) : Option Bool :=
  match k, a, b with
  | .one f, a, b => eqCell f a b
  | .agg fs, .agg cs, .agg ds => eqCells fs cs ds
  | _, _, _ => none

def Heap.live (H : Heap) (b : Nat) : Bool :=
  match H[b]? with
  | some (.arr _ _) => true
  | _ => false

/-- '==' where it is no number and no string. -/
def eqAV (H : Heap) (k : EK) (x y : AV) : Option Bool :=
  match k with
  | .one .bool => eqCell .bool x y
  | .agg fs =>
    match x, y with
    | .agg cs, .agg ds => eqCells fs cs ds
    | _, _ => none
  | .ptr =>
    match x, y with
    | .nilptr, .nilptr => some true
    | .nilptr, .ptr .. | .ptr .., .nilptr | .nilptr, .vptr _ | .vptr _, .nilptr => some false
    | .ptr b i o, .ptr b' i' o' =>
      if b = b' ∧ i = i' ∧ o = o' then some true
      else if b ≠ b' ∧ i = 0 ∧ i' = 0 ∧ o = 0 ∧ o' = 0 ∧ H.live b ∧ H.live b' then some false else none
    | _, _ => none
  | .iface =>
    match x, y with
    | .niliface, .iface .. | .iface .., .niliface => some false
    | _, _ => none
  | .slice =>
    match x, y with
    | .nilslice, .nilslice => some true
    | .nilslice, .slice .. | .slice .., .nilslice => some false
    | .nilslice, .vslice (_ :: _) | .vslice (_ :: _), .nilslice => some false
    | _, _ => none
  | .func =>
    match x, y with
    | .nilfunc, .nilfunc => some true
    | .nilfunc, .func .. | .func .., .nilfunc => some false
    | _, _ => none
  | _ => none

def binAV (H : Heap) (op : BinOp) (ek : EK) (x y : AV) : Option AV :=
  match x, y with
  | .int k a, .int k' b =>
    match op with
    | .shl | .shr => intShift op k a b
    | _ => if k = k' then intBin op k a b else none
  | .str s, .str t => strBin op s t
  | x, y =>
    match op with
    | .eql => (eqAV H ek x y).map .bool
    | .neq => (eqAV H ek x y).map fun b => .bool (!b)
    | _ => none

def unAV (op : UnOp) (x : AV) : Option AV :=
  match op, x with
  | .neg, .int k n => some (.int k (k.wrap (0 - n)))
  | .not, .bool b => some (.bool !b)
  | _, _ => none

/-- Has a key the form of its kind? -/
def keyOk (k : EK) (v : AV) : Bool :=
  match k, v with
  | .one _, _ => true
  | .agg fs, .agg cs => cs.length == fs.length
  | _, _ => false

/-- Looks a key up: the values beside keys. -/
def find (ek : EK) (k : AV) : List AV → List AV → Option (Option AV)
  | [], [] => some none
  | j :: ks, v :: vs =>
    match eqKey ek k j with
    | some true => some (some v)
    | some false => find ek k ks vs
    | none => none
  | _, _ => none

/-- The value of a key is set: in its place, or behind all others. -/
def setKey (ek : EK) (k x : AV) : List AV → List AV → Option (List AV × List AV)
  | [], [] => some ([k], [x])
  | j :: ks, v :: vs =>
    match eqKey ek k j with
    | some true => some (k :: ks, x :: vs)
    | some false => (setKey ek k x ks vs).map fun p => (j :: p.1, v :: p.2)
    | none => none
  | _, _ => none

def natArg (n : Int) : Option Nat := if 0 ≤ n then some n.toNat else none

def AV.asNat : AV → Option Nat
  | .int _ n => natArg n
  | _ => none

def AV.asInt : AV → Option Int
  | .int _ n => some n
  | _ => none

/-- The elements of a slice (of a string: its bytes). -/
def elems (H : Heap) : AV → Option (List AV)
  | .nilslice => some []
  | .vslice es => some es
  | .slice b off len =>
    match H[b]? with
    | some (.arr _ es) => if off + len ≤ es.length then some ((es.drop off).take len) else none
    | _ => none
  | .str s => some (s.map fun c => .int .u8 c.toNat)
  | _ => none

def allSz (sz : Nat) (es : List AV) : Bool := es.all fun e => e.cells.length == sz && e.cells.all AV.storable

/-- 'append': onto nothing, in place where the block is longer, or else into a block of its own: the old one is dead then. -/
def appendAV (H : Heap) (sz bytes : Nat) (x : AV) (ys : List AV) : Option (AV × Heap) :=
  if !allSz sz ys then none else
  match x with
  | .nilslice => if ys.length = 0 then some (x, H) else if ys.length * bytes ≤ 140737488355328 ∧ 0 < bytes then some (.slice H.length 0 ys.length, H ++ [.arr sz ys]) else none
  | .slice b off len =>
    if ys.length = 0 then some (x, H) else
    match H[b]? with
    | some (.arr sz' es) =>
      if sz' ≠ sz then none
      else if off + len = es.length then
        if (len + ys.length) * bytes ≤ 140737488355328 ∧ 0 < bytes then some (.slice H.length 0 (len + ys.length), H.set b .dead ++ [.arr sz (es.drop off ++ ys)]) else none
      else if off + len + ys.length ≤ es.length then
        some (.slice b off (len + ys.length), H.set b (.arr sz (es.take (off + len) ++ ys ++ es.drop (off + len + ys.length))))
      else none
    | _ => none
  | _ => none

/-- A part of an aggregate put in. -/
def fillAV : List AV → List (Nat × Nat × AV) → Option (List AV)
  | cs, [] => some cs
  | cs, (off, n, v) :: rest =>
    if v.cells.length = n ∧ v.cells.all AV.storable ∧ off + n ≤ cs.length then fillAV (cs.take off ++ v.cells ++ cs.drop (off + n)) rest else none

/-- Elements of a literal put in. -/
def fillLit (sz : Nat) : List AV → List (Nat × AV) → Option (List AV)
  | es, [] => some es
  | es, (i, v) :: rest => if v.cells.length = sz ∧ v.cells.all AV.storable ∧ i < es.length then fillLit sz (es.set i v) rest else none

/-- One cell, or an aggregate of so many. -/
def pickAV (n : Option Nat) (cs : List AV) (off : Nat) : Option AV :=
  match n with
  | none => cs[off]?
  | some n => if off + n ≤ cs.length then some (.agg ((cs.drop off).take n)) else none

def loadAV (H : Heap) (n : Option Nat) (a : AV) : Option AV :=
  match a with
  | .ptr b i off =>
    match H[b]? with
    | some (.arr _ es) => (es[i]?).bind fun e => pickAV n e.cells off
    | _ => none
  | .vptr cs => pickAV n cs 0
  | _ => none

def storeAV (H : Heap) (n : Nat) (a x : AV) : Option Heap :=
  match a with
  | .ptr b i off =>
    match H[b]? with
    | some (.arr sz es) =>
      (es[i]?).bind fun e =>
        if x.cells.length = n ∧ x.cells.all AV.storable ∧ off + n ≤ e.cells.length ∧ e.cells.length = sz then
          some (H.set b (.arr sz (es.set i (e.setCells off x.cells))))
        else none
    | _ => none
  | _ => none

def sliceAV (H : Heap) (sz : Nat) (x : AV) (lo hi : Option Nat) : Option AV :=
  match x with
  | .nilslice => if lo.getD 0 = 0 ∧ hi.getD 0 = 0 then some .nilslice else none
  | .vslice es =>
    let h := hi.getD es.length
    let l := lo.getD 0
    if l ≤ h ∧ h ≤ es.length ∧ (l = 0 ∨ (es.all fun e => e.cells.length == sz) = true) then some (.vslice ((es.take h).drop l)) else none
  | .slice b off len =>
    match H[b]? with
    | some (.arr sz' es) =>
      let h := hi.getD len
      let l := lo.getD 0
      if l ≤ h ∧ off + h ≤ es.length ∧ sz' = sz then
        if off + l < es.length ∨ l = 0 then some (.slice b (off + l) (h - l)) else some (.vslice [])
      else none
    | _ => none
  | _ => none

def idx (n : Int) (len : Nat) : Option Nat := if 0 ≤ n ∧ n < len then some n.toNat else none

def indexAddrAV (H : Heap) (sz : Nat) (x : AV) (n : Int) : Option AV :=
  match x with
  | .vslice es => (idx n es.length).bind fun i => (es[i]?).bind fun e => if e.cells.length = sz then some (.vptr e.cells) else none
  | .slice b off len => (idx n len).bind fun i =>
    match H[b]? with
    | some (.arr sz' _) => if sz' = sz then some (.ptr b (off + i) 0) else none
    | _ => none
  | _ => none

/-! ### snapshots -/

/-- How deep snapshots and looks for references go. -/
def deep : Nat := 12

/-- A value with all that it refers to in the heap written out. -/
def snap (H : Heap) : Nat → AV → Option AV
  | 0, _ => none
  | k + 1, v =>
    match v with
    | .nilslice => some (.vslice [])
    | .slice b off len =>
      match H[b]? with
      | some (.arr _ es) => if off + len ≤ es.length then (((es.drop off).take len).mapM (snap H k)).map .vslice else none
      | _ => none
    | .ptr b i off =>
      match H[b]? with
      | some (.arr _ es) => (es[i]?).bind fun e => ((e.cells.drop off).mapM (snap H k)).map .vptr
      | _ => none
    | .map b =>
      match H[b]? with
      | some (.map ks vs) => (ks.mapM (snap H k)).bind fun ks => (vs.mapM (snap H k)).map fun vs => .vmap ks vs
      | _ => none
    | .iter _ => none
    | .func fn cap => (cap.mapM (snap H k)).map (.func fn)
    | .iface t v => (snap H k v).map (.iface t)
    | .agg cs => (cs.mapM (snap H k)).map .agg
    | .tuple vs => (vs.mapM (snap H k)).map .tuple
    | v => some v

/-- No reference into the heap. -/
def noRef : Nat → AV → Bool
  | 0, _ => false
  | k + 1, v =>
    match v with
    | .slice .. | .ptr .. | .map _ | .iter _ => false
    | .func _ cap => cap.all (noRef k)
    | .iface _ v => noRef k v
    | .agg cs => cs.all (noRef k)
    | .tuple vs => vs.all (noRef k)
    | _ => true

/-- A value that is made of this heap alone: nothing written out that lies elsewhere. -/
def ownOnly (H : Heap) : Nat → AV → Bool
  | 0, _ => false
  | k + 1, v =>
    match v with
    | .vslice (_ :: _) | .vptr _ | .vmap _ _ | .iter _ | .func _ _ => false
    | .slice b off len =>
      match H[b]? with
      | some (.arr _ es) => ((es.drop off).take len).all (ownOnly H k)
      | _ => false
    | .ptr b i off =>
      match H[b]? with
      | some (.arr _ es) => match es[i]? with | some e => (e.cells.drop off).all (ownOnly H k) | none => false
      | _ => false
    | .map b =>
      match H[b]? with
      | some (.map ks vs) => ks.all (ownOnly H k) && vs.all (ownOnly H k)
      | _ => false
    | .iface _ v => ownOnly H k v
    | .agg cs => cs.all (ownOnly H k)
    | .tuple vs => vs.all (ownOnly H k)
    | _ => true

/-- All blocks that a value comes to lie from a bound on. -/
def above (H : Heap) (n : Nat) : Nat → AV → Bool
  | 0, _ => false
  | k + 1, v =>
    match v with
    | .iter _ => false
    | .slice b off len =>
      match H[b]? with
      | some (.arr _ es) => Nat.ble n b && ((es.drop off).take len).all (above H n k)
      | _ => false
    | .ptr b i off =>
      match H[b]? with
      | some (.arr _ es) => Nat.ble n b && (match es[i]? with | some e => (e.cells.drop off).all (above H n k) | none => false)
      | _ => false
    | .map b =>
      match H[b]? with
      | some (.map ks vs) => Nat.ble n b && ks.all (above H n k) && vs.all (above H n k)
      | _ => false
    | .func _ cap => cap.all (above H n k)
    | .iface _ v => above H n k v
    | .agg cs => cs.all (above H n k)
    | .tuple vs => vs.all (above H n k)
    | _ => true

/-- All references lie below a bound. -/
def below (n : Nat) : Nat → AV → Bool
  | 0, _ => false
  | k + 1, v =>
    match v with
    | .slice b .. | .ptr b .. | .map b | .iter b => Nat.blt b n
    | .func _ cap => cap.all (below n k)
    | .iface _ v => below n k v
    | .agg cs => cs.all (below n k)
    | .tuple vs => vs.all (below n k)
    | _ => true

def Blk.below (n : Nat) : Blk → Bool
  | .arr _ es => es.all (X.below n deep)
  | .map ks vs => ks.all (X.below n deep) && vs.all (X.below n deep)
  | .dead => true

/-! ### calls -/

/-- A call in the heap as it is. -/
abbrev Oracle := Nat → List AV → Heap → Option (AV × Heap)

/-- A call of a function that sees only what is written out, and answers so. -/
def pureCall (X : Prog) (C : Oracle) (f : Nat) (args : List AV) (H : Heap) : Option AV :=
  (args.mapM (snap H deep)).bind fun as =>
  match X.prim f as with
  | some v => if args.all (noRef deep) then some v else if noRef deep v && ownOnly [] deep v then some v else none
  | none => (C f as []).bind fun r =>
    if args.all (noRef deep) || ownOnly r.2 deep r.1 then snap r.2 deep r.1 else none

/-- A call in the heap as it is, whose answer is written out, and whose own blocks are forgotten; what was there may have changed, and refers to nothing new. -/
def cutCall (C : Oracle) (f : Nat) (args : List AV) (H : Heap) : Option (AV × Heap) :=
  (C f args H).bind fun r =>
  if Nat.ble H.length r.2.length && (r.2.take H.length).all (Blk.below H.length) && above r.2 H.length deep r.1 then
    (snap r.2 deep r.1).map fun v => (v, r.2.take H.length)
  else none

/-- Nothing written out in it. -/
def plain : Nat → AV → Bool
  | 0, _ => false
  | k + 1, v =>
    match v with
    | .vslice (_ :: _) | .vptr _ | .vmap _ _ | .iter _ | .func _ _ => false
    | .iface _ v => plain k v
    | .agg cs => cs.all (plain k)
    | .tuple vs => vs.all (plain k)
    | _ => true

/-- All references moved up. -/
def shift (n : Nat) : Nat → AV → AV
  | 0, v => v
  | k + 1, v =>
    match v with
    | .ptr b i off => .ptr (n + b) i off
    | .slice b off len => .slice (n + b) off len
    | .map b => .map (n + b)
    | .iface t v => .iface t (shift n k v)
    | .agg cs => .agg (cs.map (shift n k))
    | .tuple vs => .tuple (vs.map (shift n k))
    | v => v

def Blk.shift (n : Nat) : Blk → Blk
  | .arr sz es => if es.all (plain deep) then .arr sz (es.map (X.shift n deep)) else .dead
  | .map ks vs => if ks.all (plain deep) && vs.all (plain deep) then .map (ks.map (X.shift n deep)) (vs.map (X.shift n deep)) else .dead
  | .dead => .dead

/-- A call of a function that sees only what is written out; what it made stands behind the caller's heap. -/
def freshCall (C : Oracle) (f : Nat) (args : List AV) (H : Heap) : Option (AV × Heap) :=
  (args.mapM (snap H deep)).bind fun as => (C f as []).bind fun r =>
  if plain deep r.1 then some (shift H.length deep r.1, H ++ r.2.map (Blk.shift H.length)) else none

def callAV (X : Prog) (C : Oracle) (fn : AV) (args : List AV) (H : Heap) : Option (AV × Heap) :=
  match fn with
  | .func (.func f) cap =>
    match X.mode f with
    | .pure => (pureCall X C f (args ++ cap) H).map fun v => (v, H)
    | .shared => C f (args ++ cap) H
    | .cut => cutCall C f (args ++ cap) H
    | .fresh => freshCall C f (args ++ cap) H
  | _ => none

/-- A call of what must be called pure. -/
def pcallAV (X : Prog) (C : Oracle) (fn : AV) (args : List AV) (H : Heap) : Option AV :=
  match fn with
  | .func (.func f) cap =>
    match X.mode f with
    | .pure => pureCall X C f (args ++ cap) H
    | _ => none
  | _ => none

def optArg (e : Env) (a : Option Arg) : Option (Option Nat) :=
  match a with
  | none => some none
  | some a => ((a.ev e).asNat).map some

def lenAV (H : Heap) (ek : EK) (x : AV) : Option Nat :=
  match ek, x with
  | .one .str, .str s => some s.length
  | .slice, .nilslice => some 0
  | .slice, .slice _ _ len => some len
  | .slice, .vslice es => some es.length
  | .map, .nilmap => some 0
  | .map, .map b =>
    match H[b]? with
    | some (.map ks _) => some ks.length
    | _ => none
  | .map, .vmap ks _ => some ks.length
  | _, _ => none

def lookupAV (H : Heap) (ek : EK) (zero : AV) (ok : Bool) (m k : AV) : Option AV :=
  if !keyOk ek k then none else
  (match m with
    | .nilmap => some none
    | .vmap ks vs => find ek k ks vs
    | .map b =>
      match H[b]? with
      | some (.map ks vs) => find ek k ks vs
      | _ => none
    | _ => none : Option (Option AV)).map fun r => if ok then .tuple [r.getD zero, .bool r.isSome] else r.getD zero

def mm2 (mx : Bool) : AV → AV → Option AV
  | .int k x, .int k' y => if k = k' then some (.int k (if mx then (if y > x then y else x) else (if y < x then y else x))) else none
  | _, _ => none

def mmAV (mx : Bool) : List AV → Option AV
  | [] => none
  | x :: rest => rest.foldlM (mm2 mx) x

def copyAV (H : Heap) (sz : Nat) (x : AV) (ys : List AV) : Option (AV × Heap) :=
  if !allSz sz ys then none else
  match x with
  | .nilslice => some (.int .i64 0, H)
  | .slice b off len =>
    match H[b]? with
    | some (.arr sz' es) =>
      if sz' = sz ∧ off + len ≤ es.length then
        some (.int .i64 (min ys.length len : Nat), H.set b (.arr sz (es.take off ++ ys.take len ++ es.drop (off + min ys.length len))))
      else none
    | _ => none
  | _ => none

def clearAV (H : Heap) (sz : Nat) (zero x : AV) : Option Heap :=
  match x with
  | .nilslice => some H
  | .slice b off len =>
    if len = 0 then some H else
    match H[b]? with
    | some (.arr sz' es) => if sz' = sz ∧ off + len ≤ es.length then some (H.set b (.arr sz (es.take off ++ List.replicate len zero ++ es.drop (off + len)))) else none
    | _ => none
  | _ => none

def xop (X : Prog) (C : Oracle) (op : XOp) (e : Env) (H : Heap) : Option (AV × Heap) :=
  match op with
  | .mov x | .same x => some (x.ev e, H)
  | .pick c a b =>
    match c.ev e with
    | .bool t => some (if t then a.ev e else b.ev e, H)
    | _ => none
  | .box sz x => if (x.ev e).cells.length = sz ∧ (x.ev e).cells.all AV.storable then some (.ptr H.length 0 0, H ++ [.arr sz [x.ev e]]) else none
  | .build zero parts => (fillAV zero (parts.map fun p => (p.1, p.2.1, p.2.2.ev e))).map fun cs => (.agg cs, H)
  | .lit sz zero parts own =>
    (fillLit sz zero (parts.map fun p => (p.1, p.2.ev e))).bind fun es =>
      if own then some (.slice H.length 0 es.length, H ++ [.arr sz es])
      else if es.all (noRef deep) then some (.vslice es, H) else none
  | .load n a => (loadAV H n (a.ev e)).map fun v => (v, H)
  | .store n a x => (storeAV H n (a.ev e) (x.ev e)).map fun H => (.tuple [], H)
  | .nilCheck x =>
    match x.ev e with
    | .ptr b i o => some (.ptr b i o, H)
    | .vptr cs => some (.vptr cs, H)
    | .func (.func f) cap => some (.func (.func f) cap, H)
    | _ => none
  | .bin op ek x y => (binAV H op ek (x.ev e) (y.ev e)).map fun v => (v, H)
  | .un op x => (unAV op (x.ev e)).map fun v => (v, H)
  | .convInt k x => ((x.ev e).asInt).map fun n => (.int k (k.wrap n), H)
  | .mkIface t x => some (.iface t (x.ev e), H)
  | .mkFunc fn cap => some (.func fn (cap.map (Arg.ev e)), H)
  | .mkMap => some (.map H.length, H ++ [.map [] []])
  | .mkSlice sz bytes zero len cap =>
    ((len.ev e).asNat).bind fun l => ((cap.ev e).asNat).bind fun c =>
      if l ≤ c ∧ c * bytes ≤ 140737488355328 ∧ c ≤ 140737488355328 then some (.slice H.length 0 l, H ++ [.arr sz (List.replicate c zero)]) else none
  | .sliceStr x lo hi =>
    (optArg e lo).bind fun lo => (optArg e hi).bind fun hi =>
    match x.ev e with
    | .str s =>
      let h := hi.getD s.length
      let l := lo.getD 0
      if l ≤ h ∧ h ≤ s.length then some (.str ((s.take h).drop l), H) else none
    | _ => none
  | .sliceSl sz x lo hi => (optArg e lo).bind fun lo => (optArg e hi).bind fun hi => (sliceAV H sz (x.ev e) lo hi).map fun v => (v, H)
  | .fieldAddr off x =>
    match x.ev e with
    | .ptr b i o => some (.ptr b i (o + off), H)
    | .vptr cs => if off ≤ cs.length then some (.vptr (cs.drop off), H) else none
    | _ => none
  | .field off n x =>
    match x.ev e with
    | .agg cs => (pickAV n cs off).map fun v => (v, H)
    | _ => none
  | .indexAddr sz x i => ((i.ev e).asInt).bind fun n => (indexAddrAV H sz (x.ev e) n).map fun v => (v, H)
  | .indexStr x i =>
    match x.ev e with
    | .str s => ((i.ev e).asInt).bind fun n => (idx n s.length).bind fun j => (s[j]?).map fun c => (.int .u8 c.toNat, H)
    | _ => none
  | .lookup ek zero ok m k => (lookupAV H ek zero ok (m.ev e) (k.ev e)).map fun v => (v, H)
  | .mapUpdate ek m k x =>
    match m.ev e with
    | .map b =>
      match H[b]? with
      | some (.map ks vs) => if keyOk ek (k.ev e) then (setKey ek (k.ev e) (x.ev e) ks vs).map fun r => (.tuple [], H.set b (.map r.1 r.2)) else none
      | _ => none
    | _ => none
  | .len ek x => (lenAV H ek (x.ev e)).map fun n => (.int .i64 n, H)
  | .append sz bytes x y => (elems H (y.ev e)).bind fun ys => appendAV H sz bytes (x.ev e) ys
  | .copy sz x y => (elems H (y.ev e)).bind fun ys => copyAV H sz (x.ev e) ys
  | .clear sz zero x => (clearAV H sz zero (x.ev e)).map fun H => (.tuple [], H)
  | .mm mx xs => (mmAV mx (xs.map (Arg.ev e))).map fun v => (v, H)
  | .extract x i =>
    match x.ev e with
    | .tuple vs => (vs[i]?).map fun v => (v, H)
    | _ => none
  | .call f args => callAV X C (f.ev e) (args.map (Arg.ev e)) H
  | .pcall f args => (pcallAV X C (f.ev e) (args.map (Arg.ev e)) H).map fun v => (v, H)
  | .fail => none

def putDst (e : Env) (d : Option Nat) (v : AV) : Env :=
  match d with
  | some t => e.set t v
  | none => e

/-- Is a guarded operation wanted? Where its guard was itself left out: no. -/
def wanted (g : Option (Nat × Bool)) (e : Env) : Option Bool :=
  match g with
  | none => some true
  | some (t, want) =>
    match e t with
    | .bool b => some (b == want)
    | .tuple [] => some false
    | _ => none

def oper (X : Prog) (C : Oracle) (o : XOper) (e : Env) (H : Heap) : Option (Env × Heap) :=
  (wanted o.guard e).bind fun w =>
  if w then (xop X C o.op e H).map fun r => (putDst e o.dst r.1, r.2) else some (putDst e o.dst (.tuple []), H)

def opers (X : Prog) (C : Oracle) : List XOper → Env → Heap → Option (Env × Heap)
  | [], e, H => some (e, H)
  | o :: os, e, H => (oper X C o e H).bind fun r => opers X C os r.1 r.2

/-- The block that a value refers to. -/
def AV.blockOf : AV → Option Nat
  | .ptr b _ _ => some b
  | .slice b _ _ => some b
  | .map b => some b
  | _ => none

/-- Not the same block. -/
def differ (x y : AV) : Bool :=
  match x.blockOf, y.blockOf with
  | some b, some c => !Nat.beq b c
  | _, _ => true

inductive Ex where
  | normal
  | exit (id : Nat)
  | ret
  deriving Inhabited

def keepEnv (l : List Nat) (e : Env) : Env := fun t => if l.any (Nat.beq t) then e t else .undef

/-- A loop of at most so many rounds. -/
def rounds (body : Env → Heap → Option (Ex × Env × Heap)) : Nat → Env → Heap → Option (Ex × Env × Heap)
  | 0, _, _ => none
  | n + 1, e, H => (body e H).bind fun r =>
    match r.1 with
    | .normal => rounds body n r.2.1 r.2.2
    | x => some (x, r.2)

def code (X : Prog) (C : Oracle) (L : (Env → Heap → Option (Ex × Env × Heap)) → Env → Heap → Option (Ex × Env × Heap)) : XCode → Env → Heap → Option (Ex × Env × Heap)
  | .skip, e, H => some (.normal, e, H)
  | .region ops chk, e, H => (opers X C ops e H).bind fun r => if chk.all (fun c => differ (c.1.ev r.1) (c.2.ev r.1)) then some (.normal, r.1, r.2) else none
  | .seq a b, e, H => (code X C L a e H).bind fun r =>
    match r.1 with
    | .normal => code X C L b r.2.1 r.2.2
    | x => some (x, r.2)
  | .cond c a b, e, H =>
    match c.ev e with
    | .bool t => if t then code X C L a e H else code X C L b e H
    | _ => none
  | .block id b, e, H => (code X C L b e H).bind fun r =>
    match r.1 with
    | .exit i => if Nat.beq i id then some (.normal, r.2) else some (.exit i, r.2)
    | x => some (x, r.2)
  | .loop b, e, H => L (code X C L b) e H
  | .keep l, e, H => some (.normal, keepEnv l e, H)
  | .exit id, e, H => some (.exit id, e, H)
  | .ret, e, H => some (.ret, e, H)
  | .fail, _, _ => none

/-- The environment at a function's begin. -/
def env0 (args : List AV) : Env := fun t => args.getD t (.tuple [])

def XRes.get (e : Env) (H : Heap) : XRes → Option AV
  | .tmp t => some (e t)
  | .cell t n => loadAV H n (e t)

def resultsOf (l : List XRes) (e : Env) (H : Heap) : Option AV :=
  (l.mapM (XRes.get e H)).map fun vs =>
  match vs with
  | [v] => v
  | vs => .tuple vs

def finish (fn : XFunc) (r : Ex × Env × Heap) : Option (AV × Heap) :=
  match r.1 with
  | .normal | .ret => (resultsOf fn.results r.2.1 r.2.2).map fun v => (v, r.2.2)
  | .exit _ => none

/-- A function's run with so much fuel. -/
def run (X : Prog) : Nat → Oracle
  | 0, _, _, _ => none
  | k + 1, f, args, H =>
    (X.fn f).bind fun fn =>
      if args.length = fn.nparams then (code X (run X k) (fun b => rounds b k) fn.code (env0 args) H).bind (finish fn) else none

end X
end Go.Proofs.YtkaigfcjejabfaaGreatDoor
