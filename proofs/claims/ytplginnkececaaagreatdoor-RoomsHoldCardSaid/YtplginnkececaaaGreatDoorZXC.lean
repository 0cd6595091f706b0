/- The engine's core: abstract values, a small heap, resolved operations and their deterministic semantics; how Go's operations are resolved. How the engine's values and heap relate to the model's; that what is written out stays as it is. How Go's operations, code and functions are resolved into the engine's. No condition. -/
import Derived.Orders
import Derived.Laws.Sem
import Derived.Laws.World
namespace Go.Proofs.YtplginnkececaaaGreatDoor
open Go
namespace X

inductive AV where
  | undef
  | bool (b : Bool)
  | int (k : IntKind) (n : Int)
  | str (s : List UInt8)
  | nilptr | nilslice | nilmap | nilfunc | niliface
  | ptr (b i off : Nat)
  | slice (b off len : Nat)
  | map (b : Nat)
  | iter (b : Nat)
  | vptr (cs : List AV)
  | vslice (es : List AV)
  | vmap (ks vs : List AV)
  | func (fn : Fn) (cap : List AV)
  | iface (t : Nat) (v : AV)
  | agg (cs : List AV)
  | tuple (vs : List AV)
  deriving Inhabited

def AV.cells : AV → List AV
  | .agg cs => cs
  | v => [v]

inductive Blk where
  | arr (sz : Nat) (es : List AV)
  | map (ks vs : List AV)
  | dead
  deriving Inhabited

abbrev Heap := List Blk
abbrev Env := Nat → AV

def Env.set (e : Env) (t : Nat) (v : AV) : Env := fun x => if Nat.beq x t then v else e x

inductive Arg where
  | tmp (t : Nat)
  | const (v : AV)
  deriving Inhabited

def Arg.ev (e : Env) : Arg → AV
  | .tmp t => e t
  | .const v => v

inductive FK where
  | int | str | bool
  deriving DecidableEq, Inhabited

inductive EK where
  | one (f : FK)
  | agg (fs : List FK)
  | ptr | iface | slice | func | map | other
  deriving DecidableEq, Inhabited

inductive Mode where
  | pure | shared | cut | fresh
  deriving DecidableEq, Inhabited

inductive XOp where
  | mov (x : Arg)
  | pick (c a b : Arg)
  | box (sz : Nat) (x : Arg)
  | build (zero : List AV) (parts : List (Nat × Nat × Arg))
  | lit (sz : Nat) (zero : List AV) (parts : List (Nat × Arg)) (own : Bool)
  | load (n : Option Nat) (a : Arg)
  | store (n : Nat) (a x : Arg)
  | nilCheck (x : Arg)
  | bin (op : BinOp) (ek : EK) (x y : Arg)
  | un (op : UnOp) (x : Arg)
  | convInt (k : IntKind) (x : Arg)
  | same (x : Arg)
  | mkIface (t : Nat) (x : Arg)
  | mkFunc (fn : Fn) (cap : List Arg)
  | mkMap
  | mkSlice (sz bytes : Nat) (zero : AV) (len cap : Arg)
  | sliceStr (x : Arg) (lo hi : Option Arg)
  | sliceSl (sz : Nat) (x : Arg) (lo hi : Option Arg)
  | fieldAddr (off : Nat) (x : Arg)
  | field (off : Nat) (n : Option Nat) (x : Arg)
  | indexAddr (sz : Nat) (x i : Arg)
  | indexStr (x i : Arg)
  | lookup (ek : EK) (zero : AV) (ok : Bool) (m k : Arg)
  | mapUpdate (ek : EK) (m k x : Arg)
  | len (ek : EK) (x : Arg)
  | append (sz bytes : Nat) (x y : Arg)
  | copy (sz : Nat) (x y : Arg)
  | clear (sz : Nat) (zero : AV) (x : Arg)
  | mm (max : Bool) (xs : List Arg)
  | extract (x : Arg) (i : Nat)
  | call (f : Arg) (args : List Arg)
  | pcall (f : Arg) (args : List Arg)
  | fail
  deriving Inhabited

structure XOper where
  dst : Option Nat
  guard : Option (Nat × Bool)
  op : XOp
  deriving Inhabited

inductive XCode where
  | skip
  | region (ops : List XOper) (apart : List (Arg × Arg))
  | seq (a b : XCode)
  | cond (c : Arg) (a b : XCode)
  | block (id : Nat) (b : XCode)
  | loop (b : XCode)
  | keep (l : List Nat)
  | exit (id : Nat)
  | ret
  | fail
  deriving Inhabited

inductive XRes where
  | tmp (t : Nat)
  | cell (t : Nat) (n : Option Nat)
  deriving Inhabited

structure XFunc where
  nparams : Nat
  results : List XRes
  code : XCode
  deriving Inhabited

structure Prog where
  fn : Nat → Option XFunc
  mode : Nat → Mode
  prim : Nat → List AV → Option AV


def AV.storable : AV → Bool
  | .agg _ | .tuple _ | .undef => false
  | _ => true

def AV.setCells (e : AV) (off : Nat) (cs : List AV) : AV :=
  match e, cs with
  | .agg ds, cs => .agg (ds.take off ++ cs ++ ds.drop (off + cs.length))
  | _, [c] => c
  | e, _ => e

def intBin (op : BinOp) (k : IntKind) (a b : Int) : Option AV :=
  match op with
  | .add => some (.int k (k.wrap (a + b)))
  | .sub => some (.int k (k.wrap (a - b)))
  | .mul => some (.int k (k.wrap (a * b)))
  | .quo => if b = 0 then none else some (.int k (k.wrap (a.tdiv b)))
  | .rem => if b = 0 then none else some (.int k (a.tmod b))
  | .and => some (.int k (k.wrap (BitVec.ofInt k.bits a &&& BitVec.ofInt k.bits b).toNat))
  | .or => some (.int k (k.wrap (BitVec.ofInt k.bits a ||| BitVec.ofInt k.bits b).toNat))
  | .xor => some (.int k (k.wrap (BitVec.ofInt k.bits a ^^^ BitVec.ofInt k.bits b).toNat))
  | .andNot => some (.int k (k.wrap (BitVec.ofInt k.bits a &&& ~~~BitVec.ofInt k.bits b).toNat))
  | .eql => some (.bool (a == b))
  | .neq => some (.bool (a != b))
  | .lss => some (.bool (decide (a < b)))
  | .leq => some (.bool (decide (a ≤ b)))
  | .gtr => some (.bool (decide (a > b)))
  | .geq => some (.bool (decide (a ≥ b)))
  | .shl | .shr => none

def intShift (op : BinOp) (k : IntKind) (a b : Int) : Option AV :=
  if b < 0 then none else
  match op with
  | .shl => some (.int k (k.wrap (a * 2 ^ (min b.toNat k.bits))))
  | .shr => some (.int k (a.fdiv (2 ^ (min b.toNat k.bits))))
  | _ => none

def strBin (op : BinOp) (s t : List UInt8) : Option AV :=
  match op with
  | .add => if s.length + t.length ≤ 9223372036854775807 then some (.str (s ++ t)) else none
  | .eql => some (.bool (s == t))
  | .neq => some (.bool (!(s == t)))
  | .lss => some (.bool (Op.bytesLess s t))
  | .leq => some (.bool (Op.bytesLess s t || s == t))
  | .gtr => some (.bool (!(Op.bytesLess s t || s == t)))
  | .geq => some (.bool (!Op.bytesLess s t))
  | _ => none

def eqCell : FK → AV → AV → Option Bool
  | .int, .int j a, .int k b => if j = k then some (a == b) else none
  | .str, .str s, .str t => some (s == t)
  | .bool, .bool a, .bool b => some (a == b)
  | _, _, _ => none

def eqCells : List FK → List AV → List AV → Option Bool
  | [], [], [] => some true
  | f :: fs, a :: as, b :: bs => (eqCell f a b).bind fun x => (eqCells fs as bs).bind fun y => some (x && y)
  | _, _, _ => none

def eqKey (k : EK) (a b : AV) : Option Bool :=
  match k, a, b with
  | .one f, a, b => eqCell f a b
  | .agg fs, .agg cs, .agg ds => eqCells fs cs ds
  | _, _, _ => none

def Heap.live (H : Heap) (b : Nat) : Bool :=
  match H[b]? with
  | some (.arr _ _) => true
  | _ => false

def eqAV (H : Heap) (k : EK) (x y : AV) : Option Bool :=
  match k with
  | .one .bool => eqCell .bool x y
  | .agg fs =>
    match x, y with
    | .agg cs, .agg ds => eqCells fs cs ds
    | _, _ => none
  | .ptr =>
    match x, y with
    | .nilptr, .nilptr => some true
    | .nilptr, .ptr .. | .ptr .., .nilptr | .nilptr, .vptr _ | .vptr _, .nilptr => some false
    | .ptr b i o, .ptr b' i' o' =>
      if b = b' ∧ i = i' ∧ o = o' then some true
      else if b ≠ b' ∧ i = 0 ∧ i' = 0 ∧ o = 0 ∧ o' = 0 ∧ H.live b ∧ H.live b' then some false else none
    | _, _ => none
  | .iface =>
    match x, y with
    | .niliface, .iface .. | .iface .., .niliface => some false
    | _, _ => none
  | .slice =>
    match x, y with
    | .nilslice, .nilslice => some true
    | .nilslice, .slice .. | .slice .., .nilslice => some false
    | .nilslice, .vslice (_ :: _) | .vslice (_ :: _), .nilslice => some false
    | _, _ => none
  | .func =>
    match x, y with
    | .nilfunc, .nilfunc => some true
    | .nilfunc, .func .. | .func .., .nilfunc => some false
    | _, _ => none
  | _ => none

def binAV (H : Heap) (op : BinOp) (ek : EK) (x y : AV) : Option AV :=
  match x, y with
  | .int k a, .int k' b =>
    match op with
    | .shl | .shr => intShift op k a b
    | _ => if k = k' then intBin op k a b else none
  | .str s, .str t => strBin op s t
  | x, y =>
    match op with
    | .eql => (eqAV H ek x y).map .bool
    | .neq => (eqAV H ek x y).map fun b => .bool (!b)
    | _ => none

def unAV (op : UnOp) (x : AV) : Option AV :=
  match op, x with
  | .neg, .int k n => some (.int k (k.wrap (0 - n)))
  | .not, .bool b => some (.bool !b)
  | _, _ => none

def keyOk (k : EK) (v : AV) : Bool :=
  match k, v with
  | .one _, _ => true
  | .agg fs, .agg cs => cs.length == fs.length
  | _, _ => false

def find (ek : EK) (k : AV) : List AV → List AV → Option (Option AV)
  | [], [] => some none
  | j :: ks, v :: vs =>
    match eqKey ek k j with
    | some true => some (some v)
    | some false => find ek k ks vs
    | none => none
  | _, _ => none

def setKey (ek : EK) (k x : AV) : List AV → List AV → Option (List AV × List AV)
  | [], [] => some ([k], [x])
  | j :: ks, v :: vs =>
    match eqKey ek k j with
    | some true => some (k :: ks, x :: vs)
    | some false => (setKey ek k x ks vs).map fun p => (j :: p.1, v :: p.2)
    | none => none
  | _, _ => none

def natArg (n : Int) : Option Nat := if 0 ≤ n then some n.toNat else none

def AV.asNat : AV → Option Nat
  | .int _ n => natArg n
  | _ => none

def AV.asInt : AV → Option Int
  | .int _ n => some n
  | _ => none

def elems (H : Heap) : AV → Option (List AV)
  | .nilslice => some []
  | .vslice es => some es
  | .slice b off len =>
    match H[b]? with
    | some (.arr _ es) => if off + len ≤ es.length then some ((es.drop off).take len) else none
    | _ => none
  | .str s => some (s.map fun c => .int .u8 c.toNat)
  | _ => none

def allSz (sz : Nat) (es : List AV) : Bool := es.all fun e => e.cells.length == sz && e.cells.all AV.storable

def appendAV (H : Heap) (sz bytes : Nat) (x : AV) (ys : List AV) : Option (AV × Heap) :=
  if !allSz sz ys then none else
  match x with
  | .nilslice => if ys.length = 0 then some (x, H) else if ys.length * bytes ≤ 140737488355328 ∧ 0 < bytes then some (.slice H.length 0 ys.length, H ++ [.arr sz ys]) else none
  | .slice b off len =>
    if ys.length = 0 then some (x, H) else
    match H[b]? with
    | some (.arr sz' es) =>
      if sz' ≠ sz then none
      else if off + len = es.length then
        if (len + ys.length) * bytes ≤ 140737488355328 ∧ 0 < bytes then some (.slice H.length 0 (len + ys.length), H.set b .dead ++ [.arr sz (es.drop off ++ ys)]) else none
      else if off + len + ys.length ≤ es.length then
        some (.slice b off (len + ys.length), H.set b (.arr sz (es.take (off + len) ++ ys ++ es.drop (off + len + ys.length))))
      else none
    | _ => none
  | _ => none

def fillAV : List AV → List (Nat × Nat × AV) → Option (List AV)
  | cs, [] => some cs
  | cs, (off, n, v) :: rest =>
    if v.cells.length = n ∧ v.cells.all AV.storable ∧ off + n ≤ cs.length then fillAV (cs.take off ++ v.cells ++ cs.drop (off + n)) rest else none

def fillLit (sz : Nat) : List AV → List (Nat × AV) → Option (List AV)
  | es, [] => some es
  | es, (i, v) :: rest => if v.cells.length = sz ∧ v.cells.all AV.storable ∧ i < es.length then fillLit sz (es.set i v) rest else none

def pickAV (n : Option Nat) (cs : List AV) (off : Nat) : Option AV :=
  match n with
  | none => cs[off]?
  | some n => if off + n ≤ cs.length then some (.agg ((cs.drop off).take n)) else none

def loadAV (H : Heap) (n : Option Nat) (a : AV) : Option AV :=
  match a with
  | .ptr b i off =>
    match H[b]? with
    | some (.arr _ es) => (es[i]?).bind fun e => pickAV n e.cells off
    | _ => none
  | .vptr cs => pickAV n cs 0
  | _ => none

def storeAV (H : Heap) (n : Nat) (a x : AV) : Option Heap :=
  match a with
  | .ptr b i off =>
    match H[b]? with
    | some (.arr sz es) =>
      (es[i]?).bind fun e =>
        if x.cells.length = n ∧ x.cells.all AV.storable ∧ off + n ≤ e.cells.length ∧ e.cells.length = sz then
          some (H.set b (.arr sz (es.set i (e.setCells off x.cells))))
        else none
    | _ => none
  | _ => none

def sliceAV (H : Heap) (sz : Nat) (x : AV) (lo hi : Option Nat) : Option AV :=
  match x with
  | .nilslice => if lo.getD 0 = 0 ∧ hi.getD 0 = 0 then some .nilslice else none
  | .vslice es =>
    let h := hi.getD es.length
    let l := lo.getD 0
    if l ≤ h ∧ h ≤ es.length ∧ (l = 0 ∨ (es.all fun e => e.cells.length == sz) = true) then some (.vslice ((es.take h).drop l)) else none
  | .slice b off len =>
    match H[b]? with
    | some (.arr sz' es) =>
      let h := hi.getD len
      let l := lo.getD 0
      if l ≤ h ∧ off + h ≤ es.length ∧ sz' = sz then
        if off + l < es.length ∨ l = 0 then some (.slice b (off + l) (h - l)) else some (.vslice [])
      else none
    | _ => none
  | _ => none

def idx (n : Int) (len : Nat) : Option Nat := if 0 ≤ n ∧ n < len then some n.toNat else none

def indexAddrAV (H : Heap) (sz : Nat) (x : AV) (n : Int) : Option AV :=
  match x with
  | .vslice es => (idx n es.length).bind fun i => (es[i]?).bind fun e => if e.cells.length = sz then some (.vptr e.cells) else none
  | .slice b off len => (idx n len).bind fun i =>
    match H[b]? with
    | some (.arr sz' _) => if sz' = sz then some (.ptr b (off + i) 0) else none
    | _ => none
  | _ => none


def deep : Nat := 12

def snap (H : Heap) : Nat → AV → Option AV
  | 0, _ => none
  | k + 1, v =>
    match v with
    | .nilslice => some (.vslice [])
    | .slice b off len =>
      match H[b]? with
      | some (.arr _ es) => if off + len ≤ es.length then (((es.drop off).take len).mapM (snap H k)).map .vslice else none
      | _ => none
    | .ptr b i off =>
      match H[b]? with
      | some (.arr _ es) => (es[i]?).bind fun e => ((e.cells.drop off).mapM (snap H k)).map .vptr
      | _ => none
    | .map b =>
      match H[b]? with
      | some (.map ks vs) => (ks.mapM (snap H k)).bind fun ks => (vs.mapM (snap H k)).map fun vs => .vmap ks vs
      | _ => none
    | .iter _ => none
    | .func fn cap => (cap.mapM (snap H k)).map (.func fn)
    | .iface t v => (snap H k v).map (.iface t)
    | .agg cs => (cs.mapM (snap H k)).map .agg
    | .tuple vs => (vs.mapM (snap H k)).map .tuple
    | v => some v

def noRef : Nat → AV → Bool
  | 0, _ => false
  | k + 1, v =>
    match v with
    | .slice .. | .ptr .. | .map _ | .iter _ => false
    | .func _ cap => cap.all (noRef k)
    | .iface _ v => noRef k v
    | .agg cs => cs.all (noRef k)
    | .tuple vs => vs.all (noRef k)
    | _ => true

def ownOnly (H : Heap) : Nat → AV → Bool
  | 0, _ => false
  | k + 1, v =>
    match v with
    | .vslice (_ :: _) | .vptr _ | .vmap _ _ | .iter _ | .func _ _ => false
    | .slice b off len =>
      match H[b]? with
      | some (.arr _ es) => ((es.drop off).take len).all (ownOnly H k)
      | _ => false
    | .ptr b i off =>
      match H[b]? with
      | some (.arr _ es) => match es[i]? with | some e => (e.cells.drop off).all (ownOnly H k) | none => false
      | _ => false
    | .map b =>
      match H[b]? with
      | some (.map ks vs) => ks.all (ownOnly H k) && vs.all (ownOnly H k)
      | _ => false
    | .iface _ v => ownOnly H k v
    | .agg cs => cs.all (ownOnly H k)
    | .tuple vs => vs.all (ownOnly H k)
    | _ => true

def above (H : Heap) (n : Nat) : Nat → AV → Bool
  | 0, _ => false
  | k + 1, v =>
    match v with
    | .iter _ => false
    | .slice b off len =>
      match H[b]? with
      | some (.arr _ es) => Nat.ble n b && ((es.drop off).take len).all (above H n k)
      | _ => false
    | .ptr b i off =>
      match H[b]? with
      | some (.arr _ es) => Nat.ble n b && (match es[i]? with | some e => (e.cells.drop off).all (above H n k) | none => false)
      | _ => false
    | .map b =>
      match H[b]? with
      | some (.map ks vs) => Nat.ble n b && ks.all (above H n k) && vs.all (above H n k)
      | _ => false
    | .func _ cap => cap.all (above H n k)
    | .iface _ v => above H n k v
    | .agg cs => cs.all (above H n k)
    | .tuple vs => vs.all (above H n k)
    | _ => true

def below (n : Nat) : Nat → AV → Bool
  | 0, _ => false
  | k + 1, v =>
    match v with
    | .slice b .. | .ptr b .. | .map b | .iter b => Nat.blt b n
    | .func _ cap => cap.all (below n k)
    | .iface _ v => below n k v
    | .agg cs => cs.all (below n k)
    | .tuple vs => vs.all (below n k)
    | _ => true

def Blk.below (n : Nat) : Blk → Bool
  | .arr _ es => es.all (X.below n deep)
  | .map ks vs => ks.all (X.below n deep) && vs.all (X.below n deep)
  | .dead => true


abbrev Oracle := Nat → List AV → Heap → Option (AV × Heap)

def pureCall (X : Prog) (C : Oracle) (f : Nat) (args : List AV) (H : Heap) : Option AV :=
  (args.mapM (snap H deep)).bind fun as =>
  match X.prim f as with
  | some v => if args.all (noRef deep) then some v else if noRef deep v && ownOnly [] deep v then some v else none
  | none => (C f as []).bind fun r =>
    if args.all (noRef deep) || ownOnly r.2 deep r.1 then snap r.2 deep r.1 else none

def AV.blockOf : AV → Option Nat
  | .ptr b _ _ => some b
  | .slice b _ _ => some b
  | .map b => some b
  | _ => none

open Classical in
noncomputable def cutCall (C : Oracle) (f : Nat) (args : List AV) (H : Heap) : Option (AV × Heap) :=
  (C f args H).bind fun r =>
  if H.length ≤ r.2.length ∧ (∀ b k, b < H.length → r.2[b]? = some k → H[b]? = some k ∨ (args.head?.bind AV.blockOf = some b ∧ k.below H.length = true)) ∧ above r.2 H.length deep r.1 = true then
    (snap r.2 deep r.1).map fun v => (v, r.2.take H.length)
  else none

def plain : Nat → AV → Bool
  | 0, _ => false
  | k + 1, v =>
    match v with
    | .vslice (_ :: _) | .vptr _ | .vmap _ _ | .iter _ | .func _ _ => false
    | .iface _ v => plain k v
    | .agg cs => cs.all (plain k)
    | .tuple vs => vs.all (plain k)
    | _ => true

def shift (n : Nat) : Nat → AV → AV
  | 0, v => v
  | k + 1, v =>
    match v with
    | .ptr b i off => .ptr (n + b) i off
    | .slice b off len => .slice (n + b) off len
    | .map b => .map (n + b)
    | .iface t v => .iface t (shift n k v)
    | .agg cs => .agg (cs.map (shift n k))
    | .tuple vs => .tuple (vs.map (shift n k))
    | v => v

def Blk.shift (n : Nat) : Blk → Blk
  | .arr sz es => if es.all (plain deep) then .arr sz (es.map (X.shift n deep)) else .dead
  | .map ks vs => if ks.all (plain deep) && vs.all (plain deep) then .map (ks.map (X.shift n deep)) (vs.map (X.shift n deep)) else .dead
  | .dead => .dead

def freshCall (C : Oracle) (f : Nat) (args : List AV) (H : Heap) : Option (AV × Heap) :=
  (args.mapM (snap H deep)).bind fun as => (C f as []).bind fun r =>
  if plain deep r.1 then some (shift H.length deep r.1, H ++ r.2.map (Blk.shift H.length)) else none

noncomputable def callAV (X : Prog) (C : Oracle) (fn : AV) (args : List AV) (H : Heap) : Option (AV × Heap) :=
  match fn with
  | .func (.func f) cap =>
    match X.mode f with
    | .pure => (pureCall X C f (args ++ cap) H).map fun v => (v, H)
    | .shared => C f (args ++ cap) H
    | .cut => cutCall C f (args ++ cap) H
    | .fresh => freshCall C f (args ++ cap) H
  | _ => none

def pcallAV (X : Prog) (C : Oracle) (fn : AV) (args : List AV) (H : Heap) : Option AV :=
  match fn with
  | .func (.func f) cap =>
    match X.mode f with
    | .pure => pureCall X C f (args ++ cap) H
    | _ => none
  | _ => none

def optArg (e : Env) (a : Option Arg) : Option (Option Nat) :=
  match a with
  | none => some none
  | some a => ((a.ev e).asNat).map some

def lenAV (H : Heap) (ek : EK) (x : AV) : Option Nat :=
  match ek, x with
  | .one .str, .str s => some s.length
  | .slice, .nilslice => some 0
  | .slice, .slice _ _ len => some len
  | .slice, .vslice es => some es.length
  | .map, .nilmap => some 0
  | .map, .map b =>
    match H[b]? with
    | some (.map ks _) => some ks.length
    | _ => none
  | .map, .vmap ks _ => some ks.length
  | _, _ => none

def lookupAV (H : Heap) (ek : EK) (zero : AV) (ok : Bool) (m k : AV) : Option AV :=
  if !keyOk ek k then none else
  (match m with
    | .nilmap => some none
    | .vmap ks vs => find ek k ks vs
    | .map b =>
      match H[b]? with
      | some (.map ks vs) => find ek k ks vs
      | _ => none
    | _ => none : Option (Option AV)).map fun r => if ok then .tuple [r.getD zero, .bool r.isSome] else r.getD zero

def mm2 (mx : Bool) : AV → AV → Option AV
  | .int k x, .int k' y => if k = k' then some (.int k (if mx then (if y > x then y else x) else (if y < x then y else x))) else none
  | _, _ => none

def mmAV (mx : Bool) : List AV → Option AV
  | [] => none
  | x :: rest => rest.foldlM (mm2 mx) x

def copyAV (H : Heap) (sz : Nat) (x : AV) (ys : List AV) : Option (AV × Heap) :=
  if !allSz sz ys then none else
  match x with
  | .nilslice => some (.int .i64 0, H)
  | .slice b off len =>
    match H[b]? with
    | some (.arr sz' es) =>
      if sz' = sz ∧ off + len ≤ es.length then
        some (.int .i64 (min ys.length len : Nat), H.set b (.arr sz (es.take off ++ ys.take len ++ es.drop (off + min ys.length len))))
      else none
    | _ => none
  | _ => none

def clearAV (H : Heap) (sz : Nat) (zero x : AV) : Option Heap :=
  match x with
  | .nilslice => some H
  | .slice b off len =>
    if len = 0 then some H else
    match H[b]? with
    | some (.arr sz' es) => if sz' = sz ∧ off + len ≤ es.length then some (H.set b (.arr sz (es.take off ++ List.replicate len zero ++ es.drop (off + len)))) else none
    | _ => none
  | _ => none

noncomputable def xop (X : Prog) (C : Oracle) (op : XOp) (e : Env) (H : Heap) : Option (AV × Heap) :=
  match op with
  | .mov x | .same x => some (x.ev e, H)
  | .pick c a b =>
    match c.ev e with
    | .bool t => some (if t then a.ev e else b.ev e, H)
    | _ => none
  | .box sz x => if (x.ev e).cells.length = sz ∧ (x.ev e).cells.all AV.storable then some (.ptr H.length 0 0, H ++ [.arr sz [x.ev e]]) else none
  | .build zero parts => (fillAV zero (parts.map fun p => (p.1, p.2.1, p.2.2.ev e))).map fun cs => (.agg cs, H)
  | .lit sz zero parts own =>
    (fillLit sz zero (parts.map fun p => (p.1, p.2.ev e))).bind fun es =>
      if own then some (.slice H.length 0 es.length, H ++ [.arr sz es])
      else if es.all (noRef deep) then some (.vslice es, H) else none
  | .load n a => (loadAV H n (a.ev e)).map fun v => (v, H)
  | .store n a x => (storeAV H n (a.ev e) (x.ev e)).map fun H => (.tuple [], H)
  | .nilCheck x =>
    match x.ev e with
    | .ptr b i o => some (.ptr b i o, H)
    | .vptr cs => some (.vptr cs, H)
    | .func (.func f) cap => some (.func (.func f) cap, H)
    | _ => none
  | .bin op ek x y => (binAV H op ek (x.ev e) (y.ev e)).map fun v => (v, H)
  | .un op x => (unAV op (x.ev e)).map fun v => (v, H)
  | .convInt k x => ((x.ev e).asInt).map fun n => (.int k (k.wrap n), H)
  | .mkIface t x => some (.iface t (x.ev e), H)
  | .mkFunc fn cap => some (.func fn (cap.map (Arg.ev e)), H)
  | .mkMap => some (.map H.length, H ++ [.map [] []])
  | .mkSlice sz bytes zero len cap =>
    ((len.ev e).asNat).bind fun l => ((cap.ev e).asNat).bind fun c =>
      if l ≤ c ∧ c * bytes ≤ 140737488355328 ∧ c ≤ 140737488355328 then some (.slice H.length 0 l, H ++ [.arr sz (List.replicate c zero)]) else none
  | .sliceStr x lo hi =>
    (optArg e lo).bind fun lo => (optArg e hi).bind fun hi =>
    match x.ev e with
    | .str s =>
      let h := hi.getD s.length
      let l := lo.getD 0
      if l ≤ h ∧ h ≤ s.length then some (.str ((s.take h).drop l), H) else none
    | _ => none
  | .sliceSl sz x lo hi => (optArg e lo).bind fun lo => (optArg e hi).bind fun hi => (sliceAV H sz (x.ev e) lo hi).map fun v => (v, H)
  | .fieldAddr off x =>
    match x.ev e with
    | .ptr b i o => some (.ptr b i (o + off), H)
    | .vptr cs => if off ≤ cs.length then some (.vptr (cs.drop off), H) else none
    | _ => none
  | .field off n x =>
    match x.ev e with
    | .agg cs => (pickAV n cs off).map fun v => (v, H)
    | _ => none
  | .indexAddr sz x i => ((i.ev e).asInt).bind fun n => (indexAddrAV H sz (x.ev e) n).map fun v => (v, H)
  | .indexStr x i =>
    match x.ev e with
    | .str s => ((i.ev e).asInt).bind fun n => (idx n s.length).bind fun j => (s[j]?).map fun c => (.int .u8 c.toNat, H)
    | _ => none
  | .lookup ek zero ok m k => (lookupAV H ek zero ok (m.ev e) (k.ev e)).map fun v => (v, H)
  | .mapUpdate ek m k x =>
    match m.ev e with
    | .map b =>
      match H[b]? with
      | some (.map ks vs) => if keyOk ek (k.ev e) then (setKey ek (k.ev e) (x.ev e) ks vs).map fun r => (.tuple [], H.set b (.map r.1 r.2)) else none
      | _ => none
    | _ => none
  | .len ek x => (lenAV H ek (x.ev e)).map fun n => (.int .i64 n, H)
  | .append sz bytes x y => (elems H (y.ev e)).bind fun ys => appendAV H sz bytes (x.ev e) ys
  | .copy sz x y => (elems H (y.ev e)).bind fun ys => copyAV H sz (x.ev e) ys
  | .clear sz zero x => (clearAV H sz zero (x.ev e)).map fun H => (.tuple [], H)
  | .mm mx xs => (mmAV mx (xs.map (Arg.ev e))).map fun v => (v, H)
  | .extract x i =>
    match x.ev e with
    | .tuple vs => (vs[i]?).map fun v => (v, H)
    | _ => none
  | .call f args => callAV X C (f.ev e) (args.map (Arg.ev e)) H
  | .pcall f args => (pcallAV X C (f.ev e) (args.map (Arg.ev e)) H).map fun v => (v, H)
  | .fail => none

def putDst (e : Env) (d : Option Nat) (v : AV) : Env :=
  match d with
  | some t => e.set t v
  | none => e

def wanted (g : Option (Nat × Bool)) (e : Env) : Option Bool :=
  match g with
  | none => some true
  | some (t, want) =>
    match e t with
    | .bool b => some (b == want)
    | .tuple [] => some false
    | _ => none

noncomputable def oper (X : Prog) (C : Oracle) (o : XOper) (e : Env) (H : Heap) : Option (Env × Heap) :=
  (wanted o.guard e).bind fun w =>
  if w then (xop X C o.op e H).map fun r => (putDst e o.dst r.1, r.2) else some (putDst e o.dst (.tuple []), H)

noncomputable def opers (X : Prog) (C : Oracle) : List XOper → Env → Heap → Option (Env × Heap)
  | [], e, H => some (e, H)
  | o :: os, e, H => (oper X C o e H).bind fun r => opers X C os r.1 r.2

def differ (x y : AV) : Bool :=
  match x.blockOf, y.blockOf with
  | some b, some c => !Nat.beq b c
  | _, _ => true

inductive Ex where
  | normal
  | exit (id : Nat)
  | ret
  deriving Inhabited

def keepEnv (l : List Nat) (e : Env) : Env := fun t => if l.any (Nat.beq t) then e t else .undef

def rounds (body : Env → Heap → Option (Ex × Env × Heap)) : Nat → Env → Heap → Option (Ex × Env × Heap)
  | 0, _, _ => none
  | n + 1, e, H => (body e H).bind fun r =>
    match r.1 with
    | .normal => rounds body n r.2.1 r.2.2
    | x => some (x, r.2)

noncomputable def code (X : Prog) (C : Oracle) (L : (Env → Heap → Option (Ex × Env × Heap)) → Env → Heap → Option (Ex × Env × Heap)) : XCode → Env → Heap → Option (Ex × Env × Heap)
  | .skip, e, H => some (.normal, e, H)
  | .region ops chk, e, H => (opers X C ops e H).bind fun r => if chk.all (fun c => differ (c.1.ev r.1) (c.2.ev r.1)) then some (.normal, r.1, r.2) else none
  | .seq a b, e, H => (code X C L a e H).bind fun r =>
    match r.1 with
    | .normal => code X C L b r.2.1 r.2.2
    | x => some (x, r.2)
  | .cond c a b, e, H =>
    match c.ev e with
    | .bool t => if t then code X C L a e H else code X C L b e H
    | _ => none
  | .block id b, e, H => (code X C L b e H).bind fun r =>
    match r.1 with
    | .exit i => if Nat.beq i id then some (.normal, r.2) else some (.exit i, r.2)
    | x => some (x, r.2)
  | .loop b, e, H => L (code X C L b) e H
  | .keep l, e, H => some (.normal, keepEnv l e, H)
  | .exit id, e, H => some (.exit id, e, H)
  | .ret, e, H => some (.ret, e, H)
  | .fail, _, _ => none

def env0 (args : List AV) : Env := fun t => args.getD t (.tuple [])

def XRes.get (e : Env) (H : Heap) : XRes → Option AV
  | .tmp t => some (e t)
  | .cell t n => loadAV H n (e t)

def resultsOf (l : List XRes) (e : Env) (H : Heap) : Option AV :=
  (l.mapM (XRes.get e H)).map fun vs =>
  match vs with
  | [v] => v
  | vs => .tuple vs

def finish (fn : XFunc) (r : Ex × Env × Heap) : Option (AV × Heap) :=
  match r.1 with
  | .normal | .ret => (resultsOf fn.results r.2.1 r.2.2).map fun v => (v, r.2.2)
  | .exit _ => none

noncomputable def run (X : Prog) : Nat → Oracle
  | 0, _, _, _ => none
  | k + 1, f, args, H =>
    (X.fn f).bind fun fn =>
      if args.length = fn.nparams then (code X (run X k) (fun b => rounds b k) fn.code (env0 args) H).bind (finish fn) else none

end X
end Go.Proofs.YtplginnkececaaaGreatDoor

namespace Go.Proofs.YtplginnkececaaaGreatDoor
open Go
namespace X

structure BM where
  rb : Nat
  ro : Nat
  sz : Nat
  n : Nat
  csz : Nat

abbrev Mu := Nat → Option BM
def noMu : Mu := fun _ => none

def Born (en : Array MapEntry) (clock : Nat) : Prop := (en.toList.map (·.born)).Nodup ∧ ∀ e ∈ en.toList, e.born < clock

mutual
inductive RV (w : World) (σ : Nat → Prop) : Mu → AV → Value → Prop
  | undef (μ v) : RV w σ μ .undef v
  | bool (μ b) : RV w σ μ (.bool b) (.bool b)
  | int (μ k n) : RV w σ μ (.int k n) (.int k n)
  | str (μ s) : RV w σ μ (.str s) (.string ⟨s.toArray⟩)
  | nilptr (μ) : RV w σ μ .nilptr (.pointer none)
  | nilslice (μ) : RV w σ μ .nilslice (.slice none 0 0)
  | nilmap (μ) : RV w σ μ .nilmap (.map none)
  | nilfunc (μ) : RV w σ μ .nilfunc .nilFunc
  | niliface (μ) : RV w σ μ .niliface .nilIface
  | ptr (μ : Mu) (b i off m) : μ b = some m → RV w σ μ (.ptr b i off) (.pointer (some ⟨m.rb, m.ro + i * m.sz + off, none⟩))
  | slice (μ : Mu) (b off len cap m) : μ b = some m → len ≤ cap → m.n ≤ off + cap → m.ro + (off + cap) * m.sz ≤ m.csz →
      RV w σ μ (.slice b off len) (.slice (some ⟨m.rb, m.ro + off * m.sz, none⟩) len cap)
  | map (μ : Mu) (b m) : μ b = some m → RV w σ μ (.map b) (.map (some m.rb))
  | iter (μ : Mu) (b m) : μ b = some m → RV w σ μ (.iter b) (.pointer (some ⟨m.rb, 0, none⟩))
  | vptr (μ cs rb off c ty fz vs) : σ rb → w.heap[rb]? = some (.cells c ty fz) → (∀ i, i < vs.length → c[off + i]? = vs[i]?) → RVs w σ noMu cs vs →
      RV w σ μ (.vptr cs) (.pointer (some ⟨rb, off, none⟩))
  | vslice0 (μ a cap) : RV w σ μ (.vslice []) (.slice a 0 cap)
  | vslice (μ es rb off c ty fz vs sz cap) : σ rb → w.heap[rb]? = some (.cells c ty fz) → (∀ i, i < vs.length → c[off + i]? = vs[i]?) →
      (∀ e ∈ es, e.cells.length = sz ∧ e.cells.all AV.storable = true) → RVs w σ noMu (es.flatMap AV.cells) vs → es.length ≤ cap →
      RV w σ μ (.vslice es) (.slice (some ⟨rb, off, none⟩) es.length cap)
  | vmap (μ ks vs rb en clock) : σ rb → w.heap[rb]? = some (.map en clock) → Born en clock → RVs w σ noMu ks (en.toList.map (·.key)) → RVs w σ noMu vs (en.toList.map (·.val)) →
      RV w σ μ (.vmap ks vs) (.map (some rb))
  | func (μ f cap xs) : RVs w σ μ cap xs → RV w σ μ (.func (.func f) cap) (.func (.func f) #[] xs.toArray)
  | iface (μ t v x) : RV w σ μ v x → RV w σ μ (.iface t v) (.iface t x)
  | agg (μ cs xs) : RVs w σ μ cs xs → RV w σ μ (.agg cs) (.agg xs.toArray)
  | tuple (μ cs xs) : RVs w σ μ cs xs → RV w σ μ (.tuple cs) (.tuple xs.toArray)
inductive RVs (w : World) (σ : Nat → Prop) : Mu → List AV → List Value → Prop
  | nil (μ) : RVs w σ μ [] []
  | cons (μ v x vs xs) : RV w σ μ v x → RVs w σ μ vs xs → RVs w σ μ (v :: vs) (x :: xs)
end

mutual
theorem RV.mono {w w' : World} {σ σ' : Nat → Prop} (hσ : ∀ b, σ b → σ' b ∧ w'.heap[b]? = w.heap[b]?) : ∀ {μ : Mu} {v : AV} {x : Value}, RV w σ μ v x → ∀ {μ' : Mu}, (∀ b m, μ b = some m → μ' b = some m) → RV w' σ' μ' v x
  | _, _, _, .undef _ _, _, _ => .undef _ _
  | _, _, _, .bool _ _, _, _ => .bool _ _
  | _, _, _, .int _ _ _, _, _ => .int _ _ _
  | _, _, _, .str _ _, _, _ => .str _ _
  | _, _, _, .nilptr _, _, _ => .nilptr _
  | _, _, _, .nilslice _, _, _ => .nilslice _
  | _, _, _, .nilmap _, _, _ => .nilmap _
  | _, _, _, .nilfunc _, _, _ => .nilfunc _
  | _, _, _, .niliface _, _, _ => .niliface _
  | _, _, _, .ptr _ _ _ _ _ h, _, hμ => .ptr _ _ _ _ _ (hμ _ _ h)
  | _, _, _, .slice _ _ _ _ _ _ h h1 h2 h3, _, hμ => .slice _ _ _ _ _ _ (hμ _ _ h) h1 h2 h3
  | _, _, _, .map _ _ _ h, _, hμ => .map _ _ _ (hμ _ _ h)
  | _, _, _, .iter _ _ _ h, _, hμ => .iter _ _ _ (hμ _ _ h)
  | _, _, _, .vptr _ _ _ _ _ _ _ _ h1 h2 h3 h4, _, _ => .vptr _ _ _ _ _ _ _ _ (hσ _ h1).1 ((hσ _ h1).2.trans h2) h3 (RVs.mono hσ h4 fun _ _ h => h)
  | _, _, _, .vslice0 _ _ _, _, _ => .vslice0 _ _ _
  | _, _, _, .vslice _ _ _ _ _ _ _ _ _ _ h1 h2 h3 h4 h5 h6, _, _ => .vslice _ _ _ _ _ _ _ _ _ _ (hσ _ h1).1 ((hσ _ h1).2.trans h2) h3 h4 (RVs.mono hσ h5 fun _ _ h => h) h6
  | _, _, _, .vmap _ _ _ _ _ _ h1 h2 hb h3 h4, _, _ => .vmap _ _ _ _ _ _ (hσ _ h1).1 ((hσ _ h1).2.trans h2) hb (RVs.mono hσ h3 fun _ _ h => h) (RVs.mono hσ h4 fun _ _ h => h)
  | _, _, _, .func _ _ _ _ h, _, hμ => .func _ _ _ _ (RVs.mono hσ h hμ)
  | _, _, _, .iface _ _ _ _ h, _, hμ => .iface _ _ _ _ (RV.mono hσ h hμ)
  | _, _, _, .agg _ _ _ h, _, hμ => .agg _ _ _ (RVs.mono hσ h hμ)
  | _, _, _, .tuple _ _ _ h, _, hμ => .tuple _ _ _ (RVs.mono hσ h hμ)
theorem RVs.mono {w w' : World} {σ σ' : Nat → Prop} (hσ : ∀ b, σ b → σ' b ∧ w'.heap[b]? = w.heap[b]?) : ∀ {μ : Mu} {vs : List AV} {xs : List Value}, RVs w σ μ vs xs → ∀ {μ' : Mu}, (∀ b m, μ b = some m → μ' b = some m) → RVs w' σ' μ' vs xs
  | _, _, _, .nil _, _, _ => .nil _
  | _, _, _, .cons _ _ _ _ _ h hs, _, hμ => .cons _ _ _ _ _ (RV.mono hσ h hμ) (RVs.mono hσ hs hμ)
end

section inv
variable {w : World} {σ : Nat → Prop} {μ : Mu} {x : Value}

theorem RV.slice_inv {b off len : Nat} (h : RV w σ μ (.slice b off len) x) : ∃ cap m, x = .slice (some ⟨m.rb, m.ro + off * m.sz, none⟩) len cap ∧ μ b = some m ∧ len ≤ cap ∧ m.n ≤ off + cap ∧ m.ro + (off + cap) * m.sz ≤ m.csz := by
  cases h with | slice _ _ _ _ cap m h1 h2 h3 h4 => exact ⟨cap, m, rfl, h1, h2, h3, h4⟩

theorem RV.ptr_inv {b i off : Nat} (h : RV w σ μ (.ptr b i off) x) : ∃ m, x = .pointer (some ⟨m.rb, m.ro + i * m.sz + off, none⟩) ∧ μ b = some m := by
  cases h with | ptr _ _ _ _ m h1 => exact ⟨m, rfl, h1⟩

theorem RV.map_inv {b : Nat} (h : RV w σ μ (.map b) x) : ∃ m, x = .map (some m.rb) ∧ μ b = some m := by
  cases h with | map _ _ m h1 => exact ⟨m, rfl, h1⟩

theorem RV.vptr_inv {cs : List AV} (h : RV w σ μ (.vptr cs) x) : ∃ rb off c ty fz vs, x = .pointer (some ⟨rb, off, none⟩) ∧ σ rb ∧ w.heap[rb]? = some (.cells c ty fz) ∧
    (∀ i, i < vs.length → c[off + i]? = vs[i]?) ∧ RVs w σ noMu cs vs := by
  cases h with | vptr _ _ rb off c ty fz vs h1 h2 h3 h4 => exact ⟨rb, off, c, ty, fz, vs, rfl, h1, h2, h3, h4⟩

theorem RV.vslice_inv {es : List AV} (h : RV w σ μ (.vslice es) x) : (es = [] ∧ ∃ a cap, x = .slice a 0 cap) ∨ ∃ rb off c ty fz vs sz cap, x = .slice (some ⟨rb, off, none⟩) es.length cap ∧ σ rb ∧
    w.heap[rb]? = some (.cells c ty fz) ∧ (∀ i, i < vs.length → c[off + i]? = vs[i]?) ∧ (∀ e ∈ es, e.cells.length = sz ∧ e.cells.all AV.storable = true) ∧ RVs w σ noMu (es.flatMap AV.cells) vs ∧ es.length ≤ cap := by
  cases h with
  | vslice0 _ a cap => exact .inl ⟨rfl, a, cap, rfl⟩
  | vslice _ _ rb off c ty fz vs sz cap h1 h2 h3 h4 h5 h6 => exact .inr ⟨rb, off, c, ty, fz, vs, sz, cap, rfl, h1, h2, h3, h4, h5, h6⟩

theorem RV.vmap_inv {ks vs : List AV} (h : RV w σ μ (.vmap ks vs) x) : ∃ rb en clock, x = .map (some rb) ∧ σ rb ∧ w.heap[rb]? = some (.map en clock) ∧
    RVs w σ noMu ks (en.toList.map (·.key)) ∧ RVs w σ noMu vs (en.toList.map (·.val)) := by
  cases h with | vmap _ _ _ rb en clock h1 h2 hb h3 h4 => exact ⟨rb, en, clock, rfl, h1, h2, h3, h4⟩

theorem RV.vmap_born {ks vs : List AV} (h : RV w σ μ (.vmap ks vs) x) : ∃ rb en clock, x = .map (some rb) ∧ σ rb ∧ w.heap[rb]? = some (.map en clock) ∧ Born en clock ∧
    RVs w σ noMu ks (en.toList.map (·.key)) ∧ RVs w σ noMu vs (en.toList.map (·.val)) := by
  cases h with | vmap _ _ _ rb en clock h1 h2 hb h3 h4 => exact ⟨rb, en, clock, rfl, h1, h2, hb, h3, h4⟩

theorem RV.int_inv {k : IntKind} {n : Int} (h : RV w σ μ (.int k n) x) : x = .int k n := by cases h; rfl
theorem RV.str_inv {s : List UInt8} (h : RV w σ μ (.str s) x) : x = .string ⟨s.toArray⟩ := by cases h; rfl
theorem RV.bool_inv {b : Bool} (h : RV w σ μ (.bool b) x) : x = .bool b := by cases h; rfl
theorem RV.nilslice_inv (h : RV w σ μ .nilslice x) : x = .slice none 0 0 := by cases h; rfl
theorem RV.nilmap_inv (h : RV w σ μ .nilmap x) : x = .map none := by cases h; rfl
theorem RV.nilptr_inv (h : RV w σ μ .nilptr x) : x = .pointer none := by cases h; rfl
theorem RV.agg_inv {cs : List AV} (h : RV w σ μ (.agg cs) x) : ∃ xs, x = .agg xs.toArray ∧ RVs w σ μ cs xs := by cases h with | agg _ _ xs h => exact ⟨xs, rfl, h⟩
theorem RV.tuple_inv {cs : List AV} (h : RV w σ μ (.tuple cs) x) : ∃ xs, x = .tuple xs.toArray ∧ RVs w σ μ cs xs := by cases h with | tuple _ _ xs h => exact ⟨xs, rfl, h⟩
theorem RV.func_inv {fn : Fn} {cs : List AV} (h : RV w σ μ (.func fn cs) x) : ∃ f xs, fn = .func f ∧ x = .func (.func f) #[] xs.toArray ∧ RVs w σ μ cs xs := by
  cases h with | func _ f _ xs h => exact ⟨f, xs, rfl, rfl, h⟩
theorem RV.iface_inv {t : Nat} {v : AV} (h : RV w σ μ (.iface t v) x) : ∃ y, x = .iface t y ∧ RV w σ μ v y := by cases h with | iface _ _ _ y h => exact ⟨y, rfl, h⟩
end inv

section lists
variable {w : World} {σ : Nat → Prop} {μ : Mu}

theorem RVs.length {vs : List AV} {xs : List Value} (h : RVs w σ μ vs xs) : vs.length = xs.length := by
  induction vs generalizing xs with
  | nil => cases h; rfl
  | cons v vs ih => cases h with | cons _ _ _ _ _ h hs => simp [ih hs]

theorem RVs.get {vs : List AV} {xs : List Value} (h : RVs w σ μ vs xs) {i : Nat} {v : AV} (hi : vs[i]? = some v) : ∃ x, xs[i]? = some x ∧ RV w σ μ v x := by
  induction vs generalizing xs i with
  | nil => simp at hi
  | cons u us ih =>
    cases h with
    | cons _ _ x _ xs h hs =>
      cases i with
      | zero => simp at hi; subst hi; exact ⟨x, by simp, h⟩
      | succ i => simp at hi; obtain ⟨y, hy, r⟩ := ih hs hi; exact ⟨y, by simpa using hy, r⟩

theorem RVs.of_get {vs : List AV} {xs : List Value} (hl : vs.length = xs.length) (h : ∀ (i : Nat) (v : AV) (x : Value), vs[i]? = some v → xs[i]? = some x → RV w σ μ v x) : RVs w σ μ vs xs := by
  induction vs generalizing xs with
  | nil => cases xs with | nil => exact .nil _ | cons => simp at hl
  | cons v vs ih =>
    cases xs with
    | nil => simp at hl
    | cons x xs =>
      exact .cons _ _ _ _ _ (h 0 v x (by simp) (by simp)) (ih (by simpa using hl) fun i v x h1 h2 => h (i + 1) v x (by simpa using h1) (by simpa using h2))

theorem RVs.append {vs us : List AV} {xs ys : List Value} (h : RVs w σ μ vs xs) (h' : RVs w σ μ us ys) : RVs w σ μ (vs ++ us) (xs ++ ys) := by
  induction vs generalizing xs with
  | nil => cases h; exact h'
  | cons v vs ih => cases h with | cons _ _ _ _ _ h hs => exact .cons _ _ _ _ _ h (ih hs)

theorem RVs.take {vs : List AV} {xs : List Value} (h : RVs w σ μ vs xs) (n : Nat) : RVs w σ μ (vs.take n) (xs.take n) := by
  induction vs generalizing xs n with
  | nil => cases h; simpa using RVs.nil μ
  | cons v vs ih =>
    cases h with
    | cons _ _ _ _ _ h hs =>
      cases n with
      | zero => simpa using RVs.nil μ
      | succ n => exact .cons _ _ _ _ _ h (ih hs n)

theorem RVs.drop {vs : List AV} {xs : List Value} (h : RVs w σ μ vs xs) (n : Nat) : RVs w σ μ (vs.drop n) (xs.drop n) := by
  induction vs generalizing xs n with
  | nil => cases h; simpa using RVs.nil μ
  | cons v vs ih =>
    cases h with
    | cons _ _ _ _ _ h hs =>
      cases n with
      | zero => exact .cons _ _ _ _ _ h hs
      | succ n => exact ih hs n

theorem RVs.split {vs us : List AV} {xs : List Value} (h : RVs w σ μ (vs ++ us) xs) : RVs w σ μ vs (xs.take vs.length) ∧ RVs w σ μ us (xs.drop vs.length) := by
  have h1 := h.take vs.length
  have h2 := h.drop vs.length
  simp at h1 h2
  exact ⟨h1, h2⟩

theorem RV.cellsOf {v : AV} {x : Value} (h : RV w σ μ v x) (hv : v.cells.all AV.storable = true) : RVs w σ μ v.cells x.cells.toList := by
  cases h <;> first
    | (simp [AV.cells, AV.storable] at hv; done)
    | (simp only [AV.cells, Value.cells]; exact .cons _ _ _ _ _ (by constructor <;> assumption) (.nil _))
    | (simpa [AV.cells, Value.cells] using ‹RVs w σ μ _ _›)

theorem RV.oneCell {v : AV} {x : Value} (h : RV w σ μ v x) (hv : v.storable = true) : x.oneCell' = true := by
  cases h <;> first
    | rfl
    | simp [AV.storable] at hv

end lists

def BR (w : World) (σ : Nat → Prop) (μ : Mu) (m : BM) : Blk → Prop
  | .arr sz es => m.sz = sz ∧ m.n = es.length ∧ (∀ e ∈ es, e.cells.length = sz ∧ e.cells.all AV.storable = true) ∧ m.ro + m.n * m.sz ≤ m.csz ∧
      ∃ c ty, w.heap[m.rb]? = some (.cells c ty (0, 0)) ∧ c.size = m.csz ∧ ∃ vs, RVs w σ μ (es.flatMap AV.cells) vs ∧ ∀ i, i < vs.length → c[m.ro + i]? = vs[i]?
  | .map ks vs => ∃ en clock, w.heap[m.rb]? = some (.map en clock) ∧ RVs w σ μ ks (en.toList.map (·.key)) ∧ RVs w σ μ vs (en.toList.map (·.val)) ∧ Born en clock
  | .dead => True

def Blk.alive : Blk → Prop
  | .dead => False
  | _ => True

structure HR (G : Nat → Option AV) (B : Nat) (σ : Nat → Prop) (μ : Mu) (H : Heap) (w : World) : Prop where
  dom : ∀ b m, μ b = some m → b < H.length
  has : ∀ b, b < H.length → ∃ m, μ b = some m
  st : ∀ b, σ b → b < w.heap.size
  base : B ≤ w.heap.size
  glob : ∀ g v, G g = some v → RV w σ noMu v (.pointer (some ⟨g, 0, none⟩))
  blk : ∀ b k m, H[b]? = some k → μ b = some m → BR w σ μ m k
  own : ∀ b k m, H[b]? = some k → k.alive → μ b = some m → B ≤ m.rb ∧ m.rb < w.heap.size ∧ ¬ σ m.rb
  inj : ∀ b b' k k' m m', H[b]? = some k → k.alive → H[b']? = some k' → k'.alive → μ b = some m → μ b' = some m' → m.rb = m'.rb → b = b'

structure Same (w w' : World) : Prop where
  os : w'.os = w.os
  tape : w'.tape = w.tape
  output : w'.output = w.output

theorem Same.refl (w : World) : Same w w := ⟨rfl, rfl, rfl⟩
theorem Same.trans {w w' w'' : World} (h : Same w w') (h' : Same w' w'') : Same w w'' := ⟨h'.os.trans h.os, h'.tape.trans h.tape, h'.output.trans h.output⟩

structure Step (B : Nat) (σ : Nat → Prop) (μ : Mu) (w : World) (σ' : Nat → Prop) (μ' : Mu) (w' : World) : Prop where
  sub : ∀ b, σ b → σ' b ∧ w'.heap[b]? = w.heap[b]?
  mu : ∀ b m, μ b = some m → μ' b = some m
  old : ∀ b, b < B → w'.heap[b]? = w.heap[b]?
  size : w.heap.size ≤ w'.heap.size
  new : ∀ b, σ' b → σ b ∨ B ≤ b
  out : Same w w'

theorem Step.refl (B : Nat) (σ : Nat → Prop) (μ : Mu) (w : World) : Step B σ μ w σ μ w := ⟨fun _ h => ⟨h, rfl⟩, fun _ _ h => h, fun _ _ => rfl, Nat.le_refl _, fun _ h => .inl h, Same.refl w⟩

theorem Step.trans {B : Nat} {σ σ' σ'' : Nat → Prop} {μ μ' μ'' : Mu} {w w' w'' : World} (h : Step B σ μ w σ' μ' w') (h' : Step B σ' μ' w' σ'' μ'' w'') : Step B σ μ w σ'' μ'' w'' :=
  ⟨fun b hb => ⟨(h'.sub b (h.sub b hb).1).1, (h'.sub b (h.sub b hb).1).2.trans (h.sub b hb).2⟩, fun b m hb => h'.mu b m (h.mu b m hb),
    fun b hb => (h'.old b hb).trans (h.old b hb), Nat.le_trans h.size h'.size, fun b hb => (h'.new b hb).elim (fun h1 => h.new b h1) .inr, h.out.trans h'.out⟩

theorem RV.step {B : Nat} {σ σ' : Nat → Prop} {μ μ' : Mu} {w w' : World} {v : AV} {x : Value} (h : RV w σ μ v x) (s : Step B σ μ w σ' μ' w') : RV w' σ' μ' v x := h.mono s.sub s.mu
theorem RVs.step {B : Nat} {σ σ' : Nat → Prop} {μ μ' : Mu} {w w' : World} {v : List AV} {x : List Value} (h : RVs w σ μ v x) (s : Step B σ μ w σ' μ' w') : RVs w' σ' μ' v x := h.mono s.sub s.mu

def ER (σ : Nat → Prop) (μ : Mu) (e : Env) (w : World) (a : Act) : Prop := ∀ t, RV w σ μ (e t) (a.tmps.getD t undef)

theorem ER.step {B : Nat} {σ σ' : Nat → Prop} {μ μ' : Mu} {e : Env} {w w' : World} {a : Act} (h : ER σ μ e w a) (s : Step B σ μ w σ' μ' w') : ER σ' μ' e w' a := fun t => (h t).step s


theorem BR.mono {w w' : World} {σ σ' : Nat → Prop} {μ μ' : Mu} {m : BM} {k : Blk} (h : BR w σ μ m k) (hσ : ∀ b, σ b → σ' b ∧ w'.heap[b]? = w.heap[b]?)
    (hμ : ∀ b m, μ b = some m → μ' b = some m) (hb : k.alive → w'.heap[m.rb]? = w.heap[m.rb]?) : BR w' σ' μ' m k := by
  cases k with
  | dead => trivial
  | arr sz es =>
    obtain ⟨h1, h2, h3, h4, c, ty, h5, h6, vs, h7, h8⟩ := h
    exact ⟨h1, h2, h3, h4, c, ty, (hb trivial).trans h5, h6, vs, h7.mono hσ hμ, h8⟩
  | map ks vs =>
    obtain ⟨en, clock, h1, h2, h3⟩ := h
    exact ⟨en, clock, (hb trivial).trans h1, h2.mono hσ hμ, h3.1.mono hσ hμ, h3.2⟩

def Mu.put (μ : Mu) (b : Nat) (m : BM) : Mu := fun x => if x = b then some m else μ x

section upd
variable {G : Nat → Option AV} {B : Nat} {σ : Nat → Prop} {μ : Mu} {H : Heap} {w w' : World}

theorem HR.same (h : HR G B σ μ H w) (hw : w'.heap = w.heap) (ho : Same w w' := by exact ⟨rfl, rfl, rfl⟩) : HR G B σ μ H w' ∧ Step B σ μ w σ μ w' := by
  have hs : ∀ b, σ b → σ b ∧ w'.heap[b]? = w.heap[b]? := fun b hb => ⟨hb, by rw [hw]⟩
  refine ⟨⟨h.dom, h.has, fun b hb => by rw [hw]; exact h.st b hb, by rw [hw]; exact h.base, fun g v hg => (h.glob g v hg).mono hs (fun _ _ h => h),
    fun b k m hk hm => (h.blk b k m hk hm).mono hs (fun _ _ h => h) fun _ => by rw [hw], fun b k m hk ha hm => by rw [hw]; exact h.own b k m hk ha hm, h.inj⟩,
    ⟨hs, fun _ _ h => h, fun _ _ => by rw [hw], by rw [hw]; exact Nat.le_refl _, fun _ h => .inl h, ho⟩⟩

theorem HR.more (h : HR G B σ μ H w) (hn : w.heap.size ≤ w'.heap.size) (hw : ∀ r, r < w.heap.size → w'.heap[r]? = w.heap[r]?) {σ' : Nat → Prop}
    (h1 : ∀ b, σ b → σ' b) (h2 : ∀ b, σ' b → σ b ∨ (w.heap.size ≤ b ∧ b < w'.heap.size)) (ho : Same w w' := by exact ⟨rfl, rfl, rfl⟩) : HR G B σ' μ H w' ∧ Step B σ μ w σ' μ w' := by
  have hs : ∀ b, σ b → σ' b ∧ w'.heap[b]? = w.heap[b]? := fun b hb => ⟨h1 b hb, hw b (h.st b hb)⟩
  refine ⟨⟨h.dom, h.has, fun b hb => ?_, Nat.le_trans h.base hn, fun g v hg => (h.glob g v hg).mono hs (fun _ _ h => h),
    fun b k m hk hm => (h.blk b k m hk hm).mono hs (fun _ _ h => h) fun ha => hw _ (h.own b k m hk ha hm).2.1, fun b k m hk ha hm => ?_, h.inj⟩,
    ⟨hs, fun _ _ h => h, fun b hb => hw b (Nat.lt_of_lt_of_le hb h.base), hn, fun b hb => (h2 b hb).imp id fun h3 => Nat.le_trans h.base h3.1, ho⟩⟩
  · rcases h2 b hb with h3 | h3
    · exact Nat.lt_of_lt_of_le (h.st b h3) hn
    · exact h3.2
  · obtain ⟨a1, a2, a3⟩ := h.own b k m hk ha hm
    refine ⟨a1, Nat.lt_of_lt_of_le a2 hn, fun hc => ?_⟩
    rcases h2 _ hc with h3 | h3
    · exact a3 h3
    · omega

theorem HR.upd (h : HR G B σ μ H w) {b : Nat} {k k' : Blk} {m : BM} (hb : H[b]? = some k) (ha : k.alive) (hm : μ b = some m) (hn : w'.heap.size = w.heap.size)
    (hw : ∀ r, r ≠ m.rb → w'.heap[r]? = w.heap[r]?) (hk : (∀ b, σ b → σ b ∧ w'.heap[b]? = w.heap[b]?) → BR w' σ μ m k') (ho : Same w w' := by exact ⟨rfl, rfl, rfl⟩) : HR G B σ μ (H.set b k') w' ∧ Step B σ μ w σ μ w' := by
  have hown := h.own b k m hb ha hm
  have hlt : b < H.length := h.dom b m hm
  have hs : ∀ b, σ b → σ b ∧ w'.heap[b]? = w.heap[b]? := fun c hc => ⟨hc, hw c fun e => hown.2.2 (e ▸ hc)⟩
  have look : ∀ (c : Nat) (j : Blk), (H.set b k')[c]? = some j → (c = b ∧ j = k') ∨ (c ≠ b ∧ H[c]? = some j) := by
    intro c j hc
    by_cases e : c = b
    · subst e; simp [hlt] at hc; exact .inl ⟨rfl, hc.symm⟩
    · rw [List.getElem?_set_ne (fun e' => e e'.symm)] at hc; exact .inr ⟨e, hc⟩
  refine ⟨⟨fun c n hc => by simpa using h.dom c n hc, fun c hc => h.has c (by simpa using hc), fun c hc => by rw [hn]; exact h.st c hc, by rw [hn]; exact h.base,
    fun g v hg => (h.glob g v hg).mono hs (fun _ _ h => h), ?_, ?_, ?_⟩, ⟨hs, fun _ _ h => h, fun c hc => hw c fun e => by omega, by omega, fun _ h => .inl h, ho⟩⟩
  · intro c j n hc hcn
    rcases look c j hc with ⟨rfl, rfl⟩ | ⟨hne, hc⟩
    · rw [hm] at hcn; injection hcn with hcn; subst hcn; exact hk hs
    · exact (h.blk c j n hc hcn).mono hs (fun _ _ h => h) fun hj => hw _ fun e => hne (h.inj c b j k n m hc hj hb ha hcn hm e)
  · intro c j n hc hj hcn
    rcases look c j hc with ⟨rfl, rfl⟩ | ⟨hne, hc⟩
    · rw [hm] at hcn; injection hcn with hcn; subst hcn; rw [hn]; exact hown
    · rw [hn]; exact h.own c j n hc hj hcn
  · intro c c' j j' n n' hc hj hc' hj' hcn hcn' e
    rcases look c j hc with ⟨e1, _⟩ | ⟨_, p1⟩ <;> rcases look c' j' hc' with ⟨e2, _⟩ | ⟨_, p2⟩
    · exact e1.trans e2.symm
    · subst e1; exact h.inj _ _ k j' n n' hb ha p2 hj' hcn hcn' e
    · subst e2; exact h.inj _ _ j k n n' p1 hj hb ha hcn hcn' e
    · exact h.inj _ _ j j' n n' p1 hj p2 hj' hcn hcn' e

theorem HR.kill (h : HR G B σ μ H w) (b : Nat) : HR G B σ μ (H.set b .dead) w := by
  have look : ∀ (c : Nat) (j : Blk), (H.set b .dead)[c]? = some j → j.alive → H[c]? = some j := by
    intro c j hc hj
    by_cases e : c = b
    · subst e
      by_cases hl : c < H.length
      · simp [hl] at hc; subst hc; exact hj.elim
      · simp [List.getElem?_eq_none (by simpa using hl : (H.set c .dead).length ≤ c)] at hc
    · rwa [List.getElem?_set_ne (fun e' => e e'.symm)] at hc
  refine ⟨fun c n hc => by simpa using h.dom c n hc, fun c hc => h.has c (by simpa using hc), h.st, h.base, h.glob, ?_, ?_, ?_⟩
  · intro c j n hc hcn
    cases j with
    | dead => trivial
    | arr sz es => exact h.blk c _ n (look c _ hc trivial) hcn
    | map ks vs => exact h.blk c _ n (look c _ hc trivial) hcn
  · intro c j n hc hj hcn; exact h.own c j n (look c j hc hj) hj hcn
  · intro c c' j j' n n' hc hj hc' hj' hcn hcn' e; exact h.inj c c' j j' n n' (look c j hc hj) hj (look c' j' hc' hj') hj' hcn hcn' e

theorem HR.new (h : HR G B σ μ H w) {k : Blk} {m : BM} (hn : w.heap.size ≤ w'.heap.size) (hb : B ≤ m.rb) (hlt : m.rb < w'.heap.size) (hσm : ¬ σ m.rb)
    (hfree : ∀ c j n, H[c]? = some j → j.alive → μ c = some n → n.rb ≠ m.rb)
    (hw : ∀ r, r < w.heap.size → r ≠ m.rb → w'.heap[r]? = w.heap[r]?)
    (hk : (∀ b, σ b → σ b ∧ w'.heap[b]? = w.heap[b]?) → (∀ b n, μ b = some n → (μ.put H.length m) b = some n) → BR w' σ (μ.put H.length m) m k) (ho : Same w w' := by exact ⟨rfl, rfl, rfl⟩) :
    HR G B σ (μ.put H.length m) (H ++ [k]) w' ∧ Step B σ μ w σ (μ.put H.length m) w' := by
  have hs : ∀ b, σ b → σ b ∧ w'.heap[b]? = w.heap[b]? := fun c hc => ⟨hc, hw c (h.st c hc) fun e => hσm (e ▸ hc)⟩
  have hmu : ∀ b n, μ b = some n → (μ.put H.length m) b = some n := fun c n hc => by
    have := h.dom c n hc
    simp [Mu.put, show c ≠ H.length by omega, hc]
  have look : ∀ (c : Nat) (j : Blk) (n : BM), (H ++ [k])[c]? = some j → (μ.put H.length m) c = some n → (c = H.length ∧ j = k ∧ n = m) ∨ (c ≠ H.length ∧ H[c]? = some j ∧ μ c = some n) := by
    intro c j n hc hn
    by_cases e : c = H.length
    · subst e; simp at hc; simp [Mu.put] at hn; exact .inl ⟨rfl, hc.symm, hn.symm⟩
    · have hl : c < H.length := by
        have := (List.getElem?_eq_some_iff.1 hc).1
        simp at this; omega
      rw [List.getElem?_append_left hl] at hc
      simp [Mu.put, e] at hn
      exact .inr ⟨e, hc, hn⟩
  refine ⟨⟨?_, ?_, fun c hc => Nat.lt_of_lt_of_le (h.st c hc) hn, Nat.le_trans h.base hn, fun g v hg => (h.glob g v hg).mono hs (fun _ _ h => h), ?_, ?_, ?_⟩,
    ⟨hs, hmu, fun c hc => hw c (Nat.lt_of_lt_of_le hc h.base) fun e => by omega, hn, fun _ h => .inl h, ho⟩⟩
  · intro c n hc
    by_cases e : c = H.length
    · simp [e]
    · simp [Mu.put, e] at hc; have := h.dom c n hc; simp; omega
  · intro c hc
    by_cases e : c = H.length
    · exact ⟨m, by simp [Mu.put, e]⟩
    · simp at hc; obtain ⟨n, hn⟩ := h.has c (by omega); exact ⟨n, hmu c n hn⟩
  · intro c j n hc hcn
    rcases look c j n hc hcn with ⟨rfl, rfl, rfl⟩ | ⟨hne, hc, hcn⟩
    · exact hk hs hmu
    · exact (h.blk c j n hc hcn).mono hs hmu fun hj => hw _ (h.own c j n hc hj hcn).2.1 (hfree c j n hc hj hcn)
  · intro c j n hc hj hcn
    rcases look c j n hc hcn with ⟨rfl, rfl, rfl⟩ | ⟨hne, hc, hcn⟩
    · exact ⟨hb, hlt, hσm⟩
    · obtain ⟨a1, a2, a3⟩ := h.own c j n hc hj hcn; exact ⟨a1, by omega, a3⟩
  · intro c c' j j' n n' hc hj hc' hj' hcn hcn' e
    rcases look c j n hc hcn with ⟨e1, _, f1⟩ | ⟨_, p1, q1⟩ <;> rcases look c' j' n' hc' hcn' with ⟨e2, _, f2⟩ | ⟨_, p2, q2⟩
    · exact e1.trans e2.symm
    · subst f1; exact absurd e.symm (hfree c' j' n' p2 hj' q2)
    · subst f2; exact absurd e (hfree c j n p1 hj q1)
    · exact h.inj c c' j j' n n' p1 hj p2 hj' q1 q2 e

theorem HR.alloc (h : HR G B σ μ H w) {k : Blk} {m : BM} (hm : m.rb = w.heap.size) (hlt : w.heap.size < w'.heap.size) (hw : ∀ r, r < w.heap.size → w'.heap[r]? = w.heap[r]?)
    (hk : (∀ b, σ b → σ b ∧ w'.heap[b]? = w.heap[b]?) → (∀ b n, μ b = some n → (μ.put H.length m) b = some n) → BR w' σ (μ.put H.length m) m k) (ho : Same w w' := by exact ⟨rfl, rfl, rfl⟩) :
    HR G B σ (μ.put H.length m) (H ++ [k]) w' ∧ Step B σ μ w σ (μ.put H.length m) w' :=
  h.new (Nat.le_of_lt hlt) (hm ▸ h.base) (hm ▸ hlt) (fun hc => by have := h.st _ hc; omega) (fun c j n hc hj hcn e => by have := (h.own c j n hc hj hcn).2.1; omega)
    (fun r hr _ => hw r hr) hk ho
end upd

end X
end Go.Proofs.YtplginnkececaaaGreatDoor

namespace Go.Proofs.YtplginnkececaaaGreatDoor
open Go
namespace X

def ofScalar : Value → Option AV
  | .bool b => some (.bool b)
  | .int k n => some (.int k n)
  | .string s => some (.str s.data.toList)
  | .pointer none => some .nilptr
  | .slice none 0 0 => some .nilslice
  | .map none => some .nilmap
  | .nilFunc => some .nilfunc
  | .nilIface => some .niliface
  | .func (.func f) ⟨[]⟩ ⟨[]⟩ => some (.func (.func f) [])
  | _ => none

def ofValue : Value → Option AV
  | .agg cs => (cs.toList.mapM ofScalar).map .agg
  | .tuple ⟨[]⟩ => some (.tuple [])
  | v => ofScalar v

section
variable (P : Program) (G : Nat → Option AV)

def compArg : Operand → Option Arg
  | .tmp t => some (.tmp t)
  | .const v => (ofValue v).map .const
  | .global g => (G g).map .const
  | .func f => some (.const (.func (.func f) []))

def compArgO : Option Operand → Option (Option Arg)
  | none => some none
  | some x => (compArg G x).map some

def flatFs (rec : TypeId → Option (List FK)) : List Field → Nat → Option (List FK)
  | [], _ => some []
  | f :: fs, off =>
    if f.name ≠ "_" ∧ f.offset = off then
      (rec f.type).bind fun ks => if (P.info? f.type).map (·.size) = some ks.length then (flatFs rec fs (off + ks.length)).map (ks ++ ·) else none
    else none

def flatK : Nat → TypeId → Option (List FK)
  | 0, _ => none
  | d + 1, t =>
    match P.underlying t with
    | some (.int _) => some [.int]
    | some .string => some [.str]
    | some .bool => some [.bool]
    | some (.struct fs) => if P.stoodInHeld t then none else flatFs P (flatK d) fs.toList 0
    | _ => none

def ekOf (t : TypeId) : EK :=
  match P.underlying t with
  | some (.int _) => .one .int
  | some .string => .one .str
  | some .bool => .one .bool
  | some (.struct _) => if P.eqGuardType P.depth t then .other else match flatK P 8 t with | some fs => .agg fs | none => .other
  | some (.pointer el) => if 0 < P.cellsOf el then .ptr else .other
  | some (.interface _) => .iface
  | some (.slice _) => .slice
  | some (.func _ _ _) => .func
  | some (.map _ _) => .map
  | _ => .other

def isAggT (t : TypeId) : Option (Option Nat) :=
  match P.underlying t, P.info? t with
  | some (.struct _), some i | some (.array _ _), some i => some (some i.size)
  | some _, some _ => some none
  | _, _ => none

def keyOf (t : TypeId) : Option EK :=
  match ekOf P t with
  | .one f => some (.one f)
  | .agg fs => some (.agg fs)
  | _ => none

def compBuiltin (b : Builtin) (argTypes : List TypeId) (args : List Operand) : Option XOp :=
  match b, argTypes, args with
  | .len, [t], [x] =>
    (compArg G x).map (.len (ekOf P t))
  | .append, [t, u], [x, y] =>
    match P.underlying t with
    | some (.slice el) => (P.info? el).bind fun i => i.zero.bind fun z =>
      match P.underlying u with
      | some (.slice _) => if z.cells.size = i.size ∧ 0 < i.bytes ∧ t = u then (compArg G x).bind fun x => (compArg G y).map fun y => .append i.size i.bytes x y else none
      | some .string => if z.cells.size = i.size ∧ 0 < i.bytes ∧ i.size = 1 then (compArg G x).bind fun x => (compArg G y).map fun y => .append i.size i.bytes x y else none
      | _ => none
    | _ => none
  | .copy, [t, _], [x, y] =>
    match P.underlying t with
    | some (.slice el) => (P.info? el).bind fun i => if 0 < i.size then (compArg G x).bind fun x => (compArg G y).map fun y => .copy i.size x y else none
    | _ => none
  | .clear, [t], [x] =>
    match P.underlying t with
    | some (.slice el) => (P.info? el).bind fun i => i.zero.bind fun z => (ofValue z).bind fun v =>
      if v.cells.length = i.size ∧ v.cells.all AV.storable ∧ 0 < i.size then (compArg G x).map (.clear i.size v) else none
    | _ => none
  | .max, _, xs => (xs.mapM (compArg G)).map (.mm true)
  | .min, _, xs => (xs.mapM (compArg G)).map (.mm false)
  | _, _, _ => none

def compParts (pl : Nat → Option (Nat × Nat)) (parts : List (Nat × Operand)) : Option (List (Nat × Nat × Arg)) :=
  parts.mapM fun p => (pl p.1).bind fun q => (compArg G p.2).map fun x => (q.1, q.2, x)

def fieldPlaces (fs : Array Field) (i : Nat) : Option (Nat × Nat) := (fs[i]?).bind fun f => (P.info? f.type).map fun s => (f.offset, s.size)

def compOp (own : Bool) (op : Op) : Option XOp :=
  match op with
  | .move x | .assign x => (compArg G x).map .mov
  | .pick c a b => (compArg G c).bind fun c => (compArg G a).bind fun a => (compArg G b).map fun b => .pick c a b
  | .alloc t => (P.info? t).bind fun i => i.zero.bind fun z => (ofValue z).map fun v => .box i.size (.const v)
  | .box t x => (P.info? t).bind fun i => (compArg G x).map fun x => .box i.size x
  | .build t parts => (P.info? t).bind fun i => i.zero.bind fun z => (ofValue z).bind fun v =>
    match v, P.underlying t with
    | .agg zs, some (.struct fs) =>
      if fs.toList.all fun f => (P.info? f.type).isSome then (compParts G (fieldPlaces P fs) parts.toList).map fun ps => .build zs ps else none
    | .agg zs, some (.array _ el) => (P.info? el).bind fun s => (compParts G (fun i => some (i * s.size, s.size)) parts.toList).map fun ps => .build zs ps
    | _, _ => none
  | .buildSlice t len parts =>
    match P.underlying t with
    | some (.slice el) => (P.info? el).bind fun i => i.zero.bind fun z => (ofValue z).bind fun v =>
      if len * i.size ≤ 16777216 ∧ v.cells.length = i.size ∧ v.cells.all AV.storable ∧ 0 < i.size then
        (parts.toList.mapM fun p => (compArg G p.2).map fun x => (p.1, x)).map fun ps => .lit i.size (List.replicate len v) ps own
      else none
    | _ => none
  | .load t a => (isAggT P t).bind fun n => (compArg G a).map fun a => .load n a
  | .store t a x => (P.info? t).bind fun i => (compArg G a).bind fun a => (compArg G x).map fun x => .store i.size a x
  | .nilCheck x => (compArg G x).map .nilCheck
  | .binOp op t x y _ => (compArg G x).bind fun x => (compArg G y).map fun y => .bin op (ekOf P t) x y
  | .unOp op _ x => (compArg G x).map (.un op)
  | .convert s d x =>
    match P.underlying s, P.underlying d with
    | some (.int _), some (.int k) => (compArg G x).map (.convInt k)
    | _, _ => none
  | .makeInterface t x =>
    match P.underlying t with
    | some (.interface _) | none => none
    | some _ => (compArg G x).map (.mkIface t)
  | .makeFunc fn first cap =>
    match fn, first.toList with
    | .func f, [] => (cap.toList.mapM (compArg G)).map (.mkFunc (.func f))
    | _, _ => none
  | .makeMap _ none => some .mkMap
  | .makeSlice t l c =>
    match P.underlying t with
    | some (.slice el) => (P.info? el).bind fun i => i.zero.bind fun z => (ofValue z).bind fun v =>
      if v.cells.length = i.size ∧ v.cells.all AV.storable ∧ 0 < i.size then (compArg G l).bind fun l => (compArg G c).map fun c => .mkSlice i.size i.bytes v l c else none
    | _ => none
  | .slice t x lo hi none => (compArg G x).bind fun x => (compArgO G lo).bind fun lo => (compArgO G hi).bind fun hi =>
    match P.underlying t with
    | some .string => some (.sliceStr x lo hi)
    | some (.slice el) => (P.info? el).map fun i => .sliceSl i.size x lo hi
    | _ => none
  | .fieldAddr s x k =>
    match P.underlying s with
    | some (.struct fs) => (fs[k]?).bind fun f => (P.info? f.type).bind fun i => if 0 < i.size then (compArg G x).map (.fieldAddr f.offset) else none
    | _ => none
  | .field s x k =>
    match P.underlying s with
    | some (.struct fs) => (fs[k]?).bind fun f => (isAggT P f.type).bind fun n => (compArg G x).map (.field f.offset n)
    | _ => none
  | .indexAddr t x i =>
    match P.underlying t with
    | some (.slice el) => (P.info? el).bind fun j => (compArg G x).bind fun x => (compArg G i).map fun i => .indexAddr j.size x i
    | _ => none
  | .index t x i =>
    match P.underlying t with
    | some .string => (compArg G x).bind fun x => (compArg G i).map fun i => .indexStr x i
    | _ => none
  | .lookup t m k ok =>
    match P.underlying t with
    | some (.map kt el) => (keyOf P kt).bind fun fl => (P.info? el).bind fun i => i.zero.bind fun z => (ofValue z).bind fun v =>
      (compArg G m).bind fun m => (compArg G k).map fun k => .lookup fl v ok m k
    | _ => none
  | .mapUpdate t m k x =>
    match P.underlying t with
    | some (.map kt _) => (keyOf P kt).bind fun fl => (compArg G m).bind fun m => (compArg G k).bind fun k => (compArg G x).map fun x => .mapUpdate fl m k x
    | _ => none
  | .extract x i => (compArg G x).map fun x => .extract x i
  | .call c =>
    match c.callee with
    | .builtin b => compBuiltin P G b c.argTypes.toList c.args.toList
    | .value f => (compArg G f).bind fun f => (c.args.toList.mapM (compArg G)).map fun as => if own then .pcall f as else .call f as
    | .invoke _ _ => none
  | _ => none

def compOper (own : Bool) (ops : Array Oper) (o : Oper) : Option XOper :=
  match o.guard with
  | none => some { dst := o.dst, guard := none, op := (compOp P G own o.op).getD .fail }
  | some (j, want) => ((ops[j]?).bind (·.dst)).map fun t => { dst := o.dst, guard := some (t, want), op := (compOp P G own o.op).getD .fail }


inductive Class where
  | none | look | read | make | mapWrite | write
  deriving DecidableEq

def XOp.class (X : Prog) : XOp → Class
  | .mov _ | .pick .. | .build .. | .lit _ _ _ false | .nilCheck _ | .un .. | .convInt .. | .same _ | .mkIface .. | .mkFunc .. | .sliceStr .. | .fieldAddr .. | .field .. | .indexStr ..
  | .mm .. | .extract .. => .none
  | .bin _ ek _ _ => if ek = .ptr then .read else .none
  | .len ek _ => if ek = .map then .read else .none
  | .load .. | .indexAddr .. | .sliceSl .. => .look
  | .lookup .. | .pcall .. => .read
  | .box .. | .lit _ _ _ true | .mkMap | .mkSlice .. => .make
  | .mapUpdate .. => .mapWrite
  | .call (.const (.func (.func f) _)) _ => match X.mode f with | .pure => .read | .fresh => .make | _ => .write
  | _ => .write

def XOp.args : XOp → List Arg
  | .mov x | .same x | .box _ x | .load _ x | .clear _ _ x | .nilCheck x | .un _ x | .convInt _ x | .mkIface _ x | .fieldAddr _ x | .field _ _ x | .len _ x | .extract x _ => [x]
  | .pick c a b => [c, a, b]
  | .build _ ps => ps.map (·.2.2)
  | .lit _ _ ps _ => ps.map (·.2)
  | .store _ a x => [a, x]
  | .bin _ _ x y | .indexAddr _ x y | .indexStr x y | .append _ _ x y | .copy _ x y | .lookup _ _ _ x y | .mkSlice _ _ _ x y => [x, y]
  | .mkFunc _ cap => cap
  | .mkMap | .fail => []
  | .sliceStr x lo hi | .sliceSl _ x lo hi => x :: (lo.toList ++ hi.toList)
  | .mapUpdate _ m k x => [m, k, x]
  | .mm _ xs => xs
  | .call f as | .pcall f as => f :: as

def Arg.tmps : Arg → List Nat
  | .tmp t => [t]
  | .const _ => []

def XOper.looks (o : XOper) : List Nat := (o.op.args.flatMap Arg.tmps) ++ (match o.guard with | some (t, _) => [t] | none => [])

def apart (x y : XOper) : Bool :=
  (match x.dst with | some d => !y.looks.contains d && y.dst != some d | none => true) && (match y.dst with | some d => !x.looks.contains d | none => true)

def flips (X : Prog) (x y : XOper) : Bool :=
  apart x y && match x.op.class X, y.op.class X with
    | .none, _ | _, .none => true
    | .read, .read | .read, .make | .look, .look | .look, .read | .read, .look | .look, .make => true
    | .look, .mapWrite | .mapWrite, .look => true
    | _, _ => false

def mergeN : List Nat → List Nat → List Nat
  | [], m => m
  | x :: xs, m => match m.any (Nat.beq x) with
    | true => mergeN xs m
    | false => mergeN xs (x :: m)

def before1 (acc : List (List Nat)) (e : Edge) (m : List Nat) : List Nat :=
  match Region.binds .any e && !m.any (Nat.beq e.on) with
  | true => e.on :: mergeN (acc.getD e.on []) m
  | false => m

def befores (ops : List Oper) : List (List Nat) :=
  ops.foldl (fun acc o => acc ++ [o.after.toList.foldr (before1 acc) []]) []

def XOp.addr : XOp → Option Arg
  | .load _ a | .store _ a _ => some a
  | .indexAddr _ x _ | .sliceSl _ x _ _ | .append _ _ x _ => some x
  | .call (.const (.func (.func _) [])) (x :: _) => some x
  | _ => none

def XOp.writes (X : Prog) : XOp → Bool
  | .store .. | .append .. => true
  | .call (.const (.func (.func f) [])) (_ :: _) => decide (X.mode f = .cut)
  | _ => false

def dyn (X : Prog) (x y : XOper) : Option (Arg × Arg) :=
  if apart x y && decide (x.op.class X = .look) && y.op.writes X then x.op.addr.bind fun a => y.op.addr.map fun b => (a, b) else none

def pairChk (X : Prog) (bs : List (List Nat)) (p q : Nat × XOper) : Option (List (Arg × Arg)) :=
  if (bs.getD q.1 []).contains p.1 || flips X p.2 q.2 then some [] else (dyn X p.2 q.2).map fun c => [c]

def pairsChk (X : Prog) (bs : List (List Nat)) : List (Nat × XOper) → Option (List (Arg × Arg))
  | [] => some []
  | p :: rest => (rest.mapM (pairChk X bs p)).bind fun l => (pairsChk X bs rest).map fun m => l.flatten ++ m

def stable : List XOper → Bool
  | [] => true
  | x :: rest => (match x.op.addr with | some a => a.tmps.all fun t => (x :: rest).all fun o => o.dst != some t | none => true) && stable rest

def distinct : List Nat → Bool
  | [] => true
  | x :: xs => !xs.any (Nat.beq x) && distinct xs

def backOk (ops : Array Oper) : Bool := (List.range ops.size).all fun i =>
  match ops[i]? with
  | some o => o.after.all fun d => !Region.binds .any d || Nat.blt d.on i
  | none => true

structure Hints where
  own : Nat → Nat → Bool
  order : Nat → Option (List Nat)
  keep : Nat → Option (List Nat)
  loop : Nat → Option (List Nat)

def compRegion (X : Prog) (h : Hints) (id : Nat) (ops : Array Oper) (draw : Bool) : Option XCode :=
  let order := (h.order id).getD (List.range ops.size)
  if !draw then ((List.range ops.size).mapM fun i => (ops[i]?).bind (compOper P G (h.own id i) ops)).map fun xs => .region xs []
  else (order.mapM fun i => ((ops[i]?).bind (compOper P G (h.own id i) ops)).map fun x => (i, x)).bind fun xs =>
    if distinct order ∧ order.length = ops.size ∧ (List.range ops.size).all (fun i => order.contains i) ∧ backOk ops then
      (pairsChk X (befores ops.toList) xs).bind fun chk => if chk.isEmpty || stable (xs.map (·.2)) then some (.region (xs.map (·.2)) chk) else none
    else none

def kept (k : Option (List Nat)) (c : XCode) : XCode :=
  match k with
  | none => c
  | some l => .seq c (.keep l)

def compCode (X : Prog) (h : Hints) (blk : Nat) : Code → Option XCode
  | .skip => some .skip
  | .region id ops draw => (compRegion P G X h id ops draw).map (kept (h.keep id))
  | .seq a b => (compCode X h blk a).bind fun a => (compCode X h blk b).map fun b => .seq a b
  | .cond c a b => (compArg G c).bind fun c => (compCode X h blk a).bind fun a => (compCode X h blk b).map fun b => .cond c a b
  | .block id b => (compCode X h id b).map (.block id)
  | .loop b => (compCode X h blk b).map fun b =>
    match h.loop blk with
    | none => .loop b
    | some l => .seq (.keep l) (.loop (.seq b (.keep l)))
  | .exit id => some (.exit id)
  | .ret => some .ret
  | _ => some .fail

def operFits (n : Nat) (ops : Array Oper) (o : Oper) : Bool :=
  (match o.dst with | some t => decide (t < n) | none => true) && (match o.guard with | some (j, _) => (match (ops[j]?).bind (·.dst) with | some t => decide (t < n) | none => true) | none => true)

def codeFits (n : Nat) : Code → Bool
  | .region _ ops _ => ops.toList.all (operFits n ops)
  | .seq a b | .cond _ a b => codeFits n a && codeFits n b
  | .block _ b | .loop b => codeFits n b
  | _ => true

def compResult : ResultVar → Option XRes
  | .tmp t => some (.tmp t)
  | .cell a t => (isAggT P t).map fun n => .cell a n

def compFunc (X : Prog) (h : Hints) (f : Nat) : Option XFunc :=
  (P.funcs[f]?).bind fun fn => fn.body.bind fun c =>
    (compCode P G X h 0 c).bind fun code =>
    (fn.results.toList.mapM (compResult P)).bind fun rs =>
    if (fn.name == "runtime.NumGoroutine") = false ∧ codeFits fn.ntmps c ∧ fn.params.size + fn.nfree ≤ fn.ntmps then some { nparams := fn.params.size + fn.nfree, results := rs, code } else none
end

end X
end Go.Proofs.YtplginnkececaaaGreatDoor
