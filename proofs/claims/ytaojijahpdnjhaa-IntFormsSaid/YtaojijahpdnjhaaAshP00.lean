/- The abstract interpreter of this work and its uses, part 0: AshDefs, AshExec, AshReps, AshSim, AshTree, AshChk, AshOps0. -/
import Derived.LoopN
import Derived.Tactics
import Derived.Orders
import Derived.Laws.Append
import Derived.Laws.AppendOwn
import Derived.Laws.MakeOwn
import Derived.Laws.Slices
import Derived.Laws.Cells
import Derived.Laws.CopyRow
import Derived.Laws.Rows
import Derived.Laws.Small
set_option linter.all false
/- The abstract interpreter: values as trees, blocks by number, the code with its types resolved. Definitions only. -/
namespace Go.Ash

/-- A value: slices that nobody writes any more are lists (slc); those that may still be written are parts of numbered blocks (mslc, mptr). -/
inductive AVal where
  | und
  | bool (b : Bool)
  | int (k : IntKind) (n : Int)
  | str (s : ByteArray)
  | slc (isNil : Bool) (xs : List AVal)
  | agg (cs : List AVal)
  | ptr (cs : List AVal)
  | nilp
  | mslc (id off len : Nat)
  | mptr (id i o : Nat)
  | fn (f : Nat) (first cap : List AVal)
  | nilfn
  | ifc (t : Nat) (v : AVal)
  | nilif
  | tup (vs : List AVal)
  deriving Inhabited

structure Blk where
  frozen : Bool
  esz : Nat
  elems : List AVal

abbrev Heap := List (Option Blk)

def AVal.cells : AVal → List AVal
  | .agg cs => cs
  | v => [v]

def AVal.isCell : AVal → Bool
  | .agg _ | .tup _ | .und => false
  | _ => true

mutual
def AVal.ids : AVal → List Nat
  | .mslc id _ _ => [id]
  | .mptr id _ _ => [id]
  | .agg cs => idsL cs
  | .fn _ a b => idsL a ++ idsL b
  | .ifc _ v => v.ids
  | .tup vs => idsL vs
  | _ => []
def idsL : List AVal → List Nat
  | [] => []
  | v :: vs => v.ids ++ idsL vs
end

mutual
def AVal.ren (ρ : Nat → Nat) : AVal → AVal
  | .mslc id off len => .mslc (ρ id) off len
  | .mptr id i o => .mptr (ρ id) i o
  | .agg cs => .agg (renL ρ cs)
  | .fn f a b => .fn f (renL ρ a) (renL ρ b)
  | .ifc t v => .ifc t (v.ren ρ)
  | .tup vs => .tup (renL ρ vs)
  | v => v
def renL (ρ : Nat → Nat) : List AVal → List AVal
  | [] => []
  | v :: vs => v.ren ρ :: renL ρ vs
end

def Blk.ren (ρ : Nat → Nat) (b : Blk) : Blk := ⟨b.frozen, b.esz, renL ρ b.elems⟩

def Heap.at : Heap → Nat → Option Blk
  | [], _ => none
  | b :: _, 0 => b
  | _ :: H, n + 1 => Heap.at H n

/-- The value at a place; nothing beyond the end. -/
def gd : List AVal → Nat → AVal
  | [], _ => .und
  | v :: _, 0 => v
  | _ :: vs, n + 1 => gd vs n

def sv : List AVal → Nat → AVal → List AVal
  | [], _, _ => []
  | _ :: vs, 0, x => x :: vs
  | v :: vs, n + 1, x => v :: sv vs n x

/-- The numbers that are reached from a list of numbers, in order, each once. -/
def reach (H : Heap) : Nat → List Nat → List Nat → Option (List Nat)
  | 0, _, _ => none
  | _ + 1, [], seen => some seen
  | n + 1, id :: rest, seen =>
    if seen.contains id then reach H n rest seen
    else match H.at id with
      | some b => reach H n (rest ++ idsL b.elems) (seen ++ [id])
      | none => reach H n rest (seen ++ [id])

def place (l : List Nat) (id : Nat) : Nat := l.idxOf id

def pack (H : Heap) (l : List Nat) : Heap := l.map fun id => (H.at id).map (Blk.ren (place l))

mutual
/-- A value as a tree: what is written no more. The numbers of the blocks that must not be written any more stand beside it. -/
def AVal.tree (H : Heap) : Nat → AVal → Option (AVal × List Nat)
  | 0, _ => none
  | n + 1, v =>
    match v with
    | .mslc id off len =>
      match H.at id with
      | some b => if off + len ≤ b.elems.length then (treeL H n ((b.elems.drop off).take len)).map fun (l, is) => (.slc false l, id :: is) else none
      | none => none
    | .mptr id i o =>
      match H.at id with
      | some b =>
        match b.elems[i]? with
        | some e => (treeL H n (e.cells.drop o)).map fun (l, is) => (.ptr l, id :: is)
        | none => none
      | none => none
    | .agg cs => (treeL H n cs).map fun (l, is) => (.agg l, is)
    | .fn f a b => (treeL H n a).bind fun (a, is) => (treeL H n b).map fun (b, js) => (.fn f a b, is ++ js)
    | .ifc t v => (v.tree H n).map fun (v, is) => (.ifc t v, is)
    | .tup vs => (treeL H n vs).map fun (l, is) => (.tup l, is)
    | v => some (v, [])
def treeL (H : Heap) : Nat → List AVal → Option (List AVal × List Nat)
  | 0, _ => none
  | n + 1, l => if idsL l = [] then some (l, []) else match l with
    | [] => some ([], [])
    | v :: vs => (v.tree H n).bind fun (v, is) => (treeL H n vs).map fun (vs, js) => (v :: vs, is ++ js)
end

/-- Blocks that are handed on as trees are written no more. -/
def freeze (H : Heap) (l : List Nat) : Heap := l.foldl (fun H id => H.set id ((H.at id).map fun b => { b with frozen := true })) H

def fuelIds : Nat := 60
def fuelTree : Nat := 40

/-- Values handed on as trees, and the heap behind. -/
def handOn (vs : List AVal) (H : Heap) : Option (List AVal × Heap) :=
  if idsL vs = [] then some (vs, H)
  else (treeL H fuelTree vs).map fun (ts, l) => (ts, freeze H l)

inductive Opd where
  | v (i : Nat)
  | p (j : Nat)
  | c (a : AVal)
  deriving Inhabited

inductive OpK where
  | mov
  | pick
  | box
  | alloc (zero : AVal)
  | build (zero : List AVal) (parts : List (Nat × Nat))
  | bslice (esz : Nat) (zero : AVal) (len : Nat) (idx : List Nat)
  | load (agg : Bool) (sz : Nat)
  | store (sz : Nat)
  | nilck
  | bin (op : BinOp)
  | beq (neg : Bool)
  | eqnil (neg : Bool) (kd : Nat)
  | un (op : UnOp)
  | conv (k : IntKind)
  | bytesToStr
  | mkif (t : Nat)
  | mkfn (f nfirst : Nat)
  | mkslice (esz : Nat) (zero : AVal) (bytes : Nat)
  | slice (esz : Nat) (lo hi mx : Bool)
  | slices (lo hi : Bool)
  | faddr (off : Nat)
  | fld (agg : Bool) (off sz : Nat)
  | iaddr (esz : Nat)
  | idx
  | extract (i : Nat)
  | len (str : Bool)
  | app (bytes esz : Nat)
  | max
  | min
  | tassert (t : Nat) (agg : Bool)
  | call (raw : Bool) (f : Nat)
  | callv (raw : Bool)
  deriving Inhabited

structure ROp where
  k : OpK
  args : List Opd
  dst : Option Nat := none
  guard : Option (Nat × Bool) := none
  apart : List Opd := []
  deriving Inhabited

inductive RCode where
  | skip
  | region (ops : List ROp) (draw : Bool)
  | seq (a b : RCode)
  | cond (c : Opd) (t e : RCode)
  | block (id : Nat) (b : RCode)
  | loop (live : List Bool) (b : RCode)
  | exit (id : Nat)
  | ret
  deriving Inhabited

inductive RRes where
  | v (i : Nat)
  | cell (i : Nat) (agg : Bool) (sz : Nat)

structure RFunc where
  npar : Nat
  slots : List Nat
  body : RCode
  res : List RRes

structure St where
  vars : List AVal
  env : List AVal
  heap : Heap
  pin : Nat

inductive Ex where
  | normal
  | exit (id : Nat)
  | ret
  deriving DecidableEq

def St.opd (st : St) (env : List AVal) : Opd → AVal
  | .v i => gd st.vars i
  | .p j => gd env j
  | .c a => a

def St.put (st : St) (d : Option Nat) (v : AVal) : St :=
  match d with
  | some i => { st with vars := sv st.vars i v }
  | none => st

/-! ### The operations -/

def maxBytes : Nat := 2 ^ 46

def setAll : List AVal → Nat → List AVal → List AVal
  | cs, _, [] => cs
  | cs, o, v :: vs => setAll (cs.set o v) (o + 1) vs

def fillA : List AVal → List (Nat × Nat) → List AVal → Option (List AVal)
  | cs, [], [] => some cs
  | cs, (o, s) :: ps, v :: vs => if v.cells.length = s ∧ v.cells.all AVal.isCell ∧ o + s ≤ cs.length then fillA (setAll cs o v.cells) ps vs else none
  | _, _, _ => none

def partA (agg : Bool) (sz : Nat) (cs : List AVal) : Option AVal :=
  if agg then (if sz ≤ cs.length then some (.agg (cs.take sz)) else none) else cs.head?

def putAgg (cs : List AVal) (o : Nat) (v : AVal) : Option AVal :=
  if o = 0 ∧ v.cells.length = cs.length then some (.agg v.cells)
  else if o + v.cells.length ≤ cs.length then some (.agg (setAll cs o v.cells)) else none
def putOne (o : Nat) (v : AVal) : Option AVal :=
  if v.isCell ∧ o = 0 then some v else none
def putElem (e : AVal) (o : Nat) (v : AVal) : Option AVal :=
  match e with
  | .agg cs => putAgg cs o v
  | _ => putOne o v

def bytesLess : List UInt8 → List UInt8 → Bool
  | _, [] => false
  | [], _ :: _ => true
  | a :: x, b :: y => a < b || (a == b && bytesLess x y)

def intBitsA (op : BinOp) (k : IntKind) (x y : Int) : Option AVal :=
  match op with
  | .and => some (.int k (k.wrap ((BitVec.ofInt k.bits x &&& BitVec.ofInt k.bits y).toNat)))
  | .or => some (.int k (k.wrap ((BitVec.ofInt k.bits x ||| BitVec.ofInt k.bits y).toNat)))
  | .xor => some (.int k (k.wrap ((BitVec.ofInt k.bits x ^^^ BitVec.ofInt k.bits y).toNat)))
  | .andNot => some (.int k (k.wrap ((BitVec.ofInt k.bits x &&& ~~~ BitVec.ofInt k.bits y).toNat)))
  | _ => none

def intA (op : BinOp) (k : IntKind) (x y : Int) : Option AVal :=
  match op with
  | .add => some (.int k (k.wrap (x + y)))
  | .sub => some (.int k (k.wrap (x - y)))
  | .mul => some (.int k (k.wrap (x * y)))
  | .quo => if y = 0 then none else some (.int k (k.wrap (x.tdiv y)))
  | .rem => if y = 0 then none else some (.int k (x.tmod y))
  | .eql => some (.bool (decide (x = y)))
  | .neq => some (.bool (!decide (x = y)))
  | .lss => some (.bool (decide (x < y)))
  | .leq => some (.bool (decide (x ≤ y)))
  | .gtr => some (.bool (decide (y < x)))
  | .geq => some (.bool (decide (y ≤ x)))
  | .and | .or | .xor | .andNot => intBitsA op k x y
  | _ => none

def strA (op : BinOp) (x y : ByteArray) : Option AVal :=
  match op with
  | .add => if x.size + y.size ≤ maxBytes then some (.str (x ++ y)) else none
  | .eql => some (.bool (x.toList == y.toList))
  | .neq => some (.bool (!(x.toList == y.toList)))
  | _ => none

def shiftA (op : BinOp) (k : IntKind) (x y : Int) : Option AVal :=
  if y < 0 then none
  else match op with
    | .shl => some (.int k (k.wrap (x * 2 ^ (Nat.min y.toNat k.bits))))
    | .shr => some (.int k (x.fdiv (2 ^ (Nat.min y.toNat k.bits))))
    | _ => none

def isShift : BinOp → Bool
  | .shl | .shr => true
  | _ => false

/-- What is held against nil: a slice (0), a pointer (1), a function (2), an interface (3). -/
def nilA : Nat → AVal → Option Bool
  | 0, .slc n _ => some n
  | 0, .mslc .. => some false
  | 1, .nilp => some true
  | 1, .ptr _ => some false
  | 1, .mptr .. => some false
  | 2, .nilfn => some true
  | 2, .fn .. => some false
  | 3, .nilif => some true
  | 3, .ifc .. => some false
  | _, _ => none

def isNilConst : AVal → Bool
  | .slc true [] | .nilp | .nilfn | .nilif => true
  | _ => false

def binA (op : BinOp) (a b : AVal) : Option AVal :=
  match a, b with
  | .int k x, .int k' y => if isShift op then shiftA op k x y else if k = k' then intA op k x y else none
  | .str x, .str y => strA op x y
  | _, _ => none

def unA (op : UnOp) (a : AVal) : Option AVal :=
  match op, a with
  | .neg, .int k n => some (.int k (k.wrap (0 - n)))
  | .not, .bool b => some (.bool !b)
  | _, _ => none

def bounds (n : Nat) (lo hi mx : Bool) (vs : List AVal) : Option (Nat × Nat) :=
  let num (v : AVal) (top : Nat) : Option Nat :=
    match v with
    | .int _ i => if 0 ≤ i ∧ i ≤ top then some i.toNat else none
    | _ => none
  match lo, hi, mx, vs with
  | false, false, false, [] => some (0, n)
  | true, false, false, [l] => (num l n).map fun l => (l, n)
  | false, true, false, [h] => (num h n).map fun h => (0, h)
  | true, true, false, [l, h] => (num h n).bind fun h => (num l h).map fun l => (l, h)
  | false, true, true, [h, m] => (num m n).bind fun m => (num h m).map fun h => (0, h)
  | true, true, true, [l, h, m] => (num m n).bind fun m => (num h m).bind fun h => (num l h).map fun l => (l, h)
  | _, _, _, _ => none

def newBlk (H : Heap) (esz : Nat) (elems : List AVal) : Heap := H ++ [some ⟨false, esz, elems⟩]

def placeAll : List AVal → List Nat → List AVal → Option (List AVal)
  | xs, [], [] => some xs
  | xs, i :: is, v :: vs => placeAll (xs.set i v) is vs
  | _, _, _ => none

/-- The elements that a slice or a string shows. -/
def elemsOf (H : Heap) (esz : Nat) : AVal → Option (List AVal)
  | .slc _ xs => some xs
  | .mslc id off len =>
    match H.at id with
    | some b => if b.esz = esz ∧ off + len ≤ b.elems.length then some ((b.elems.drop off).take len) else none
    | none => none
  | _ => none

def allSz (esz : Nat) (xs : List AVal) : Bool := xs.all fun x => x.cells.length == esz

def goodElems (esz : Nat) (xs : List AVal) : Bool := xs.all fun x => x.cells.length == esz && x.cells.all AVal.isCell

/-- Bytes as a text. -/
def bytesOf : List AVal → Option (List Int)
  | [] => some []
  | .int .u8 n :: l => (bytesOf l).map fun ns => n :: ns
  | _ => none
def textOf (ns : List Int) : ByteArray := ⟨(ns.map fun n => UInt8.ofNat n.toNat).toArray⟩

/-- What an operation does to the blocks: nothing; a new block; a block grown into a new one; a block written. -/
inductive Eff where
  | none
  | new (esz : Nat) (xs : List AVal)
  | app (id esz : Nat) (xs : List AVal)
  | upd (id : Nat) (b : Blk)

def Eff.apply (H : Heap) : Eff → Heap
  | .none => H
  | .new esz xs => newBlk H esz xs
  | .app id esz xs => newBlk (H.set id Option.none) esz xs
  | .upd id b => H.set id (some b)

/-- 'fresh' is the number that a new block gets. -/
def opSem (K : OpK) (args : List AVal) (H : Heap) (fresh : Nat) : Option (AVal × Eff) :=
  match K, args with
  | .mov, [a] => some (a, .none)
  | .pick, [.bool c, a, b] => some (if c then a else b, .none)
  | .box, [v] => if v.cells.all AVal.isCell then some (.mptr fresh 0 0, .new v.cells.length [v]) else none
  | .alloc zero, [] => if zero.cells.all AVal.isCell then some (.mptr fresh 0 0, .new zero.cells.length [zero]) else none
  | .build zero parts, vs => (fillA zero parts vs).map fun cs => (.agg cs, .none)
  | .bslice esz zero len idx, vs =>
    if goodElems esz vs then (placeAll (List.replicate len zero) idx vs).map fun xs => (.mslc fresh 0 len, .new esz xs) else none
  | .load agg sz, [.ptr cs] => (partA agg sz cs).map fun v => (v, .none)
  | .load agg sz, [.mptr id i o] =>
    match H.at id with
    | some b =>
      match b.elems[i]? with
      | some e => (partA agg sz (e.cells.drop o)).map fun v => (v, .none)
      | none => none
    | none => none
  | .store sz, [.mptr id i o, v] =>
    match H.at id with
    | some b =>
      match b.elems[i]? with
      | some e =>
        if b.frozen then none
        else if v.cells.length = sz ∧ v.cells.all AVal.isCell then
          (putElem e o v).map fun e' => (.tup [], .upd id { b with elems := b.elems.set i e' })
        else none
      | none => none
    | none => none
  | .nilck, [a] =>
    match a with
    | .ptr _ | .mptr .. | .fn .. | .ifc .. => some (a, .none)
    | _ => none
  | .bin op, [a, b] => (binA op a b).map fun v => (v, .none)
  | .beq neg, [.bool x, .bool y] => some (.bool (if neg then !(x == y) else x == y), .none)
  | .eqnil neg kd, [a] => (nilA kd a).map fun b => (.bool (if neg then !b else b), .none)
  | .un op, [a] => (unA op a).map fun v => (v, .none)
  | .conv k, [.int _ n] => some (.int k (k.wrap n), .none)
  | .bytesToStr, [x] =>
    match elemsOf H 1 x with
    | some l => (bytesOf l).map fun ns => (.str (textOf ns), .none)
    | none => none
  | .mkif t, [v] => some (.ifc t v, .none)
  | .mkfn f n, vs => some (.fn f (vs.take n) (vs.drop n), .none)
  | .mkslice esz zero bytes, [.int _ l, .int _ c] =>
    if 0 ≤ l ∧ l ≤ c ∧ c * bytes ≤ maxBytes ∧ c ≤ maxBytes then
      some (.mslc fresh 0 l.toNat, .new esz (List.replicate l.toNat zero)) else none
  | .slice esz lo hi mx, .slc n xs :: vs =>
    if lo = false ∨ allSz esz xs = true then (bounds xs.length lo hi mx vs).map fun (l, h) => (.slc n ((xs.take h).drop l), .none) else none
  | .slice esz lo hi mx, .mslc id off len :: vs =>
    match H.at id with
    | some b =>
      if b.esz = esz then (bounds len lo hi mx vs).map fun (l, h) =>
        (if l = 0 then .mslc id off h else if l = h then .slc false [] else .mslc id (off + l) (h - l), .none)
      else none
    | none => none
  | .slices lo hi, .str s :: vs => (bounds s.size lo hi false vs).map fun (l, h) => (.str (s.extract l h), .none)
  | .faddr off, [.ptr cs] => some (.ptr (cs.drop off), .none)
  | .faddr off, [.mptr id i o] => some (.mptr id i (o + off), .none)
  | .fld agg off sz, [.agg cs] => (partA agg sz (cs.drop off)).map fun v => (v, .none)
  | .iaddr esz, [.slc _ xs, .int _ i] =>
    if 0 ≤ i ∧ i < xs.length then
      if (gd xs i.toNat).cells.length = esz then some (.ptr (gd xs i.toNat).cells, .none) else none
    else none
  | .iaddr esz, [.mslc id off len, .int _ i] =>
    if 0 ≤ i ∧ i < len then
      match H.at id with
      | some b => if b.esz = esz then some (.mptr id (off + i.toNat) 0, .none) else none
      | none => none
    else none
  | .idx, [.str s, .int _ i] => if 0 ≤ i ∧ i < s.size then some (.int .u8 (s.data.getD i.toNat 0).toNat, .none) else none
  | .extract i, [.tup vs] => (vs[i]?).map fun v => (v, .none)
  | .len str, [a] =>
    match a with
    | .slc _ xs => if str then none else some (.int .i64 xs.length, .none)
    | .mslc _ _ len => if str then none else some (.int .i64 len, .none)
    | .str s => if str then some (.int .i64 s.size, .none) else none
    | _ => none
  | .app bytes esz, [s, x] =>
    match elemsOf H esz x with
    | none => none
    | some new =>
      if !goodElems esz new then none else
      match s with
      | .slc true [] =>
        if new = [] then some (s, .none)
        else if new.length * bytes ≤ maxBytes ∧ new.length ≤ maxBytes then some (.mslc fresh 0 new.length, .new esz new) else none
      | .mslc id off len =>
        match H.at id with
        | some b =>
          if b.frozen = false ∧ b.esz = esz ∧ off + len ≤ b.elems.length ∧ (len + new.length) * bytes ≤ maxBytes ∧ len + new.length ≤ maxBytes then
            some (.mslc fresh 0 (len + new.length), .app id esz ((b.elems.drop off).take len ++ new)) else none
        | none => none
      | _ => none
  | .max, [.int k x, .int k' y] => if k = k' then some (.int k (if x < y then y else x), .none) else none
  | .min, [.int k x, .int k' y] => if k = k' then some (.int k (if y < x then y else x), .none) else none
  | .tassert t _, [.ifc t' v] => if t = t' then some (v, .none) else none
  | _, _ => none

end Go.Ash
/- The abstract interpreter: running code, with rounds counted, and its limit with the equations by which it is used. -/
namespace Go.Ash

abbrev CallF := Nat → List AVal → Heap → Option (AVal × Heap)

/-- The number of a callee's block, for its caller. -/
def back (l : List Nat) (n j : Nat) : Nat :=
  match l, j with
  | [], j => n + j
  | i :: _, 0 => i
  | _ :: l, j + 1 => back l n j

def putBack (ρ : Nat → Nat) : Heap → List Nat → Heap → Heap
  | H, id :: l, b :: H' => putBack ρ (H.set id (b.map (Blk.ren ρ))) l H'
  | H, _, _ => H

/-- A call on what is reached from the arguments alone: the blocks are numbered anew for it, and back. -/
def rawCall (call : CallF) (f : Nat) (args : List AVal) (H : Heap) : Option (AVal × Heap) :=
  (reach H fuelIds (idsL args) []).bind fun l =>
    if l.all (fun i => decide (i < H.length)) then
      (call f (renL (place l) args) (pack H l)).bind fun (v, H') =>
        some (v.ren (back l H.length), putBack (back l H.length) H l H' ++ (H'.drop l.length).map (Option.map (Blk.ren (back l H.length))))
    else none

/-- A call with trees, which answers a tree. -/
def pureCall (call : CallF) (f : Nat) (args : List AVal) : Option AVal :=
  (call f args []).bind fun (v, H) => (treeL H fuelTree [v]).bind fun (ts, _) => ts.head?

def anyCall (call : CallF) (raw : Bool) (f : Nat) (args : List AVal) (H : Heap) : Option (AVal × Heap) :=
  if raw then rawCall call f args H
  else (handOn args H).bind fun (ts, H') => (pureCall call f ts).map fun v => (v, H')

def stepOp (call : CallF) (K : OpK) (args : List AVal) (H : Heap) : Option (AVal × Heap) :=
  match K, args with
  | .call raw f, vs => anyCall call raw f vs H
  | .callv raw, .fn f first cap :: vs => anyCall call raw f (first ++ vs ++ cap) H
  | K, vs => (opSem K vs H H.length).map fun (v, e) => (v, e.apply H)

/-- Is an operation to be done? -/
def wantedA (env : List AVal) : Option (Nat × Bool) → Option Bool
  | none => some true
  | some (j, want) =>
    match gd env j with
    | .bool b => some (b == want)
    | .tup [] => some false
    | _ => none

/-- A store beside loads in any order: none of them reads the block that is stored to. -/
def apartA (a : AVal) (others : List AVal) : Bool :=
  match others with
  | [] => true
  | _ => match a with
    | .mptr id _ _ => others.all fun | .mptr id' _ _ => id != id' | .ptr _ => true | .tup [] => true | _ => false
    | _ => false

def stepROp (call : CallF) (o : ROp) (env : List AVal) (st : St) : Option (AVal × St) :=
  match wantedA env o.guard with
  | none => none
  | some false => some (.tup [], st.put o.dst (.tup []))
  | some true =>
    if apartA (gd (o.args.map (st.opd env)) 0) (o.apart.map (st.opd env)) then
      match stepOp call o.k (o.args.map (st.opd env)) st.heap with
      | some (v, H) => some (v, { st with heap := H }.put o.dst v)
      | none => none
    else none

def execOps (call : CallF) : List ROp → List AVal → St → Option St
  | [], env, st => some { st with env }
  | o :: os, env, st =>
    match stepROp call o env st with
    | some (v, st') => execOps call os (v :: env) st'
    | none => none

/-- At a loop's head: what is not read again is forgotten, and the blocks are numbered anew. -/
def mask : List Bool → List AVal → List AVal
  | true :: ms, v :: vs => v :: mask ms vs
  | false :: ms, _ :: vs => .und :: mask ms vs
  | [], vs => vs.map fun _ => .und
  | _ :: _, [] => []

def tidy (live : List Bool) (st : St) : Option St :=
  if st.heap.length = st.pin ∧ idsL (mask live st.vars) = [] then some { st with vars := mask live st.vars, env := [] } else
  (reach st.heap fuelIds (List.range st.pin ++ idsL (mask live st.vars)) []).map fun l =>
    { vars := renL (place l) (mask live st.vars), env := [], heap := pack st.heap l, pin := st.pin }

def execC (call : CallF) (again : RCode → St → Option (Ex × St)) : RCode → St → Option (Ex × St)
  | .skip, st => some (.normal, st)
  | .region ops _, st => match execOps call ops [] st with
    | some st' => some (.normal, st')
    | none => none
  | .seq a b, st => match execC call again a st with
    | some (.normal, st') => execC call again b st'
    | r => r
  | .cond c t e, st => match st.opd st.env c with
    | .bool b => if b = true then execC call again t st else execC call again e st
    | _ => none
  | .block id b, st => match execC call again b st with
    | some (.exit j, st') => if j = id then some (.normal, st') else some (.exit j, st')
    | r => r
  | .loop live b, st => match tidy live st with
    | some st1 => match execC call again b st1 with
      | some (.normal, st2) => again (.loop live b) st2
      | some (e, st2) => some (e, { st2 with env := [] })
      | none => none
    | none => none
  | .exit id, st => some (.exit id, st)
  | .ret, st => some (.ret, st)

def RFunc.enter (fn : RFunc) (args : List AVal) (H : Heap) : St :=
  { vars := fn.slots.map fun t => if t < fn.npar then gd args t else .und, env := [], heap := H, pin := H.length }

def resA (st : St) : RRes → Option AVal
  | .v i => some (gd st.vars i)
  | .cell i agg sz => (opSem (.load agg sz) [gd st.vars i] st.heap 0).map (·.1)

def resL (st : St) : List RRes → Option (List AVal)
  | [] => some []
  | r :: rs => match resA st r with
    | some v => match resL st rs with
      | some vs => some (v :: vs)
      | none => none
    | none => none

def tupled : List AVal → AVal
  | [v] => v
  | vs => .tup vs

/-- What a call leaves: its value, the blocks that it was handed, and the new ones that are reached. -/
def RFunc.leave (fn : RFunc) (st : St) : Option (AVal × Heap) :=
  (resL st fn.res).bind fun vs =>
    let v := tupled vs
    if st.heap.length = st.pin then some (v, st.heap) else
    (reach st.heap fuelIds (List.range st.pin ++ v.ids) []).map fun l => (v.ren (place l), pack st.heap l)

def runWith (F : Nat → Option RFunc) (ex : RCode → St → Option (Ex × St)) : CallF := fun f args H =>
  match F f with
  | some fn =>
    if args.length = fn.npar then
      match ex fn.body (fn.enter args H) with
      | some (.exit _, _) => none
      | some (_, st) => fn.leave st
      | none => none
    else none
  | none => none

def execN (F : Nat → Option RFunc) : Nat → RCode → St → Option (Ex × St)
  | 0, _, _ => none
  | n + 1, c, st => execC (runWith F (execN F n)) (execN F n) c st

def runN (F : Nat → Option RFunc) (n : Nat) : CallF := runWith F (execN F n)

/-! ### More rounds tell the same -/

def LeF {α β : Type} (f g : α → Option β) : Prop := ∀ a r, f a = some r → g a = some r
def LeC (f g : CallF) : Prop := ∀ k a H r, f k a H = some r → g k a H = some r
def LeX (f g : RCode → St → Option (Ex × St)) : Prop := ∀ c st r, f c st = some r → g c st = some r

theorem rawCall_mono {f g : CallF} (h : LeC f g) {k args H r} (hr : rawCall f k args H = some r) : rawCall g k args H = some r := by
  unfold rawCall at *
  cases hl : reach H fuelIds (idsL args) [] with
  | none => rw [hl] at hr; exact hr
  | some l =>
    rw [hl] at hr
    simp only [Option.bind_some] at hr ⊢
    split at hr
    · rename_i hb
      rw [if_pos hb]
      cases hc : f k (renL (place l) args) (pack H l) with
      | none => rw [hc] at hr; simp at hr
      | some x => rw [hc] at hr; rw [h _ _ _ _ hc]; exact hr
    · simp at hr

theorem pureCall_mono {f g : CallF} (h : LeC f g) {k args r} (hr : pureCall f k args = some r) : pureCall g k args = some r := by
  unfold pureCall at *
  cases hc : f k args [] with
  | none => rw [hc] at hr; simp at hr
  | some x => rw [hc] at hr; rw [h _ _ _ _ hc]; exact hr

theorem anyCall_mono {f g : CallF} (h : LeC f g) {raw k args H r} (hr : anyCall f raw k args H = some r) : anyCall g raw k args H = some r := by
  unfold anyCall at *
  split at hr
  · rename_i hb; rw [if_pos hb]; exact rawCall_mono h hr
  · rename_i hb
    rw [if_neg hb]
    cases hh : handOn args H with
    | none => rw [hh] at hr; exact hr
    | some x =>
      rw [hh] at hr
      simp only [Option.bind_some, Option.map_eq_some_iff] at hr ⊢
      obtain ⟨v, hv, rfl⟩ := hr
      exact ⟨v, pureCall_mono h hv, rfl⟩

theorem stepOp_mono {f g : CallF} (h : LeC f g) {K args H r} (hr : stepOp f K args H = some r) : stepOp g K args H = some r := by
  unfold stepOp at *
  split at hr
  · exact anyCall_mono h hr
  · exact anyCall_mono h hr
  · exact hr

theorem stepROp_mono {f g : CallF} (h : LeC f g) {o env st r} (hr : stepROp f o env st = some r) : stepROp g o env st = some r := by
  unfold stepROp at *
  split at hr
  · exact hr
  · exact hr
  · split at hr
    · rename_i hap
      rw [if_pos hap]
      cases hc : stepOp f o.k (o.args.map (st.opd env)) st.heap with
      | none => rw [hc] at hr; simp at hr
      | some x => rw [hc] at hr; rw [stepOp_mono h hc]; exact hr
    · simp at hr

theorem execOps_mono {f g : CallF} (h : LeC f g) : ∀ {os env st r}, execOps f os env st = some r → execOps g os env st = some r
  | [], _, _, _, hr => hr
  | o :: os, env, st, r, hr => by
    simp only [execOps] at hr ⊢
    cases hc : stepROp f o env st with
    | none => rw [hc] at hr; simp at hr
    | some x => rw [hc] at hr; rw [stepROp_mono h hc]; exact execOps_mono h hr

theorem execC_mono {f g : CallF} {x y : RCode → St → Option (Ex × St)} (h : LeC f g) (hx : LeX x y) :
    ∀ {c st r}, execC f x c st = some r → execC g y c st = some r := by
  intro c
  induction c with
  | skip => intro st r hr; exact hr
  | exit id => intro st r hr; exact hr
  | ret => intro st r hr; exact hr
  | region ops draw =>
    intro st r hr
    simp only [execC] at hr ⊢
    cases hc : execOps f ops [] st with
    | none => rw [hc] at hr; simp at hr
    | some s => rw [hc] at hr; rw [execOps_mono h hc]; exact hr
  | seq a b iha ihb =>
    intro st r hr
    simp only [execC] at hr ⊢
    cases hc : execC f x a st with
    | none => rw [hc] at hr; simp at hr
    | some s =>
      rw [hc] at hr; rw [iha hc]
      obtain ⟨e, s⟩ := s
      cases e with
      | normal => exact ihb hr
      | exit id => exact hr
      | ret => exact hr
  | cond c t e iht ihe =>
    intro st r hr
    simp only [execC] at hr ⊢
    split at hr
    · rename_i b hb
      split at hr
      · rename_i hb'; subst hb'; simp only [if_true]; exact iht hr
      · rename_i hb'
        have : b = false := by cases b <;> simp_all
        subst this; simp only [Bool.false_eq_true, if_false]; exact ihe hr
    · simp at hr
  | block id b ih =>
    intro st r hr
    simp only [execC] at hr ⊢
    cases hc : execC f x b st with
    | none => rw [hc] at hr; simp at hr
    | some s => rw [hc] at hr; rw [ih hc]; exact hr
  | loop live b ih =>
    intro st r hr
    simp only [execC] at hr ⊢
    cases ht : tidy live st with
    | none => rw [ht] at hr; simp at hr
    | some st1 =>
      rw [ht] at hr
      simp only at hr ⊢
      cases hc : execC f x b st1 with
      | none => rw [hc] at hr; simp at hr
      | some s =>
        rw [hc] at hr; rw [ih hc]
        obtain ⟨e, s⟩ := s
        cases e with
        | normal => exact hx _ _ _ hr
        | exit id => exact hr
        | ret => exact hr

theorem runWith_mono {F : Nat → Option RFunc} {x y : RCode → St → Option (Ex × St)} (hx : LeX x y) : LeC (runWith F x) (runWith F y) := by
  intro k a H r hr
  unfold runWith at *
  cases hF : F k with
  | none => rw [hF] at hr; simp at hr
  | some fn =>
    rw [hF] at hr
    simp only at hr ⊢
    split at hr
    · rename_i hl
      rw [if_pos hl]
      cases hc : x fn.body (fn.enter a H) with
      | none => rw [hc] at hr; simp at hr
      | some s => rw [hc] at hr; rw [hx _ _ _ hc]; exact hr
    · simp at hr

theorem execN_succ {F : Nat → Option RFunc} : ∀ n, LeX (execN F n) (execN F (n + 1))
  | 0 => fun _ _ _ h => by simp [execN] at h
  | n + 1 => fun c st r h => by
    have ih := execN_succ (F := F) n
    simp only [execN] at h ⊢
    exact execC_mono (runWith_mono ih) ih h

theorem execN_mono {F : Nat → Option RFunc} {n m : Nat} (hnm : n ≤ m) : LeX (execN F n) (execN F m) := by
  induction hnm with
  | refl => exact fun _ _ _ h => h
  | step _ ih => exact fun c st r h => execN_succ _ _ _ _ (ih c st r h)

/-! ### The limit -/

open Classical in
noncomputable def exec (F : Nat → Option RFunc) (c : RCode) (st : St) : Option (Ex × St) :=
  if h : ∃ r n, execN F n c st = some r then some h.choose else none

noncomputable def run (F : Nat → Option RFunc) : CallF := runWith F (exec F)

theorem exec_iff {F : Nat → Option RFunc} {c : RCode} {st : St} {r : Ex × St} : exec F c st = some r ↔ ∃ n, execN F n c st = some r := by
  unfold exec
  constructor
  · intro h
    split at h
    · rename_i hex
      obtain ⟨n, hn⟩ := hex.choose_spec
      cases h
      exact ⟨n, hn⟩
    · simp at h
  · rintro ⟨n, hn⟩
    have hex : ∃ r n, execN F n c st = some r := ⟨r, n, hn⟩
    rw [dif_pos hex]
    obtain ⟨m, hm⟩ := hex.choose_spec
    have h1 := execN_mono (Nat.le_max_left n m) _ _ _ hn
    have h2 := execN_mono (Nat.le_max_right n m) _ _ _ hm
    rw [h1] at h2
    exact h2.symm

theorem execN_le {F : Nat → Option RFunc} (n : Nat) : LeX (execN F n) (exec F) := fun _ _ _ h => exec_iff.2 ⟨n, h⟩

theorem runN_le {F : Nat → Option RFunc} (n : Nat) : LeC (runN F n) (run F) := runWith_mono (execN_le n)

theorem run_of_runN {F : Nat → Option RFunc} (n : Nat) {f args H r} (h : runN F n f args H = some r) : run F f args H = some r := runN_le n _ _ _ _ h

/-- What the limit tells is told at some round. -/
theorem run_iff {F : Nat → Option RFunc} {f args H r} : run F f args H = some r ↔ ∃ n, runN F n f args H = some r := by
  constructor
  · intro h
    unfold run runWith at h
    cases hF : F f with
    | none => rw [hF] at h; simp at h
    | some fn =>
      rw [hF] at h
      simp only at h
      split at h
      · rename_i hl
        cases hc : exec F fn.body (fn.enter args H) with
        | none => rw [hc] at h; simp at h
        | some s =>
          rw [hc] at h
          obtain ⟨n, hn⟩ := exec_iff.1 hc
          refine ⟨n, ?_⟩
          unfold runN runWith
          rw [hF]
          simp only
          rw [if_pos hl, hn]
          exact h
      · simp at h
  · rintro ⟨n, hn⟩; exact run_of_runN n hn

theorem rawCall_iff {F : Nat → Option RFunc} {k args H r} (hr : rawCall (run F) k args H = some r) : ∃ n, rawCall (runN F n) k args H = some r := by
  unfold rawCall at *
  cases hl : reach H fuelIds (idsL args) [] with
  | none => rw [hl] at hr; simp at hr
  | some l =>
    rw [hl] at hr
    simp only [Option.bind_some] at hr ⊢
    split at hr
    · rename_i hb
      cases hc : run F k (renL (place l) args) (pack H l) with
      | none => rw [hc] at hr; simp at hr
      | some x =>
        obtain ⟨n, hn⟩ := run_iff.1 hc
        exact ⟨n, by rw [if_pos hb]; rw [hc] at hr; rw [hn]; exact hr⟩
    · simp at hr

theorem pureCall_iff {F : Nat → Option RFunc} {k args r} (hr : pureCall (run F) k args = some r) : ∃ n, pureCall (runN F n) k args = some r := by
  unfold pureCall at *
  cases hc : run F k args [] with
  | none => rw [hc] at hr; simp at hr
  | some x =>
    obtain ⟨n, hn⟩ := run_iff.1 hc
    exact ⟨n, by rw [hc] at hr; rw [hn]; exact hr⟩

theorem anyCall_iff {F : Nat → Option RFunc} {raw k args H r} (hr : anyCall (run F) raw k args H = some r) : ∃ n, anyCall (runN F n) raw k args H = some r := by
  unfold anyCall at *
  split at hr
  · rename_i hb
    obtain ⟨n, hn⟩ := rawCall_iff hr
    exact ⟨n, by rw [if_pos hb]; exact hn⟩
  · rename_i hb
    cases hh : handOn args H with
    | none => rw [hh] at hr; simp at hr
    | some x =>
      rw [hh] at hr
      simp only [Option.bind_some, Option.map_eq_some_iff] at hr
      obtain ⟨v, hv, rfl⟩ := hr
      obtain ⟨n, hn⟩ := pureCall_iff hv
      exact ⟨n, by rw [if_neg hb]; simp only [Option.bind_some, hn, Option.map_some]⟩

theorem stepOp_iff {F : Nat → Option RFunc} {K args H r} (hr : stepOp (run F) K args H = some r) : ∃ n, stepOp (runN F n) K args H = some r := by
  unfold stepOp at hr
  split at hr
  · obtain ⟨n, hn⟩ := anyCall_iff hr; exact ⟨n, by unfold stepOp; exact hn⟩
  · obtain ⟨n, hn⟩ := anyCall_iff hr; exact ⟨n, by unfold stepOp; exact hn⟩
  · rename_i h1 h2
    exact ⟨0, (stepOp.eq_3 _ _ _ _ h1 h2).trans hr⟩

theorem stepROp_iff {F : Nat → Option RFunc} {o env st r} (hr : stepROp (run F) o env st = some r) : ∃ n, stepROp (runN F n) o env st = some r := by
  unfold stepROp at hr
  split at hr
  · simp at hr
  · rename_i hw; exact ⟨0, by unfold stepROp; rw [hw]; exact hr⟩
  · rename_i hw
    split at hr
    · rename_i hap
      cases hc : stepOp (run F) o.k (o.args.map (st.opd env)) st.heap with
      | none => rw [hc] at hr; simp at hr
      | some x =>
        obtain ⟨n, hn⟩ := stepOp_iff hc
        exact ⟨n, by unfold stepROp; rw [hw]; simp only; rw [if_pos hap, hn]; rw [hc] at hr; exact hr⟩
    · simp at hr

theorem execOps_iff {F : Nat → Option RFunc} : ∀ {os env st r}, execOps (run F) os env st = some r → ∃ n, execOps (runN F n) os env st = some r
  | [], _, _, _, hr => ⟨0, hr⟩
  | o :: os, env, st, r, hr => by
    simp only [execOps] at hr ⊢
    cases hc : stepROp (run F) o env st with
    | none => rw [hc] at hr; simp at hr
    | some x =>
      rw [hc] at hr
      obtain ⟨n, hn⟩ := stepROp_iff hc
      obtain ⟨m, hm⟩ := execOps_iff hr
      refine ⟨max n m, ?_⟩
      have hn' := stepROp_mono (runWith_mono (execN_mono (Nat.le_max_left n m))) hn
      have hm' := execOps_mono (runWith_mono (execN_mono (Nat.le_max_right n m))) hm
      simp only [runN] at *
      rw [hn']
      exact hm'

theorem execC_iff {F : Nat → Option RFunc} : ∀ {c st r}, execC (run F) (exec F) c st = some r → ∃ n, execC (runN F n) (execN F n) c st = some r := by
  intro c
  have up : ∀ {n m : Nat} {c : RCode} {st : St} {r : Ex × St}, n ≤ m → execC (runN F n) (execN F n) c st = some r → execC (runN F m) (execN F m) c st = some r :=
    fun hnm h => execC_mono (runWith_mono (execN_mono hnm)) (execN_mono hnm) h
  induction c with
  | skip => intro st r hr; exact ⟨0, hr⟩
  | exit id => intro st r hr; exact ⟨0, hr⟩
  | ret => intro st r hr; exact ⟨0, hr⟩
  | region ops draw =>
    intro st r hr
    simp only [execC] at hr ⊢
    cases hc : execOps (run F) ops [] st with
    | none => rw [hc] at hr; simp at hr
    | some s => obtain ⟨n, hn⟩ := execOps_iff hc; exact ⟨n, by rw [hc] at hr; rw [hn]; exact hr⟩
  | seq a b iha ihb =>
    intro st r hr
    simp only [execC] at hr ⊢
    cases hc : execC (run F) (exec F) a st with
    | none => rw [hc] at hr; simp at hr
    | some s =>
      obtain ⟨n, hn⟩ := iha hc
      rw [hc] at hr
      obtain ⟨e, s⟩ := s
      cases e with
      | normal =>
        obtain ⟨m, hm⟩ := ihb hr
        exact ⟨max n m, by rw [up (Nat.le_max_left n m) hn]; exact up (Nat.le_max_right n m) hm⟩
      | exit id => exact ⟨n, by rw [hn]; exact hr⟩
      | ret => exact ⟨n, by rw [hn]; exact hr⟩
  | cond c t e iht ihe =>
    intro st r hr
    simp only [execC] at hr ⊢
    split at hr
    · rename_i b hb
      split at hr
      · rename_i hb'; subst hb'; obtain ⟨n, hn⟩ := iht hr; exact ⟨n, by simpa only [hb, if_true] using hn⟩
      · rename_i hb'
        have : b = false := by cases b <;> simp_all
        subst this
        obtain ⟨n, hn⟩ := ihe hr; exact ⟨n, by simpa only [hb, Bool.false_eq_true, if_false] using hn⟩
    · simp at hr
  | block id b ih =>
    intro st r hr
    simp only [execC] at hr ⊢
    cases hc : execC (run F) (exec F) b st with
    | none => rw [hc] at hr; simp at hr
    | some s => obtain ⟨n, hn⟩ := ih hc; exact ⟨n, by rw [hc] at hr; rw [hn]; exact hr⟩
  | loop live b ih =>
    intro st r hr
    simp only [execC] at hr ⊢
    cases ht : tidy live st with
    | none => rw [ht] at hr; simp at hr
    | some st1 =>
      rw [ht] at hr
      simp only at hr ⊢
      cases hc : execC (run F) (exec F) b st1 with
      | none => rw [hc] at hr; simp at hr
      | some s =>
        obtain ⟨n, hn⟩ := ih hc
        rw [hc] at hr
        obtain ⟨e, s⟩ := s
        cases e with
        | normal =>
          obtain ⟨m, hm⟩ := exec_iff.1 hr
          refine ⟨max n m, ?_⟩
          rw [up (Nat.le_max_left n m) hn]
          exact execN_mono (Nat.le_max_right n m) _ _ _ hm
        | exit id => exact ⟨n, by rw [hn]; exact hr⟩
        | ret => exact ⟨n, by rw [hn]; exact hr⟩

theorem exec_eq (F : Nat → Option RFunc) (c : RCode) (st : St) : exec F c st = execC (run F) (exec F) c st := by
  have h1 : ∀ r, exec F c st = some r → execC (run F) (exec F) c st = some r := by
    intro r h
    obtain ⟨n, hn⟩ := exec_iff.1 h
    cases n with
    | zero => simp [execN] at hn
    | succ n =>
      simp only [execN] at hn
      exact execC_mono (runN_le n) (execN_le n) hn
  have h2 : ∀ r, execC (run F) (exec F) c st = some r → exec F c st = some r := by
    intro r h
    obtain ⟨n, hn⟩ := execC_iff h
    exact exec_iff.2 ⟨n + 1, hn⟩
  cases h : exec F c st with
  | some r => exact (h1 r h).symm
  | none =>
    cases h' : execC (run F) (exec F) c st with
    | none => rfl
    | some r => rw [h2 r h'] at h; simp at h

section
variable {F : Nat → Option RFunc} {st : St}
theorem exec_skip : exec F .skip st = some (.normal, st) := by rw [exec_eq]; rfl
theorem exec_exit {id : Nat} : exec F (.exit id) st = some (.exit id, st) := by rw [exec_eq]; rfl
theorem exec_ret : exec F .ret st = some (.ret, st) := by rw [exec_eq]; rfl
theorem exec_region {ops : List ROp} {d : Bool} : exec F (.region ops d) st = match execOps (run F) ops [] st with
    | some st' => some (.normal, st')
    | none => none := by rw [exec_eq]; rfl
theorem exec_seq {a b : RCode} : exec F (.seq a b) st = match exec F a st with
    | some (.normal, st') => exec F b st'
    | r => r := by
  rw [exec_eq]; simp only [execC]; rw [← exec_eq]; split <;> first | rw [exec_eq] | rfl
theorem exec_cond {c : Opd} {t e : RCode} : exec F (.cond c t e) st = match st.opd st.env c with
    | .bool b => if b = true then exec F t st else exec F e st
    | _ => none := by
  rw [exec_eq]; simp only [execC]; split <;> first | rfl | (rw [← exec_eq, ← exec_eq])
theorem exec_block {id : Nat} {b : RCode} : exec F (.block id b) st = match exec F b st with
    | some (.exit j, st') => if j = id then some (.normal, st') else some (.exit j, st')
    | r => r := by
  rw [exec_eq]; simp only [execC]; rw [← exec_eq]
theorem exec_loop {live : List Bool} {b : RCode} : exec F (.loop live b) st = match tidy live st with
    | some st1 => match exec F b st1 with
      | some (.normal, st2) => exec F (.loop live b) st2
      | some (e, st2) => some (e, { st2 with env := [] })
      | none => none
    | none => none := by
  rw [exec_eq]; simp only [execC]; split
  · rw [← exec_eq]
  · rfl
end

end Go.Ash
/- What an abstract value says of a value in a world, and that it goes on saying so. -/
namespace Go.Ash

structure Link where
  P : Program
  fn : Nat → FuncId
  ty : Nat → TypeId
  ok : Nat → Prop

structure Pl where
  blk : Nat
  base : Nat
  esz : Nat

abbrev PMap := Nat → Option Pl

inductive Reps (L : Link) (w : World) (B : Nat → Prop) (m : PMap) : Value → AVal → Prop
  | und (v : Value) : Reps L w B m v .und
  | bool (b : Bool) : Reps L w B m (.bool b) (.bool b)
  | int (k : IntKind) (n : Int) : Reps L w B m (.int k n) (.int k n)
  | str (s : ByteArray) : Reps L w B m (.string s) (.str s)
  | nils : Reps L w B m (.slice none 0 0) (.slc true [])
  | slc (a : Addr) (s cap : Nat) (xs : List AVal) (vs : Nat → Nat → Value) (hspot : xs ≠ [] → a.spot = none) (hcap : xs.length ≤ cap)
      (hsz : ∀ (i : Nat) (x : AVal), xs[i]? = some x → x.cells.length = s) (hids : idsL xs = [])
      (hcell : ∀ (i : Nat) (x : AVal) (j : Nat) (c : AVal), xs[i]? = some x → x.cells[j]? = some c → w.cell? ⟨a.block, a.off + (i * s + j), none⟩ = some (vs i j))
      (hrep : ∀ (i : Nat) (x : AVal) (j : Nat) (c : AVal), xs[i]? = some x → x.cells[j]? = some c → Reps L w B m (vs i j) c)
      (hB : xs ≠ [] → ¬ B a.block ∧ a.block < w.heap.size) : Reps L w B m (.slice (some a) xs.length cap) (.slc false xs)
  | agg (vs : Array Value) (cs : List AVal) (hl : vs.size = cs.length)
      (h : ∀ (i : Nat) (c : AVal), cs[i]? = some c → Reps L w B m (vs.getD i undef) c) : Reps L w B m (.agg vs) (.agg cs)
  | ptr (a : Addr) (cs : List AVal) (vs : Nat → Value) (hspot : a.spot = none) (hids : idsL cs = [])
      (hcell : ∀ (j : Nat) (c : AVal), cs[j]? = some c → w.cell? ⟨a.block, a.off + j, none⟩ = some (vs j))
      (hrep : ∀ (j : Nat) (c : AVal), cs[j]? = some c → Reps L w B m (vs j) c)
      (hB : cs ≠ [] → ¬ B a.block ∧ a.block < w.heap.size) : Reps L w B m (.pointer (some a)) (.ptr cs)
  | nilp : Reps L w B m (.pointer none) .nilp
  | mslc (id off len cap : Nat) (p : Pl) (arr : Array Value) (el : TypeId) (fz : Nat × Nat) (hm : m id = some p) (hcap : len ≤ cap)
      (hblk : w.heap[p.blk]? = some (.cells arr el fz)) (hroom : p.base + (off + cap) * p.esz ≤ arr.size) :
      Reps L w B m (.slice (some ⟨p.blk, p.base + off * p.esz, none⟩) len cap) (.mslc id off len)
  | mptr (id i o : Nat) (p : Pl) (hm : m id = some p) : Reps L w B m (.pointer (some ⟨p.blk, p.base + i * p.esz + o, none⟩)) (.mptr id i o)
  | fn (f : Nat) (first cap : List AVal) (vf vc : Array Value) (hok : L.ok f) (hf : vf.size = first.length) (hc : vc.size = cap.length)
      (rf : ∀ (i : Nat) (c : AVal), first[i]? = some c → Reps L w B m (vf.getD i undef) c) (rc : ∀ (i : Nat) (c : AVal), cap[i]? = some c → Reps L w B m (vc.getD i undef) c) :
      Reps L w B m (.func (.func (L.fn f)) vf vc) (.fn f first cap)
  | nilfn : Reps L w B m .nilFunc .nilfn
  | ifc (t : Nat) (v : Value) (a : AVal) (h : Reps L w B m v a) : Reps L w B m (.iface (L.ty t) v) (.ifc t a)
  | nilif : Reps L w B m .nilIface .nilif
  | tup (vs : Array Value) (cs : List AVal) (hl : vs.size = cs.length)
      (h : ∀ (i : Nat) (c : AVal), cs[i]? = some c → Reps L w B m (vs.getD i undef) c) : Reps L w B m (.tuple vs) (.tup cs)

/-- The world goes on: old blocks stand but for those of M, which keep their shape. -/
structure WExt (M : Nat → Prop) (w w' : World) : Prop where
  size : w.heap.size ≤ w'.heap.size
  old : ∀ b, b < w.heap.size → ¬ M b → w'.heap[b]? = w.heap[b]?
  writ : ∀ b arr el fz, M b → w.heap[b]? = some (.cells arr el fz) → ∃ arr', w'.heap[b]? = some (.cells arr' el fz) ∧ arr'.size = arr.size
  rest : w'.os = w.os ∧ w'.tape = w.tape ∧ w'.output = w.output

theorem WExt.refl (M : Nat → Prop) (w : World) : WExt M w w := ⟨Nat.le_refl _, fun _ _ _ => rfl, fun _ arr _ _ _ h => ⟨arr, h, rfl⟩, rfl, rfl, rfl⟩

theorem WExt.trans {M M' : Nat → Prop} {w w1 w2 : World} (h1 : WExt M w w1) (h2 : WExt M' w1 w2) (hM : ∀ b, M' b → M b ∨ w.heap.size ≤ b) : WExt M w w2 where
  size := Nat.le_trans h1.size h2.size
  rest := ⟨h2.rest.1.trans h1.rest.1, h2.rest.2.1.trans h1.rest.2.1, h2.rest.2.2.trans h1.rest.2.2⟩
  old b hb hn := by
    rw [h2.old b (Nat.lt_of_lt_of_le hb h1.size) (fun h => (hM b h).elim hn (fun h => by omega)), h1.old b hb hn]
  writ b arr el fz hb h := by
    obtain ⟨arr1, ha1, hs1⟩ := h1.writ b arr el fz hb h
    by_cases hM' : M' b
    · obtain ⟨arr2, ha2, hs2⟩ := h2.writ b arr1 el fz hM' ha1
      exact ⟨arr2, ha2, hs2.trans hs1⟩
    · have hlt : b < w1.heap.size := by
        rcases Nat.lt_or_ge b w1.heap.size with h | h
        · exact h
        · simp [Array.getElem?_eq_none h] at ha1
      exact ⟨arr1, (h2.old b hlt hM').trans ha1, hs1⟩

theorem WExt.mono {M M' : Nat → Prop} {w w' : World} (h : WExt M w w') (hM : ∀ b, M b → M' b) : WExt M' w w' where
  size := h.size
  rest := h.rest
  old b hb hn := h.old b hb (fun h' => hn (hM b h'))
  writ b arr el fz _ hw := by
    by_cases hb : M b
    · exact h.writ b arr el fz hb hw
    · have hlt : b < w.heap.size := by
        rcases Nat.lt_or_ge b w.heap.size with h | h
        · exact h
        · simp [Array.getElem?_eq_none h] at hw
      exact ⟨arr, (h.old b hlt hb).trans hw, rfl⟩

theorem heap_lt {w : World} {b : Nat} {o : Obj} (h : w.heap[b]? = some o) : b < w.heap.size := by
  rcases Nat.lt_or_ge b w.heap.size with h' | h'
  · exact h'
  · simp [Array.getElem?_eq_none h'] at h

theorem cell_same {w w' : World} {a : Addr} {v : Value} (h : w'.heap[a.block]? = w.heap[a.block]?) (hc : w.cell? a = some v) : w'.cell? a = some v := by
  unfold World.cell? at *; rw [h]; exact hc

section
variable {L : Link} {w w' : World} {B B' : Nat → Prop} {m m' : PMap}

theorem Reps.ext {M : Nat → Prop} {v : Value} {a : AVal} (h : Reps L w B m v a) (hw : WExt M w w') (hM : ∀ b, M b → B b)
    (hB : ∀ b, B' b → B b ∨ w.heap.size ≤ b) (hm : ∀ id p, m id = some p → m' id = some p) : Reps L w' B' m' v a := by
  induction h with
  | und v => exact .und v
  | bool b => exact .bool b
  | int k n => exact .int k n
  | str s => exact .str s
  | nils => exact .nils
  | slc a s cap xs vs hspot hcap hsz hids hcell hrep hBx ih =>
    refine .slc a s cap xs vs hspot hcap hsz hids ?_ ih ?_
    · intro i x j c hx hc
      have hne : xs ≠ [] := by rintro rfl; simp at hx
      obtain ⟨h1, h2⟩ := hBx hne
      exact cell_same (hw.old _ h2 (fun h => h1 (hM _ h))) (hcell i x j c hx hc)
    · intro hne
      obtain ⟨h1, h2⟩ := hBx hne
      exact ⟨fun h => (hB _ h).elim h1 (fun h => by omega), Nat.lt_of_lt_of_le h2 hw.size⟩
  | agg vs cs hl _ ih => exact .agg vs cs hl ih
  | ptr a cs vs hspot hids hcell hrep hBx ih =>
    refine .ptr a cs vs hspot hids ?_ ih ?_
    · intro j c hc
      have hne : cs ≠ [] := by rintro rfl; simp at hc
      obtain ⟨h1, h2⟩ := hBx hne
      exact cell_same (hw.old _ h2 (fun h => h1 (hM _ h))) (hcell j c hc)
    · intro hne
      obtain ⟨h1, h2⟩ := hBx hne
      exact ⟨fun h => (hB _ h).elim h1 (fun h => by omega), Nat.lt_of_lt_of_le h2 hw.size⟩
  | nilp => exact .nilp
  | mslc id off len cap p arr el fz hmi hcap hblk hroom =>
    by_cases hb : M p.blk
    · obtain ⟨arr', ha, hs⟩ := hw.writ _ _ _ _ hb hblk
      exact .mslc id off len cap p arr' el fz (hm _ _ hmi) hcap ha (by rw [hs]; exact hroom)
    · exact .mslc id off len cap p arr el fz (hm _ _ hmi) hcap ((hw.old _ (heap_lt hblk) hb).trans hblk) hroom
  | mptr id i o p hmi => exact .mptr id i o p (hm _ _ hmi)
  | fn f first cap vf vc hok hf hc _ _ ihf ihc => exact .fn f first cap vf vc hok hf hc ihf ihc
  | nilfn => exact .nilfn
  | ifc t v a _ ih => exact .ifc t v a ih
  | nilif => exact .nilif
  | tup vs cs hl _ ih => exact .tup vs cs hl ih

/-- Of fewer blocks that may be written, the same is true. -/
theorem Reps.less {v : Value} {a : AVal} (h : Reps L w B m v a) (hB : ∀ b, B' b → B b) : Reps L w B' m v a :=
  h.ext (M := fun _ => False) (WExt.refl _ _) (fun _ h => h.elim) (fun b h => .inl (hB b h)) (fun _ _ h => h)

theorem idsL_mem {xs : List AVal} (h : idsL xs = []) {i : Nat} {x : AVal} (hx : xs[i]? = some x) : x.ids = [] := by
  induction xs generalizing i with
  | nil => simp at hx
  | cons y ys ih =>
    simp only [idsL, List.append_eq_nil_iff] at h
    cases i with
    | zero => simp at hx; exact hx ▸ h.1
    | succ i => simp at hx; exact ih h.2 hx

theorem ids_cells {x : AVal} (h : x.ids = []) : idsL x.cells = [] := by
  cases x <;> simp_all [AVal.cells, AVal.ids, idsL]

theorem idsL_cells_mem {xs : List AVal} (h : idsL xs = []) {i j : Nat} {x c : AVal} (hx : xs[i]? = some x) (hc : x.cells[j]? = some c) : c.ids = [] :=
  idsL_mem (ids_cells (idsL_mem h hx)) hc

mutual
theorem ren_self (ρ : Nat → Nat) : ∀ a : AVal, a.ids = [] → a.ren ρ = a
  | .und, _ | .bool _, _ | .int _ _, _ | .str _, _ | .slc _ _, _ | .ptr _, _ | .nilp, _ | .nilfn, _ | .nilif, _ => rfl
  | .mslc .., h => by simp [AVal.ids] at h
  | .mptr .., h => by simp [AVal.ids] at h
  | .agg cs, h => by simp only [AVal.ids] at h; simp only [AVal.ren, renL_self ρ cs h]
  | .fn f a b, h => by simp only [AVal.ids, List.append_eq_nil_iff] at h; simp only [AVal.ren, renL_self ρ a h.1, renL_self ρ b h.2]
  | .ifc t v, h => by simp only [AVal.ids] at h; simp only [AVal.ren, ren_self ρ v h]
  | .tup cs, h => by simp only [AVal.ids] at h; simp only [AVal.ren, renL_self ρ cs h]
theorem renL_self (ρ : Nat → Nat) : ∀ l : List AVal, idsL l = [] → renL ρ l = l
  | [], _ => rfl
  | v :: vs, h => by simp only [idsL, List.append_eq_nil_iff] at h; simp only [renL, ren_self ρ v h.1, renL_self ρ vs h.2]
end

/-- The blocks' numbers may be told anew. -/
theorem Reps.ren {v : Value} {a : AVal} (h : Reps L w B m v a) (ρ : Nat → Nat) (hm : ∀ id ∈ a.ids, ∀ p, m id = some p → m' (ρ id) = some p) :
    Reps L w B m' v (a.ren ρ) := by
  have hL : ∀ (cs : List AVal) (i : Nat), (renL ρ cs)[i]? = (cs[i]?).map (AVal.ren ρ) := by
    intro cs
    induction cs with
    | nil => intro i; simp [renL]
    | cons c cs ih => intro i; cases i <;> simp [renL, ih]
  have hLl : ∀ (cs : List AVal), (renL ρ cs).length = cs.length := by
    intro cs
    induction cs with
    | nil => rfl
    | cons c cs ih => simp [renL, ih]
  have hid : ∀ (cs : List AVal) (i : Nat) (c : AVal), cs[i]? = some c → ∀ id ∈ c.ids, id ∈ idsL cs := by
    intro cs
    induction cs with
    | nil => intro i c hc; simp at hc
    | cons y ys ih =>
      intro i c hc id hi
      simp only [idsL, List.mem_append]
      cases i with
      | zero => simp at hc; exact .inl (hc ▸ hi)
      | succ i => simp at hc; exact .inr (ih i c hc id hi)
  induction h with
  | und v => exact .und v
  | bool b => exact .bool b
  | int k n => exact .int k n
  | str s => exact .str s
  | nils => exact .nils
  | slc a s cap xs vs hspot hcap hsz hids hcell hrep hBx ih =>
    refine .slc a s cap xs vs hspot hcap hsz hids hcell ?_ hBx
    intro i x j c hx hc
    have hci := idsL_cells_mem hids hx hc
    have := ih i x j c hx hc (fun id h => by rw [hci] at h; cases h)
    have e : c.ren ρ = c := ren_self ρ c hci
    rw [e] at this; exact this
  | agg vs cs hl _ ih =>
    refine .agg vs _ (by rw [hLl]; exact hl) ?_
    intro i c hc
    rw [hL] at hc
    cases hci : cs[i]? with
    | none => rw [hci] at hc; simp at hc
    | some c0 =>
      rw [hci] at hc; simp at hc; subst hc
      exact ih i c0 hci (fun id h => hm id (by simp only [AVal.ids]; exact hid cs i c0 hci id h))
  | ptr a cs vs hspot hids hcell hrep hBx ih =>
    refine .ptr a cs vs hspot hids hcell ?_ hBx
    intro j c hc
    have hci := idsL_mem hids hc
    have := ih j c hc (fun id h => by rw [hci] at h; cases h)
    rw [ren_self ρ c hci] at this; exact this
  | nilp => exact .nilp
  | mslc id off len cap p arr el fz hmi hcap hblk hroom =>
    exact .mslc _ off len cap p arr el fz (hm id (by simp [AVal.ids]) p hmi) hcap hblk hroom
  | mptr id i o p hmi => exact .mptr _ i o p (hm id (by simp [AVal.ids]) p hmi)
  | fn f first cap vf vc hok hf hc _ _ ihf ihc =>
    refine .fn f _ _ vf vc hok (by rw [hLl]; exact hf) (by rw [hLl]; exact hc) ?_ ?_
    · intro i c hc
      rw [hL] at hc
      cases hci : first[i]? with
      | none => rw [hci] at hc; simp at hc
      | some c0 =>
        rw [hci] at hc; simp at hc; subst hc
        exact ihf i c0 hci (fun id h => hm id (by simp only [AVal.ids, List.mem_append]; exact .inl (hid first i c0 hci id h)))
    · intro i c hc
      rw [hL] at hc
      cases hci : cap[i]? with
      | none => rw [hci] at hc; simp at hc
      | some c0 =>
        rw [hci] at hc; simp at hc; subst hc
        exact ihc i c0 hci (fun id h => hm id (by simp only [AVal.ids, List.mem_append]; exact .inr (hid cap i c0 hci id h)))
  | nilfn => exact .nilfn
  | ifc t v a _ ih => exact .ifc t v _ (ih (fun id h => hm id (by simpa only [AVal.ids] using h)))
  | nilif => exact .nilif
  | tup vs cs hl _ ih =>
    refine .tup vs _ (by rw [hLl]; exact hl) ?_
    intro i c hc
    rw [hL] at hc
    cases hci : cs[i]? with
    | none => rw [hci] at hc; simp at hc
    | some c0 =>
      rw [hci] at hc; simp at hc; subst hc
      exact ih i c0 hci (fun id h => hm id (by simp only [AVal.ids]; exact hid cs i c0 hci id h))
end
end Go.Ash
/- What the blocks of the abstract state say of a world, and how it goes on. -/
namespace Go.Ash

abbrev HF := Nat → Option Blk

/-- A block that may be written. -/
def BM (h : HF) (m : PMap) (b : Nat) : Prop := ∃ id k p, h id = some k ∧ k.frozen = false ∧ m id = some p ∧ p.blk = b

def Bof (N : Nat → Prop) (h : HF) (m : PMap) (b : Nat) : Prop := N b ∨ BM h m b

structure Sim (L : Link) (N : Nat → Prop) (w : World) (h : HF) (m : PMap) : Prop where
  nlt : ∀ b, N b → b < w.heap.size
  blk : ∀ id k, h id = some k → ∃ p arr el, m id = some p ∧ p.esz = k.esz ∧ ¬ N p.blk ∧ w.heap[p.blk]? = some (.cells arr el (0, 0)) ∧
    (∀ (i : Nat) (x : AVal), k.elems[i]? = some x → x.cells.length = p.esz) ∧
    (∀ (i : Nat) (x : AVal) (j : Nat) (c : AVal), k.elems[i]? = some x → x.cells[j]? = some c →
      ∃ v, arr[p.base + i * p.esz + j]? = some v ∧ Reps L w (Bof N h m) m v c)
  inj : ∀ id1 id2 k1 k2 p1 p2, h id1 = some k1 → h id2 = some k2 → m id1 = some p1 → m id2 = some p2 → p1.blk = p2.blk → id1 = id2

/-- A step forward: the world grown, blocks that may be written old ones or new ones. -/
structure Fwd (w : World) (h : HF) (m : PMap) (w' : World) (h' : HF) (m' : PMap) : Prop where
  ext : WExt (BM h m) w w'
  sub : ∀ b, BM h' m' b → BM h m b ∨ w.heap.size ≤ b
  alv : ∀ id k p, h' id = some k → m' id = some p → (∃ id0 k0 p0, h id0 = some k0 ∧ m id0 = some p0 ∧ p0.blk = p.blk) ∨ w.heap.size ≤ p.blk

structure Step (L : Link) (N : Nat → Prop) (w : World) (h : HF) (m : PMap) (w' : World) (h' : HF) (m' : PMap) : Prop extends Fwd w h m w' h' m' where
  sim : Sim L N w' h' m'
  mono : ∀ id p, m id = some p → m' id = some p

def upd {α : Type} (h : Nat → Option α) (id : Nat) (b : Option α) : Nat → Option α := fun j => if j = id then b else h j

theorem upd_same {α : Type} (h : Nat → Option α) (id : Nat) (b : Option α) : upd h id b id = b := by simp [upd]
theorem upd_ne {α : Type} (h : Nat → Option α) {id j : Nat} (b : Option α) (hj : j ≠ id) : upd h id b j = h j := by simp [upd, hj]

section
variable {L : Link} {N : Nat → Prop} {w w' : World} {h h' : HF} {m m' : PMap}

theorem Fwd.refl (w : World) (h : HF) (m : PMap) : Fwd w h m w h m :=
  ⟨WExt.refl _ _, fun _ hb => .inl hb, fun id k p hk hp => .inl ⟨id, k, p, hk, hp, rfl⟩⟩

theorem Fwd.trans {w2 : World} {h2 : HF} {m2 : PMap} (a : Fwd w h m w' h' m') (b : Fwd w' h' m' w2 h2 m2) : Fwd w h m w2 h2 m2 where
  ext := a.ext.trans b.ext a.sub
  sub k hk := (b.sub k hk).elim (a.sub k) (fun h => .inr (Nat.le_trans a.ext.size h))
  alv id k p hk hp := by
    rcases b.alv id k p hk hp with ⟨id0, k0, p0, h0, hp0, he⟩ | hge
    · rcases a.alv id0 k0 p0 h0 hp0 with ⟨id1, k1, p1, h1, hp1, he1⟩ | hge
      · exact .inl ⟨id1, k1, p1, h1, hp1, he1.trans he⟩
      · exact .inr (by rw [← he]; exact hge)
    · exact .inr (Nat.le_trans a.ext.size hge)

theorem Step.refl (s : Sim L N w h m) : Step L N w h m w h m := ⟨Fwd.refl _ _ _, s, fun _ _ h => h⟩

theorem Step.trans {w2 : World} {h2 : HF} {m2 : PMap} (a : Step L N w h m w' h' m') (b : Step L N w' h' m' w2 h2 m2) : Step L N w h m w2 h2 m2 :=
  ⟨a.toFwd.trans b.toFwd, b.sim, fun id p hp => b.mono _ _ (a.mono _ _ hp)⟩

theorem Reps.fwd {v : Value} {a : AVal} (r : Reps L w (Bof N h m) m v a) (s : Fwd w h m w' h' m')
    (hm : ∀ id p, m id = some p → m' id = some p) : Reps L w' (Bof N h' m') m' v a :=
  r.ext s.ext (fun _ hb => .inr hb) (fun b hb => hb.elim (fun h => .inl (.inl h)) (fun h => (s.sub b h).elim (fun h => .inl (.inr h)) .inr)) hm

theorem Reps.step {v : Value} {a : AVal} (r : Reps L w (Bof N h m) m v a) (s : Step L N w h m w' h' m') : Reps L w' (Bof N h' m') m' v a :=
  r.fwd s.toFwd s.mono

/-- The world grows; nothing that was there is touched. -/
theorem Step.world (s : Sim L N w h m) (hw : WExt (fun _ => False) w w') : Step L N w h m w' h m := by
  have f : Fwd w h m w' h m := ⟨hw.mono (fun _ h => h.elim), fun _ hb => .inl hb, fun id k p hk hp => .inl ⟨id, k, p, hk, hp, rfl⟩⟩
  refine ⟨f, ⟨fun b hb => Nat.lt_of_lt_of_le (s.nlt b hb) hw.size, ?_, s.inj⟩, fun _ _ h => h⟩
  intro id k hk
  obtain ⟨p, arr, el, hp, he, hn, ha, hs, hc⟩ := s.blk id k hk
  refine ⟨p, arr, el, hp, he, hn, (hw.old _ (heap_lt ha) (fun h => h)).trans ha, hs, ?_⟩
  intro i x j c hx hj
  obtain ⟨v, hv, hr⟩ := hc i x j c hx hj
  exact ⟨v, hv, hr.fwd f (fun _ _ h => h)⟩

theorem WExt.drew (w : World) : WExt (fun _ => False) w w.drew := ⟨Nat.le_refl _, fun _ _ _ => rfl, fun _ _ _ _ h => h.elim, rfl, rfl, rfl⟩
theorem WExt.alloc (w : World) (o : Obj) : WExt (fun _ => False) w (w.alloc o) :=
  ⟨by simp, fun b hb _ => heap_alloc_old w o b hb, fun _ _ _ _ h => h.elim, rfl, rfl, rfl⟩

/-- A new block. -/
theorem Step.new (s : Sim L N w h m) {fresh esz : Nat} {xs : List AVal} {arr : Array Value} {el : TypeId} (hw : WExt (fun _ => False) w w')
    (hnew : w'.heap[w.heap.size]? = some (.cells arr el (0, 0))) (hf : h fresh = none) (hmf : m fresh = none)
    (hsz : ∀ (i : Nat) (x : AVal), xs[i]? = some x → x.cells.length = esz)
    (hc : ∀ (i : Nat) (x : AVal) (j : Nat) (c : AVal), xs[i]? = some x → x.cells[j]? = some c → ∃ v, arr[i * esz + j]? = some v ∧ Reps L w (Bof N h m) m v c) :
    Step L N w h m w' (upd h fresh (some ⟨false, esz, xs⟩)) (upd m fresh (some ⟨w.heap.size, 0, esz⟩)) := by
  have hmono : ∀ id p, m id = some p → upd m fresh (some ⟨w.heap.size, 0, esz⟩) id = some p := by
    intro id p hp
    have : id ≠ fresh := by rintro rfl; rw [hmf] at hp; cases hp
    rw [upd_ne _ _ this]; exact hp
  have hold : ∀ id k, id ≠ fresh → upd h fresh (some ⟨false, esz, xs⟩) id = some k → h id = some k := fun id k hne hk => by rwa [upd_ne _ _ hne] at hk
  have f : Fwd w h m w' (upd h fresh (some ⟨false, esz, xs⟩)) (upd m fresh (some ⟨w.heap.size, 0, esz⟩)) := by
    refine ⟨hw.mono (fun _ h => h.elim), ?_, ?_⟩
    · rintro b ⟨id, k, p, hk, hfz, hp, rfl⟩
      by_cases he : id = fresh
      · subst he; rw [upd_same] at hp; cases hp; exact .inr (Nat.le_refl _)
      · rw [upd_ne _ _ he] at hk hp; exact .inl ⟨id, k, p, hk, hfz, hp, rfl⟩
    · intro id k p hk hp
      by_cases he : id = fresh
      · subst he; rw [upd_same] at hp; cases hp; exact .inr (Nat.le_refl _)
      · rw [upd_ne _ _ he] at hk hp; exact .inl ⟨id, k, p, hk, hp, rfl⟩
  refine ⟨f, ⟨fun b hb => Nat.lt_of_lt_of_le (s.nlt b hb) hw.size, ?_, ?_⟩, hmono⟩
  · intro id k hk
    by_cases he : id = fresh
    · subst he
      rw [upd_same] at hk
      cases hk
      refine ⟨⟨w.heap.size, 0, esz⟩, arr, el, upd_same _ _ _, rfl, fun hN => Nat.lt_irrefl _ (s.nlt _ hN), hnew, hsz, ?_⟩
      intro i x j c hx hj
      obtain ⟨v, hv, hr⟩ := hc i x j c hx hj
      exact ⟨v, by simpa using hv, hr.fwd f hmono⟩
    · obtain ⟨p, arr0, el0, hp, hes, hn, ha, hs, hc0⟩ := s.blk id k (hold id k he hk)
      refine ⟨p, arr0, el0, hmono _ _ hp, hes, hn, (hw.old _ (heap_lt ha) (fun h => h)).trans ha, hs, ?_⟩
      intro i x j c hx hj
      obtain ⟨v, hv, hr⟩ := hc0 i x j c hx hj
      exact ⟨v, hv, hr.fwd f hmono⟩
  · intro id1 id2 k1 k2 p1 p2 hk1 hk2 hp1 hp2 hb
    by_cases h1 : id1 = fresh
    · by_cases h2 : id2 = fresh
      · rw [h1, h2]
      · exfalso
        subst h1
        rw [upd_same] at hp1; cases hp1
        rw [upd_ne _ _ h2] at hk2 hp2
        obtain ⟨p, arr0, el0, hp, _, _, ha, _⟩ := s.blk id2 k2 hk2
        rw [hp] at hp2; cases hp2
        have := heap_lt ha
        simp at hb; omega
    · by_cases h2 : id2 = fresh
      · exfalso
        subst h2
        rw [upd_same] at hp2; cases hp2
        rw [upd_ne _ _ h1] at hk1 hp1
        obtain ⟨p, arr0, el0, hp, _, _, ha, _⟩ := s.blk id1 k1 hk1
        rw [hp] at hp1; cases hp1
        have := heap_lt ha
        simp at hb; omega
      · rw [upd_ne _ _ h1] at hk1 hp1
        rw [upd_ne _ _ h2] at hk2 hp2
        exact s.inj _ _ _ _ _ _ hk1 hk2 hp1 hp2 hb

/-- A block that is written, or grown in place: 'id' gives way to 'id2' (the same number: it is written). -/
theorem Step.write (s : Sim L N w h m) {id id2 : Nat} {k k' : Blk} {p p' : Pl} {arr arr' : Array Value} {el : TypeId}
    (hk : h id = some k) (hfz : k.frozen = false) (hp : m id = some p) (ha : w.heap[p.blk]? = some (.cells arr el (0, 0)))
    (hw : w'.heap.size = w.heap.size) (hrest : w'.os = w.os ∧ w'.tape = w.tape ∧ w'.output = w.output) (hoth : ∀ b, b ≠ p.blk → w'.heap[b]? = w.heap[b]?)
    (ha' : w'.heap[p.blk]? = some (.cells arr' el (0, 0))) (hsize : arr'.size = arr.size)
    (hid2 : id2 = id ∨ (h id2 = none ∧ m id2 = none)) (hp' : p'.blk = p.blk) (hsame : id2 = id → p' = p) (hes : p'.esz = k'.esz) (hfz' : k'.frozen = false)
    (hsz : ∀ (i : Nat) (x : AVal), k'.elems[i]? = some x → x.cells.length = p'.esz)
    (hc : ∀ (i : Nat) (x : AVal) (j : Nat) (c : AVal), k'.elems[i]? = some x → x.cells[j]? = some c →
      ∃ v, arr'[p'.base + i * p'.esz + j]? = some v ∧ Reps L w (Bof N h m) m v c) :
    Step L N w h m w' (upd (upd h id none) id2 (some k')) (upd m id2 (some p')) := by
  have hBM : BM h m p.blk := ⟨id, k, p, hk, hfz, hp, rfl⟩
  have hmono : ∀ j q, m j = some q → upd m id2 (some p') j = some q := by
    intro j q hq
    by_cases hj : j = id2
    · subst hj
      rcases hid2 with rfl | ⟨_, hn⟩
      · rw [upd_same, hsame rfl]; rw [hp] at hq; exact hq
      · rw [hn] at hq; cases hq
    · rw [upd_ne _ _ hj]; exact hq
  have hext : WExt (BM h m) w w' := by
    refine ⟨by omega, ?_, ?_, hrest⟩
    · intro b _ hb
      exact hoth b (by rintro rfl; exact hb hBM)
    · intro b arr0 el0 fz0 _ hb0
      by_cases hb : b = p.blk
      · subst hb
        rw [ha] at hb0; cases hb0
        exact ⟨arr', ha', hsize⟩
      · exact ⟨arr0, (hoth b hb).trans hb0, rfl⟩
  have hget : ∀ j kk, upd (upd h id none) id2 (some k') j = some kk → (j = id2 ∧ kk = k') ∨ (j ≠ id2 ∧ j ≠ id ∧ h j = some kk) := by
    intro j kk hj
    by_cases h2 : j = id2
    · subst h2; rw [upd_same] at hj; cases hj; exact .inl ⟨rfl, rfl⟩
    · rw [upd_ne _ _ h2] at hj
      by_cases h1 : j = id
      · subst h1; rw [upd_same] at hj; cases hj
      · rw [upd_ne _ _ h1] at hj; exact .inr ⟨h2, h1, hj⟩
  have f : Fwd w h m w' (upd (upd h id none) id2 (some k')) (upd m id2 (some p')) := by
    refine ⟨hext, ?_, ?_⟩
    · rintro b ⟨j, kk, q, hj, hf, hq, rfl⟩
      rcases hget j kk hj with ⟨rfl, rfl⟩ | ⟨h2, h1, hjo⟩
      · rw [upd_same] at hq; cases hq; rw [hp']; exact .inl hBM
      · rw [upd_ne _ _ h2] at hq; exact .inl ⟨j, kk, q, hjo, hf, hq, rfl⟩
    · intro j kk q hj hq
      rcases hget j kk hj with ⟨rfl, rfl⟩ | ⟨h2, h1, hjo⟩
      · rw [upd_same] at hq; cases hq; exact .inl ⟨id, k, p, hk, hp, hp'.symm⟩
      · rw [upd_ne _ _ h2] at hq; exact .inl ⟨j, kk, q, hjo, hq, rfl⟩
  refine ⟨f, ⟨fun b hb => by rw [hw]; exact s.nlt b hb, ?_, ?_⟩, hmono⟩
  · intro j kk hj
    rcases hget j kk hj with ⟨rfl, rfl⟩ | ⟨h2, h1, hjo⟩
    · obtain ⟨p0, _, _, hp0, _, hn, _⟩ := s.blk id k hk
      rw [hp] at hp0; cases hp0
      refine ⟨p', arr', el, upd_same _ _ _, hes, by rw [hp']; exact hn, by rw [hp']; exact ha', hsz, ?_⟩
      intro i x jj c hx hcx
      obtain ⟨v, hv, hr⟩ := hc i x jj c hx hcx
      exact ⟨v, hv, hr.fwd f hmono⟩
    · obtain ⟨q, arr0, el0, hq, hes0, hn, ha0, hs0, hc0⟩ := s.blk j kk hjo
      have hne : q.blk ≠ p.blk := fun e => h1 (s.inj _ _ _ _ _ _ hjo hk hq hp e)
      refine ⟨q, arr0, el0, hmono _ _ hq, hes0, hn, (hoth _ hne).trans ha0, hs0, ?_⟩
      intro i x jj c hx hcx
      obtain ⟨v, hv, hr⟩ := hc0 i x jj c hx hcx
      exact ⟨v, hv, hr.fwd f hmono⟩
  · intro j1 j2 k1 k2 q1 q2 hj1 hj2 hq1 hq2 hb
    rcases hget j1 k1 hj1 with ⟨rfl, rfl⟩ | ⟨h12, h11, hjo1⟩
    · rcases hget j2 k2 hj2 with ⟨rfl, rfl⟩ | ⟨h22, h21, hjo2⟩
      · rfl
      · rw [upd_same] at hq1; cases hq1
        rw [upd_ne _ _ h22] at hq2
        exact absurd (s.inj _ _ _ _ _ _ hjo2 hk hq2 hp (by rw [← hb, hp'])) h21
    · rw [upd_ne _ _ h12] at hq1
      rcases hget j2 k2 hj2 with ⟨rfl, rfl⟩ | ⟨h22, h21, hjo2⟩
      · rw [upd_same] at hq2; cases hq2
        exact absurd (s.inj _ _ _ _ _ _ hjo1 hk hq1 hp (by rw [hb, hp'])) h11
      · rw [upd_ne _ _ h22] at hq2
        exact s.inj _ _ _ _ _ _ hjo1 hjo2 hq1 hq2 hb

/-- The same blocks, some of them not to be written any more, or gone. -/
theorem Step.less (s : Sim L N w h m) (hh : ∀ id k', h' id = some k' → ∃ k, h id = some k ∧ k'.esz = k.esz ∧ k'.elems = k.elems ∧ (k'.frozen = false → k.frozen = false)) :
    Step L N w h m w h' m := by
  have hsub : ∀ b, BM h' m b → BM h m b := by
    rintro b ⟨id, k', p, hk', hf, hp, rfl⟩
    obtain ⟨k, hk, _, _, hfr⟩ := hh id k' hk'
    exact ⟨id, k, p, hk, hfr hf, hp, rfl⟩
  refine ⟨⟨WExt.refl _ _, fun b hb => .inl (hsub b hb), ?_⟩, ⟨s.nlt, ?_, ?_⟩, fun _ _ h => h⟩
  · intro id k' p hk' hp
    obtain ⟨k, hk, _⟩ := hh id k' hk'
    exact .inl ⟨id, k, p, hk, hp, rfl⟩
  · intro id k' hk'
    obtain ⟨k, hk, he, hel, _⟩ := hh id k' hk'
    obtain ⟨p, arr, el, hp, hes, hn, ha, hs, hc⟩ := s.blk id k hk
    refine ⟨p, arr, el, hp, by rw [he, hes], hn, ha, by rw [hel]; exact hs, ?_⟩
    rw [hel]
    intro i x j c hx hj
    obtain ⟨v, hv, hr⟩ := hc i x j c hx hj
    exact ⟨v, hv, hr.less (fun b hb => hb.imp _root_.id (hsub b))⟩
  · intro id1 id2 k1 k2 p1 p2 h1 h2 hp1 hp2 hb
    obtain ⟨k1', hk1, _⟩ := hh id1 k1 h1
    obtain ⟨k2', hk2, _⟩ := hh id2 k2 h2
    exact s.inj _ _ _ _ _ _ hk1 hk2 hp1 hp2 hb
end
end Go.Ash
/- Values handed on as trees; the blocks numbered anew. -/
namespace Go.Ash
section
variable {L : Link} {N : Nat → Prop} {w w' : World} {h h' : HF} {m m' : PMap}

/-- What a tree is good for: where the blocks of 'is' may not be written. -/
def TreeOk (L : Link) (w : World) (B : Nat → Prop) (m : PMap) (is : List Nat) (c t : AVal) : Prop :=
  t.ids = [] ∧ ∀ B' : Nat → Prop, (∀ b, B' b → B b) → (∀ id ∈ is, ∀ p, m id = some p → ¬ B' p.blk) → ∀ v, Reps L w B m v c → Reps L w B' m v t

theorem TreeOk.more {B : Nat → Prop} {is js : List Nat} {c t : AVal} (ht : TreeOk L w B m is c t) (hs : ∀ x ∈ is, x ∈ js) : TreeOk L w B m js c t :=
  ⟨ht.1, fun B' h1 h2 v hv => ht.2 B' h1 (fun id hid => h2 id (hs id hid)) v hv⟩

theorem TreeOk.self {B : Nat → Prop} {c : AVal} (hc : c.ids = []) : TreeOk L w B m [] c c :=
  ⟨hc, fun _ h1 _ _ hv => hv.less h1⟩

def CellsOk (L : Link) (w : World) (B : Nat → Prop) (m : PMap) (is : List Nat) (c t : AVal) : Prop :=
  t.cells.length = c.cells.length ∧ ∀ (j : Nat) (d : AVal), c.cells[j]? = some d → ∃ t', t.cells[j]? = some t' ∧ TreeOk L w B m is d t'

theorem CellsOk.more {B : Nat → Prop} {is js : List Nat} {c t : AVal} (ht : CellsOk L w B m is c t) (hs : ∀ x ∈ is, x ∈ js) : CellsOk L w B m js c t :=
  ⟨ht.1, fun j d hd => let ⟨t', a, b⟩ := ht.2 j d hd; ⟨t', a, b.more hs⟩⟩

theorem CellsOk.self {B : Nat → Prop} {c : AVal} (hc : c.ids = []) : CellsOk L w B m [] c c :=
  ⟨rfl, fun j d hd => ⟨d, hd, TreeOk.self (idsL_mem (ids_cells hc) hd)⟩⟩

theorem CellsOk.cell {B : Nat → Prop} {is : List Nat} {c t : AVal} (hc : c.cells = [c]) (ht : t.cells = [t]) (h : TreeOk L w B m is c t) : CellsOk L w B m is c t := by
  refine ⟨by rw [hc, ht]; rfl, fun j d hd => ?_⟩
  rw [hc] at hd
  cases j with
  | zero => simp at hd; exact ⟨t, by rw [ht]; rfl, hd ▸ h⟩
  | succ j => simp at hd

theorem ids_of_mem {l : List AVal} (h : ∀ (i : Nat) (x : AVal), l[i]? = some x → x.ids = []) : idsL l = [] := by
  induction l with
  | nil => rfl
  | cons x xs ih =>
    simp only [idsL, List.append_eq_nil_iff]
    exact ⟨h 0 x rfl, ih (fun i y hy => h (i + 1) y (by simpa using hy))⟩

theorem cells_eq {w : World} {b : Nat} {arr : Array Value} {el : TypeId} {fz : Nat × Nat} (h : w.heap[b]? = some (.cells arr el fz)) (j : Nat) :
    w.cell? ⟨b, j, none⟩ = arr[j]? := cell_of_row w b j arr el fz h

theorem tree_ok {H : Heap} (s : Sim L N w H.at m) : ∀ n : Nat,
    (∀ (c t : AVal) (is : List Nat), c.tree H n = some (t, is) → TreeOk L w (Bof N H.at m) m is c t ∧ CellsOk L w (Bof N H.at m) m is c t) ∧
    (∀ (l ts : List AVal) (is : List Nat), treeL H n l = some (ts, is) → ts.length = l.length ∧
      ∀ (i : Nat) (c : AVal), l[i]? = some c → ∃ t, ts[i]? = some t ∧ TreeOk L w (Bof N H.at m) m is c t ∧ CellsOk L w (Bof N H.at m) m is c t)
  | 0 => ⟨fun _ _ _ h => by simp [AVal.tree] at h, fun _ _ _ h => by simp [treeL] at h⟩
  | n + 1 => by
    obtain ⟨ihv, ihl⟩ := tree_ok s n
    have aggArr : ∀ (vs : Array Value) (cs ts : List AVal) (is : List Nat), ts.length = cs.length →
        (∀ (i : Nat) (c : AVal), cs[i]? = some c → ∃ t, ts[i]? = some t ∧ TreeOk L w (Bof N H.at m) m is c t ∧ CellsOk L w (Bof N H.at m) m is c t) →
        ∀ B' : Nat → Prop, (∀ b, B' b → Bof N H.at m b) → (∀ id ∈ is, ∀ p, m id = some p → ¬ B' p.blk) →
        (∀ (i : Nat) (c : AVal), cs[i]? = some c → Reps L w (Bof N H.at m) m (vs.getD i undef) c) →
        ∀ (i : Nat) (t : AVal), ts[i]? = some t → Reps L w B' m (vs.getD i undef) t := by
      intro vs cs ts is hlen hall B' h1 h2 hr i t ht
      have hi : i < cs.length := by
        rw [← hlen]
        rcases Nat.lt_or_ge i ts.length with h | h
        · exact h
        · simp [List.getElem?_eq_none h] at ht
      have hc : cs[i]? = some cs[i] := List.getElem?_eq_getElem hi
      obtain ⟨t', ht', hok, _⟩ := hall i _ hc
      rw [ht] at ht'; cases ht'
      exact hok.2 B' h1 h2 _ (hr i _ hc)
    have idsArr : ∀ (cs ts : List AVal) (is : List Nat), ts.length = cs.length →
        (∀ (i : Nat) (c : AVal), cs[i]? = some c → ∃ t, ts[i]? = some t ∧ TreeOk L w (Bof N H.at m) m is c t ∧ CellsOk L w (Bof N H.at m) m is c t) → idsL ts = [] := by
      intro cs ts is hlen hall
      refine ids_of_mem fun i t ht => ?_
      have hi : i < cs.length := by
        rw [← hlen]
        rcases Nat.lt_or_ge i ts.length with h | h
        · exact h
        · simp [List.getElem?_eq_none h] at ht
      obtain ⟨t', ht', hok, _⟩ := hall i _ (List.getElem?_eq_getElem hi)
      rw [ht] at ht'; cases ht'
      exact hok.1
    constructor
    · intro c t is hc
      cases c with
      | und => simp only [AVal.tree, Option.some.injEq, Prod.mk.injEq] at hc; obtain ⟨rfl, rfl⟩ := hc; exact ⟨TreeOk.self rfl, CellsOk.self rfl⟩
      | bool b => simp only [AVal.tree, Option.some.injEq, Prod.mk.injEq] at hc; obtain ⟨rfl, rfl⟩ := hc; exact ⟨TreeOk.self rfl, CellsOk.self rfl⟩
      | int k x => simp only [AVal.tree, Option.some.injEq, Prod.mk.injEq] at hc; obtain ⟨rfl, rfl⟩ := hc; exact ⟨TreeOk.self rfl, CellsOk.self rfl⟩
      | str x => simp only [AVal.tree, Option.some.injEq, Prod.mk.injEq] at hc; obtain ⟨rfl, rfl⟩ := hc; exact ⟨TreeOk.self rfl, CellsOk.self rfl⟩
      | slc b xs => simp only [AVal.tree, Option.some.injEq, Prod.mk.injEq] at hc; obtain ⟨rfl, rfl⟩ := hc; exact ⟨TreeOk.self rfl, CellsOk.self rfl⟩
      | ptr cs => simp only [AVal.tree, Option.some.injEq, Prod.mk.injEq] at hc; obtain ⟨rfl, rfl⟩ := hc; exact ⟨TreeOk.self rfl, CellsOk.self rfl⟩
      | nilp => simp only [AVal.tree, Option.some.injEq, Prod.mk.injEq] at hc; obtain ⟨rfl, rfl⟩ := hc; exact ⟨TreeOk.self rfl, CellsOk.self rfl⟩
      | nilfn => simp only [AVal.tree, Option.some.injEq, Prod.mk.injEq] at hc; obtain ⟨rfl, rfl⟩ := hc; exact ⟨TreeOk.self rfl, CellsOk.self rfl⟩
      | nilif => simp only [AVal.tree, Option.some.injEq, Prod.mk.injEq] at hc; obtain ⟨rfl, rfl⟩ := hc; exact ⟨TreeOk.self rfl, CellsOk.self rfl⟩
      | mslc id off len =>
        simp only [AVal.tree] at hc
        cases hb : H.at id with
        | none => rw [hb] at hc; simp at hc
        | some b =>
          rw [hb] at hc
          simp only at hc
          split at hc
          · rename_i hlen
            simp only [Option.map_eq_some_iff] at hc
            obtain ⟨⟨ts, js⟩, htl, he⟩ := hc
            simp only [Prod.mk.injEq] at he
            obtain ⟨rfl, rfl⟩ := he
            obtain ⟨hl, hall⟩ := ihl _ _ _ htl
            have hids := idsArr _ _ _ hl hall
            have hL : ts.length = len := by rw [hl]; simp; omega
            have hok : TreeOk L w (Bof N H.at m) m (id :: js) (.mslc id off len) (.slc false ts) := by
              refine ⟨rfl, fun B' h1 h2 v hv => ?_⟩
              cases hv with
              | mslc _ _ _ cap p arr0 el0 fz0 hm hcap hblk hroom =>
                obtain ⟨q, arr, el, hq, hes, hn, ha, hsz, hcell⟩ := s.blk id b hb
                rw [hm] at hq; cases hq
                rw [ha] at hblk; cases hblk
                have hget : ∀ (i : Nat) (x : AVal), ts[i]? = some x → ∃ c, b.elems[off + i]? = some c ∧
                    TreeOk L w (Bof N H.at m) m js c x ∧ CellsOk L w (Bof N H.at m) m js c x := by
                  intro i x hx
                  have hi : i < len := by
                    rw [← hL]
                    rcases Nat.lt_or_ge i ts.length with h | h
                    · exact h
                    · simp [List.getElem?_eq_none h] at hx
                  have hc : ((b.elems.drop off).take len)[i]? = b.elems[off + i]? := by
                    rw [List.getElem?_take, if_pos hi, List.getElem?_drop]
                  have hlt : off + i < b.elems.length := by omega
                  refine ⟨b.elems[off + i], List.getElem?_eq_getElem hlt, ?_⟩
                  obtain ⟨t, ht, h1, h2⟩ := hall i b.elems[off + i] (by rw [hc]; exact List.getElem?_eq_getElem hlt)
                  rw [hx] at ht; cases ht
                  exact ⟨h1, h2⟩
                rw [← hL]
                refine .slc _ p.esz cap ts (fun i j => arr0.getD (p.base + (off + i) * p.esz + j) undef) (fun _ => rfl) (by omega) ?_ hids ?_ ?_ ?_
                · intro i x hx
                  obtain ⟨c, hc, _, hco⟩ := hget i x hx
                  rw [hco.1]; exact hsz _ _ hc
                · intro i x j c hx hj
                  obtain ⟨c0, hc0, _, hco⟩ := hget i x hx
                  have hjl : j < c0.cells.length := by
                    rw [← hco.1]
                    rcases Nat.lt_or_ge j x.cells.length with h | h
                    · exact h
                    · simp [List.getElem?_eq_none h] at hj
                  obtain ⟨v, hv, _⟩ := hcell (off + i) c0 j _ hc0 (List.getElem?_eq_getElem hjl)
                  have e : p.base + off * p.esz + (i * p.esz + j) = p.base + (off + i) * p.esz + j := by rw [Nat.add_mul]; omega
                  show w.cell? ⟨p.blk, p.base + off * p.esz + (i * p.esz + j), none⟩ = _
                  rw [e, cells_eq ha, hv]
                  have hlt := (Array.getElem?_eq_some_iff.1 hv).1
                  simp [Array.getD, hlt, (Array.getElem?_eq_some_iff.1 hv).2]
                · intro i x j c hx hj
                  obtain ⟨c0, hc0, _, hco⟩ := hget i x hx
                  have hjl : j < c0.cells.length := by
                    rw [← hco.1]
                    rcases Nat.lt_or_ge j x.cells.length with h | h
                    · exact h
                    · simp [List.getElem?_eq_none h] at hj
                  obtain ⟨v, hv, hr⟩ := hcell (off + i) c0 j _ hc0 (List.getElem?_eq_getElem hjl)
                  obtain ⟨t', ht', hok'⟩ := hco.2 j _ (List.getElem?_eq_getElem hjl)
                  rw [hj] at ht'; cases ht'
                  have hlt := (Array.getElem?_eq_some_iff.1 hv).1
                  have : arr0.getD (p.base + (off + i) * p.esz + j) undef = v := by simp [Array.getD, hlt, (Array.getElem?_eq_some_iff.1 hv).2]
                  rw [this]
                  exact hok'.2 B' h1 (fun id' hid' => h2 id' (List.mem_cons_of_mem _ hid')) v hr
                · intro _
                  exact ⟨h2 id (by simp) p hm, heap_lt ha⟩
            exact ⟨hok, CellsOk.cell rfl rfl hok⟩
          · simp at hc
      | mptr id i o =>
        simp only [AVal.tree] at hc
        cases hb : H.at id with
        | none => rw [hb] at hc; simp at hc
        | some b =>
          rw [hb] at hc
          simp only at hc
          cases he : b.elems[i]? with
          | none => rw [he] at hc; simp at hc
          | some e =>
            rw [he] at hc
            simp only [Option.map_eq_some_iff] at hc
            obtain ⟨⟨ts, js⟩, htl, hee⟩ := hc
            simp only [Prod.mk.injEq] at hee
            obtain ⟨rfl, rfl⟩ := hee
            obtain ⟨hl, hall⟩ := ihl _ _ _ htl
            have hids := idsArr _ _ _ hl hall
            have hok : TreeOk L w (Bof N H.at m) m (id :: js) (.mptr id i o) (.ptr ts) := by
              refine ⟨rfl, fun B' h1 h2 v hv => ?_⟩
              cases hv with
              | mptr _ _ _ p hm =>
                obtain ⟨q, arr, el, hq, hes, hn, ha, hsz, hcell⟩ := s.blk id b hb
                rw [hm] at hq; cases hq
                have hget : ∀ (j : Nat) (x : AVal), ts[j]? = some x → ∃ c v, e.cells[o + j]? = some c ∧ arr[p.base + i * p.esz + (o + j)]? = some v ∧
                    Reps L w (Bof N H.at m) m v c ∧ TreeOk L w (Bof N H.at m) m js c x := by
                  intro j x hx
                  have hj : j < (e.cells.drop o).length := by
                    rw [← hl]
                    rcases Nat.lt_or_ge j ts.length with h | h
                    · exact h
                    · simp [List.getElem?_eq_none h] at hx
                  have hlt : o + j < e.cells.length := by simp at hj; omega
                  obtain ⟨t, ht, hto, _⟩ := hall j e.cells[o + j] (by rw [List.getElem?_drop]; exact List.getElem?_eq_getElem hlt)
                  rw [hx] at ht; cases ht
                  obtain ⟨v, hv, hr⟩ := hcell i e (o + j) _ he (List.getElem?_eq_getElem hlt)
                  exact ⟨_, v, List.getElem?_eq_getElem hlt, hv, hr, hto⟩
                refine .ptr _ ts (fun j => arr.getD (p.base + i * p.esz + (o + j)) undef) rfl hids ?_ ?_ ?_
                · intro j x hx
                  obtain ⟨c, v, _, hv, _, _⟩ := hget j x hx
                  show w.cell? ⟨p.blk, p.base + i * p.esz + o + j, none⟩ = _
                  have e2 : p.base + i * p.esz + o + j = p.base + i * p.esz + (o + j) := by omega
                  rw [e2, cells_eq ha, hv]
                  have hlt := (Array.getElem?_eq_some_iff.1 hv).1
                  simp [Array.getD, hlt, (Array.getElem?_eq_some_iff.1 hv).2]
                · intro j x hx
                  obtain ⟨c, v, _, hv, hr, hto⟩ := hget j x hx
                  have hlt := (Array.getElem?_eq_some_iff.1 hv).1
                  have : arr.getD (p.base + i * p.esz + (o + j)) undef = v := by simp [Array.getD, hlt, (Array.getElem?_eq_some_iff.1 hv).2]
                  rw [this]
                  exact hto.2 B' h1 (fun id' hid' => h2 id' (List.mem_cons_of_mem _ hid')) v hr
                · intro _
                  exact ⟨h2 id (by simp) p hm, heap_lt ha⟩
            exact ⟨hok, CellsOk.cell rfl rfl hok⟩
      | agg cs =>
        simp only [AVal.tree, Option.map_eq_some_iff] at hc
        obtain ⟨⟨ts, js⟩, htl, he⟩ := hc
        simp only [Prod.mk.injEq] at he
        obtain ⟨rfl, rfl⟩ := he
        obtain ⟨hl, hall⟩ := ihl _ _ _ htl
        refine ⟨⟨idsArr _ _ _ hl hall, fun B' h1 h2 v hv => ?_⟩, hl, fun j d hd => ?_⟩
        · cases hv with
          | agg vs _ hvl hr => exact .agg vs ts (by rw [hl]; exact hvl) (aggArr vs cs ts js hl hall B' h1 h2 hr)
        · obtain ⟨t, ht, hok, _⟩ := hall j d hd
          exact ⟨t, ht, hok⟩
      | fn f a b =>
        simp only [AVal.tree, Option.bind_eq_some_iff, Option.map_eq_some_iff] at hc
        obtain ⟨⟨ta, ja⟩, hta, ⟨tb, jb⟩, htb, he⟩ := hc
        simp only [Prod.mk.injEq] at he
        obtain ⟨rfl, rfl⟩ := he
        obtain ⟨hla, halla⟩ := ihl _ _ _ hta
        obtain ⟨hlb, hallb⟩ := ihl _ _ _ htb
        have hok : TreeOk L w (Bof N H.at m) m (ja ++ jb) (.fn f a b) (.fn f ta tb) := by
          refine ⟨by simp only [AVal.ids, idsArr _ _ _ hla halla, idsArr _ _ _ hlb hallb, List.append_nil], fun B' h1 h2 v hv => ?_⟩
          cases hv with
          | fn _ _ _ vf vc hok hf hc rf rc =>
            exact .fn f ta tb vf vc hok (by rw [hla]; exact hf) (by rw [hlb]; exact hc)
              (aggArr vf a ta ja hla halla B' h1 (fun id hid => h2 id (List.mem_append_left _ hid)) rf)
              (aggArr vc b tb jb hlb hallb B' h1 (fun id hid => h2 id (List.mem_append_right _ hid)) rc)
        exact ⟨hok, CellsOk.cell rfl rfl hok⟩
      | ifc ty v =>
        simp only [AVal.tree, Option.map_eq_some_iff] at hc
        obtain ⟨⟨tv, js⟩, htv, he⟩ := hc
        simp only [Prod.mk.injEq] at he
        obtain ⟨rfl, rfl⟩ := he
        obtain ⟨hv1, _⟩ := ihv _ _ _ htv
        have hok : TreeOk L w (Bof N H.at m) m js (.ifc ty v) (.ifc ty tv) := by
          refine ⟨by simpa only [AVal.ids] using hv1.1, fun B' h1 h2 x hx => ?_⟩
          cases hx with
          | ifc _ x0 _ hx0 => exact .ifc ty x0 tv (hv1.2 B' h1 h2 _ hx0)
        exact ⟨hok, CellsOk.cell rfl rfl hok⟩
      | tup cs =>
        simp only [AVal.tree, Option.map_eq_some_iff] at hc
        obtain ⟨⟨ts, js⟩, htl, he⟩ := hc
        simp only [Prod.mk.injEq] at he
        obtain ⟨rfl, rfl⟩ := he
        obtain ⟨hl, hall⟩ := ihl _ _ _ htl
        have hok : TreeOk L w (Bof N H.at m) m js (.tup cs) (.tup ts) := by
          refine ⟨idsArr _ _ _ hl hall, fun B' h1 h2 v hv => ?_⟩
          cases hv with
          | tup vs _ hvl hr => exact .tup vs ts (by rw [hl]; exact hvl) (aggArr vs cs ts js hl hall B' h1 h2 hr)
        exact ⟨hok, CellsOk.cell rfl rfl hok⟩
    · intro l ts is hl
      unfold treeL at hl
      split at hl
      · rename_i hids
        simp only [Option.some.injEq, Prod.mk.injEq] at hl
        obtain ⟨rfl, rfl⟩ := hl
        exact ⟨rfl, fun i c hc => ⟨c, hc, TreeOk.self (idsL_mem hids hc), CellsOk.self (idsL_mem hids hc)⟩⟩
      · cases l with
        | nil => rename_i hids; exact absurd rfl hids
        | cons v vs =>
          simp only [Option.bind_eq_some_iff, Option.map_eq_some_iff] at hl
          obtain ⟨⟨tv, ja⟩, htv, ⟨tvs, jb⟩, htvs, he⟩ := hl
          simp only [Prod.mk.injEq] at he
          obtain ⟨rfl, rfl⟩ := he
          obtain ⟨h1, h2⟩ := ihv _ _ _ htv
          obtain ⟨hlen, hall⟩ := ihl _ _ _ htvs
          refine ⟨by simp [hlen], fun i c hc => ?_⟩
          cases i with
          | zero =>
            simp at hc; subst hc
            exact ⟨tv, rfl, h1.more (fun x hx => List.mem_append_left _ hx), h2.more (fun x hx => List.mem_append_left _ hx)⟩
          | succ i =>
            simp at hc
            obtain ⟨t, ht, a, b⟩ := hall i c hc
            exact ⟨t, by simpa using ht, a.more (fun x hx => List.mem_append_right _ hx), b.more (fun x hx => List.mem_append_right _ hx)⟩
end
end Go.Ash
/- Which operation of the model an operation of the abstract code stands for. -/
namespace Go.Ash

def szOf (P : Program) (t : TypeId) : Option Nat := (P.info? t).map (·.size)
def isAggD : TypeDesc → Bool
  | .struct _ | .array _ _ => true
  | _ => false
def aggOf (P : Program) (t : TypeId) : Option Bool := (P.underlying t).map isAggD
def zeroOf (P : Program) (t : TypeId) : Option Value := (P.info? t).bind (·.zero)

mutual
def constRep : AVal → Value → Bool
  | .bool b, .bool b' => b == b'
  | .int k n, .int k' n' => decide (k = k') && decide (n = n')
  | .str s, .string s' => decide (s = s')
  | .slc true [], .slice none 0 0 => true
  | .nilp, .pointer none => true
  | .nilfn, .nilFunc => true
  | .nilif, .nilIface => true
  | .agg cs, .agg vs => constRepL cs vs.toList
  | _, _ => false
def constRepL : List AVal → List Value → Bool
  | [], [] => true
  | c :: cs, v :: vs => constRep c v && constRepL cs vs
  | _, _ => false
end

section
variable {L : Link} {w : World} {B : Nat → Prop} {m : PMap}
mutual
theorem constRep_reps : ∀ (c : AVal) (v : Value), constRep c v = true → Reps L w B m v c
  | .bool b, v, h => by cases v <;> simp [constRep] at h; subst h; exact .bool _
  | .int k n, v, h => by cases v <;> simp [constRep] at h; obtain ⟨rfl, rfl⟩ := h; exact .int _ _
  | .str s, v, h => by cases v <;> simp [constRep] at h; subst h; exact .str _
  | .slc b xs, v, h => by
    unfold constRep at h
    split at h <;> simp_all
    exact .nils
  | .nilp, v, h => by
    unfold constRep at h
    split at h <;> simp_all
    exact .nilp
  | .nilfn, v, h => by
    unfold constRep at h
    split at h <;> simp_all
    exact .nilfn
  | .nilif, v, h => by
    unfold constRep at h
    split at h <;> simp_all
    exact .nilif
  | .agg cs, v, h => by
    cases v with
    | agg vs =>
      simp only [constRep] at h
      obtain ⟨hl, hr⟩ := constRepL_reps cs vs.toList h
      refine .agg vs cs (by simpa using hl) fun i c hc => ?_
      have := hr i c hc
      simpa [Array.getD_eq_getD_getElem?] using this
    | _ => simp [constRep] at h
  | .und, v, h => by simp [constRep] at h
  | .ptr _, v, h => by simp [constRep] at h
  | .mslc .., v, h => by simp [constRep] at h
  | .mptr .., v, h => by simp [constRep] at h
  | .fn .., v, h => by simp [constRep] at h
  | .ifc .., v, h => by simp [constRep] at h
  | .tup .., v, h => by simp [constRep] at h
theorem constRepL_reps : ∀ (cs : List AVal) (vs : List Value), constRepL cs vs = true →
    vs.length = cs.length ∧ ∀ (i : Nat) (c : AVal), cs[i]? = some c → Reps L w B m (vs[i]?.getD undef) c
  | [], vs, h => by cases vs <;> simp [constRepL] at h; exact ⟨rfl, fun i c hc => by simp at hc⟩
  | c :: cs, vs, h => by
    cases vs with
    | nil => simp [constRepL] at h
    | cons v vs =>
      simp only [constRepL, Bool.and_eq_true] at h
      obtain ⟨hl, hr⟩ := constRepL_reps cs vs h.2
      refine ⟨by simp [hl], fun i c' hc => ?_⟩
      cases i with
      | zero => simp at hc; subst hc; simpa using constRep_reps c v h.1
      | succ i => simp at hc; simpa using hr i c' hc
end
end

def nilKind (P : Program) (t : TypeId) : Option Nat :=
  match P.underlying t with
  | some (.slice _) => some 0
  | some (.pointer _) => some 1
  | some (.func ..) => some 2
  | some (.interface _) => some 3
  | _ => none
def nilOpd : Operand → Option Nat
  | .const (.slice none 0 0) => some 0
  | .const (.pointer none) => some 1
  | .const .nilFunc => some 2
  | .const .nilIface => some 3
  | _ => none

def isBoolT (P : Program) (t : TypeId) : Bool :=
  match P.underlying t with
  | some .bool => true
  | _ => false
def isStrT (P : Program) (t : TypeId) : Bool :=
  match P.underlying t with
  | some .string => true
  | _ => false
def sliceOf (P : Program) (t : TypeId) : Option TypeId :=
  match P.underlying t with
  | some (.slice e) => some e
  | _ => none
theorem isBoolT_spec {P : Program} {t : TypeId} (h : isBoolT P t = true) : P.underlying t = some .bool := by
  unfold isBoolT at h; split at h <;> simp_all
theorem isStrT_spec {P : Program} {t : TypeId} (h : isStrT P t = true) : P.underlying t = some .string := by
  unfold isStrT at h; split at h <;> simp_all
theorem sliceOf_spec {P : Program} {t e : TypeId} (h : sliceOf P t = some e) : P.underlying t = some (.slice e) := by
  unfold sliceOf at h; split at h <;> simp_all

/-- The operands of a builtin's call. -/
def builtinOps (P : Program) (b : Builtin) (c : Call) (K : OpK) : Option (List Operand) :=
  match b, K with
  | .len, .len str => match c.argTypes[0]? with
    | some t => if (if str then isStrT P t else (sliceOf P t).isSome) ∧ c.args.size = 1 then some c.args.toList else none
    | none => none
  | .append, .app bytes esz => match c.argTypes[0]? with
    | some t => if (c.argTypes[1]?).any (fun t2 => (sliceOf P t2).isSome) = true ∧ c.argTypes.size = 2 ∧ c.args.size = 2 then
        match sliceOf P t with
        | some e => match P.info? e, zeroOf P e with
          | some i, some z => if i.size = esz ∧ 0 < esz ∧ z.cells.size = esz ∧ i.bytes = bytes then some c.args.toList else none
          | _, _ => none
        | none => none
      else none
    | none => none
  | .max, .max => if c.args.size = 2 then some c.args.toList else none
  | .min, .min => if c.args.size = 2 then some c.args.toList else none
  | _, _ => none

/-- The operands of a model's operation, where the abstract one stands for it. -/
def opsOf (P : Program) (fn ty : Nat → Nat) (okb : Nat → Bool) (op : Op) (K : OpK) : Option (List Operand) :=
  match op, K with
  | .move x, .mov => some [x]
  | .assign x, .mov => some [x]
  | .pick c a b, .pick => some [c, a, b]
  | .box _ x, .box => some [x]
  | .alloc t, .alloc zero => match zeroOf P t with
    | some z => if constRep zero z then some [] else none
    | none => none
  | .build t parts, .build zero ps => match zeroOf P t, P.underlying t with
    | some z, some (.struct fields) =>
      if constRepL zero z.cells.toList && fields.toList.all (fun f => (szOf P f.type).isSome)
        && decide (parts.toList.map (fun q => (fields[q.1]?).map fun f => (f.offset, (szOf P f.type).getD 0)) = ps.map some)
      then some (parts.toList.map (·.2)) else none
    | _, _ => none
  | .buildSlice t len parts, .bslice esz zero len' idx => match P.underlying t with
    | some (.slice e) => match P.info? e, zeroOf P e with
      | some i, some z =>
        if constRep zero z && decide (i.size = esz) && decide (z.cells.size = esz) && decide (0 < esz) && decide (len = len') && decide (len * esz ≤ 2 ^ 24) && decide (parts.toList.map (·.1) = idx)
          && idx.all (fun k => decide (k < len)) then some (parts.toList.map (·.2)) else none
      | _, _ => none
    | _ => none
  | .load t a, .load agg sz => if aggOf P t = some agg ∧ szOf P t = some sz ∧ (agg = false → sz = 1) then some [a] else none
  | .store t a v, .store sz => if szOf P t = some sz ∧ 0 < sz then some [a, v] else none
  | .nilCheck x, .nilck => some [x]
  | .binOp op _ x y _, .bin op' => if op = op' then some [x, y] else none
  | .binOp .eql t x y _, .beq false => if isBoolT P t = true then some [x, y] else none
  | .binOp .neq t x y _, .beq true => if isBoolT P t = true then some [x, y] else none
  | .binOp op t x y _, .eqnil neg kd =>
    if op = (if neg then .neq else .eql) ∧ nilKind P t = some kd ∧ nilOpd y = some kd then some [x] else none
  | .unOp op _ x, .un op' => if op = op' then some [x] else none
  | .convert s d x, .conv k => match P.underlying s, P.underlying d with
    | some _, some (.int k') => if k = k' then some [x] else none
    | _, _ => none
  | .convert s d x, .bytesToStr => match P.underlying s with
    | some (.slice e) => match P.underlying e with
      | some (.int .u8) => if isStrT P d = true then some [x] else none
      | _ => none
    | _ => none
  | .makeInterface t x, .mkif t' => match P.underlying t with
    | some (.interface _) => none
    | some _ => if ty t' = t then some [x] else none
    | none => none
  | .makeFunc (.func f) first cap, .mkfn g n => if fn g = f ∧ okb g = true ∧ first.size = n then some (first.toList ++ cap.toList) else none
  | .makeSlice t l c, .mkslice esz zero bytes => match P.underlying t with
    | some (.slice e) => match P.info? e, zeroOf P e with
      | some i, some z => if constRep zero z && decide (i.size = esz) && decide (z.cells.size = esz) && decide (0 < esz) && decide (i.bytes = bytes) then some [l, c] else none
      | _, _ => none
    | _ => none
  | .slice t x lo hi mx, .slice esz bl bh bm =>
    if lo.isSome = bl ∧ hi.isSome = bh ∧ mx.isSome = bm then
      match sliceOf P t with
      | some e => if szOf P e = some esz then some (x :: (lo.toList ++ hi.toList ++ mx.toList)) else none
      | none => none
    else none
  | .slice t x lo hi none, .slices bl bh =>
    if lo.isSome = bl ∧ hi.isSome = bh ∧ isStrT P t = true then some (x :: (lo.toList ++ hi.toList)) else none
  | .fieldAddr t x f, .faddr off => match P.underlying t with
    | some (.struct fields) => match fields[f]? with
      | some fd => if fd.offset = off ∧ (szOf P fd.type).any (· ≠ 0) then some [x] else none
      | none => none
    | _ => none
  | .field t x f, .fld agg off sz => match P.underlying t with
    | some (.struct fields) => match fields[f]? with
      | some fd => if fd.offset = off ∧ szOf P fd.type = some sz ∧ aggOf P fd.type = some agg ∧ (agg = false → sz = 1) then some [x] else none
      | none => none
    | _ => none
  | .indexAddr t x i, .iaddr esz => match P.underlying t with
    | some (.slice e) => if szOf P e = some esz then some [x, i] else none
    | _ => none
  | .index t x i, .idx => if isStrT P t = true then some [x, i] else none
  | .extract x i, .extract j => if i = j then some [x] else none
  | .typeAssert x _ t false, .tassert t' _ => match P.underlying t with
    | some (.interface _) => none
    | some _ => if ty t' = t then some [x] else none
    | none => none
  | .call c, .call _ g => match c.callee with
    | .value (.func f) => if fn g = f ∧ okb g = true then some c.args.toList else none
    | _ => none
  | .call c, .callv _ => match c.callee with
    | .value x => some (x :: c.args.toList)
    | _ => none
  | .call c, .len str => match c.callee with
    | .builtin b => builtinOps P b c (.len str)
    | _ => none
  | .call c, .app bytes esz => match c.callee with
    | .builtin b => builtinOps P b c (.app bytes esz)
    | _ => none
  | .call c, .max => match c.callee with
    | .builtin b => builtinOps P b c .max
    | _ => none
  | .call c, .min => match c.callee with
    | .builtin b => builtinOps P b c .min
    | _ => none
  | _, _ => none

end Go.Ash
/- Operations that touch no block: each does in the model what it does here. -/
namespace Go.Ash

inductive All2 {α β : Type} (R : α → β → Prop) : List α → List β → Prop
  | nil : All2 R [] []
  | cons {a b as bs} : R a b → All2 R as bs → All2 R (a :: as) (b :: bs)

theorem All2.one {α β : Type} {R : α → β → Prop} {a : α} {bs : List β} (h : All2 R [a] bs) : ∃ b, bs = [b] ∧ R a b := by
  cases h with | cons h1 h2 => cases h2; exact ⟨_, rfl, h1⟩
theorem All2.two {α β : Type} {R : α → β → Prop} {a a' : α} {bs : List β} (h : All2 R [a, a'] bs) : ∃ b b', bs = [b, b'] ∧ R a b ∧ R a' b' := by
  cases h with | cons h1 h2 => obtain ⟨b, rfl, h3⟩ := h2.one; exact ⟨_, _, rfl, h1, h3⟩
theorem All2.length {α β : Type} {R : α → β → Prop} {as : List α} {bs : List β} (h : All2 R as bs) : as.length = bs.length := by
  induction h with
  | nil => rfl
  | cons _ _ ih => simp [ih]
theorem All2.get {α β : Type} {R : α → β → Prop} {as : List α} {bs : List β} (h : All2 R as bs) {i : Nat} {a : α} {b : β} (ha : as[i]? = some a) (hb : bs[i]? = some b) : R a b := by
  induction h generalizing i with
  | nil => simp at ha
  | cons h1 _ ih =>
    cases i with
    | zero => simp at ha hb; subst ha; subst hb; exact h1
    | succ i => simp at ha hb; exact ih ha hb
theorem All2.of {α β : Type} {R : α → β → Prop} : ∀ {as : List α} {bs : List β}, as.length = bs.length → (∀ (i : Nat) (a : α) (b : β), as[i]? = some a → bs[i]? = some b → R a b) → All2 R as bs
  | [], [], _, _ => .nil
  | a :: as, b :: bs, hl, h => .cons (h 0 a b rfl rfl) (All2.of (by simpa using hl) fun i x y hx hy => h (i + 1) x y (by simpa using hx) (by simpa using hy))
  | [], _ :: _, hl, _ => by simp at hl
  | _ :: _, [], hl, _ => by simp at hl

section
variable {L : Link} {w : World} {B : Nat → Prop} {m : PMap} {ρ : Operand → Value} {o : Oper}

abbrev Args (L : Link) (w : World) (B : Nat → Prop) (m : PMap) (ρ : Operand → Value) (xs : List Operand) (args : List AVal) : Prop :=
  All2 (fun x a => Reps L w B m (ρ x) a) xs args

/-- The operation gives a value, and the world stays. -/
def Gives (L : Link) (w : World) (B : Nat → Prop) (m : PMap) (ρ : Operand → Value) (o : Oper) (v : AVal) : Prop :=
  ∃ u, (execOp ρ o).run L.P w = .ok (.value u) w ∧ Reps L w B m u v

theorem Reps.bool_inv {v : Value} {b : Bool} (h : Reps L w B m v (.bool b)) : v = .bool b := by cases h; rfl
theorem Reps.int_inv {v : Value} {k : IntKind} {n : Int} (h : Reps L w B m v (.int k n)) : v = .int k n := by cases h; rfl
theorem Reps.str_inv {v : Value} {s : ByteArray} (h : Reps L w B m v (.str s)) : v = .string s := by cases h; rfl

theorem gives_mov {x : Operand} {v : AVal} (ho : o.op = .move x ∨ o.op = .assign x) (h : Reps L w B m (ρ x) v) : Gives L w B m ρ o v := by
  refine ⟨ρ x, ?_, h⟩
  rcases ho with ho | ho <;> simp [execOp, ho]

theorem gives_pick {c x y : Operand} {b : Bool} {p q : AVal} (ho : o.op = .pick c x y) (hc : Reps L w B m (ρ c) (.bool b))
    (hp : Reps L w B m (ρ x) p) (hq : Reps L w B m (ρ y) q) : Gives L w B m ρ o (if b then p else q) := by
  refine ⟨if b then ρ x else ρ y, ?_, by cases b <;> simp_all⟩
  simp [execOp, ho, hc.bool_inv, asBool]

theorem run_val {s : Sem Value} {u : Value} {w' : World} (h : s.run L.P w = .ok u w') : (do pure (Next.value (← s)) : Sem Next).run L.P w = .ok (.value u) w' := by
  simp [h]

theorem eqGuard_int (op : BinOp) (t : TypeId) (x y : Operand) (k k' : IntKind) (i j : Int) : (eqGuard op t x y (.int k i) (.int k' j)).run L.P w = .ok () w := by
  cases op <;> simp [eqGuard]
theorem eqGuard_str (op : BinOp) (t : TypeId) (x y : Operand) (i j : ByteArray) : (eqGuard op t x y (.string i) (.string j)).run L.P w = .ok () w := by
  cases op <;> simp [eqGuard]
theorem eqGuard_bool (op : BinOp) (t : TypeId) (x y : Operand) (i j : Bool) : (eqGuard op t x y (.bool i) (.bool j)).run L.P w = .ok () w := by
  cases op <;> simp [eqGuard]

theorem gives_bin {op : BinOp} {t u : TypeId} {x y : Operand} {a b v : AVal} (ho : o.op = .binOp op t x y u) (ha : Reps L w B m (ρ x) a)
    (hb : Reps L w B m (ρ y) b) (hv : binA op a b = some v) : Gives L w B m ρ o v := by
  suffices h : ∃ r, ((do eqGuard op t x y (ρ x) (ρ y); binOp op t (ρ x) (ρ y)) : Sem Value).run L.P w = .ok r w ∧ Reps L w B m r v by
    obtain ⟨r, h1, h2⟩ := h
    refine ⟨r, ?_, h2⟩
    simp only [execOp, ho]
    exact run_val h1
  unfold binA at hv
  split at hv
  · rename_i k i k' j
    rw [ha.int_inv, hb.int_inv]
    simp only [Sem.run_bind, eqGuard_int, Result.andThen_ok]
    cases op <;> simp only [isShift, Bool.false_eq_true, if_false, if_true] at hv <;> simp only [binOp]
    case shl =>
      simp only [shiftA] at hv
      split at hv
      · simp at hv
      · rename_i hj
        simp only [Option.some.injEq] at hv; subst hv
        exact ⟨.int k (k.wrap (i * 2 ^ (Nat.min j.toNat k.bits))), by simp [Op.shift, hj], .int _ _⟩
    case shr =>
      simp only [shiftA] at hv
      split at hv
      · simp at hv
      · rename_i hj
        simp only [Option.some.injEq] at hv; subst hv
        exact ⟨.int k (i.fdiv (2 ^ (Nat.min j.toNat k.bits))), by simp [Op.shift, hj], .int _ _⟩
    all_goals
      split at hv
      · rename_i hk
        subst hk
        rw [if_neg (by simp)]
        simp only [intA, intBitsA] at hv
        first
        | (simp at hv; done)
        | (simp only [Option.some.injEq] at hv; subst hv
           first
           | exact ⟨_, rfl, .int _ _⟩
           | exact ⟨_, rfl, .bool _⟩)
        | (split at hv
           · simp at hv
           · rename_i hz
             simp only [Option.some.injEq] at hv; subst hv
             refine ⟨_, ?_, .int _ _⟩
             simp only [Op.intDiv, if_neg hz]
             rfl)
      · simp at hv
  · rename_i i j
    rw [ha.str_inv, hb.str_inv]
    simp only [Sem.run_bind, eqGuard_str, Result.andThen_ok]
    cases op <;> simp only [strA] at hv <;> simp only [binOp] <;> first | (simp at hv; done) | skip
    · split at hv
      · rename_i hle
        simp only [Option.some.injEq] at hv; subst hv
        refine ⟨_, ?_, .str _⟩
        have : ¬ (((i.size + j.size : Nat) : Int) > IntKind.i64.max) := by
          unfold maxBytes at hle
          simp only [IntKind.max, IntKind.signed, IntKind.bits]; simp; omega
        simp only [Op.stringOp, if_neg this]; rfl
      · simp at hv
    all_goals
      simp only [Option.some.injEq] at hv; subst hv
      exact ⟨_, rfl, .bool _⟩
  · simp at hv

theorem gives_beq {neg : Bool} {t u : TypeId} {x y : Operand} {p q : Bool} (ho : o.op = .binOp (if neg then .neq else .eql) t x y u)
    (ht : L.P.underlying t = some .bool) (ha : Reps L w B m (ρ x) (.bool p)) (hb : Reps L w B m (ρ y) (.bool q)) :
    Gives L w B m ρ o (.bool (if neg then !(p == q) else p == q)) := by
  refine ⟨_, ?_, .bool _⟩
  simp only [execOp, ho, ha.bool_inv, hb.bool_inv]
  refine run_val ?_
  simp only [Sem.run_bind, eqGuard_bool, Result.andThen_ok]
  cases neg
  · exact run_eql_bool w t p q ht
  · exact run_neq_bool w t p q ht

theorem gives_un {op : UnOp} {t : TypeId} {x : Operand} {a v : AVal} (ho : o.op = .unOp op t x) (ha : Reps L w B m (ρ x) a) (hv : unA op a = some v) :
    Gives L w B m ρ o v := by
  suffices h : ∃ r, (Op.unary op (ρ x)).run L.P w = .ok r w ∧ Reps L w B m r v by
    obtain ⟨r, h1, h2⟩ := h
    refine ⟨r, ?_, h2⟩
    simp only [execOp, ho]
    exact run_val h1
  unfold unA at hv
  split at hv
  · simp only [Option.some.injEq] at hv; subst hv
    rw [ha.int_inv]
    exact ⟨_, rfl, .int _ _⟩
  · simp only [Option.some.injEq] at hv; subst hv
    rw [ha.bool_inv]
    exact ⟨_, rfl, .bool _⟩
  · simp at hv

theorem gives_conv {s d : TypeId} {x : Operand} {k k' : IntKind} {n : Int} {ds : TypeDesc} (ho : o.op = .convert s d x) (hs : L.P.underlying s = some ds)
    (hd : L.P.underlying d = some (.int k)) (ha : Reps L w B m (ρ x) (.int k' n)) : Gives L w B m ρ o (.int k (k.wrap n)) := by
  refine ⟨_, ?_, .int _ _⟩
  simp only [execOp, ho, ha.int_inv]
  refine run_val ?_
  simp [convert, underlying, hs, hd, Conv.intToInt]

theorem gives_mkif {t t' : TypeId} {x : Operand} {a : AVal} {d : TypeDesc} (ho : o.op = .makeInterface t x) (hd : L.P.underlying t = some d)
    (hi : ∀ ms, d ≠ .interface ms) (ht : L.ty t' = t) (ha : Reps L w B m (ρ x) a) : Gives L w B m ρ o (.ifc t' a) := by
  refine ⟨.iface t (ρ x), ?_, by subst ht; exact .ifc _ _ _ ha⟩
  simp only [execOp, ho]
  refine run_val ?_
  unfold Instr.makeInterface
  cases d <;> first | exact absurd rfl (hi _) | simp [underlying, hd]

theorem gives_extract {x : Operand} {i : Nat} {vs : List AVal} {v : AVal} (ho : o.op = .extract x i) (ha : Reps L w B m (ρ x) (.tup vs)) (hv : vs[i]? = some v) :
    Gives L w B m ρ o v := by
  generalize hx : ρ x = u at ha
  cases ha with
  | tup us _ hl hr =>
    have hi : i < us.size := by
      rw [hl]
      rcases Nat.lt_or_ge i vs.length with h | h
      · exact h
      · simp [List.getElem?_eq_none h] at hv
    refine ⟨us[i], ?_, ?_⟩
    · simp only [execOp, ho, hx]
      refine run_val ?_
      simp [Instr.extract, Array.getElem?_eq_getElem hi]
    · have := hr i v hv
      simpa [Array.getD, hi] using this

def isRef : AVal → Bool
  | .ptr _ | .mptr .. | .fn .. | .ifc .. => true
  | _ => false
def lenA : AVal → Option Nat
  | .slc _ xs => some xs.length
  | .mslc _ _ len => some len
  | _ => none

theorem gives_nilck {x : Operand} {a : AVal} (ho : o.op = .nilCheck x) (ha : Reps L w B m (ρ x) a)
    (hs : isRef a = true) : Gives L w B m ρ o a := by
  refine ⟨ρ x, ?_, ha⟩
  simp only [execOp, ho]
  generalize ρ x = u at ha ⊢
  cases ha <;> first | rfl | (simp [isRef] at hs; done)

theorem gives_tassert {x : Operand} {t t' s : TypeId} {v : AVal} {d : TypeDesc} (ho : o.op = .typeAssert x s t false) (hd : L.P.underlying t = some d)
    (hi : ∀ ms, d ≠ .interface ms) (ht : L.ty t' = t) (ha : Reps L w B m (ρ x) (.ifc t' v)) : Gives L w B m ρ o v := by
  generalize hx : ρ x = u at ha
  cases ha with
  | ifc _ u0 _ hr =>
    refine ⟨u0, ?_, hr⟩
    simp only [execOp, ho, hx]
    refine run_val ?_
    unfold Instr.typeAssert
    simp only [Sem.run_bind, underlying, Sem.run_bind, run_program, Result.andThen_ok, hd, Sem.run_pure]
    cases d <;> simp_all

theorem gives_max {c : Call} {x y : Operand} {k : IntKind} {i j : Int} (ho : o.op = .call c) (hc : c.callee = .builtin .max) (hargs : c.args = #[x, y])
    (ha : Reps L w B m (ρ x) (.int k i)) (hb : Reps L w B m (ρ y) (.int k j)) : Gives L w B m ρ o (.int k (if i < j then j else i)) := by
  refine ⟨_, ?_, .int _ _⟩
  simp [execOp, ho, resolve, hc, hargs, invoke, builtin, Builtin.max_, Builtin.max2, ha.int_inv, hb.int_inv]

theorem gives_min {c : Call} {x y : Operand} {k : IntKind} {i j : Int} (ho : o.op = .call c) (hc : c.callee = .builtin .min) (hargs : c.args = #[x, y])
    (ha : Reps L w B m (ρ x) (.int k i)) (hb : Reps L w B m (ρ y) (.int k j)) : Gives L w B m ρ o (.int k (if j < i then j else i)) := by
  refine ⟨_, ?_, .int _ _⟩
  simp [execOp, ho, resolve, hc, hargs, invoke, builtin, Builtin.min_, Builtin.min2, ha.int_inv, hb.int_inv]

theorem gives_idx {t : TypeId} {x i : Operand} {s : ByteArray} {k : IntKind} {n : Int} (ho : o.op = .index t x i) (ht : L.P.underlying t = some .string)
    (ha : Reps L w B m (ρ x) (.str s)) (hb : Reps L w B m (ρ i) (.int k n)) (h0 : 0 ≤ n) (h1 : n < s.size) :
    Gives L w B m ρ o (.int .u8 (s.data.getD n.toNat 0).toNat) := by
  refine ⟨_, ?_, .int _ _⟩
  simp only [execOp, ho, ha.str_inv, hb.int_inv]
  refine run_val ?_
  have hlt : n.toNat < s.size := by omega
  have hlt' : n.toNat < s.data.size := hlt
  have hg : s[n.toNat]? = some (s.data.getD n.toNat 0) := by
    rw [getElem?_pos s n.toNat hlt]
    simp only [Array.getD, dif_pos hlt']
    rfl
  simp [Instr.index, underlying, ht, asIntOf, h0, hg]

theorem gives_len_str {c : Call} {x : Operand} {t : TypeId} {s : ByteArray} (ho : o.op = .call c) (hc : c.callee = .builtin .len) (hargs : c.args = #[x])
    (htt : c.argTypes[0]? = some t) (ht : L.P.underlying t = some .string) (ha : Reps L w B m (ρ x) (.str s)) : Gives L w B m ρ o (.int .i64 s.size) := by
  refine ⟨_, ?_, .int _ _⟩
  simp [execOp, ho, resolve, hc, hargs, invoke, builtin, Builtin.len_, htt, underlying, ht, ha.str_inv, goInt]

theorem gives_len {c : Call} {x : Operand} {t e : TypeId} {a : AVal} {n : Nat} (ho : o.op = .call c) (hc : c.callee = .builtin .len) (hargs : c.args = #[x])
    (htt : c.argTypes[0]? = some t) (ht : L.P.underlying t = some (.slice e)) (ha : Reps L w B m (ρ x) a)
    (hn : lenA a = some n) : Gives L w B m ρ o (.int .i64 n) := by
  refine ⟨.int .i64 n, ?_, .int _ _⟩
  simp only [execOp, ho, resolve, hc, hargs]
  have hm : Array.map ρ #[x] = #[ρ x] := by simp
  rw [hm]
  generalize ρ x = u at ha ⊢
  cases ha <;> simp [lenA] at hn <;> subst hn <;> simp [invoke, builtin, Builtin.len_, htt, underlying, ht, goInt]

end
end Go.Ash
