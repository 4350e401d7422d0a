/- The abstract interpreter: values as trees, blocks by number, the code with its types resolved. Definitions only. -/
import Derived.LoopN
import Derived.Tactics
import Derived.Orders
set_option linter.all false
namespace Go.Ash

/-- A value: slices that nobody writes any more are lists (slc); those that may still be written are parts of numbered blocks (mslc, mptr). -/
inductive AVal where
  | und
  | bool (b : Bool)
  | int (k : IntKind) (n : Int)
  | str (s : ByteArray)
  | slc (isNil : Bool) (xs : List AVal)
  | agg (cs : List AVal)
  | ptr (cs : List AVal)
  | nilp
  | mslc (id off len : Nat)
  | mptr (id i o : Nat)
  | fn (f : Nat) (first cap : List AVal)
  | nilfn
  | ifc (t : Nat) (v : AVal)
  | nilif
  | tup (vs : List AVal)
  deriving Inhabited

structure Blk where
  frozen : Bool
  esz : Nat
  elems : List AVal

abbrev Heap := List (Option Blk)

def AVal.cells : AVal → List AVal
  | .agg cs => cs
  | v => [v]

def AVal.isCell : AVal → Bool
  | .agg _ | .tup _ | .und => false
  | _ => true

mutual
def AVal.ids : AVal → List Nat
  | .mslc id _ _ => [id]
  | .mptr id _ _ => [id]
  | .agg cs => idsL cs
  | .fn _ a b => idsL a ++ idsL b
  | .ifc _ v => v.ids
  | .tup vs => idsL vs
  | _ => []
def idsL : List AVal → List Nat
  | [] => []
  | v :: vs => v.ids ++ idsL vs
end

mutual
def AVal.ren (ρ : Nat → Nat) : AVal → AVal
  | .mslc id off len => .mslc (ρ id) off len
  | .mptr id i o => .mptr (ρ id) i o
  | .agg cs => .agg (renL ρ cs)
  | .fn f a b => .fn f (renL ρ a) (renL ρ b)
  | .ifc t v => .ifc t (v.ren ρ)
  | .tup vs => .tup (renL ρ vs)
  | v => v
def renL (ρ : Nat → Nat) : List AVal → List AVal
  | [] => []
  | v :: vs => v.ren ρ :: renL ρ vs
end

def Blk.ren (ρ : Nat → Nat) (b : Blk) : Blk := ⟨b.frozen, b.esz, renL ρ b.elems⟩

def Heap.at : Heap → Nat → Option Blk
  | [], _ => none
  | b :: _, 0 => b
  | _ :: H, n + 1 => Heap.at H n

/-- The value at a place; nothing beyond the end. -/
def gd : List AVal → Nat → AVal
  | [], _ => .und
  | v :: _, 0 => v
  | _ :: vs, n + 1 => gd vs n

def sv : List AVal → Nat → AVal → List AVal
  | [], _, _ => []
  | _ :: vs, 0, x => x :: vs
  | v :: vs, n + 1, x => v :: sv vs n x

/-- The numbers that are reached from a list of numbers, in order, each once. -/
def reach (H : Heap) : Nat → List Nat → List Nat → Option (List Nat)
  | 0, _, _ => none
  | _ + 1, [], seen => some seen
  | n + 1, id :: rest, seen =>
    if seen.contains id then reach H n rest seen
    else match H.at id with
      | some b => reach H n (rest ++ idsL b.elems) (seen ++ [id])
      | none => reach H n rest (seen ++ [id])

def place (l : List Nat) (id : Nat) : Nat := l.idxOf id

def pack (H : Heap) (l : List Nat) : Heap := l.map fun id => (H.at id).map (Blk.ren (place l))

mutual
/-- A value as a tree: what is written no more. The numbers of the blocks that must not be written any more stand beside it. -/
def AVal.tree (H : Heap) : Nat → AVal → Option (AVal × List Nat)
  | 0, _ => none
  | n + 1, v =>
    match v with
    | .mslc id off len =>
      match H.at id with
      | some b => if off + len ≤ b.elems.length then (treeL H n ((b.elems.drop off).take len)).map fun (l, is) => (.slc false l, id :: is) else none
      | none => none
    | .mptr id i o =>
      match H.at id with
      | some b =>
        match b.elems[i]? with
        | some e => (treeL H n (e.cells.drop o)).map fun (l, is) => (.ptr l, id :: is)
        | none => none
      | none => none
    | .agg cs => (treeL H n cs).map fun (l, is) => (.agg l, is)
    | .fn f a b => (treeL H n a).bind fun (a, is) => (treeL H n b).map fun (b, js) => (.fn f a b, is ++ js)
    | .ifc t v => (v.tree H n).map fun (v, is) => (.ifc t v, is)
    | .tup vs => (treeL H n vs).map fun (l, is) => (.tup l, is)
    | v => some (v, [])
def treeL (H : Heap) : Nat → List AVal → Option (List AVal × List Nat)
  | 0, _ => none
  | n + 1, l => if idsL l = [] then some (l, []) else match l with
    | [] => some ([], [])
    | v :: vs => (v.tree H n).bind fun (v, is) => (treeL H n vs).map fun (vs, js) => (v :: vs, is ++ js)
end

/-- Blocks that are handed on as trees are written no more. -/
def freeze (H : Heap) (l : List Nat) : Heap := l.foldl (fun H id => H.set id ((H.at id).map fun b => { b with frozen := true })) H

def fuelIds : Nat := 60
def fuelTree : Nat := 40

/-- Values handed on as trees, and the heap behind. -/
def handOn (vs : List AVal) (H : Heap) : Option (List AVal × Heap) :=
  if idsL vs = [] then some (vs, H)
  else (treeL H fuelTree vs).map fun (ts, l) => (ts, freeze H l)

inductive Opd where
  | v (i : Nat)
  | p (j : Nat)
  | c (a : AVal)
  deriving Inhabited

inductive OpK where
  | mov
  | pick
  | box
  | alloc (zero : AVal)
  | build (zero : List AVal) (parts : List (Nat × Nat))
  | bslice (esz : Nat) (zero : AVal) (len : Nat) (idx : List Nat)
  | load (agg : Bool) (sz : Nat)
  | store (sz : Nat)
  | nilck
  | bin (op : BinOp)
  | beq (neg : Bool)
  | eqnil (neg : Bool) (kd : Nat)
  | un (op : UnOp)
  | conv (k : IntKind)
  | bytesToStr
  | mkif (t : Nat)
  | mkfn (f nfirst : Nat)
  | mkslice (esz : Nat) (zero : AVal) (bytes : Nat)
  | slice (esz : Nat) (lo hi mx : Bool)
  | slices (lo hi : Bool)
  | faddr (off : Nat)
  | fld (agg : Bool) (off sz : Nat)
  | iaddr (esz : Nat)
  | idx
  | extract (i : Nat)
  | len (str : Bool)
  | app (bytes esz : Nat)
  | max
  | min
  | tassert (t : Nat) (agg : Bool)
  | call (raw : Bool) (f : Nat)
  | callv (raw : Bool)
  deriving Inhabited

structure ROp where
  k : OpK
  args : List Opd
  dst : Option Nat := none
  guard : Option (Nat × Bool) := none
  apart : List Opd := []
  deriving Inhabited

inductive RCode where
  | skip
  | region (ops : List ROp) (draw : Bool)
  | seq (a b : RCode)
  | cond (c : Opd) (t e : RCode)
  | block (id : Nat) (b : RCode)
  | loop (live : List Bool) (b : RCode)
  | exit (id : Nat)
  | ret
  deriving Inhabited

inductive RRes where
  | v (i : Nat)
  | cell (i : Nat) (agg : Bool) (sz : Nat)

structure RFunc where
  npar : Nat
  slots : List Nat
  body : RCode
  res : List RRes

structure St where
  vars : List AVal
  env : List AVal
  heap : Heap
  pin : Nat

inductive Ex where
  | normal
  | exit (id : Nat)
  | ret
  deriving DecidableEq

def St.opd (st : St) (env : List AVal) : Opd → AVal
  | .v i => gd st.vars i
  | .p j => gd env j
  | .c a => a

def St.put (st : St) (d : Option Nat) (v : AVal) : St :=
  match d with
  | some i => { st with vars := sv st.vars i v }
  | none => st

/-! ### The operations -/

def maxBytes : Nat := 2 ^ 46

def setAll : List AVal → Nat → List AVal → List AVal
  | cs, _, [] => cs
  | cs, o, v :: vs => setAll (cs.set o v) (o + 1) vs

def fillA : List AVal → List (Nat × Nat) → List AVal → Option (List AVal)
  | cs, [], [] => some cs
  | cs, (o, s) :: ps, v :: vs => if v.cells.length = s ∧ v.cells.all AVal.isCell ∧ o + s ≤ cs.length then fillA (setAll cs o v.cells) ps vs else none
  | _, _, _ => none

def partA (agg : Bool) (sz : Nat) (cs : List AVal) : Option AVal :=
  if agg then (if sz ≤ cs.length then some (.agg (cs.take sz)) else none) else cs.head?

def putAgg (cs : List AVal) (o : Nat) (v : AVal) : Option AVal :=
  if o = 0 ∧ v.cells.length = cs.length then some (.agg v.cells)
  else if o + v.cells.length ≤ cs.length then some (.agg (setAll cs o v.cells)) else none
def putOne (o : Nat) (v : AVal) : Option AVal :=
  if v.isCell ∧ o = 0 then some v else none
def putElem (e : AVal) (o : Nat) (v : AVal) : Option AVal :=
  match e with
  | .agg cs => putAgg cs o v
  | _ => putOne o v

def bytesLess : List UInt8 → List UInt8 → Bool
  | _, [] => false
  | [], _ :: _ => true
  | a :: x, b :: y => a < b || (a == b && bytesLess x y)

def intBitsA (op : BinOp) (k : IntKind) (x y : Int) : Option AVal :=
  match op with
  | .and => some (.int k (k.wrap ((BitVec.ofInt k.bits x &&& BitVec.ofInt k.bits y).toNat)))
  | .or => some (.int k (k.wrap ((BitVec.ofInt k.bits x ||| BitVec.ofInt k.bits y).toNat)))
  | .xor => some (.int k (k.wrap ((BitVec.ofInt k.bits x ^^^ BitVec.ofInt k.bits y).toNat)))
  | .andNot => some (.int k (k.wrap ((BitVec.ofInt k.bits x &&& ~~~ BitVec.ofInt k.bits y).toNat)))
  | _ => none

def intA (op : BinOp) (k : IntKind) (x y : Int) : Option AVal :=
  match op with
  | .add => some (.int k (k.wrap (x + y)))
  | .sub => some (.int k (k.wrap (x - y)))
  | .mul => some (.int k (k.wrap (x * y)))
  | .quo => if y = 0 then none else some (.int k (k.wrap (x.tdiv y)))
  | .rem => if y = 0 then none else some (.int k (x.tmod y))
  | .eql => some (.bool (decide (x = y)))
  | .neq => some (.bool (!decide (x = y)))
  | .lss => some (.bool (decide (x < y)))
  | .leq => some (.bool (decide (x ≤ y)))
  | .gtr => some (.bool (decide (y < x)))
  | .geq => some (.bool (decide (y ≤ x)))
  | .and | .or | .xor | .andNot => intBitsA op k x y
  | _ => none

def strA (op : BinOp) (x y : ByteArray) : Option AVal :=
  match op with
  | .add => if x.size + y.size ≤ maxBytes then some (.str (x ++ y)) else none
  | .eql => some (.bool (x.toList == y.toList))
  | .neq => some (.bool (!(x.toList == y.toList)))
  | _ => none

def shiftA (op : BinOp) (k : IntKind) (x y : Int) : Option AVal :=
  if y < 0 then none
  else match op with
    | .shl => some (.int k (k.wrap (x * 2 ^ (Nat.min y.toNat k.bits))))
    | .shr => some (.int k (x.fdiv (2 ^ (Nat.min y.toNat k.bits))))
    | _ => none

def isShift : BinOp → Bool
  | .shl | .shr => true
  | _ => false

/-- What is held against nil: a slice (0), a pointer (1), a function (2), an interface (3). -/
def nilA : Nat → AVal → Option Bool
  | 0, .slc n _ => some n
  | 0, .mslc .. => some false
  | 1, .nilp => some true
  | 1, .ptr _ => some false
  | 1, .mptr .. => some false
  | 2, .nilfn => some true
  | 2, .fn .. => some false
  | 3, .nilif => some true
  | 3, .ifc .. => some false
  | _, _ => none

def isNilConst : AVal → Bool
  | .slc true [] | .nilp | .nilfn | .nilif => true
  | _ => false

def binA (op : BinOp) (a b : AVal) : Option AVal :=
  match a, b with
  | .int k x, .int k' y => if isShift op then shiftA op k x y else if k = k' then intA op k x y else none
  | .str x, .str y => strA op x y
  | _, _ => none

def unA (op : UnOp) (a : AVal) : Option AVal :=
  match op, a with
  | .neg, .int k n => some (.int k (k.wrap (0 - n)))
  | .not, .bool b => some (.bool !b)
  | _, _ => none

def bounds (n : Nat) (lo hi mx : Bool) (vs : List AVal) : Option (Nat × Nat) :=
  let num (v : AVal) (top : Nat) : Option Nat :=
    match v with
    | .int _ i => if 0 ≤ i ∧ i ≤ top then some i.toNat else none
    | _ => none
  match lo, hi, mx, vs with
  | false, false, false, [] => some (0, n)
  | true, false, false, [l] => (num l n).map fun l => (l, n)
  | false, true, false, [h] => (num h n).map fun h => (0, h)
  | true, true, false, [l, h] => (num h n).bind fun h => (num l h).map fun l => (l, h)
  | false, true, true, [h, m] => (num m n).bind fun m => (num h m).map fun h => (0, h)
  | true, true, true, [l, h, m] => (num m n).bind fun m => (num h m).bind fun h => (num l h).map fun l => (l, h)
  | _, _, _, _ => none

def newBlk (H : Heap) (esz : Nat) (elems : List AVal) : Heap := H ++ [some ⟨false, esz, elems⟩]

def placeAll : List AVal → List Nat → List AVal → Option (List AVal)
  | xs, [], [] => some xs
  | xs, i :: is, v :: vs => placeAll (xs.set i v) is vs
  | _, _, _ => none

/-- The elements that a slice or a string shows. -/
def elemsOf (H : Heap) (esz : Nat) : AVal → Option (List AVal)
  | .slc _ xs => some xs
  | .mslc id off len =>
    match H.at id with
    | some b => if b.esz = esz ∧ off + len ≤ b.elems.length then some ((b.elems.drop off).take len) else none
    | none => none
  | _ => none

def allSz (esz : Nat) (xs : List AVal) : Bool := xs.all fun x => x.cells.length == esz

def goodElems (esz : Nat) (xs : List AVal) : Bool := xs.all fun x => x.cells.length == esz && x.cells.all AVal.isCell

/-- Bytes as a text. -/
def bytesOf : List AVal → Option (List Int)
  | [] => some []
  | .int .u8 n :: l => (bytesOf l).map fun ns => n :: ns
  | _ => none
def textOf (ns : List Int) : ByteArray := ⟨(ns.map fun n => UInt8.ofNat n.toNat).toArray⟩

/-- What an operation does to the blocks: nothing; a new block; a block grown into a new one; a block written. -/
inductive Eff where
  | none
  | new (esz : Nat) (xs : List AVal)
  | app (id esz : Nat) (xs : List AVal)
  | upd (id : Nat) (b : Blk)

def Eff.apply (H : Heap) : Eff → Heap
  | .none => H
  | .new esz xs => newBlk H esz xs
  | .app id esz xs => newBlk (H.set id Option.none) esz xs
  | .upd id b => H.set id (some b)

/-- 'fresh' is the number that a new block gets. -/
def opSem (K : OpK) (args : List AVal) (H : Heap) (fresh : Nat) : Option (AVal × Eff) :=
  match K, args with
  | .mov, [a] => some (a, .none)
  | .pick, [.bool c, a, b] => some (if c then a else b, .none)
  | .box, [v] => if v.cells.all AVal.isCell then some (.mptr fresh 0 0, .new v.cells.length [v]) else none
  | .alloc zero, [] => if zero.cells.all AVal.isCell then some (.mptr fresh 0 0, .new zero.cells.length [zero]) else none
  | .build zero parts, vs => (fillA zero parts vs).map fun cs => (.agg cs, .none)
  | .bslice esz zero len idx, vs =>
    if goodElems esz vs then (placeAll (List.replicate len zero) idx vs).map fun xs => (.mslc fresh 0 len, .new esz xs) else none
  | .load agg sz, [.ptr cs] => (partA agg sz cs).map fun v => (v, .none)
  | .load agg sz, [.mptr id i o] =>
    match H.at id with
    | some b =>
      match b.elems[i]? with
      | some e => (partA agg sz (e.cells.drop o)).map fun v => (v, .none)
      | none => none
    | none => none
  | .store sz, [.mptr id i o, v] =>
    match H.at id with
    | some b =>
      match b.elems[i]? with
      | some e =>
        if b.frozen then none
        else if v.cells.length = sz ∧ v.cells.all AVal.isCell then
          (putElem e o v).map fun e' => (.tup [], .upd id { b with elems := b.elems.set i e' })
        else none
      | none => none
    | none => none
  | .nilck, [a] =>
    match a with
    | .ptr _ | .mptr .. | .fn .. | .ifc .. => some (a, .none)
    | _ => none
  | .bin op, [a, b] => (binA op a b).map fun v => (v, .none)
  | .beq neg, [.bool x, .bool y] => some (.bool (if neg then !(x == y) else x == y), .none)
  | .eqnil neg kd, [a] => (nilA kd a).map fun b => (.bool (if neg then !b else b), .none)
  | .un op, [a] => (unA op a).map fun v => (v, .none)
  | .conv k, [.int _ n] => some (.int k (k.wrap n), .none)
  | .bytesToStr, [x] =>
    match elemsOf H 1 x with
    | some l => (bytesOf l).map fun ns => (.str (textOf ns), .none)
    | none => none
  | .mkif t, [v] => some (.ifc t v, .none)
  | .mkfn f n, vs => some (.fn f (vs.take n) (vs.drop n), .none)
  | .mkslice esz zero bytes, [.int _ l, .int _ c] =>
    if 0 ≤ l ∧ l ≤ c ∧ c * bytes ≤ maxBytes ∧ c ≤ maxBytes then
      some (.mslc fresh 0 l.toNat, .new esz (List.replicate l.toNat zero)) else none
  | .slice esz lo hi mx, .slc n xs :: vs =>
    if lo = false ∨ allSz esz xs = true then (bounds xs.length lo hi mx vs).map fun (l, h) => (.slc n ((xs.take h).drop l), .none) else none
  | .slice esz lo hi mx, .mslc id off len :: vs =>
    match H.at id with
    | some b =>
      if b.esz = esz then (bounds len lo hi mx vs).map fun (l, h) =>
        (if l = 0 then .mslc id off h else if l = h then .slc false [] else .mslc id (off + l) (h - l), .none)
      else none
    | none => none
  | .slices lo hi, .str s :: vs => (bounds s.size lo hi false vs).map fun (l, h) => (.str (s.extract l h), .none)
  | .faddr off, [.ptr cs] => some (.ptr (cs.drop off), .none)
  | .faddr off, [.mptr id i o] => some (.mptr id i (o + off), .none)
  | .fld agg off sz, [.agg cs] => (partA agg sz (cs.drop off)).map fun v => (v, .none)
  | .iaddr esz, [.slc _ xs, .int _ i] =>
    if 0 ≤ i ∧ i < xs.length then
      if (gd xs i.toNat).cells.length = esz then some (.ptr (gd xs i.toNat).cells, .none) else none
    else none
  | .iaddr esz, [.mslc id off len, .int _ i] =>
    if 0 ≤ i ∧ i < len then
      match H.at id with
      | some b => if b.esz = esz then some (.mptr id (off + i.toNat) 0, .none) else none
      | none => none
    else none
  | .idx, [.str s, .int _ i] => if 0 ≤ i ∧ i < s.size then some (.int .u8 (s.data.getD i.toNat 0).toNat, .none) else none
  | .extract i, [.tup vs] => (vs[i]?).map fun v => (v, .none)
  | .len str, [a] =>
    match a with
    | .slc _ xs => if str then none else some (.int .i64 xs.length, .none)
    | .mslc _ _ len => if str then none else some (.int .i64 len, .none)
    | .str s => if str then some (.int .i64 s.size, .none) else none
    | _ => none
  | .app bytes esz, [s, x] =>
    match elemsOf H esz x with
    | none => none
    | some new =>
      if !goodElems esz new then none else
      match s with
      | .slc true [] =>
        if new = [] then some (s, .none)
        else if new.length * bytes ≤ maxBytes ∧ new.length ≤ maxBytes then some (.mslc fresh 0 new.length, .new esz new) else none
      | .mslc id off len =>
        match H.at id with
        | some b =>
          if b.frozen = false ∧ b.esz = esz ∧ off + len ≤ b.elems.length ∧ (len + new.length) * bytes ≤ maxBytes ∧ len + new.length ≤ maxBytes then
            some (.mslc fresh 0 (len + new.length), .app id esz ((b.elems.drop off).take len ++ new)) else none
        | none => none
      | _ => none
  | .max, [.int k x, .int k' y] => if k = k' then some (.int k (if x < y then y else x), .none) else none
  | .min, [.int k x, .int k' y] => if k = k' then some (.int k (if y < x then y else x), .none) else none
  | .tassert t _, [.ifc t' v] => if t = t' then some (v, .none) else none
  | _, _ => none

end Go.Ash
