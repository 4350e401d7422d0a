/- Which operation of the model an operation of the abstract code stands for. -/
import Derived.Test.YtaojijahpdnjhaaAshTree
set_option linter.all false
namespace Go.Ash

def szOf (P : Program) (t : TypeId) : Option Nat := (P.info? t).map (·.size)
def isAggD : TypeDesc → Bool
  | .struct _ | .array _ _ => true
  | _ => false
def aggOf (P : Program) (t : TypeId) : Option Bool := (P.underlying t).map isAggD
def zeroOf (P : Program) (t : TypeId) : Option Value := (P.info? t).bind (·.zero)

mutual
def constRep : AVal → Value → Bool
  | .bool b, .bool b' => b == b'
  | .int k n, .int k' n' => decide (k = k') && decide (n = n')
  | .str s, .string s' => decide (s = s')
  | .slc true [], .slice none 0 0 => true
  | .nilp, .pointer none => true
  | .nilfn, .nilFunc => true
  | .nilif, .nilIface => true
  | .agg cs, .agg vs => constRepL cs vs.toList
  | _, _ => false
def constRepL : List AVal → List Value → Bool
  | [], [] => true
  | c :: cs, v :: vs => constRep c v && constRepL cs vs
  | _, _ => false
end

section
variable {L : Link} {w : World} {B : Nat → Prop} {m : PMap}
mutual
theorem constRep_reps : ∀ (c : AVal) (v : Value), constRep c v = true → Reps L w B m v c
  | .bool b, v, h => by cases v <;> simp [constRep] at h; subst h; exact .bool _
  | .int k n, v, h => by cases v <;> simp [constRep] at h; obtain ⟨rfl, rfl⟩ := h; exact .int _ _
  | .str s, v, h => by cases v <;> simp [constRep] at h; subst h; exact .str _
  | .slc b xs, v, h => by
    unfold constRep at h
    split at h <;> simp_all
    exact .nils
  | .nilp, v, h => by
    unfold constRep at h
    split at h <;> simp_all
    exact .nilp
  | .nilfn, v, h => by
    unfold constRep at h
    split at h <;> simp_all
    exact .nilfn
  | .nilif, v, h => by
    unfold constRep at h
    split at h <;> simp_all
    exact .nilif
  | .agg cs, v, h => by
    cases v with
    | agg vs =>
      simp only [constRep] at h
      obtain ⟨hl, hr⟩ := constRepL_reps cs vs.toList h
      refine .agg vs cs (by simpa using hl) fun i c hc => ?_
      have := hr i c hc
      simpa [Array.getD_eq_getD_getElem?] using this
    | _ => simp [constRep] at h
  | .und, v, h => by simp [constRep] at h
  | .ptr _, v, h => by simp [constRep] at h
  | .mslc .., v, h => by simp [constRep] at h
  | .mptr .., v, h => by simp [constRep] at h
  | .fn .., v, h => by simp [constRep] at h
  | .ifc .., v, h => by simp [constRep] at h
  | .tup .., v, h => by simp [constRep] at h
theorem constRepL_reps : ∀ (cs : List AVal) (vs : List Value), constRepL cs vs = true →
    vs.length = cs.length ∧ ∀ (i : Nat) (c : AVal), cs[i]? = some c → Reps L w B m (vs[i]?.getD undef) c
  | [], vs, h => by cases vs <;> simp [constRepL] at h; exact ⟨rfl, fun i c hc => by simp at hc⟩
  | c :: cs, vs, h => by
    cases vs with
    | nil => simp [constRepL] at h
    | cons v vs =>
      simp only [constRepL, Bool.and_eq_true] at h
      obtain ⟨hl, hr⟩ := constRepL_reps cs vs h.2
      refine ⟨by simp [hl], fun i c' hc => ?_⟩
      cases i with
      | zero => simp at hc; subst hc; simpa using constRep_reps c v h.1
      | succ i => simp at hc; simpa using hr i c' hc
end
end

def nilKind (P : Program) (t : TypeId) : Option Nat :=
  match P.underlying t with
  | some (.slice _) => some 0
  | some (.pointer _) => some 1
  | some (.func ..) => some 2
  | some (.interface _) => some 3
  | _ => none
def nilOpd : Operand → Option Nat
  | .const (.slice none 0 0) => some 0
  | .const (.pointer none) => some 1
  | .const .nilFunc => some 2
  | .const .nilIface => some 3
  | _ => none

def isBoolT (P : Program) (t : TypeId) : Bool :=
  match P.underlying t with
  | some .bool => true
  | _ => false
def isStrT (P : Program) (t : TypeId) : Bool :=
  match P.underlying t with
  | some .string => true
  | _ => false
def sliceOf (P : Program) (t : TypeId) : Option TypeId :=
  match P.underlying t with
  | some (.slice e) => some e
  | _ => none
theorem isBoolT_spec {P : Program} {t : TypeId} (h : isBoolT P t = true) : P.underlying t = some .bool := by
  unfold isBoolT at h; split at h <;> simp_all
theorem isStrT_spec {P : Program} {t : TypeId} (h : isStrT P t = true) : P.underlying t = some .string := by
  unfold isStrT at h; split at h <;> simp_all
theorem sliceOf_spec {P : Program} {t e : TypeId} (h : sliceOf P t = some e) : P.underlying t = some (.slice e) := by
  unfold sliceOf at h; split at h <;> simp_all

/-- The operands of a builtin's call. -/
def builtinOps (P : Program) (b : Builtin) (c : Call) (K : OpK) : Option (List Operand) :=
  match b, K with
  | .len, .len str => match c.argTypes[0]? with
    | some t => if (if str then isStrT P t else (sliceOf P t).isSome) ∧ c.args.size = 1 then some c.args.toList else none
    | none => none
  | .append, .app bytes esz => match c.argTypes[0]? with
    | some t => if (c.argTypes[1]?).any (fun t2 => (sliceOf P t2).isSome) = true ∧ c.argTypes.size = 2 ∧ c.args.size = 2 then
        match sliceOf P t with
        | some e => match P.info? e, zeroOf P e with
          | some i, some z => if i.size = esz ∧ 0 < esz ∧ z.cells.size = esz ∧ i.bytes = bytes then some c.args.toList else none
          | _, _ => none
        | none => none
      else none
    | none => none
  | .max, .max => if c.args.size = 2 then some c.args.toList else none
  | .min, .min => if c.args.size = 2 then some c.args.toList else none
  | _, _ => none

/-- The operands of a model's operation, where the abstract one stands for it. -/
def opsOf (P : Program) (fn ty : Nat → Nat) (okb : Nat → Bool) (op : Op) (K : OpK) : Option (List Operand) :=
  match op, K with
  | .move x, .mov => some [x]
  | .assign x, .mov => some [x]
  | .pick c a b, .pick => some [c, a, b]
  | .box _ x, .box => some [x]
  | .alloc t, .alloc zero => match zeroOf P t with
    | some z => if constRep zero z then some [] else none
    | none => none
  | .build t parts, .build zero ps => match zeroOf P t, P.underlying t with
    | some z, some (.struct fields) =>
      if constRepL zero z.cells.toList && fields.toList.all (fun f => (szOf P f.type).isSome)
        && decide (parts.toList.map (fun q => (fields[q.1]?).map fun f => (f.offset, (szOf P f.type).getD 0)) = ps.map some)
      then some (parts.toList.map (·.2)) else none
    | _, _ => none
  | .buildSlice t len parts, .bslice esz zero len' idx => match P.underlying t with
    | some (.slice e) => match P.info? e, zeroOf P e with
      | some i, some z =>
        if constRep zero z && decide (i.size = esz) && decide (z.cells.size = esz) && decide (0 < esz) && decide (len = len') && decide (len * esz ≤ 2 ^ 24) && decide (parts.toList.map (·.1) = idx)
          && idx.all (fun k => decide (k < len)) then some (parts.toList.map (·.2)) else none
      | _, _ => none
    | _ => none
  | .load t a, .load agg sz => if aggOf P t = some agg ∧ szOf P t = some sz ∧ (agg = false → sz = 1) then some [a] else none
  | .store t a v, .store sz => if szOf P t = some sz ∧ 0 < sz then some [a, v] else none
  | .nilCheck x, .nilck => some [x]
  | .binOp op _ x y _, .bin op' => if op = op' then some [x, y] else none
  | .binOp .eql t x y _, .beq false => if isBoolT P t = true then some [x, y] else none
  | .binOp .neq t x y _, .beq true => if isBoolT P t = true then some [x, y] else none
  | .binOp op t x y _, .eqnil neg kd =>
    if op = (if neg then .neq else .eql) ∧ nilKind P t = some kd ∧ nilOpd y = some kd then some [x] else none
  | .unOp op _ x, .un op' => if op = op' then some [x] else none
  | .convert s d x, .conv k => match P.underlying s, P.underlying d with
    | some _, some (.int k') => if k = k' then some [x] else none
    | _, _ => none
  | .convert s d x, .bytesToStr => match P.underlying s with
    | some (.slice e) => match P.underlying e with
      | some (.int .u8) => if isStrT P d = true then some [x] else none
      | _ => none
    | _ => none
  | .makeInterface t x, .mkif t' => match P.underlying t with
    | some (.interface _) => none
    | some _ => if ty t' = t then some [x] else none
    | none => none
  | .makeFunc (.func f) first cap, .mkfn g n => if fn g = f ∧ okb g = true ∧ first.size = n then some (first.toList ++ cap.toList) else none
  | .makeSlice t l c, .mkslice esz zero bytes => match P.underlying t with
    | some (.slice e) => match P.info? e, zeroOf P e with
      | some i, some z => if constRep zero z && decide (i.size = esz) && decide (z.cells.size = esz) && decide (0 < esz) && decide (i.bytes = bytes) then some [l, c] else none
      | _, _ => none
    | _ => none
  | .slice t x lo hi mx, .slice esz bl bh bm =>
    if lo.isSome = bl ∧ hi.isSome = bh ∧ mx.isSome = bm then
      match sliceOf P t with
      | some e => if szOf P e = some esz then some (x :: (lo.toList ++ hi.toList ++ mx.toList)) else none
      | none => none
    else none
  | .slice t x lo hi none, .slices bl bh =>
    if lo.isSome = bl ∧ hi.isSome = bh ∧ isStrT P t = true then some (x :: (lo.toList ++ hi.toList)) else none
  | .fieldAddr t x f, .faddr off => match P.underlying t with
    | some (.struct fields) => match fields[f]? with
      | some fd => if fd.offset = off ∧ (szOf P fd.type).any (· ≠ 0) then some [x] else none
      | none => none
    | _ => none
  | .field t x f, .fld agg off sz => match P.underlying t with
    | some (.struct fields) => match fields[f]? with
      | some fd => if fd.offset = off ∧ szOf P fd.type = some sz ∧ aggOf P fd.type = some agg ∧ (agg = false → sz = 1) then some [x] else none
      | none => none
    | _ => none
  | .indexAddr t x i, .iaddr esz => match P.underlying t with
    | some (.slice e) => if szOf P e = some esz then some [x, i] else none
    | _ => none
  | .index t x i, .idx => if isStrT P t = true then some [x, i] else none
  | .extract x i, .extract j => if i = j then some [x] else none
  | .typeAssert x _ t false, .tassert t' _ => match P.underlying t with
    | some (.interface _) => none
    | some _ => if ty t' = t then some [x] else none
    | none => none
  | .call c, .call _ g => match c.callee with
    | .value (.func f) => if fn g = f ∧ okb g = true then some c.args.toList else none
    | _ => none
  | .call c, .callv _ => match c.callee with
    | .value x => some (x :: c.args.toList)
    | _ => none
  | .call c, .len str => match c.callee with
    | .builtin b => builtinOps P b c (.len str)
    | _ => none
  | .call c, .app bytes esz => match c.callee with
    | .builtin b => builtinOps P b c (.app bytes esz)
    | _ => none
  | .call c, .max => match c.callee with
    | .builtin b => builtinOps P b c .max
    | _ => none
  | .call c, .min => match c.callee with
    | .builtin b => builtinOps P b c .min
    | _ => none
  | _, _ => none

end Go.Ash
