/- The abstract interpreter of this work and its uses, part 9: AshUse, AshNum, AshTools, AshLoop, AshNum16, AshLimbs1, AshLimbs2, AshLimbs3, AshLimbs4, AshLimbs5. -/
import Derived.Test.YtaojijahpdnjhaaAshP08
set_option linter.all false
/- The abstract interpreter: the equations by which its runs are reckoned. -/
namespace Go.Ash
variable {F : Nat → Option RFunc} {call : CallF} {st : St} {env : List AVal} {os : List ROp}

attribute [simp] exec_skip exec_exit exec_ret exec_seq exec_cond exec_block
attribute [simp] mask AVal.ids idsL AVal.ren renL partA isShift binA unA nilA

@[simp] theorem cells_agg {cs} : (AVal.agg cs).cells = cs := rfl
@[simp] theorem isCell_agg {cs} : (AVal.agg cs).isCell = false := rfl
@[simp] theorem cells_bool {b} : (AVal.bool b).cells = [.bool b] := rfl
@[simp] theorem isCell_bool {b} : (AVal.bool b).isCell = true := rfl
@[simp] theorem cells_int {k n} : (AVal.int k n).cells = [.int k n] := rfl
@[simp] theorem isCell_int {k n} : (AVal.int k n).isCell = true := rfl
@[simp] theorem cells_str {s} : (AVal.str s).cells = [.str s] := rfl
@[simp] theorem isCell_str {s} : (AVal.str s).isCell = true := rfl
@[simp] theorem cells_slc {n xs} : (AVal.slc n xs).cells = [.slc n xs] := rfl
@[simp] theorem isCell_slc {n xs} : (AVal.slc n xs).isCell = true := rfl
@[simp] theorem cells_ptr {cs} : (AVal.ptr cs).cells = [.ptr cs] := rfl
@[simp] theorem isCell_ptr {cs} : (AVal.ptr cs).isCell = true := rfl
@[simp] theorem cells_nilp  : (AVal.nilp ).cells = [.nilp ] := rfl
@[simp] theorem isCell_nilp  : (AVal.nilp ).isCell = true := rfl
@[simp] theorem cells_mslc {i o l} : (AVal.mslc i o l).cells = [.mslc i o l] := rfl
@[simp] theorem isCell_mslc {i o l} : (AVal.mslc i o l).isCell = true := rfl
@[simp] theorem cells_mptr {i j o} : (AVal.mptr i j o).cells = [.mptr i j o] := rfl
@[simp] theorem isCell_mptr {i j o} : (AVal.mptr i j o).isCell = true := rfl
@[simp] theorem cells_fn {f a b} : (AVal.fn f a b).cells = [.fn f a b] := rfl
@[simp] theorem isCell_fn {f a b} : (AVal.fn f a b).isCell = true := rfl
@[simp] theorem cells_nilfn  : (AVal.nilfn ).cells = [.nilfn ] := rfl
@[simp] theorem isCell_nilfn  : (AVal.nilfn ).isCell = true := rfl
@[simp] theorem cells_ifc {t v} : (AVal.ifc t v).cells = [.ifc t v] := rfl
@[simp] theorem isCell_ifc {t v} : (AVal.ifc t v).isCell = true := rfl
@[simp] theorem cells_nilif  : (AVal.nilif ).cells = [.nilif ] := rfl
@[simp] theorem isCell_nilif  : (AVal.nilif ).isCell = true := rfl
/-- Are all cells of a value single ones? -/
def AVal.flat (v : AVal) : Bool := v.cells.all AVal.isCell
@[simp] theorem flat_agg {cs} : (AVal.agg cs).flat = cs.all AVal.isCell := rfl
@[simp] theorem flat_bool {b} : (AVal.bool b).flat = true := rfl
@[simp] theorem flat_int {k n} : (AVal.int k n).flat = true := rfl
@[simp] theorem flat_str {s} : (AVal.str s).flat = true := rfl
@[simp] theorem flat_slc {n xs} : (AVal.slc n xs).flat = true := rfl
@[simp] theorem flat_ptr {cs} : (AVal.ptr cs).flat = true := rfl
@[simp] theorem flat_nilp  : (AVal.nilp ).flat = true := rfl
@[simp] theorem flat_mslc {i o l} : (AVal.mslc i o l).flat = true := rfl
@[simp] theorem flat_mptr {i j o} : (AVal.mptr i j o).flat = true := rfl
@[simp] theorem flat_fn {f a b} : (AVal.fn f a b).flat = true := rfl
@[simp] theorem flat_nilfn  : (AVal.nilfn ).flat = true := rfl
@[simp] theorem flat_ifc {t v} : (AVal.ifc t v).flat = true := rfl
@[simp] theorem flat_nilif  : (AVal.nilif ).flat = true := rfl

theorem opd_v {i} : st.opd env (.v i) = gd st.vars i := rfl
theorem opd_p {j} : st.opd env (.p j) = gd env j := rfl
theorem opd_c {a} : st.opd env (.c a) = a := rfl
attribute [simp] opd_v opd_p opd_c
@[simp] theorem put_none {v} : st.put none v = st := rfl
@[simp] theorem put_some {i v} : st.put (some i) v = { st with vars := sv st.vars i v } := rfl

@[simp] theorem step_free {k args dst} : stepROp call ⟨k, args, dst, none, []⟩ env st =
    match stepOp call k (args.map (st.opd env)) st.heap with
    | some (v, H) => some (v, { st with heap := H }.put dst v)
    | none => none := rfl

theorem step_wanted {k args dst j want} (h : gd env j = .bool want) : stepROp call ⟨k, args, dst, some (j, want), []⟩ env st =
    stepROp call ⟨k, args, dst, none, []⟩ env st := by
  simp [stepROp, wantedA, h, apartA]

@[simp] theorem step_guard {k args dst j want} : stepROp call ⟨k, args, dst, some (j, want), []⟩ env st =
    match gd env j with
    | .bool b => if b = want then stepROp call ⟨k, args, dst, none, []⟩ env st else some (.tup [], st.put dst (.tup []))
    | .tup [] => some (.tup [], st.put dst (.tup []))
    | _ => none := by
  unfold stepROp wantedA
  simp only
  generalize gd env j = x
  cases x <;> simp [apartA]
  · rename_i b
    by_cases hb : b = want
    · simp [hb]
    · have : (b == want) = false := by simpa using hb
      simp [hb, this]
  · rename_i vs
    cases vs <;> simp

/-- The same as execOps, shut against the kernel's unfolding. -/
theorem opsL_ex : ∃ f : CallF → List ROp → List AVal → St → Option St, f = execOps := ⟨_, rfl⟩
noncomputable def opsL : CallF → List ROp → List AVal → St → Option St := opsL_ex.choose
theorem opsL_eq : opsL = execOps := opsL_ex.choose_spec
@[simp] theorem opsL_nil : opsL call [] env st = some { st with env } := by rw [opsL_eq]; rfl
theorem opsL_cons {o : ROp} : opsL call (o :: os) env st = match stepROp call o env st with
    | some (v, st') => opsL call os (v :: env) st'
    | none => none := by rw [opsL_eq]; rfl
@[simp] theorem opsL_free {k args dst} : opsL call (⟨k, args, dst, none, []⟩ :: os) env st = match stepOp call k (args.map (st.opd env)) st.heap with
    | some (v, H) => opsL call os (v :: env) ({ st with heap := H }.put dst v)
    | none => none := by
  rw [opsL_cons, step_free]
  cases stepOp call k (args.map (st.opd env)) st.heap with
  | none => rfl
  | some x => rfl
@[simp] theorem opsL_guard {k args dst j want} : opsL call (⟨k, args, dst, some (j, want), []⟩ :: os) env st = match gd env j with
    | .bool b => if b = want then opsL call (⟨k, args, dst, none, []⟩ :: os) env st else opsL call os (.tup [] :: env) (st.put dst (.tup []))
    | .tup [] => opsL call os (.tup [] :: env) (st.put dst (.tup []))
    | _ => none := by
  rw [opsL_cons, step_guard]
  generalize gd env j = x
  cases x with
  | bool b =>
    simp only
    by_cases hb : b = want
    · rw [if_pos hb, if_pos hb, opsL_cons]
    · rw [if_neg hb, if_neg hb]
  | tup vs => cases vs <;> rfl
  | _ => rfl
@[simp] theorem opsL_apart {k args dst a as} : opsL call (⟨k, args, dst, none, a :: as⟩ :: os) env st = match stepROp call ⟨k, args, dst, none, a :: as⟩ env st with
    | some (v, st') => opsL call os (v :: env) st'
    | none => none := opsL_cons
@[simp] theorem exec_region' {ops : List ROp} {d : Bool} : exec F (.region ops d) st = match opsL (run F) ops [] st with
    | some st' => some (.normal, st')
    | none => none := by
  rw [exec_region, opsL_eq]
  cases execOps (run F) ops [] st <;> rfl

section
variable {H : Heap}
@[simp] theorem so_call {raw f vs} : stepOp call (.call raw f) vs H = anyCall call raw f vs H := rfl
@[simp] theorem so_callv {raw f first cap vs} : stepOp call (.callv raw) (.fn f first cap :: vs) H = anyCall call raw f (first ++ vs ++ cap) H := rfl
@[simp] theorem so_mov {a} : stepOp call .mov [a] H = some (a, H) := rfl
@[simp] theorem so_pick {c a b} : stepOp call .pick [.bool c, a, b] H = some (if c then a else b, H) := rfl
@[simp] theorem so_box {v} : stepOp call .box [v] H = if v.flat then some (.mptr H.length 0 0, newBlk H v.cells.length [v]) else none := by
  show Option.map _ (if v.flat = true then _ else _) = _
  split <;> rfl
@[simp] theorem so_alloc {z} : stepOp call (.alloc z) [] H = if z.flat then some (.mptr H.length 0 0, newBlk H z.cells.length [z]) else none := by
  show Option.map _ (if z.flat = true then _ else _) = _
  split <;> rfl
@[simp] theorem so_build {zero parts vs} : stepOp call (.build zero parts) vs H = (fillA zero parts vs).map fun cs => (.agg cs, H) := by
  simp only [stepOp, opSem, Option.map_map]; rfl
@[simp] theorem so_bslice {esz zero len idx vs} : stepOp call (.bslice esz zero len idx) vs H =
    if goodElems esz vs then (placeAll (List.replicate len zero) idx vs).map fun xs => (.mslc H.length 0 len, newBlk H esz xs) else none := by
  simp only [stepOp, opSem]; split
  · simp only [Option.map_map]; rfl
  · rfl
@[simp] theorem so_nilck_mptr {id i o} : stepOp call .nilck [.mptr id i o] H = some (.mptr id i o, H) := rfl
@[simp] theorem so_nilck_ptr {cs} : stepOp call .nilck [.ptr cs] H = some (.ptr cs, H) := rfl
@[simp] theorem so_bin {op a b} : stepOp call (.bin op) [a, b] H = (binA op a b).map fun v => (v, H) := by
  simp only [stepOp, opSem, Option.map_map]; rfl
@[simp] theorem so_un {op a} : stepOp call (.un op) [a] H = (unA op a).map fun v => (v, H) := by
  simp only [stepOp, opSem, Option.map_map]; rfl
@[simp] theorem so_conv {k k' n} : stepOp call (.conv k) [.int k' n] H = some (.int k (k.wrap n), H) := rfl
@[simp] theorem so_mkif {t v} : stepOp call (.mkif t) [v] H = some (.ifc t v, H) := rfl
@[simp] theorem so_mkfn {f n vs} : stepOp call (.mkfn f n) vs H = some (.fn f (vs.take n) (vs.drop n), H) := by
  simp only [stepOp, opSem]; rfl
@[simp] theorem so_load_ptr {agg sz cs} : stepOp call (.load agg sz) [.ptr cs] H = (partA agg sz cs).map fun v => (v, H) := by
  simp only [stepOp, opSem, Option.map_map]; rfl
@[simp] theorem so_load_mptr {agg sz id i o} : stepOp call (.load agg sz) [.mptr id i o] H = match H.at id with
    | some b =>
      match b.elems[i]? with
      | some e => (partA agg sz (e.cells.drop o)).map fun v => (v, H)
      | none => none
    | none => none := by
  simp only [stepOp, opSem]
  cases H.at id with
  | none => rfl
  | some b =>
    simp only
    cases b.elems[i]? with
    | none => rfl
    | some e => simp only [Option.map_map]; rfl
@[simp] theorem so_store {sz id i o v} : stepOp call (.store sz) [.mptr id i o, v] H = match H.at id with
    | some b =>
      match b.elems[i]? with
      | some e =>
        if b.frozen then none
        else if v.cells.length = sz ∧ v.flat then
          (putElem e o v).map fun e' => (.tup [], H.set id (some { b with elems := b.elems.set i e' }))
        else none
      | none => none
    | none => none := by
  simp only [stepOp, opSem]
  cases H.at id with
  | none => rfl
  | some b =>
    simp only
    cases b.elems[i]? with
    | none => rfl
    | some e =>
      simp only
      split
      · rfl
      · show Option.map _ (if v.cells.length = sz ∧ v.flat = true then _ else _) = _
        split
        · simp only [Option.map_map]; rfl
        · rfl
@[simp] theorem so_iaddr {esz n xs k i} : stepOp call (.iaddr esz) [.slc n xs, .int k i] H =
    if 0 ≤ i ∧ i < xs.length then
      if (gd xs i.toNat).cells.length = esz then some (.ptr (gd xs i.toNat).cells, H) else none
    else none := by
  simp only [stepOp, opSem]; split
  · split <;> rfl
  · rfl
@[simp] theorem so_iaddr_m {esz id off len k i} : stepOp call (.iaddr esz) [.mslc id off len, .int k i] H =
    if 0 ≤ i ∧ i < len then
      match H.at id with
      | some b => if b.esz = esz then some (.mptr id (off + i.toNat) 0, H) else none
      | none => none
    else none := by
  simp only [stepOp, opSem]; split
  · cases H.at id with
    | none => rfl
    | some b => simp only; split <;> rfl
  · rfl
@[simp] theorem so_beq {neg x y} : stepOp call (.beq neg) [.bool x, .bool y] H = some (.bool (if neg then !(x == y) else x == y), H) := rfl
@[simp] theorem so_eqnil {neg kd a} : stepOp call (.eqnil neg kd) [a] H = (nilA kd a).map fun b => (.bool (if neg then !b else b), H) := by
  simp only [stepOp, opSem, Option.map_map]; rfl
@[simp] theorem so_len_slc {n xs} : stepOp call (.len false) [.slc n xs] H = some (.int .i64 xs.length, H) := rfl
@[simp] theorem so_len_mslc {id off len} : stepOp call (.len false) [.mslc id off len] H = some (.int .i64 len, H) := rfl
@[simp] theorem so_len_str {s} : stepOp call (.len true) [.str s] H = some (.int .i64 s.size, H) := rfl
@[simp] theorem so_slice {esz hi mx n xs vs} : stepOp call (.slice esz false hi mx) (.slc n xs :: vs) H =
    (bounds xs.length false hi mx vs).map fun (l, h) => (.slc n ((xs.take h).drop l), H) := by
  simp only [stepOp, opSem, Option.map_map, true_or, if_true]; rfl
@[simp] theorem so_slice_l {esz hi mx n xs vs} : stepOp call (.slice esz true hi mx) (.slc n xs :: vs) H =
    if allSz esz xs = true then (bounds xs.length true hi mx vs).map fun (l, h) => (.slc n ((xs.take h).drop l), H) else none := by
  simp only [stepOp, opSem, Bool.true_eq_false, false_or]; split
  · simp only [Option.map_map]; rfl
  · rfl
@[simp] theorem so_slice_m {esz lo hi mx id off len vs} : stepOp call (.slice esz lo hi mx) (.mslc id off len :: vs) H =
    match H.at id with
    | some b =>
      if b.esz = esz then (bounds len lo hi mx vs).map fun (l, h) =>
        (if l = 0 then .mslc id off h else if l = h then .slc false [] else .mslc id (off + l) (h - l), H)
      else none
    | none => none := by
  simp only [stepOp, opSem]
  cases H.at id with
  | none => rfl
  | some b =>
    simp only
    split
    · simp only [Option.map_map]; rfl
    · rfl
@[simp] theorem so_slice_s {lo hi s vs} : stepOp call (.slices lo hi) (.str s :: vs) H =
    (bounds s.size lo hi false vs).map fun (l, h) => (.str (s.extract l h), H) := by
  simp only [stepOp, opSem, Option.map_map]; rfl
@[simp] theorem so_faddr_ptr {off cs} : stepOp call (.faddr off) [.ptr cs] H = some (.ptr (cs.drop off), H) := rfl
@[simp] theorem so_faddr_mptr {off id i o} : stepOp call (.faddr off) [.mptr id i o] H = some (.mptr id i (o + off), H) := rfl
@[simp] theorem so_fld {agg off sz cs} : stepOp call (.fld agg off sz) [.agg cs] H = (partA agg sz (cs.drop off)).map fun v => (v, H) := by
  simp only [stepOp, opSem, Option.map_map]; rfl
@[simp] theorem so_extract {i vs} : stepOp call (.extract i) [.tup vs] H = (vs[i]?).map fun v => (v, H) := by
  simp only [stepOp, opSem, Option.map_map]; rfl
@[simp] theorem so_idx {s k i} : stepOp call .idx [.str s, .int k i] H = if 0 ≤ i ∧ i < s.size then some (.int .u8 (s.data.getD i.toNat 0).toNat, H) else none := by
  simp only [stepOp, opSem]; split <;> rfl
@[simp] theorem so_mkslice {esz zero bytes k k' l c} : stepOp call (.mkslice esz zero bytes) [.int k l, .int k' c] H =
    if 0 ≤ l ∧ l ≤ c ∧ c * bytes ≤ maxBytes ∧ c ≤ maxBytes then
      some (.mslc H.length 0 l.toNat, newBlk H esz (List.replicate l.toNat zero)) else none := by
  simp only [stepOp, opSem]; split <;> rfl
@[simp] theorem so_max {k k' x y} : stepOp call .max [.int k x, .int k' y] H = if k = k' then some (.int k (if x < y then y else x), H) else none := by
  simp only [stepOp, opSem]; split <;> rfl
@[simp] theorem so_min {k k' x y} : stepOp call .min [.int k x, .int k' y] H = if k = k' then some (.int k (if y < x then y else x), H) else none := by
  simp only [stepOp, opSem]; split <;> rfl
@[simp] theorem so_tassert {t agg t' v} : stepOp call (.tassert t agg) [.ifc t' v] H = if t = t' then some (v, H) else none := by
  simp only [stepOp, opSem]; split <;> rfl
@[simp] theorem so_app_nil {bytes esz x} : stepOp call (.app bytes esz) [.slc true [], x] H =
    match elemsOf H esz x with
    | none => none
    | some new =>
      if !goodElems esz new then none
      else if new = [] then some (.slc true [], H)
      else if new.length * bytes ≤ maxBytes ∧ new.length ≤ maxBytes then some (.mslc H.length 0 new.length, newBlk H esz new) else none := by
  simp only [stepOp, opSem]
  cases elemsOf H esz x with
  | none => rfl
  | some new =>
    simp only
    split
    · rfl
    · split
      · rfl
      · split <;> rfl
@[simp] theorem so_app {bytes esz id off len x} : stepOp call (.app bytes esz) [.mslc id off len, x] H =
    match elemsOf H esz x with
    | none => none
    | some new =>
      if !goodElems esz new then none
      else match H.at id with
        | some b =>
          if b.frozen = false ∧ b.esz = esz ∧ off + len ≤ b.elems.length ∧ (len + new.length) * bytes ≤ maxBytes ∧ len + new.length ≤ maxBytes then
            some (.mslc H.length 0 (len + new.length), newBlk (H.set id none) esz ((b.elems.drop off).take len ++ new)) else none
        | none => none := by
  simp only [stepOp, opSem]
  cases elemsOf H esz x with
  | none => rfl
  | some new =>
    simp only
    split
    · rfl
    · cases H.at id with
      | none => rfl
      | some b => simp only; split <;> rfl
end

@[simp] theorem intA_add {k x y} : intA .add k x y = some (.int k (k.wrap (x + y))) := rfl
@[simp] theorem intA_sub {k x y} : intA .sub k x y = some (.int k (k.wrap (x - y))) := rfl
@[simp] theorem intA_mul {k x y} : intA .mul k x y = some (.int k (k.wrap (x * y))) := rfl
@[simp] theorem intA_quo {k x y} : intA .quo k x y = if y = 0 then none else some (.int k (k.wrap (x.tdiv y))) := rfl
@[simp] theorem intA_rem {k x y} : intA .rem k x y = if y = 0 then none else some (.int k (x.tmod y)) := rfl
@[simp] theorem intA_eql {k x y} : intA .eql k x y = some (.bool (decide (x = y))) := rfl
@[simp] theorem intA_neq {k x y} : intA .neq k x y = some (.bool (!decide (x = y))) := rfl
@[simp] theorem intA_lss {k x y} : intA .lss k x y = some (.bool (decide (x < y))) := rfl
@[simp] theorem intA_leq {k x y} : intA .leq k x y = some (.bool (decide (x ≤ y))) := rfl
@[simp] theorem intA_gtr {k x y} : intA .gtr k x y = some (.bool (decide (y < x))) := rfl
@[simp] theorem intA_geq {k x y} : intA .geq k x y = some (.bool (decide (y ≤ x))) := rfl
@[simp] theorem shiftA_shl {k x y} : shiftA .shl k x y = if y < 0 then none else some (.int k (k.wrap (x * 2 ^ (Nat.min y.toNat k.bits)))) := rfl
@[simp] theorem shiftA_shr {k x y} : shiftA .shr k x y = if y < 0 then none else some (.int k (x.fdiv (2 ^ (Nat.min y.toNat k.bits)))) := rfl

@[simp] theorem bounds_ff {n} : bounds n false false false [] = some (0, n) := rfl
@[simp] theorem bounds_tf {n k l} : bounds n true false false [.int k l] = if 0 ≤ l ∧ l ≤ n then some (l.toNat, n) else none := by
  simp only [bounds]; split <;> simp_all
@[simp] theorem bounds_ft {n k h} : bounds n false true false [.int k h] = if 0 ≤ h ∧ h ≤ n then some (0, h.toNat) else none := by
  simp only [bounds]; split <;> simp_all

attribute [simp] Heap.at gd sv

theorem tidy_dry {live} (h : st.heap.length = st.pin) (hi : idsL (mask live st.vars) = []) : tidy live st = some { st with vars := mask live st.vars, env := [] } := by
  unfold tidy; rw [if_pos ⟨h, hi⟩]

theorem wrap_i64 {n : Int} (h0 : -9223372036854775808 ≤ n) (h : n < 9223372036854775808) : IntKind.i64.wrap n = n := by
  simp only [IntKind.wrap, IntKind.bits, IntKind.signed]; simp; omega
theorem wrap_u64 {n : Int} (h0 : 0 ≤ n) (h : n < 18446744073709551616) : IntKind.u64.wrap n = n := by
  simp only [IntKind.wrap, IntKind.bits, IntKind.signed]; simp; omega
theorem wrap_u32 {n : Int} (h0 : 0 ≤ n) (h : n < 4294967296) : IntKind.u32.wrap n = n := by
  simp only [IntKind.wrap, IntKind.bits, IntKind.signed]; simp; omega
theorem wrap_u32' {n : Int} : IntKind.u32.wrap n = n % 4294967296 := by
  simp only [IntKind.wrap, IntKind.bits, IntKind.signed]; simp
theorem wrap_u64' {n : Int} : IntKind.u64.wrap n = n % 18446744073709551616 := by
  simp only [IntKind.wrap, IntKind.bits, IntKind.signed]; simp

end Go.Ash
/- Numbers as lists of limbs: plain arithmetic. -/
namespace Go.Ash

abbrev B32 : Nat := 4294967296

/-- The value of limbs, the lowest first. -/
def ev : List Nat → Nat
  | [] => 0
  | x :: l => x + B32 * ev l

/-- The limbs of a number, none at the end that is 0. -/
def D (n : Nat) : List Nat := if h : n = 0 then [] else n % B32 :: D (n / B32)
termination_by n
decreasing_by exact Nat.div_lt_self (Nat.pos_of_ne_zero h) (by decide)

@[simp] theorem D_zero : D 0 = [] := by unfold D; simp
theorem D_pos {n : Nat} (h : n ≠ 0) : D n = n % B32 :: D (n / B32) := by rw [D]; simp [h]

theorem ev_D (n : Nat) : ev (D n) = n := by
  induction n using Nat.strongRecOn with
  | ind n ih =>
    by_cases h : n = 0
    · subst h; rw [D_zero]; rfl
    · rw [D_pos h]
      simp only [ev]
      rw [ih _ (Nat.div_lt_self (Nat.pos_of_ne_zero h) (by decide))]
      have := Nat.div_add_mod n B32
      omega

def Lim (l : List Nat) : Prop := ∀ x ∈ l, x < B32

theorem lim_D (n : Nat) : Lim (D n) := by
  induction n using Nat.strongRecOn with
  | ind n ih =>
    by_cases h : n = 0
    · subst h; rw [D_zero]; intro x hx; cases hx
    · rw [D_pos h]
      intro x hx
      rcases List.mem_cons.1 hx with rfl | hx
      · exact Nat.mod_lt _ (by decide)
      · exact ih _ (Nat.div_lt_self (Nat.pos_of_ne_zero h) (by decide)) x hx

theorem Lim.get {l : List Nat} (h : Lim l) {i : Nat} (hi : i < l.length) : l[i] < 4294967296 := h _ (List.getElem_mem hi)

@[simp] theorem D_ne_nil {n : Nat} : D n = [] ↔ n = 0 := by
  constructor
  · intro h
    have := ev_D n
    rw [h] at this; simpa [ev] using this.symm
  · rintro rfl; exact D_zero

theorem ev_append : ∀ (a b : List Nat), ev (a ++ b) = ev a + B32 ^ a.length * ev b
  | [], b => by simp [ev]
  | x :: a, b => by
    simp only [List.cons_append, ev, ev_append a b, List.length_cons, Nat.pow_succ, Nat.mul_add]
    rw [Nat.mul_comm (B32 ^ a.length) B32, Nat.mul_assoc, Nat.add_assoc]

theorem ev_snoc (a : List Nat) (x : Nat) : ev (a ++ [x]) = ev a + B32 ^ a.length * x := by rw [ev_append]; simp [ev]

theorem ev_lt : ∀ {l : List Nat}, Lim l → ev l < B32 ^ l.length
  | [], _ => by simp [ev]
  | x :: l, h => by
    have h1 : x < B32 := h x (by simp)
    have h2 := ev_lt (l := l) (fun y hy => h y (by simp [hy]))
    simp only [ev, List.length_cons, Nat.pow_succ]
    have h3 : B32 * (ev l + 1) ≤ B32 * B32 ^ l.length := Nat.mul_le_mul_left _ h2
    rw [Nat.mul_comm (B32 ^ l.length)]
    rw [Nat.mul_add, Nat.mul_one] at h3
    omega

/-- Limbs without noughts at the end are those of their number. -/
theorem D_ev : ∀ {l : List Nat}, Lim l → (∀ h : l ≠ [], l.getLast h ≠ 0) → D (ev l) = l
  | [], _, _ => D_zero
  | x :: l, hl, hn => by
    have h1 : x < B32 := hl x (by simp)
    have hl' : Lim l := fun y hy => hl y (by simp [hy])
    have hn' : ∀ h : l ≠ [], l.getLast h ≠ 0 := fun h => by have := hn (by simp); rwa [List.getLast_cons h] at this
    have ih := D_ev hl' hn'
    have hne : ev (x :: l) ≠ 0 := by
      simp only [ev]
      intro h0
      have hx0 : x = 0 := by omega
      have he0 : ev l = 0 := (Nat.mul_eq_zero.1 (by omega : B32 * ev l = 0)).resolve_left (by decide)
      have : l = [] := by rw [← ih, he0, D_zero]
      subst this
      exact hn (by simp) (by simpa using hx0)
    rw [D_pos hne]
    simp only [ev]
    rw [Nat.add_mul_mod_self_left, Nat.mod_eq_of_lt h1, Nat.add_mul_div_left _ _ (by decide : 0 < B32), Nat.div_eq_of_lt h1, Nat.zero_add, ih]

theorem D_last {n : Nat} (h : D n ≠ []) : (D n).getLast h ≠ 0 := by
  induction n using Nat.strongRecOn with
  | ind n ih =>
    by_cases h0 : n = 0
    · subst h0; exact absurd D_zero h
    · have hd := D_pos h0
      by_cases hnil : D (n / B32) = []
      · have : n / B32 = 0 := D_ne_nil.1 hnil
        have hlt : n < B32 := by
          rcases Nat.lt_or_ge n B32 with h | h
          · exact h
          · have := Nat.div_pos h (by decide : 0 < B32); omega
        have hval : D n = [n] := by rw [hd, hnil, Nat.mod_eq_of_lt hlt]
        simp only [hval, List.getLast_singleton]
        exact h0
      · have h1 := ih _ (Nat.div_lt_self (Nat.pos_of_ne_zero h0) (by decide)) hnil
        simp only [hd]
        rw [List.getLast_cons hnil]
        exact h1

/-- The limbs without the noughts at the end. -/
theorem ev_zeros (l : List Nat) (k : Nat) : ev (l ++ List.replicate k 0) = ev l := by
  rw [ev_append]
  have : ∀ k, ev (List.replicate k 0) = 0 := by
    intro k
    induction k with
    | zero => rfl
    | succ k ih => simp [List.replicate_succ, ev, ih]
  rw [this]; simp

theorem D_len_le {n k : Nat} (h : n < B32 ^ k) : (D n).length ≤ k := by
  induction k generalizing n with
  | zero => simp at h; subst h; rw [D_zero]; simp
  | succ k ih =>
    by_cases h0 : n = 0
    · subst h0; rw [D_zero]; simp
    · rw [D_pos h0]
      have : n / B32 < B32 ^ k := by
        rw [Nat.div_lt_iff_lt_mul (by decide : 0 < B32)]
        rwa [Nat.pow_succ] at h
      simpa using ih this

theorem D_lt (n : Nat) : n < B32 ^ (D n).length := by
  have := ev_lt (lim_D n)
  rwa [ev_D] at this

theorem D_len_mono {a b : Nat} (h : a ≤ b) : (D a).length ≤ (D b).length := D_len_le (Nat.lt_of_le_of_lt h (D_lt b))

theorem le_of_D_len {n k : Nat} (h : (D n).length ≤ k) : n < B32 ^ k := Nat.lt_of_lt_of_le (D_lt n) (Nat.pow_le_pow_right (by decide) h)

theorem ev_take_succ {l : List Nat} {i : Nat} (hi : i < l.length) : ev (l.take (i + 1)) = ev (l.take i) + B32 ^ i * l[i] := by
  rw [List.take_succ_eq_append_getElem hi, ev_snoc, List.length_take, Nat.min_eq_left (by omega)]

theorem lim_take {l : List Nat} (h : Lim l) (k : Nat) : Lim (l.take k) := fun x hx => h x (List.mem_of_mem_take hx)
theorem lim_drop {l : List Nat} (h : Lim l) (k : Nat) : Lim (l.drop k) := fun x hx => h x (List.mem_of_mem_drop hx)
theorem lim_append {a b : List Nat} (h1 : Lim a) (h2 : Lim b) : Lim (a ++ b) := fun x hx => (List.mem_append.1 hx).elim (h1 x) (h2 x)
theorem lim_set {l : List Nat} (h : Lim l) {i v : Nat} (hv : v < 4294967296) : Lim (l.set i v) := fun x hx => by
  rcases List.mem_or_eq_of_mem_set hx with h' | rfl
  · exact h x h'
  · exact hv
theorem lim_replicate (k : Nat) : Lim (List.replicate k 0) := fun x hx => by rw [List.eq_of_mem_replicate hx]; decide

/-! ### As values -/

def u32s (l : List Nat) : List AVal := l.map fun (n : Nat) => AVal.int .u32 (n : Int)

@[simp] theorem idsL_u32s (l : List Nat) : idsL (u32s l) = [] := by
  induction l with
  | nil => rfl
  | cons a l ih => simpa [u32s, idsL, AVal.ids] using ih
@[simp] theorem u32s_nil (l : List Nat) : u32s l = [] ↔ l = [] := by simp [u32s]
@[simp] theorem length_u32s (l : List Nat) : (u32s l).length = l.length := by simp [u32s]
@[simp] theorem gd_u32s (l : List Nat) (i : Nat) (h : i < l.length) : gd (u32s l) i = .int .u32 (l[i] : Nat) := by
  induction l generalizing i with
  | nil => simp at h
  | cons a l ih => cases i with
    | zero => simp [u32s, gd]
    | succ i => simpa [u32s, gd] using ih i (by simpa using h)
@[simp] theorem getElem_u32s (l : List Nat) (i : Nat) (h : i < (u32s l).length) : (u32s l)[i] = .int .u32 ((l[i]'(by simpa using h) : Nat) : Int) := by simp [u32s]
theorem get_u32s (l : List Nat) (i : Nat) (h : i < l.length) : (u32s l)[i]? = some (.int .u32 (l[i] : Nat)) := by simp [u32s, h]
theorem u32s_take (l : List Nat) (k : Nat) : (u32s l).take k = u32s (l.take k) := by simp [u32s]
theorem u32s_drop (l : List Nat) (k : Nat) : (u32s l).drop k = u32s (l.drop k) := by simp [u32s]
theorem u32s_set (l : List Nat) (k v : Nat) : (u32s l).set k (.int .u32 v) = u32s (l.set k v) := by simp [u32s, List.map_set]
theorem u32s_append (a b : List Nat) : u32s a ++ u32s b = u32s (a ++ b) := by simp [u32s]
theorem u32s_replicate (k : Nat) : List.replicate k (AVal.int .u32 0) = u32s (List.replicate k 0) := by simp [u32s]
theorem allSz_u32s (l : List Nat) : allSz 1 (u32s l) = true := by simp [allSz, u32s, AVal.cells]
theorem good_u32s (l : List Nat) : goodElems 1 (u32s l) = true := by simp [goodElems, u32s, AVal.cells, AVal.isCell]
end Go.Ash
/- Calls that answer trees: how they are reckoned. -/
namespace Go.Ash

theorem renL_map (ρ : Nat → Nat) : ∀ l : List AVal, renL ρ l = l.map (AVal.ren ρ)
  | [] => rfl
  | x :: l => by simp only [renL, List.map_cons, renL_map ρ l]

mutual
theorem ids_ren (ρ : Nat → Nat) : ∀ v : AVal, (v.ren ρ).ids = v.ids.map ρ
  | .mslc id off len => by simp [AVal.ren, AVal.ids]
  | .mptr id i o => by simp [AVal.ren, AVal.ids]
  | .agg cs => by simp only [AVal.ren, AVal.ids, idsL_ren ρ cs]
  | .fn f a b => by simp only [AVal.ren, AVal.ids, idsL_ren ρ a, idsL_ren ρ b, List.map_append]
  | .ifc t v => by simp only [AVal.ren, AVal.ids, ids_ren ρ v]
  | .tup vs => by simp only [AVal.ren, AVal.ids, idsL_ren ρ vs]
  | .und | .bool _ | .int _ _ | .str _ | .slc _ _ | .ptr _ | .nilp | .nilfn | .nilif => rfl
theorem idsL_ren (ρ : Nat → Nat) : ∀ l : List AVal, idsL (renL ρ l) = (idsL l).map ρ
  | [] => rfl
  | v :: vs => by simp only [renL, idsL, ids_ren ρ v, idsL_ren ρ vs, List.map_append]
end

theorem idsL_ex {l : List AVal} {id : Nat} (h : id ∈ idsL l) : ∃ (i : Nat) (x : AVal), l[i]? = some x ∧ id ∈ x.ids := by
  induction l with
  | nil => simp [idsL] at h
  | cons v vs ih =>
    simp only [idsL, List.mem_append] at h
    rcases h with h | h
    · exact ⟨0, v, rfl, h⟩
    · obtain ⟨i, x, hx, hi⟩ := ih h
      exact ⟨i + 1, x, by simpa using hx, hi⟩

mutual
theorem ren_below {ρ : Nat → Nat} {n : Nat} (hpl : ∀ y, y < n → ρ y = y) : ∀ v : AVal, (∀ y ∈ v.ids, y < n) → v.ren ρ = v
  | .mslc id off len, h => by simp only [AVal.ren]; rw [hpl id (h id (by simp [AVal.ids]))]
  | .mptr id i o, h => by simp only [AVal.ren]; rw [hpl id (h id (by simp [AVal.ids]))]
  | .agg cs, h => by simp only [AVal.ren]; rw [renL_below hpl cs (fun y hy => h y (by simpa [AVal.ids] using hy))]
  | .fn f a b, h => by simp only [AVal.ren]; rw [renL_below hpl a (fun y hy => h y (by simp [AVal.ids, hy])), renL_below hpl b (fun y hy => h y (by simp [AVal.ids, hy]))]
  | .ifc t v, h => by simp only [AVal.ren]; rw [ren_below hpl v (fun y hy => h y (by simpa [AVal.ids] using hy))]
  | .tup vs, h => by simp only [AVal.ren]; rw [renL_below hpl vs (fun y hy => h y (by simpa [AVal.ids] using hy))]
  | .und, _ | .bool _, _ | .int _ _, _ | .str _, _ | .slc _ _, _ | .ptr _, _ | .nilp, _ | .nilfn, _ | .nilif, _ => rfl
theorem renL_below {ρ : Nat → Nat} {n : Nat} (hpl : ∀ y, y < n → ρ y = y) : ∀ l : List AVal, (∀ y ∈ idsL l, y < n) → renL ρ l = l
  | [], _ => rfl
  | v :: vs, h => by simp only [renL]; rw [ren_below hpl v (fun y hy => h y (by simp [idsL, hy])), renL_below hpl vs (fun y hy => h y (by simp [idsL, hy]))]
end

theorem tree_ren {H : Heap} {l : List Nat} (hcl : ∀ x ∈ l, ∀ b, H.at x = some b → ∀ y ∈ idsL b.elems, y ∈ l) : ∀ n : Nat,
    (∀ (c t : AVal) (is : List Nat), (∀ y ∈ c.ids, y ∈ l) → c.tree H n = some (t, is) → ∃ js, (c.ren (place l)).tree (pack H l) n = some (t, js)) ∧
    (∀ (vs ts : List AVal) (is : List Nat), (∀ y ∈ idsL vs, y ∈ l) → treeL H n vs = some (ts, is) → ∃ js, treeL (pack H l) n (renL (place l) vs) = some (ts, js))
  | 0 => ⟨fun _ _ _ _ h => by simp [AVal.tree] at h, fun _ _ _ _ h => by simp [treeL] at h⟩
  | n + 1 => by
    obtain ⟨ihv, ihl⟩ := tree_ren hcl n
    constructor
    · intro c t is hi hc
      cases c <;> simp only [AVal.tree, AVal.ren] at hc ⊢
      case mslc id off len =>
        have hid : id ∈ l := hi id (by simp [AVal.ids])
        split at hc
        · rename_i b hb
          have hp : (pack H l).at (place l id) = some (b.ren (place l)) := by rw [pack_at, place_get hid]; simp [hb]
          rw [hp]
          simp only [Blk.ren, renL_length]
          split at hc
          · rename_i hle
            rw [if_pos hle]
            simp only [Option.map_eq_some_iff, Prod.mk.injEq] at hc
            obtain ⟨⟨ts, js⟩, htl, rfl, _⟩ := hc
            obtain ⟨js', h'⟩ := ihl _ ts js (by
              intro y hy
              obtain ⟨k, c, hk, hy⟩ := idsL_ex hy
              rw [List.getElem?_take] at hk
              split at hk
              · rw [List.getElem?_drop] at hk
                exact hcl id hid b hb y (idsL_mem_of hk hy)
              · simp at hk) htl
            have e : ((renL (place l) b.elems).drop off).take len = renL (place l) ((b.elems.drop off).take len) := by
              simp only [renL_map, List.map_take, List.map_drop]
            refine ⟨place l id :: js', ?_⟩
            rw [e, h']; rfl
          · simp at hc
        · simp at hc
      case mptr id i o =>
        have hid : id ∈ l := hi id (by simp [AVal.ids])
        split at hc
        · rename_i b hb
          have hp : (pack H l).at (place l id) = some (b.ren (place l)) := by rw [pack_at, place_get hid]; simp [hb]
          rw [hp]
          simp only [Blk.ren, renL_get]
          split at hc
          · rename_i el hel
            rw [hel]
            simp only [Option.map_some, Option.map_eq_some_iff, Prod.mk.injEq] at hc ⊢
            obtain ⟨⟨ts, js⟩, htl, rfl, _⟩ := hc
            obtain ⟨js', h'⟩ := ihl _ ts js (by
              intro y hy
              obtain ⟨k, c, hk, hy⟩ := idsL_ex hy
              rw [List.getElem?_drop] at hk
              exact hcl id hid b hb y (idsL_mem_of hel (cells_ids hk hy))) htl
            have e : ((el.ren (place l)).cells.drop o) = renL (place l) (el.cells.drop o) := by
              rw [cells_ren]; simp only [renL_map, List.map_drop]
            exact ⟨_, (ts, js'), by rw [e]; exact h', rfl, rfl⟩
          · simp at hc
        · simp at hc
      case agg cs =>
        simp only [Option.map_eq_some_iff, Prod.mk.injEq] at hc ⊢
        obtain ⟨⟨ts, js⟩, htl, rfl, _⟩ := hc
        obtain ⟨js', h'⟩ := ihl _ ts js (fun y hy => hi y (by simpa [AVal.ids] using hy)) htl
        exact ⟨_, _, h', rfl, rfl⟩
      case tup cs =>
        simp only [Option.map_eq_some_iff, Prod.mk.injEq] at hc ⊢
        obtain ⟨⟨ts, js⟩, htl, rfl, _⟩ := hc
        obtain ⟨js', h'⟩ := ihl _ ts js (fun y hy => hi y (by simpa [AVal.ids] using hy)) htl
        exact ⟨_, _, h', rfl, rfl⟩
      case ifc ty v =>
        simp only [Option.map_eq_some_iff, Prod.mk.injEq] at hc ⊢
        obtain ⟨⟨ts, js⟩, htl, rfl, _⟩ := hc
        obtain ⟨js', h'⟩ := ihv _ ts js (fun y hy => hi y (by simpa [AVal.ids] using hy)) htl
        exact ⟨_, _, h', rfl, rfl⟩
      case fn f a b =>
        simp only [Option.bind_eq_some_iff, Option.map_eq_some_iff, Prod.mk.injEq] at hc ⊢
        obtain ⟨⟨ta, ja⟩, hta, ⟨tb, jb⟩, htb, rfl, _⟩ := hc
        obtain ⟨js', h'⟩ := ihl _ ta ja (fun y hy => hi y (by simp [AVal.ids, hy])) hta
        obtain ⟨ks', h''⟩ := ihl _ tb jb (fun y hy => hi y (by simp [AVal.ids, hy])) htb
        exact ⟨_, _, h', _, h'', rfl, rfl⟩
      all_goals
        simp only [Option.some.injEq, Prod.mk.injEq] at hc
        obtain ⟨rfl, _⟩ := hc
        exact ⟨[], rfl⟩
    · intro vs ts is hi hl
      unfold treeL at hl ⊢
      split at hl
      · rename_i h0
        simp only [Option.some.injEq, Prod.mk.injEq] at hl
        obtain ⟨rfl, _⟩ := hl
        rw [if_pos (by rw [idsL_ren, h0]; rfl), renL_self _ _ h0]
        exact ⟨[], rfl⟩
      · rename_i h0
        rw [if_neg (by rw [idsL_ren]; simpa using h0)]
        cases vs with
        | nil => exact absurd rfl h0
        | cons v vs =>
          simp only [renL, Option.bind_eq_some_iff, Option.map_eq_some_iff, Prod.mk.injEq] at hl ⊢
          obtain ⟨⟨tv, ja⟩, htv, ⟨tvs, jb⟩, htvs, rfl, _⟩ := hl
          obtain ⟨js', h'⟩ := ihv _ tv ja (fun y hy => hi y (by simp [idsL, hy])) htv
          obtain ⟨ks', h''⟩ := ihl _ tvs jb (fun y hy => hi y (by simp [idsL, hy])) htvs
          exact ⟨_, _, h', _, h'', rfl, rfl⟩
section
variable {F : Nat → Option RFunc}

theorem run_eq {id : Nat} {fn : RFunc} (hF : F id = some fn) {args : List AVal} {H : Heap} (hn : args.length = fn.npar) : run F id args H =
    match exec F fn.body (fn.enter args H) with
    | some (.exit _, _) => none
    | some (_, st) => fn.leave st
    | none => none := by
  unfold run runWith
  rw [hF]
  simp only [hn, if_true]
  rfl

/-- A call that answers a tree, from the run of its body. -/
theorem pure_exec {id : Nat} {fn : RFunc} (hF : F id = some fn) {args : List AVal} (hn : args.length = fn.npar) {ex : Ex} {st : St} (he : exec F fn.body (fn.enter args []) = some (ex, st))
    (hx : ex = .normal ∨ ex = .ret) (hp : st.pin = 0) {vs : List AVal} (hv : resL st fn.res = some vs) {l : List Nat} (hr : reach st.heap fuelIds (tupled vs).ids [] = some l) {t : AVal} {is : List Nat}
    (ht : treeL st.heap fuelTree [tupled vs] = some ([t], is)) : pureCall (run F) id args = some t := by
  unfold pureCall
  rw [run_eq hF hn, he]
  have hleave : ∃ v H', fn.leave st = some (v, H') ∧ ∃ js, treeL H' fuelTree [v] = some ([t], js) := by
    unfold RFunc.leave
    rw [hv]
    simp only [Option.bind_some, hp]
    split
    · exact ⟨_, _, rfl, is, ht⟩
    · have hrange : List.range 0 ++ (tupled vs).ids = (tupled vs).ids := rfl
      rw [hrange, hr]
      obtain ⟨_, hin, hnd, hcl⟩ := reach_spec _ _ _ _ hr
      obtain ⟨js, hjs⟩ := (tree_ren (H := st.heap) (l := l) (fun x hx => hcl x hx (by simp)) fuelTree).2 [tupled vs] [t] is (by
        intro y hy
        simp only [idsL, List.append_nil] at hy
        exact hin y hy) ht
      exact ⟨_, _, rfl, js, by simpa [renL] using hjs⟩
  obtain ⟨v, H', h1, js, h2⟩ := hleave
  rcases hx with rfl | rfl <;> simp only [h1, Option.bind_some, h2, List.head?_cons]

theorem treeL_free {H : Heap} {n : Nat} {l : List AVal} (h : idsL l = []) : treeL H (n + 1) l = some (l, []) := by
  unfold treeL; rw [if_pos h]

/-- The same, where the answer has no block in it. -/
theorem pure_free {id : Nat} {fn : RFunc} (hF : F id = some fn) {args : List AVal} (hn : args.length = fn.npar) {ex : Ex} {st : St} (he : exec F fn.body (fn.enter args []) = some (ex, st))
    (hx : ex = .normal ∨ ex = .ret) (hp : st.pin = 0) {vs : List AVal} (hv : resL st fn.res = some vs) (hi : (tupled vs).ids = []) : pureCall (run F) id args = some (tupled vs) :=
  pure_exec hF hn he hx hp hv (l := []) (by rw [hi]; rfl) (t := tupled vs) (is := []) (treeL_free (n := 39) (by simp only [idsL, hi, List.append_nil]))

theorem any_pure {call : CallF} {f : Nat} {vs : List AVal} {H : Heap} : anyCall call false f vs H =
    if idsL vs = [] then (pureCall call f vs).map fun v => (v, H) else (handOn vs H).bind fun x => (pureCall call f x.1).map fun v => (v, x.2) := by
  by_cases h : idsL vs = []
  · rw [if_pos h]
    simp only [anyCall, handOn, h, if_true, Bool.false_eq_true, if_false, Option.bind_some]
  · rw [if_neg h]
    simp only [anyCall, Bool.false_eq_true, if_false]

theorem any_hand {call : CallF} {f : Nat} {vs ts : List AVal} {H : Heap} {l : List Nat} (h : treeL H fuelTree vs = some (ts, l)) (h0 : idsL vs ≠ []) :
    anyCall call false f vs H = (pureCall call f ts).map fun v => (v, freeze H l) := by
  simp only [anyCall, handOn, h0, h, Bool.false_eq_true, if_false, Option.bind_some, Option.map_some]

/-- At a loop's head: nothing is renumbered. -/
theorem tidy_keep {live : List Bool} {st : St} (hr : reach st.heap fuelIds (List.range st.pin ++ idsL (mask live st.vars)) [] = some (List.range st.heap.length))
    (hi : ∀ b ∈ st.heap, ∀ k, b = some k → ∀ y ∈ idsL k.elems, y < st.heap.length) :
    tidy live st = some { st with vars := mask live st.vars, env := [] } := by
  unfold tidy
  split
  · rfl
  · rw [hr]
    obtain ⟨_, hin, _, _⟩ := reach_spec _ _ _ _ hr
    have hpl : ∀ y, y < st.heap.length → place (List.range st.heap.length) y = y := by
      intro y hy
      exact place_of List.nodup_range (by simp [hy])
    have hren : ∀ v : AVal, (∀ y ∈ v.ids, y < st.heap.length) → v.ren (place (List.range st.heap.length)) = v := ren_below hpl
    have hrenL : ∀ l : List AVal, (∀ y ∈ idsL l, y < st.heap.length) → renL (place (List.range st.heap.length)) l = l := renL_below hpl
    simp only [Option.map_some, Option.some.injEq]
    have h1 := hrenL (mask live st.vars) (fun y hy => by
      have := hin y (List.mem_append_right _ hy)
      simpa using this)
    have h2 : pack st.heap (List.range st.heap.length) = st.heap := by
      apply List.ext_getElem?
      intro k
      unfold pack
      rw [List.getElem?_map]
      by_cases hk : k < st.heap.length
      · simp only [List.getElem?_range hk, Option.map_some]
        have hat : st.heap.at k = (st.heap[k]?).join := heap_at_eq _ _
        rw [hat, List.getElem?_eq_getElem hk]
        simp only [Option.join_some, Option.some.injEq]
        cases hb : st.heap[k] with
        | none => rfl
        | some b =>
          simp only [Option.map_some, Option.some.injEq, Blk.ren]
          rw [hrenL b.elems (hi _ (List.getElem_mem hk) b hb)]
      · rw [List.getElem?_eq_none (by simp; omega), List.getElem?_eq_none (by omega)]; rfl
    rw [h1, h2]

/-- What a call answers, from what its body came to: a tree. -/
def finish (fn : RFunc) : Option (Ex × St) → Option AVal
  | some (.exit _, _) => none
  | some (_, st) => if st.pin = 0 then match resL st fn.res with
      | some vs => match reach st.heap fuelIds (tupled vs).ids [] with
        | some _ => match treeL st.heap fuelTree [tupled vs] with
          | some ([t], _) => some t
          | _ => none
        | none => none
      | none => none
    else none
  | none => none

theorem pure_ret {id : Nat} {fn : RFunc} (hF : F id = some fn) {args : List AVal} (hn : args.length = fn.npar) {t : AVal} (h : finish fn (exec F fn.body (fn.enter args [])) = some t) :
    pureCall (run F) id args = some t := by
  cases he : exec F fn.body (fn.enter args []) with
  | none => rw [he] at h; simp [finish] at h
  | some x =>
    obtain ⟨ex, st⟩ := x
    rw [he] at h
    have key : ∀ (hx : ex = .normal ∨ ex = .ret), pureCall (run F) id args = some t := by
      intro hx
      have h' : (if st.pin = 0 then match resL st fn.res with
        | some vs => match reach st.heap fuelIds (tupled vs).ids [] with
          | some _ => match treeL st.heap fuelTree [tupled vs] with
            | some ([t], _) => some t
            | _ => none
          | none => none
        | none => none
      else none) = some t := by rcases hx with rfl | rfl <;> exact h
      split at h'
      · rename_i hp
        split at h'
        · rename_i vs hvs
          split at h'
          · rename_i l hl
            split at h'
            · rename_i t' is ht
              cases h'
              exact pure_exec hF hn he hx hp hvs hl ht
            · simp at h'
          · simp at h'
        · simp at h'
      · simp at h'
    cases ex with
    | normal => exact key (.inl rfl)
    | ret => exact key (.inr rfl)
    | exit i => simp [finish] at h

@[simp] theorem finish_none {fn : RFunc} : finish fn none = none := rfl
@[simp] theorem finish_ret {fn : RFunc} {st : St} : finish fn (some (.ret, st)) = finish fn (some (.normal, st)) := rfl

/-- The answer has no block in it. -/
@[simp] theorem finish_free {fn : RFunc} {vars env : List AVal} {H : Heap} : finish fn (some (.normal, ⟨vars, env, H, 0⟩)) = match resL ⟨vars, env, H, 0⟩ fn.res with
    | some vs => if (tupled vs).ids = [] then some (tupled vs) else match reach H fuelIds (tupled vs).ids [] with
        | some _ => match treeL H fuelTree [tupled vs] with
          | some ([t], _) => some t
          | _ => none
        | none => none
    | none => none := by
  simp only [finish, if_true]
  cases resL ⟨vars, env, H, 0⟩ fn.res with
  | none => rfl
  | some vs =>
    simp only
    by_cases hi : (tupled vs).ids = []
    · rw [if_pos hi]
      have h1 : reach H fuelIds (tupled vs).ids [] = some [] := by rw [hi]; rfl
      have h2 : treeL H fuelTree [tupled vs] = some ([tupled vs], []) := treeL_free (n := 39) (by simp only [idsL, hi, List.append_nil])
      rw [h1, h2]
    · rw [if_neg hi]

attribute [simp] resL resA tupled RFunc.enter newBlk Heap.at

/-- At a loop's head, with one block. -/
theorem tidy_one {live : List Bool} {vars env : List AVal} {b : Blk} (hv : idsL (mask live vars) = [0]) (hb : idsL b.elems = []) :
    tidy live ⟨vars, env, [some b], 0⟩ = some ⟨mask live vars, [], [some b], 0⟩ := by
  refine tidy_keep ?_ ?_
  · simp [hv, reach, fuelIds, Heap.at, hb, List.range_succ]
  · intro x hx k hk y hy
    simp at hx; subst hx; cases hk
    rw [hb] at hy; cases hy

theorem set_u32s (l : List Nat) (k : Nat) {z : Int} (h : 0 ≤ z) : (u32s l).set k (.int .u32 z) = u32s (l.set k z.toNat) := by
  rw [← u32s_set, Int.toNat_of_nonneg h]

theorem get?_u32s (l : List Nat) (i : Nat) (h : i < l.length) : (u32s l)[i]? = some (.int .u32 ((l[i] : Nat) : Int)) := by simp [u32s, h]

@[simp] theorem nat_min (a b : Nat) : Nat.min a b = min a b := rfl
attribute [simp] IntKind.bits
theorem maxB : maxBytes = 70368744177664 := rfl
@[simp] theorem fdiv_32 (x : Int) : x.fdiv 4294967296 = x / 4294967296 := Int.fdiv_eq_ediv_of_nonneg _ (by decide)
@[simp] theorem fdiv_63 (x : Int) : x.fdiv 9223372036854775808 = x / 9223372036854775808 := Int.fdiv_eq_ediv_of_nonneg _ (by decide)


theorem exec_loop_env {live : List Bool} {b : RCode} {vars env env' : List AVal} {H : Heap} {p : Nat} : exec F (.loop live b) ⟨vars, env, H, p⟩ = exec F (.loop live b) ⟨vars, env', H, p⟩ := by
  rw [exec_loop, exec_loop]; rfl

/-- A block handed on, alone. -/
theorem hand_one {off len : Nat} {b : Blk} (hb : idsL b.elems = []) (hle : off + len ≤ b.elems.length) : handOn [.mslc 0 off len] [some b] =
    some ([.slc false ((b.elems.drop off).take len)], [some { b with frozen := true }]) := by
  have hfree : idsL ((b.elems.drop off).take len) = [] := by
    have : ∀ y, y ∉ idsL ((b.elems.drop off).take len) := by
      intro y hy
      obtain ⟨k, c, hk, hyc⟩ := idsL_ex hy
      rw [List.getElem?_take] at hk
      split at hk
      · rw [List.getElem?_drop] at hk
        have := idsL_mem_of hk hyc
        rw [hb] at this; cases this
      · simp at hk
    exact List.eq_nil_iff_forall_not_mem.2 this
  have ht : treeL [some b] fuelTree [.mslc 0 off len] = some ([.slc false ((b.elems.drop off).take len)], [0]) := by
    have h1 : AVal.tree [some b] 39 (.mslc 0 off len) = some (.slc false ((b.elems.drop off).take len), [0]) := by
      simp only [AVal.tree, Heap.at, if_pos hle, treeL_free (n := 37) hfree, Option.map_some]
    have h2 : treeL [some b] 39 [] = some ([], []) := rfl
    unfold fuelTree
    rw [treeL]
    simp only [idsL, AVal.ids, List.append_nil, List.cons_ne_nil, if_false, h1, h2, Option.bind_some, Option.map_some]
  simp only [handOn, ht, Option.map_some, idsL, AVal.ids, List.append_nil, List.cons_ne_nil, if_false]
  rfl

theorem hand_u32 {off len esz : Nat} {fz : Bool} {l : List Nat} (hle : off + len ≤ l.length) : handOn [.mslc 0 off len] [some ⟨fz, esz, u32s l⟩] =
    some ([.slc false (u32s ((l.drop off).take len))], [some ⟨true, esz, u32s l⟩]) := by
  rw [hand_one (by simp) (by simpa using hle)]
  simp only [u32s_drop, u32s_take]

@[simp] theorem get_zero (x : AVal) (l : List AVal) : (x :: l)[0]? = some x := rfl
@[simp] theorem get_succ (x : AVal) (l : List AVal) (i : Nat) : (x :: l)[i + 1]? = l[i]? := rfl
@[simp] theorem os_load_mptr {agg : Bool} {sz id i o f : Nat} {H : Heap} : opSem (.load agg sz) [.mptr id i o] H f = match H.at id with
    | some b =>
      match b.elems[i]? with
      | some e => (partA agg sz (e.cells.drop o)).map fun v => (v, .none)
      | none => none
    | none => none := rfl

@[simp] theorem reach_two {x : Option Blk} {fz : Bool} {esz : Nat} {l : List Nat} : reach [x, some ⟨fz, esz, u32s l⟩] fuelIds [1] [] = some [1] := by
  simp [reach, fuelIds, Heap.at]

theorem treeL_cons {H : Heap} {n : Nat} {v : AVal} {vs : List AVal} (h : idsL (v :: vs) ≠ []) : treeL H (n + 1) (v :: vs) =
    (v.tree H n).bind fun x => (treeL H n vs).map fun y => (x.1 :: y.1, x.2 ++ y.2) := by
  conv => lhs; unfold treeL
  rw [if_neg h]

theorem tree_two {x : Option Blk} {fz b : Bool} {esz n : Nat} {l : List Nat} (hn : n ≤ l.length) : treeL [x, some ⟨fz, esz, u32s l⟩] fuelTree [.agg [.bool b, .mslc 1 0 n]] =
    some ([.agg [.bool b, .slc false (u32s (l.take n))]], [1]) := by
  have h1 : AVal.tree [x, some ⟨fz, esz, u32s l⟩] 36 (.mslc 1 0 n) = some (.slc false (u32s (l.take n)), [1]) := by
    simp only [AVal.tree, Heap.at, length_u32s, Nat.zero_add, hn, if_true, List.drop_zero, u32s_take, treeL_free (n := 34) (idsL_u32s _), Option.map_some]
  have h2 : treeL [x, some ⟨fz, esz, u32s l⟩] 37 [.mslc 1 0 n] = some ([.slc false (u32s (l.take n))], [1]) := by
    rw [treeL_cons (by simp), h1]; rfl
  have h3 : treeL [x, some ⟨fz, esz, u32s l⟩] 38 [.bool b, .mslc 1 0 n] = some ([.bool b, .slc false (u32s (l.take n))], [1]) := by
    rw [treeL_cons (by simp), h2]; rfl
  have h4 : AVal.tree [x, some ⟨fz, esz, u32s l⟩] 39 (.agg [.bool b, .mslc 1 0 n]) = some (.agg [.bool b, .slc false (u32s (l.take n))], [1]) := by
    simp only [AVal.tree, h3, Option.map_some]
  unfold fuelTree
  rw [treeL_cons (by simp), h4]
  rfl
end
end Go.Ash
/- Loops by a measure and two claims: one at the head (tidied), one behind. -/
namespace Go.Ash
variable {F : Nat → Option RFunc}

/-- What a round comes to: tidied, if there is one more. -/
noncomputable def after (F : Nat → Option RFunc) (live : List Bool) (b : RCode) (st : St) : Option (Ex × St) :=
  match exec F b st with
  | none => none
  | some (.normal, st2) => (tidy live st2).map fun st3 => (.normal, st3)
  | some (e, st2) => some (e, { st2 with env := [] })

/-- One round: one more with less to do, or out. -/
inductive Round (F : Nat → Option RFunc) (live : List Bool) (b : RCode) (P : Nat → St → Prop) (Q : Ex → St → Prop) (n : Nat) (st : St) : Prop where
  | more (m : Nat) (st' : St) (hm : m < n) (hp : P m st') (h : after F live b st = some (.normal, st')) : Round F live b P Q n st
  | out (e : Ex) (st' : St) (he : e ≠ .normal) (hq : Q e st') (h : after F live b st = some (e, st')) : Round F live b P Q n st

theorem loop_tidied {live : List Bool} {b : RCode} (P : Nat → St → Prop) (Q : Ex → St → Prop) (step : ∀ n st, P n st → Round F live b P Q n st) :
    ∀ n st0 st, tidy live st0 = some st → P n st → ∃ e st', exec F (.loop live b) st0 = some (e, st') ∧ Q e st' := by
  intro n
  induction n using Nat.strongRecOn with
  | ind n ih =>
    intro st0 st ht h
    rw [exec_loop, ht]
    simp only
    rcases step n st h with ⟨m, st', hm, hp, ha⟩ | ⟨e, st', hne, hq, ha⟩
    · unfold after at ha
      cases he : exec F b st with
      | none => rw [he] at ha; simp at ha
      | some r =>
        rw [he] at ha
        obtain ⟨e, st2⟩ := r
        cases e with
        | normal =>
          simp only [Option.map_eq_some_iff, Prod.mk.injEq, true_and] at ha
          obtain ⟨st3, h3, rfl⟩ := ha
          exact ih m hm st2 st3 h3 hp
        | exit i => simp at ha
        | ret => simp at ha
    · unfold after at ha
      cases he : exec F b st with
      | none => rw [he] at ha; simp at ha
      | some r =>
        rw [he] at ha
        obtain ⟨e', st2⟩ := r
        cases e' with
        | normal =>
          simp only [Option.map_eq_some_iff, Prod.mk.injEq] at ha
          obtain ⟨st3, h3, h4, _⟩ := ha
          exact absurd h4.symm hne
        | exit i =>
          simp only [Option.some.injEq, Prod.mk.injEq] at ha
          obtain ⟨rfl, rfl⟩ := ha
          exact ⟨_, _, rfl, hq⟩
        | ret =>
          simp only [Option.some.injEq, Prod.mk.injEq] at ha
          obtain ⟨rfl, rfl⟩ := ha
          exact ⟨_, _, rfl, hq⟩

/-- A loop from any head. -/
theorem loop_rule {live : List Bool} {b : RCode} {vars : List AVal} {H : Heap} {p : Nat} (P : Nat → St → Prop) (Q : Ex → St → Prop) (n : Nat) (st : St)
    (step : ∀ n st, P n st → Round F live b P Q n st) (ht : tidy live ⟨vars, [], H, p⟩ = some st) (h : P n st) :
    ∃ e st', (∀ env, exec F (.loop live b) ⟨vars, env, H, p⟩ = some (e, st')) ∧ Q e st' := by
  obtain ⟨e, st', he, hq⟩ := loop_tidied P Q step n _ st ht h
  exact ⟨e, st', fun env => (exec_loop_env (env' := [])).trans he, hq⟩

theorem tidy_two {live : List Bool} {vars env : List AVal} {b0 b1 : Blk} (hv : idsL (mask live vars) = [0, 1]) (h0 : idsL b0.elems = []) (h1 : idsL b1.elems = []) :
    tidy live ⟨vars, env, [some b0, some b1], 0⟩ = some ⟨mask live vars, [], [some b0, some b1], 0⟩ := by
  refine tidy_keep ?_ ?_
  · simp [hv, reach, fuelIds, Heap.at, h0, h1, List.range_succ]
  · intro x hx k hk y hy
    simp at hx
    rcases hx with rfl | rfl <;> cases hk
    · rw [h0] at hy; cases hy
    · rw [h1] at hy; cases hy

theorem tidy_none {live : List Bool} {vars env : List AVal} (hi : idsL (mask live vars) = []) : tidy live ⟨vars, env, [], 0⟩ = some ⟨mask live vars, [], [], 0⟩ := tidy_dry rfl hi
end Go.Ash
/- Numbers as lists of digits of 16 bits: plain arithmetic. -/
namespace Go.Ash

abbrev B16 : Nat := 65536

/-- The value of limbs, the lowest first. -/
def ew : List Nat → Nat
  | [] => 0
  | x :: l => x + B16 * ew l

/-- The limbs of a number, none at the end that is 0. -/
def DW (n : Nat) : List Nat := if h : n = 0 then [] else n % B16 :: DW (n / B16)
termination_by n
decreasing_by exact Nat.div_lt_self (Nat.pos_of_ne_zero h) (by decide)

@[simp] theorem DW_zero : DW 0 = [] := by unfold DW; simp
theorem DW_pos {n : Nat} (h : n ≠ 0) : DW n = n % B16 :: DW (n / B16) := by rw [DW]; simp [h]

theorem ew_DW (n : Nat) : ew (DW n) = n := by
  induction n using Nat.strongRecOn with
  | ind n ih =>
    by_cases h : n = 0
    · subst h; rw [DW_zero]; rfl
    · rw [DW_pos h]
      simp only [ew]
      rw [ih _ (Nat.div_lt_self (Nat.pos_of_ne_zero h) (by decide))]
      have := Nat.div_add_mod n B16
      omega

def LimW (l : List Nat) : Prop := ∀ x ∈ l, x < B16

theorem limW_DW (n : Nat) : LimW (DW n) := by
  induction n using Nat.strongRecOn with
  | ind n ih =>
    by_cases h : n = 0
    · subst h; rw [DW_zero]; intro x hx; cases hx
    · rw [DW_pos h]
      intro x hx
      rcases List.mem_cons.1 hx with rfl | hx
      · exact Nat.mod_lt _ (by decide)
      · exact ih _ (Nat.div_lt_self (Nat.pos_of_ne_zero h) (by decide)) x hx

theorem LimW.get {l : List Nat} (h : LimW l) {i : Nat} (hi : i < l.length) : l[i] < 65536 := h _ (List.getElem_mem hi)

@[simp] theorem DW_ne_nil {n : Nat} : DW n = [] ↔ n = 0 := by
  constructor
  · intro h
    have := ew_DW n
    rw [h] at this; simpa [ew] using this.symm
  · rintro rfl; exact DW_zero

theorem ew_append : ∀ (a b : List Nat), ew (a ++ b) = ew a + B16 ^ a.length * ew b
  | [], b => by simp [ew]
  | x :: a, b => by
    simp only [List.cons_append, ew, ew_append a b, List.length_cons, Nat.pow_succ, Nat.mul_add]
    rw [Nat.mul_comm (B16 ^ a.length) B16, Nat.mul_assoc, Nat.add_assoc]

theorem ew_snoc (a : List Nat) (x : Nat) : ew (a ++ [x]) = ew a + B16 ^ a.length * x := by rw [ew_append]; simp [ew]

theorem ew_lt : ∀ {l : List Nat}, LimW l → ew l < B16 ^ l.length
  | [], _ => by simp [ew]
  | x :: l, h => by
    have h1 : x < B16 := h x (by simp)
    have h2 := ew_lt (l := l) (fun y hy => h y (by simp [hy]))
    simp only [ew, List.length_cons, Nat.pow_succ]
    have h3 : B16 * (ew l + 1) ≤ B16 * B16 ^ l.length := Nat.mul_le_mul_left _ h2
    rw [Nat.mul_comm (B16 ^ l.length)]
    rw [Nat.mul_add, Nat.mul_one] at h3
    omega

/-- Limbs without noughts at the end are those of their number. -/
theorem DW_ew : ∀ {l : List Nat}, LimW l → (∀ h : l ≠ [], l.getLast h ≠ 0) → DW (ew l) = l
  | [], _, _ => DW_zero
  | x :: l, hl, hn => by
    have h1 : x < B16 := hl x (by simp)
    have hl' : LimW l := fun y hy => hl y (by simp [hy])
    have hn' : ∀ h : l ≠ [], l.getLast h ≠ 0 := fun h => by have := hn (by simp); rwa [List.getLast_cons h] at this
    have ih := DW_ew hl' hn'
    have hne : ew (x :: l) ≠ 0 := by
      simp only [ew]
      intro h0
      have hx0 : x = 0 := by omega
      have he0 : ew l = 0 := (Nat.mul_eq_zero.1 (by omega : B16 * ew l = 0)).resolve_left (by decide)
      have : l = [] := by rw [← ih, he0, DW_zero]
      subst this
      exact hn (by simp) (by simpa using hx0)
    rw [DW_pos hne]
    simp only [ew]
    rw [Nat.add_mul_mod_self_left, Nat.mod_eq_of_lt h1, Nat.add_mul_div_left _ _ (by decide : 0 < B16), Nat.div_eq_of_lt h1, Nat.zero_add, ih]

theorem DW_last {n : Nat} (h : DW n ≠ []) : (DW n).getLast h ≠ 0 := by
  induction n using Nat.strongRecOn with
  | ind n ih =>
    by_cases h0 : n = 0
    · subst h0; exact absurd DW_zero h
    · have hd := DW_pos h0
      by_cases hnil : DW (n / B16) = []
      · have : n / B16 = 0 := DW_ne_nil.1 hnil
        have hlt : n < B16 := by
          rcases Nat.lt_or_ge n B16 with h | h
          · exact h
          · have := Nat.div_pos h (by decide : 0 < B16); omega
        have hval : DW n = [n] := by rw [hd, hnil, Nat.mod_eq_of_lt hlt]
        simp only [hval, List.getLast_singleton]
        exact h0
      · have h1 := ih _ (Nat.div_lt_self (Nat.pos_of_ne_zero h0) (by decide)) hnil
        simp only [hd]
        rw [List.getLast_cons hnil]
        exact h1

/-- The limbs without the noughts at the end. -/
theorem ew_zeros (l : List Nat) (k : Nat) : ew (l ++ List.replicate k 0) = ew l := by
  rw [ew_append]
  have : ∀ k, ew (List.replicate k 0) = 0 := by
    intro k
    induction k with
    | zero => rfl
    | succ k ih => simp [List.replicate_succ, ew, ih]
  rw [this]; simp

theorem DW_len_le {n k : Nat} (h : n < B16 ^ k) : (DW n).length ≤ k := by
  induction k generalizing n with
  | zero => simp at h; subst h; rw [DW_zero]; simp
  | succ k ih =>
    by_cases h0 : n = 0
    · subst h0; rw [DW_zero]; simp
    · rw [DW_pos h0]
      have : n / B16 < B16 ^ k := by
        rw [Nat.div_lt_iff_lt_mul (by decide : 0 < B16)]
        rwa [Nat.pow_succ] at h
      simpa using ih this

theorem DW_lt (n : Nat) : n < B16 ^ (DW n).length := by
  have := ew_lt (limW_DW n)
  rwa [ew_DW] at this

theorem DW_len_mono {a b : Nat} (h : a ≤ b) : (DW a).length ≤ (DW b).length := DW_len_le (Nat.lt_of_le_of_lt h (DW_lt b))

theorem le_of_DW_len {n k : Nat} (h : (DW n).length ≤ k) : n < B16 ^ k := Nat.lt_of_lt_of_le (DW_lt n) (Nat.pow_le_pow_right (by decide) h)

theorem ew_take_succ {l : List Nat} {i : Nat} (hi : i < l.length) : ew (l.take (i + 1)) = ew (l.take i) + B16 ^ i * l[i] := by
  rw [List.take_succ_eq_append_getElem hi, ew_snoc, List.length_take, Nat.min_eq_left (by omega)]

theorem limW_take {l : List Nat} (h : LimW l) (k : Nat) : LimW (l.take k) := fun x hx => h x (List.mem_of_mem_take hx)
theorem limW_drop {l : List Nat} (h : LimW l) (k : Nat) : LimW (l.drop k) := fun x hx => h x (List.mem_of_mem_drop hx)
theorem limW_append {a b : List Nat} (h1 : LimW a) (h2 : LimW b) : LimW (a ++ b) := fun x hx => (List.mem_append.1 hx).elim (h1 x) (h2 x)
theorem limW_set {l : List Nat} (h : LimW l) {i v : Nat} (hv : v < 65536) : LimW (l.set i v) := fun x hx => by
  rcases List.mem_or_eq_of_mem_set hx with h' | rfl
  · exact h x h'
  · exact hv
theorem limW_replicate (k : Nat) : LimW (List.replicate k 0) := fun x hx => by rw [List.eq_of_mem_replicate hx]; decide

/-! ### As values -/

def i64s (l : List Nat) : List AVal := l.map fun (n : Nat) => AVal.int .i64 (n : Int)

@[simp] theorem idsL_i64s (l : List Nat) : idsL (i64s l) = [] := by
  induction l with
  | nil => rfl
  | cons a l ih => simpa [i64s, idsL, AVal.ids] using ih
@[simp] theorem i64s_nil (l : List Nat) : i64s l = [] ↔ l = [] := by simp [i64s]
@[simp] theorem length_i64s (l : List Nat) : (i64s l).length = l.length := by simp [i64s]
@[simp] theorem gd_i64s (l : List Nat) (i : Nat) (h : i < l.length) : gd (i64s l) i = .int .i64 (l[i] : Nat) := by
  induction l generalizing i with
  | nil => simp at h
  | cons a l ih => cases i with
    | zero => simp [i64s, gd]
    | succ i => simpa [i64s, gd] using ih i (by simpa using h)
@[simp] theorem getElem_i64s (l : List Nat) (i : Nat) (h : i < (i64s l).length) : (i64s l)[i] = .int .i64 ((l[i]'(by simpa using h) : Nat) : Int) := by simp [i64s]
theorem get_i64s (l : List Nat) (i : Nat) (h : i < l.length) : (i64s l)[i]? = some (.int .i64 (l[i] : Nat)) := by simp [i64s, h]
theorem i64s_take (l : List Nat) (k : Nat) : (i64s l).take k = i64s (l.take k) := by simp [i64s]
theorem i64s_drop (l : List Nat) (k : Nat) : (i64s l).drop k = i64s (l.drop k) := by simp [i64s]
theorem i64s_set (l : List Nat) (k v : Nat) : (i64s l).set k (.int .i64 v) = i64s (l.set k v) := by simp [i64s, List.map_set]
theorem i64s_append (a b : List Nat) : i64s a ++ i64s b = i64s (a ++ b) := by simp [i64s]
theorem i64s_replicate (k : Nat) : List.replicate k (AVal.int .i64 0) = i64s (List.replicate k 0) := by simp [i64s]
theorem allSz_i64s (l : List Nat) : allSz 1 (i64s l) = true := by simp [allSz, i64s, AVal.cells]
theorem good_i64s (l : List Nat) : goodElems 1 (i64s l) = true := by simp [goodElems, i64s, AVal.cells, AVal.isCell]

theorem i64s_empty : i64s [] = [] := rfl
theorem get?_i64s (l : List Nat) (i : Nat) (h : i < l.length) : (i64s l)[i]? = some (.int .i64 ((l[i] : Nat) : Int)) := by simp [i64s, h]
theorem get?_set_i64s (l : List Nat) (i j v : Nat) (h : i < l.length) : (i64s (l.set j v))[i]? = some (.int .i64 (((l.set j v)[i]'(by simpa using h) : Nat) : Int)) := get?_i64s _ _ (by simpa using h)
theorem set_i64n (l : List Nat) (k v : Nat) : (i64s l).set k (.int .i64 (v : Int)) = i64s (l.set k v) := i64s_set l k v
theorem set_plusW {out : List Nat} {i v : Nat} (hi : i < out.length) : ew ((out.set i v).take (i + 1)) = ew (out.take i) + B16 ^ i * v := by
  rw [ew_take_succ (by simpa using hi), List.take_set, List.set_eq_of_length_le (by simp; omega)]
  simp
theorem drop_ew {l : List Nat} {i : Nat} (hi : i < l.length) : ew (l.drop i) = l[i] + B16 * ew (l.drop (i + 1)) := by
  rw [List.drop_eq_getElem_cons hi]; rfl
theorem set_ew : ∀ {l : List Nat} {k : Nat} (hk : k < l.length) (v : Nat), ew (l.set k v) + B16 ^ k * l[k] = ew l + B16 ^ k * v
  | [], k, hk, v => by simp at hk
  | x :: l, 0, _, v => by simp [ew]; omega
  | x :: l, k + 1, hk, v => by
    have ih := set_ew (l := l) (k := k) (by simpa using hk) v
    simp only [List.set_cons_succ, ew, List.getElem_cons_succ, Nat.pow_succ]
    have e1 : B16 ^ k * B16 * l[k]'(by simpa using hk) = B16 * (B16 ^ k * l[k]'(by simpa using hk)) := by rw [Nat.mul_comm (B16 ^ k) B16, Nat.mul_assoc]
    have e2 : B16 ^ k * B16 * v = B16 * (B16 ^ k * v) := by rw [Nat.mul_comm (B16 ^ k) B16, Nat.mul_assoc]
    rw [e1, e2, Nat.add_assoc, ← Nat.mul_add, ih, Nat.mul_add, Nat.add_assoc]
theorem len_DW_ew {l : List Nat} (hl : LimW l) : (DW (ew l)).length ≤ l.length := DW_len_le (ew_lt hl)
theorem take_DW (l : List Nat) (hl : LimW l) : l.take (DW (ew l)).length = DW (ew l) := by
  have main : ∀ n, ∀ l : List Nat, l.length = n → LimW l → l.take (DW (ew l)).length = DW (ew l) := by
    intro n
    induction n with
    | zero => intro l h _; rw [List.length_eq_zero_iff.1 h]; simp [ew, DW_zero]
    | succ n ih =>
      intro l h hl
      rcases List.eq_nil_or_concat l with rfl | ⟨l', x, hlx⟩
      · simp at h
      · rw [List.concat_eq_append] at hlx
        subst hlx
        have hl' : LimW l' := fun y hy => hl y (by simp [hy])
        by_cases hx : x = 0
        · have : ew (l' ++ [x]) = ew l' := by rw [ew_snoc, hx]; simp
          rw [this]
          have hle : (DW (ew l')).length ≤ l'.length := DW_len_le (ew_lt hl')
          rw [List.take_append_of_le_length hle, ih l' (by simpa using h) hl']
        · rw [DW_ew hl (by intro _; simpa using hx)]
          exact List.take_length
  exact main _ l rfl hl

/-- A number of the document: digits of 16 bits. -/
def RI (nl : Bool) (z : Int) : AVal := .agg [.bool (decide (z < 0)), .slc nl (i64s (DW z.natAbs))]
@[simp] theorem ids_RI (nl : Bool) (z : Int) : (RI nl z).ids = [] := by simp [RI]
@[simp] theorem cells_RI (nl : Bool) (z : Int) : (RI nl z).cells.length = 2 := rfl
@[simp] theorem flat_RI (nl : Bool) (z : Int) : (RI nl z).flat = true := by simp [RI]
@[simp] theorem take_RI (nl : Bool) (z : Int) : AVal.agg ((RI nl z).cells.take 2) = RI nl z := rfl
@[simp] theorem put_RI (nl : Bool) (z : Int) (a b : AVal) : putElem (.agg [a, b]) 0 (RI nl z) = some (RI nl z) := rfl
@[simp] theorem put_RI' (n1 n2 : Bool) (z w : Int) : putElem (RI n1 w) 0 (RI n2 z) = some (RI n2 z) := rfl
@[simp] theorem drop1_RI (nl : Bool) (z : Int) : (RI nl z).cells.drop 1 = [.slc nl (i64s (DW z.natAbs))] := rfl
@[simp] theorem get0_RI (nl : Bool) (z : Int) : (RI nl z).cells[0]? = some (.bool (decide (z < 0))) := rfl
@[simp] theorem get1_RI (nl : Bool) (z : Int) : (RI nl z).cells[1]? = some (.slc nl (i64s (DW z.natAbs))) := rfl
@[simp] theorem head_RI (nl : Bool) (z : Int) : (RI nl z).cells.head? = some (.bool (decide (z < 0))) := rfl

/-! ### What is kept at a loop's head -/

theorem place_nil (b : Nat) : place [] b = 0 := rfl
theorem place_cons (a b : Nat) (l : List Nat) : place (a :: l) b = if a = b then 0 else place l b + 1 := by
  unfold place
  rw [List.idxOf_cons]
  by_cases h : a = b
  · simp [h]
  · have : (a == b) = false := by simpa using h
    simp [h, this]

theorem tidy_eq {live : List Bool} {vars env : List AVal} {H : Heap} : tidy live ⟨vars, env, H, 0⟩ =
    (reach H fuelIds (idsL (mask live vars)) []).map fun l => ⟨renL (place l) (mask live vars), [], pack H l, 0⟩ := by
  unfold tidy
  split
  · rename_i h
    obtain ⟨h1, h2⟩ := h
    have : H = [] := List.length_eq_zero_iff.1 h1
    subst this
    simp only at h2
    rw [h2]
    simp [reach, fuelIds, pack, renL_self _ _ h2]
  · rfl

theorem reach_end {H : Heap} {n : Nat} {seen : List Nat} : reach H (n + 1) [] seen = some seen := by simp [reach]
theorem reach_more {H : Heap} {n id : Nat} {rest seen : List Nat} : reach H (n + 1) (id :: rest) seen =
    if seen.contains id then reach H n rest seen else match H.at id with
      | some b => reach H n (rest ++ idsL b.elems) (seen ++ [id])
      | none => reach H n rest (seen ++ [id]) := by rw [reach]; rfl
@[simp] theorem blk_ren_eq {ρ : Nat → Nat} {f : Bool} {e : Nat} {l : List AVal} : Blk.ren ρ ⟨f, e, l⟩ = ⟨f, e, renL ρ l⟩ := rfl
@[simp] theorem renL_i64s (ρ : Nat → Nat) (l : List Nat) : renL ρ (i64s l) = i64s l := renL_self _ _ (idsL_i64s l)
@[simp] theorem renL_u32s' (ρ : Nat → Nat) (l : List Nat) : renL ρ (u32s l) = u32s l := renL_self _ _ (idsL_u32s l)
@[simp] theorem ren_RI (ρ : Nat → Nat) (nl : Bool) (z : Int) : (RI nl z).ren ρ = RI nl z := ren_self _ _ (ids_RI nl z)
end Go.Ash
/- Package limbs: trim, mag, made, neg, Sign. -/
namespace Go.Ash
variable {F : Nat → Option RFunc} [h : CodeLimbs F]

theorem trim_loop (nl : Bool) (l : List Nat) (hl : Lim l) (hlen : l.length < 2^40) : ∀ n : Nat, n ≤ l.length → ∀ b env,
    exec F l_limbs_trim_0 ⟨[.slc nl (u32s l), b, .int .i64 n], env, [], 0⟩ = some (.exit 0, ⟨[.slc nl (u32s l), .und, .int .i64 (D (ev (l.take n))).length], [], [], 0⟩) := by
  intro n
  induction n with
  | zero =>
    intro _ b env
    unfold l_limbs_trim_0
    rw [exec_loop, tidy_dry rfl (by simp)]
    simp [ev, D_zero]
  | succ n ih =>
    intro hn b env
    have h2 : ((0 : Int) < (n : Int) + 1) := by omega
    unfold l_limbs_trim_0
    rw [exec_loop, tidy_dry rfl (by simp)]
    by_cases h0 : l[n] = 0
    · have ht : ev (l.take (n + 1)) = ev (l.take n) := by rw [ev_take_succ hn, h0]; simp
      rw [ht, ← ih (by omega) .und [.int .i64 n, .int .i64 n, .int .i64 (n+1)]]
      simp (disch := omega) [wrap_i64, h2, h0, show n < l.length from hn, l_limbs_trim_0]
    · have ht : D (ev (l.take (n + 1))) = l.take (n + 1) := by
        refine D_ev (lim_take hl _) (fun hne => ?_)
        rw [List.getLast_eq_getElem]
        simp only [List.length_take, Nat.min_eq_left hn, Nat.add_sub_cancel, List.getElem_take]
        exact h0
      rw [ht]
      simp (disch := omega) [wrap_i64, h2, h0, show n < l.length from hn]

theorem take_D (l : List Nat) (hl : Lim l) : l.take (D (ev l)).length = D (ev l) := by
  have main : ∀ n, ∀ l : List Nat, l.length = n → Lim l → l.take (D (ev l)).length = D (ev l) := by
    intro n
    induction n with
    | zero => intro l h _; rw [List.length_eq_zero_iff.1 h]; simp [ev, D_zero]
    | succ n ih =>
      intro l h hl
      rcases List.eq_nil_or_concat l with rfl | ⟨l', x, hlx⟩
      · simp at h
      · rw [List.concat_eq_append] at hlx
        subst hlx
        have hl' : Lim l' := fun y hy => hl y (by simp [hy])
        by_cases hx : x = 0
        · have : ev (l' ++ [x]) = ev l' := by rw [ev_snoc, hx]; simp
          rw [this]
          have hle : (D (ev l')).length ≤ l'.length := D_len_le (ev_lt hl')
          rw [List.take_append_of_le_length hle, ih l' (by simpa using h) hl']
        · rw [D_ev hl (by intro _; simpa using hx)]
          exact List.take_length
  exact main _ l rfl hl

/-- A magnitude: the limbs of a number. -/
def Mag (v : AVal) (a : Nat) : Prop := ∃ n, v = .slc n (u32s (D a)) ∧ (n = true → a = 0)

theorem pc_trim (nl : Bool) (l : List Nat) (hl : Lim l) (hlen : l.length < 2^40) : pureCall (run F) 107 [.slc nl (u32s l)] = some (.slc nl (u32s (D (ev l)))) := by
  have hle : (D (ev l)).length ≤ l.length := D_len_le (ev_lt hl)
  refine pure_ret h.limbs_trim rfl ?_
  simp [c_limbs_trim, trim_loop nl l hl hlen, bounds, u32s_take, take_D l hl, hle]

/-- An integer as it is handed in: a sign, and limbs in any form. -/
def intA' (neg nl : Bool) (l : List Nat) : AVal := .agg [.bool neg, .slc nl (u32s l)]

theorem pc_mag (neg nl : Bool) (l : List Nat) (hl : Lim l) (hlen : l.length < 2^40) : pureCall (run F) 84 [.agg [.bool neg, .slc nl (u32s l)]] = some (.slc nl (u32s (D (ev l)))) := by
  refine pure_ret h.limbs_mag rfl ?_
  simp [c_limbs_mag, any_pure, pc_trim nl l hl hlen]

theorem pc_neg (neg nl : Bool) (l : List Nat) (hl : Lim l) (hlen : l.length < 2^40) : pureCall (run F) 86 [.agg [.bool neg, .slc nl (u32s l)]] = some (.bool (neg && decide (ev l ≠ 0))) := by
  refine pure_ret h.limbs_neg rfl ?_
  cases neg
  · simp [c_limbs_neg]
  · simp [c_limbs_neg, any_pure, pc_mag true nl l hl hlen, List.length_pos_iff]

theorem pc_sign (neg nl : Bool) (l : List Nat) (hl : Lim l) (hlen : l.length < 2^40) : pureCall (run F) 52 [.agg [.bool neg, .slc nl (u32s l)]] = some (.int .i64 (if ev l = 0 then 0 else if neg then -1 else 1)) := by
  refine pure_ret h.limbs_Sign rfl ?_
  by_cases h0 : ev l = 0
  · simp [c_limbs_Sign, any_pure, pc_mag neg nl l hl hlen, h0]
  · cases neg
    · simp [c_limbs_Sign, any_pure, pc_mag false nl l hl hlen, h0]
    · simp [c_limbs_Sign, any_pure, pc_mag true nl l hl hlen, h0]
end Go.Ash
/- Package limbs: plus. -/
namespace Go.Ash
variable {F : Nat → Option RFunc} [h : CodeLimbs F]

theorem set_plus {out : List Nat} {i v : Nat} (hi : i < out.length) : ev ((out.set i v).take (i + 1)) = ev (out.take i) + B32 ^ i * v := by
  rw [ev_take_succ (by simpa using hi), List.take_set, List.set_eq_of_length_le (by simp; omega)]
  simp

theorem drop_ev {l : List Nat} {i : Nat} (hi : i < l.length) : ev (l.drop i) = l[i] + B32 * ev (l.drop (i + 1)) := by
  rw [List.drop_eq_getElem_cons hi]; rfl

theorem carry_step {A p v S T : Nat} (e : T = v + B32 * S) : A + p * v + p * B32 * S = A + p * T := by
  subst e; rw [Nat.mul_add, Nat.mul_assoc, Nat.add_assoc]

theorem plus_loop (nx ny : Bool) (x y : List Nat) (hx : Lim x) (hy : Lim y) (hxy : y.length ≤ x.length) (hlen : x.length < 2^40) : ∀ (k i : Nat) (out : List Nat) (c : Int) (b2 b5 : AVal) (env : List AVal),
    i + k = x.length → out.length = x.length + 1 → Lim out → 0 ≤ c → c ≤ 1 → ∃ (out' : List Nat) (c' : Int),
    exec F l_limbs_plus_0 ⟨[.slc nx (u32s x), .slc ny (u32s y), b2, .mslc 0 0 (x.length + 1), .int .u64 c, b5, .int .i64 x.length, .int .i64 i], env, [some ⟨false, 1, u32s out⟩], 0⟩ =
      some (.exit 0, ⟨[.slc nx (u32s x), .slc ny (u32s y), .und, .mslc 0 0 (x.length + 1), .int .u64 c', .und, .int .i64 x.length, .int .i64 x.length], [], [some ⟨false, 1, u32s out'⟩], 0⟩) ∧
      out'.length = x.length + 1 ∧ Lim out' ∧ 0 ≤ c' ∧ c' ≤ 1 ∧
      ev (out'.take x.length) + B32 ^ x.length * c'.toNat = ev (out.take i) + B32 ^ i * (c.toNat + ev (x.drop i) + ev (y.drop i)) := by
  intro k
  induction k with
  | zero =>
    intro i out c b2 b5 env hi hout hlim h0 h1
    have hi' : i = x.length := by omega
    subst hi'
    refine ⟨out, c, ?_, hout, hlim, h0, h1, ?_⟩
    · unfold l_limbs_plus_0
      rw [exec_loop, tidy_one (by simp) (by simp)]
      simp
    · rw [List.drop_of_length_le (Nat.le_refl _), List.drop_of_length_le hxy]
      simp [ev]
  | succ k ih =>
    intro i out c b2 b5 env hi hout hlim h0 h1
    have hix : i < x.length := by omega
    have hxi := hx.get hix
    have hio : i < out.length := by omega
    have hil : (i : Int) < x.length + 1 := by omega
    by_cases hiy : i < y.length
    · have hyi := hy.get hiy
      obtain ⟨out', c', he, h2, h3, h4, h5, h6⟩ := ih (i + 1) (out.set i ((c + x[i] + y[i]) % 4294967296).toNat) ((c + x[i] + y[i]) / 4294967296) .und (.int .i64 i) []
        (by omega) (by simpa using hout) (lim_set hlim (by omega)) (by omega) (by omega)
      refine ⟨out', c', ?_, h2, h3, h4, h5, ?_⟩
      · conv => lhs; unfold l_limbs_plus_0
        rw [exec_loop, tidy_one (by simp) (by simp)]
        simp (disch := omega) [hix, hiy, hil, wrap_u64, wrap_u32', wrap_i64, get?_u32s, set_u32s, putElem, putOne]
        exact exec_loop_env.trans he
      · have e : c.toNat + (x[i] + B32 * ev (x.drop (i + 1))) + (y[i] + B32 * ev (y.drop (i + 1))) =
            ((c + x[i] + y[i]) % 4294967296).toNat + B32 * (((c + x[i] + y[i]) / 4294967296).toNat + ev (x.drop (i + 1)) + ev (y.drop (i + 1))) := by
          show c.toNat + (x[i] + 4294967296 * ev (x.drop (i + 1))) + (y[i] + 4294967296 * ev (y.drop (i + 1))) =
            ((c + x[i] + y[i]) % 4294967296).toNat + 4294967296 * (((c + x[i] + y[i]) / 4294967296).toNat + ev (x.drop (i + 1)) + ev (y.drop (i + 1)))
          omega
        rw [h6, set_plus hio, drop_ev hix, drop_ev hiy, Nat.pow_succ]
        exact carry_step e
    · obtain ⟨out', c', he, h2, h3, h4, h5, h6⟩ := ih (i + 1) (out.set i ((c + x[i]) % 4294967296).toNat) ((c + x[i]) / 4294967296) .und (.int .i64 i) []
        (by omega) (by simpa using hout) (lim_set hlim (by omega)) (by omega) (by omega)
      refine ⟨out', c', ?_, h2, h3, h4, h5, ?_⟩
      · conv => lhs; unfold l_limbs_plus_0
        rw [exec_loop, tidy_one (by simp) (by simp)]
        simp (disch := omega) [hix, hiy, hil, wrap_u64, wrap_u32', wrap_i64, get?_u32s, set_u32s, putElem, putOne]
        exact exec_loop_env.trans he
      · have e : c.toNat + (x[i] + B32 * ev (x.drop (i + 1))) + 0 = ((c + x[i]) % 4294967296).toNat + B32 * (((c + x[i]) / 4294967296).toNat + ev (x.drop (i + 1)) + 0) := by
          show c.toNat + (x[i] + 4294967296 * ev (x.drop (i + 1))) + 0 = ((c + x[i]) % 4294967296).toNat + 4294967296 * (((c + x[i]) / 4294967296).toNat + ev (x.drop (i + 1)) + 0)
          omega
        have hy1 : y.drop i = [] := List.drop_of_length_le (by omega)
        have hy2 : y.drop (i + 1) = [] := List.drop_of_length_le (by omega)
        rw [h6, set_plus hio, drop_ev hix, hy1, hy2]
        simp only [ev]
        rw [Nat.pow_succ]
        exact carry_step e

theorem pc_plus (nx ny : Bool) (x y : List Nat) (hx : Lim x) (hy : Lim y) (hlx : x.length < 2^39) (hly : y.length < 2^39) :
    pureCall (run F) 87 [.slc nx (u32s x), .slc ny (u32s y)] = some (.slc false (u32s (D (ev x + ev y)))) := by
  have main : ∀ (nx ny : Bool) (x y : List Nat), Lim x → Lim y → y.length ≤ x.length → x.length < 2^39 → ∀ (X Y : AVal), (X = .slc nx (u32s x) ∧ Y = .slc ny (u32s y)) ∨ (x.length ≠ y.length ∧ Y = .slc nx (u32s x) ∧ X = .slc ny (u32s y)) →
      pureCall (run F) 87 [X, Y] = some (.slc false (u32s (D (ev x + ev y)))) := by
    intro nx ny x y hx hy hxy hlx X Y hXY
    obtain ⟨out, c, he, h2, h3, h4, h5, h6⟩ := plus_loop (F := F) nx ny x y hx hy hxy (by omega) x.length 0 (List.replicate (x.length + 1) 0) 0 (.slc true []) .und []
      (by omega) (by simp) (lim_replicate _) (by omega) (by omega)
    have hev : ev (out.set x.length c.toNat) = ev x + ev y := by
      have : out.set x.length c.toNat = (out.set x.length c.toNat).take (x.length + 1) := by rw [List.take_of_length_le (by simp; omega)]
      rw [this, set_plus (by omega), h6]
      simp [ev]
    have hlim : Lim (out.set x.length c.toNat) := lim_set h3 (by omega)
    have ht := pc_trim (F := F) false (out.set x.length c.toNat) hlim (by simp; omega)
    rw [hev] at ht
    refine pure_ret h.limbs_plus rfl ?_
    have m1 : (0 : Int) ≤ x.length + 1 := by omega
    have m2 : ((x.length : Int) + 1) * 4 ≤ 70368744177664 := by omega
    have m3 : (x.length : Int) + 1 ≤ 70368744177664 := by omega
    have hc : c % 4294967296 = c := by omega
    have m4 : (x.length : Int) < x.length + 1 := by omega
    have m7 : (out.set x.length c.toNat).length = x.length + 1 := by simpa using h2
    have m6 : (out.set x.length c.toNat).take (x.length + 1) = out.set x.length c.toNat := List.take_of_length_le (by simp; omega)
    have hl' : exec F l_limbs_plus_0 ⟨[.slc nx (u32s x), .slc ny (u32s y), .slc true [], .mslc 0 0 (x.length + 1), .int .u64 0, .und, .int .i64 x.length, .int .i64 0],
        [.int .i64 0, .int .i64 x.length, .slc nx (u32s x)], [some ⟨false, 1, u32s (List.replicate (x.length + 1) 0)⟩], 0⟩ = _ := (exec_loop_env (F := F)).trans he
    rcases hXY with ⟨rfl, rfl⟩ | ⟨hne, rfl, rfl⟩
    · have hlt : ¬ x.length < y.length := by omega
      simp (disch := omega) [c_limbs_plus, hlt, wrap_i64, u32s_replicate, maxB, m1, m2, m3, m4, hl', wrap_u32', hc, get?_u32s, putElem, putOne, set_u32s, any_pure, hand_u32, m6, ht]
    · have hlt : y.length < x.length := by omega
      simp (disch := omega) [c_limbs_plus, hlt, wrap_i64, u32s_replicate, maxB, m1, m2, m3, m4, hl', wrap_u32', hc, get?_u32s, putElem, putOne, set_u32s, any_pure, hand_u32, m6, ht]
  rcases Nat.lt_or_ge x.length y.length with hlt | hge
  · rw [Nat.add_comm]
    exact main ny nx y x hy hx (by omega) hly _ _ (.inr ⟨by omega, rfl, rfl⟩)
  · exact main nx ny x y hx hy hge hlx _ _ (.inl ⟨rfl, rfl⟩)
end Go.Ash
/- Package limbs: minus, cmp, made. -/
namespace Go.Ash
variable {F : Nat → Option RFunc} [h : CodeLimbs F]

theorem borrow_step {A E p v q X Y xi yi c R : Nat} (e : xi + B32 * q = v + c + yi) (h : E + p * B32 * (q + Y) = A + p * v + p * B32 * X + R) :
    E + p * (c + (yi + B32 * Y)) = A + p * (xi + B32 * X) + R := by
  have e2 : p * (xi + B32 * q) = p * (v + c + yi) := by rw [e]
  simp only [Nat.mul_add, Nat.mul_assoc] at e2 h ⊢
  omega

theorem minus_loop (nx ny : Bool) (x y : List Nat) (hx : Lim x) (hy : Lim y) (hxy : y.length ≤ x.length) (hlen : x.length < 2^40) : ∀ (k i : Nat) (out : List Nat) (c : Int) (b2 b5 b6 : AVal) (env : List AVal),
    i + k = x.length → out.length = x.length → Lim out → 0 ≤ c → c ≤ 1 → ∃ (out' : List Nat) (c' : Int),
    exec F l_limbs_minus_0 ⟨[.slc nx (u32s x), .slc ny (u32s y), b2, .mslc 0 0 x.length, .int .u64 c, b5, b6, .int .i64 x.length, .int .i64 i], env, [some ⟨false, 1, u32s out⟩], 0⟩ =
      some (.exit 0, ⟨[.slc nx (u32s x), .slc ny (u32s y), .und, .mslc 0 0 x.length, .int .u64 c', .und, .und, .int .i64 x.length, .int .i64 x.length], [], [some ⟨false, 1, u32s out'⟩], 0⟩) ∧
      out'.length = x.length ∧ Lim out' ∧ 0 ≤ c' ∧ c' ≤ 1 ∧
      ev (out'.take x.length) + B32 ^ i * (c.toNat + ev (y.drop i)) = ev (out.take i) + B32 ^ i * ev (x.drop i) + B32 ^ x.length * c'.toNat := by
  intro k
  induction k with
  | zero =>
    intro i out c b2 b5 b6 env hi hout hlim h0 h1
    have hi' : i = x.length := by omega
    subst hi'
    refine ⟨out, c, ?_, hout, hlim, h0, h1, ?_⟩
    · unfold l_limbs_minus_0
      rw [exec_loop, tidy_one (by simp) (by simp)]
      simp
    · rw [List.drop_of_length_le (Nat.le_refl _), List.drop_of_length_le hxy]
      simp [ev]
  | succ k ih =>
    intro i out c b2 b5 b6 env hi hout hlim h0 h1
    have hix : i < x.length := by omega
    have hxi := hx.get hix
    have hio : i < out.length := by omega
    have hil : (i : Int) < x.length := by omega
    by_cases hiy : i < y.length
    · have hyi := hy.get hiy
      obtain ⟨out', c', he, h2, h3, h4, h5, h6⟩ := ih (i + 1) (out.set i ((x[i] - c - y[i]) % 4294967296).toNat) (((x[i] - c - y[i]) % 18446744073709551616) / 9223372036854775808) .und (.int .i64 i) (.int .u64 ((x[i] - c - y[i]) % 18446744073709551616)) []
        (by omega) (by simpa using hout) (lim_set hlim (by omega)) (by omega) (by omega)
      refine ⟨out', c', ?_, h2, h3, h4, h5, ?_⟩
      · conv => lhs; unfold l_limbs_minus_0
        rw [exec_loop, tidy_one (by simp) (by simp)]
        simp (disch := omega) [hix, hiy, hil, wrap_u64', wrap_u32', wrap_i64, get?_u32s, set_u32s, putElem, putOne]
        exact exec_loop_env.trans he
      · rw [set_plus hio, Nat.pow_succ] at h6
        rw [drop_ev hix, drop_ev hiy]
        refine borrow_step ?_ h6
        show x[i] + 4294967296 * _ = _
        omega
    · obtain ⟨out', c', he, h2, h3, h4, h5, h6⟩ := ih (i + 1) (out.set i ((x[i] - c) % 4294967296).toNat) (((x[i] - c) % 18446744073709551616) / 9223372036854775808) .und (.int .i64 i) (.int .u64 ((x[i] - c) % 18446744073709551616)) []
        (by omega) (by simpa using hout) (lim_set hlim (by omega)) (by omega) (by omega)
      refine ⟨out', c', ?_, h2, h3, h4, h5, ?_⟩
      · conv => lhs; unfold l_limbs_minus_0
        rw [exec_loop, tidy_one (by simp) (by simp)]
        simp (disch := omega) [hix, hiy, hil, wrap_u64', wrap_u32', wrap_i64, get?_u32s, set_u32s, putElem, putOne]
        exact exec_loop_env.trans he
      · have hy1 : y.drop i = [] := List.drop_of_length_le (by omega)
        have hy2 : y.drop (i + 1) = [] := List.drop_of_length_le (by omega)
        rw [set_plus hio, Nat.pow_succ, hy2] at h6
        rw [drop_ev hix, hy1]
        have := borrow_step (yi := 0) (xi := x[i]) (c := c.toNat) (Y := ev []) (by
          show x[i] + 4294967296 * _ = _
          omega) h6
        simpa [ev] using this

theorem pc_minus (nx ny : Bool) (x y : List Nat) (hx : Lim x) (hy : Lim y) (hxy : y.length ≤ x.length) (hle : ev y ≤ ev x) (hlx : x.length < 2^39) :
    pureCall (run F) 88 [.slc nx (u32s x), .slc ny (u32s y)] = some (.slc false (u32s (D (ev x - ev y)))) := by
  obtain ⟨out, c, he, h2, h3, h4, h5, h6⟩ := minus_loop (F := F) nx ny x y hx hy hxy (by omega) x.length 0 (List.replicate x.length 0) 0 (.slc true []) .und .und []
    (by omega) (by simp) (lim_replicate _) (by omega) (by omega)
  have hto : out.take x.length = out := List.take_of_length_le (by omega)
  have hev : ev out = ev x - ev y := by
    have hlt := ev_lt h3
    rw [h2] at hlt
    rw [hto] at h6
    simp [ev] at h6
    rcases (by omega : c = 0 ∨ c = 1) with rfl | rfl
    · simp at h6; omega
    · simp at h6
      have hB : B32 ^ x.length = 4294967296 ^ x.length := rfl
      omega
  have ht := pc_trim (F := F) false out h3 (by omega)
  rw [hev] at ht
  have hl' : exec F l_limbs_minus_0 ⟨[.slc nx (u32s x), .slc ny (u32s y), .slc true [], .mslc 0 0 x.length, .int .u64 0, .und, .und, .int .i64 x.length, .int .i64 0],
    [.int .i64 0, .int .i64 x.length, .slc nx (u32s x)], [some ⟨false, 1, u32s (List.replicate x.length 0)⟩], 0⟩ = _ := (exec_loop_env (F := F)).trans he
  have m2 : (x.length : Int) * 4 ≤ 70368744177664 := by omega
  have m3 : (x.length : Int) ≤ 70368744177664 := by omega
  have m6 : out.take x.length = out := hto
  refine pure_ret h.limbs_minus rfl ?_
  simp (disch := omega) [c_limbs_minus, wrap_i64, u32s_replicate, maxB, m2, m3, hl', any_pure, hand_u32, m6, ht]

theorem cmp_lt {a b p u v : Nat} (ha : a < p) (h : u < v) : a + p * u < b + p * v := by
  have := Nat.mul_le_mul_left p (Nat.succ_le_of_lt h)
  rw [Nat.mul_succ] at this
  omega

theorem cmp_loop (nx ny : Bool) (x y : List Nat) (hx : Lim x) (hy : Lim y) (hxy : x.length = y.length) (hlen : x.length < 2^40) : ∀ (n : Nat), n ≤ x.length → ∀ (r : AVal) (env : List AVal),
    (ev (x.take n) = ev (y.take n) → exec F l_limbs_cmp_0 ⟨[.slc nx (u32s x), .slc ny (u32s y), r, .int .i64 ((n : Int) - 1)], env, [], 0⟩ =
      some (.exit 0, ⟨[.slc nx (u32s x), .slc ny (u32s y), .und, .int .i64 (-1)], [], [], 0⟩)) ∧
    (ev (x.take n) ≠ ev (y.take n) → ∃ j, exec F l_limbs_cmp_0 ⟨[.slc nx (u32s x), .slc ny (u32s y), r, .int .i64 ((n : Int) - 1)], env, [], 0⟩ =
      some (.ret, ⟨[.slc nx (u32s x), .slc ny (u32s y), .int .i64 (if ev (x.take n) < ev (y.take n) then -1 else 1), j], [], [], 0⟩)) := by
  intro n
  induction n with
  | zero =>
    intro _ r env
    refine ⟨fun _ => ?_, fun h => absurd (by simp) h⟩
    unfold l_limbs_cmp_0
    rw [exec_loop, tidy_dry rfl (by simp)]
    simp
  | succ n ih =>
    intro hn r env
    have hnx : n < x.length := hn
    have hny : n < y.length := by omega
    have hlx := ev_lt (lim_take hx n)
    have hly := ev_lt (lim_take hy n)
    rw [List.length_take, Nat.min_eq_left (by omega)] at hlx hly
    rw [ev_take_succ hnx, ev_take_succ hny]
    have hidx : ((n + 1 : Nat) : Int) - 1 = n := by omega
    rw [hidx]
    by_cases h0 : x[n] = y[n]
    · obtain ⟨ih1, ih2⟩ := ih (by omega) .und []
      have step : ∀ env, exec F l_limbs_cmp_0 ⟨[.slc nx (u32s x), .slc ny (u32s y), r, .int .i64 n], env, [], 0⟩ =
          exec F l_limbs_cmp_0 ⟨[.slc nx (u32s x), .slc ny (u32s y), .und, .int .i64 ((n : Int) - 1)], [], [], 0⟩ := by
        intro env
        conv => lhs; unfold l_limbs_cmp_0
        rw [exec_loop, tidy_dry rfl (by simp)]
        simp (disch := omega) [hnx, hny, h0, wrap_i64]
        exact exec_loop_env
      rw [step, h0]
      refine ⟨fun he => ih1 (by omega), fun he => ?_⟩
      obtain ⟨j, hj⟩ := ih2 (by omega)
      refine ⟨j, ?_⟩
      rw [hj]
      simp only [Nat.add_lt_add_iff_right]
    · have hne : ev (x.take n) + B32 ^ n * x[n] ≠ ev (y.take n) + B32 ^ n * y[n] := by
        rcases Nat.lt_or_gt_of_ne h0 with h | h
        · exact Nat.ne_of_lt (cmp_lt hlx h)
        · exact (Nat.ne_of_lt (cmp_lt hly h)).symm
      refine ⟨fun he => absurd he hne, fun _ => ?_⟩
      rcases Nat.lt_or_gt_of_ne h0 with hlt | hgt
      · have h1 := cmp_lt (b := ev (y.take n)) hlx hlt
        rw [if_pos h1]
        refine ⟨.int .i64 n, ?_⟩
        unfold l_limbs_cmp_0
        rw [exec_loop, tidy_dry rfl (by simp)]
        simp (disch := omega) [hnx, hny, show ¬ ((x[n] : Int) = (y[n] : Int)) from by omega, hlt, wrap_i64]
      · have h1 := cmp_lt (b := ev (x.take n)) hly hgt
        rw [if_neg (by omega)]
        refine ⟨.int .i64 n, ?_⟩
        unfold l_limbs_cmp_0
        rw [exec_loop, tidy_dry rfl (by simp)]
        simp (disch := omega) [hnx, hny, show ¬ ((x[n] : Int) = (y[n] : Int)) from by omega, show ¬ x[n] < y[n] from by omega, wrap_i64]

/-- How two numbers stand to each other. -/
def cmpI (a b : Nat) : Int := if a < b then -1 else if a = b then 0 else 1

theorem D_len_lt {a b : Nat} (h : (D a).length < (D b).length) : a < b := by
  rcases Nat.lt_or_ge a b with h' | h'
  · exact h'
  · have := D_len_mono h'; omega

theorem pc_cmp (nx ny : Bool) (a b : Nat) (ha : (D a).length < 2^39) (hb : (D b).length < 2^39) : pureCall (run F) 98 [.slc nx (u32s (D a)), .slc ny (u32s (D b))] = some (.int .i64 (cmpI a b)) := by
  refine pure_ret h.limbs_cmp rfl ?_
  by_cases hl : (D a).length = (D b).length
  · obtain ⟨h1, h2⟩ := cmp_loop (F := F) nx ny (D a) (D b) (lim_D a) (lim_D b) hl (by omega) (D a).length (Nat.le_refl _) (.int .i64 0)
      [.int .i64 (((D a).length : Int) - 1), .int .i64 (((D a).length : Int) - 1), .int .i64 (D a).length, .slc nx (u32s (D a))]
    rw [List.take_length, List.take_of_length_le (by omega), ev_D, ev_D] at h1 h2
    by_cases hab : a = b
    · have hc : cmpI a b = 0 := by unfold cmpI; rw [if_neg (by omega), if_pos hab]
      rw [hc]
      have h1 := h1 hab
      rw [hl] at h1
      simp (disch := omega) [c_limbs_cmp, hl, wrap_i64, h1]
    · obtain ⟨j, h2⟩ := h2 hab
      have hc : cmpI a b = if a < b then -1 else 1 := by unfold cmpI; rw [if_neg hab]
      rw [hc]
      rw [hl] at h2
      simp (disch := omega) [c_limbs_cmp, hl, wrap_i64, h2]
  · have hli : ¬ ((D a).length : Int) = (D b).length := by omega
    rcases Nat.lt_or_gt_of_ne hl with hlt | hgt
    · have hab := D_len_lt hlt
      have hc : cmpI a b = -1 := by unfold cmpI; rw [if_pos hab]
      rw [hc]
      simp (disch := omega) [c_limbs_cmp, hli, hlt, wrap_i64]
    · have hab := D_len_lt hgt
      have hc : cmpI a b = 1 := by unfold cmpI; rw [if_neg (by omega), if_neg (by omega)]
      rw [hc]
      simp (disch := omega) [c_limbs_cmp, hli, show ¬ (D a).length < (D b).length from by omega, wrap_i64]

/-- An integer in its one form. -/
def IV (z : Int) : AVal := .agg [.bool (decide (z < 0)), .slc (decide (z = 0)) (u32s (D z.natAbs))]

@[simp] theorem ids_IV (z : Int) : (IV z).ids = [] := by simp [IV]
@[simp] theorem cells_IV (z : Int) : (IV z).cells.length = 2 := rfl
@[simp] theorem flat_IV (z : Int) : (IV z).flat = true := by simp [IV]
@[simp] theorem take_IV (z : Int) : AVal.agg ((IV z).cells.take 2) = IV z := rfl
@[simp] theorem drop1_IV (z : Int) : (IV z).cells.drop 1 = [.slc (decide (z = 0)) (u32s (D z.natAbs))] := rfl
@[simp] theorem get0_IV (z : Int) : (IV z).cells[0]? = some (.bool (decide (z < 0))) := rfl
@[simp] theorem get1_IV (z : Int) : (IV z).cells[1]? = some (.slc (decide (z = 0)) (u32s (D z.natAbs))) := rfl
@[simp] theorem head_IV (z : Int) : (IV z).cells.head? = some (.bool (decide (z < 0))) := rfl
@[simp] theorem put_IV (z : Int) (a b : AVal) : putElem (.agg [a, b]) 0 (IV z) = some (IV z) := rfl
@[simp] theorem put_IV' (z w : Int) : putElem (IV w) 0 (IV z) = some (IV z) := rfl

/-- The integer of a sign and a magnitude. -/
def sgn (neg : Bool) (a : Nat) : Int := if neg then -(a : Int) else a

theorem sgn_abs (neg : Bool) (a : Nat) : (sgn neg a).natAbs = a := by cases neg <;> simp [sgn]

theorem pc_made (neg nl : Bool) (l : List Nat) (hl : Lim l) (hlen : l.length < 2^39) : pureCall (run F) 89 [.bool neg, .slc nl (u32s l)] = some (IV (sgn neg (ev l))) := by
  refine pure_ret h.limbs_made rfl ?_
  by_cases h0 : ev l = 0
  · have : IV (sgn neg (ev l)) = .agg [.bool false, .slc true []] := by rw [h0]; cases neg <;> simp [IV, sgn, u32s]
    rw [this]
    simp (disch := omega) [c_limbs_made, any_pure, pc_trim nl l hl, h0, fillA, putElem, putAgg]
  · have hle : (D (ev l)).length ≤ l.length := D_len_le (ev_lt hl)
    have m1 : ((D (ev l)).length) * 4 ≤ 70368744177664 := by omega
    have m2 : (D (ev l)).length ≤ 70368744177664 := by omega
    have hi : IV (sgn neg (ev l)) = .agg [.bool neg, .slc false (u32s (D (ev l)))] := by
      cases neg <;> simp [IV, sgn, h0] <;> omega
    rw [hi]
    simp (disch := omega) [c_limbs_made, any_pure, pc_trim nl l hl, h0, fillA, putElem, putAgg, elemsOf, good_u32s, maxB, m1, m2, setAll, tree_two]
end Go.Ash
/- Package limbs: sum, Add, Sub, Neg, Cmp. -/
namespace Go.Ash
variable {F : Nat → Option RFunc} [h : CodeLimbs F]

theorem len_D_ev {l : List Nat} (hl : Lim l) : (D (ev l)).length ≤ l.length := D_len_le (ev_lt hl)

theorem pc_sum (na n1 nb n2 mb : Bool) (la lb : List Nat) (hla : Lim la) (hlb : Lim lb) (h1 : la.length < 2^38) (h2 : lb.length < 2^38) :
    pureCall (run F) 97 [.agg [.bool na, .slc n1 (u32s la)], .agg [.bool nb, .slc n2 (u32s lb)], .bool mb] =
      some (IV (sgn na (ev la) + (if mb then - sgn nb (ev lb) else sgn nb (ev lb)))) := by
  have hm1 := pc_mag (F := F) na n1 la hla (by omega)
  have hm2 := pc_mag (F := F) nb n2 lb hlb (by omega)
  have hn1 := pc_neg (F := F) na n1 la hla (by omega)
  have hn2 := pc_neg (F := F) nb n2 lb hlb (by omega)
  have hla' := len_D_ev hla
  have hlb' := len_D_ev hlb
  have hp := pc_plus (F := F) n1 n2 (D (ev la)) (D (ev lb)) (lim_D _) (lim_D _) (by omega) (by omega)
  have hc := pc_cmp (F := F) n1 n2 (ev la) (ev lb) (by omega) (by omega)
  rw [ev_D, ev_D] at hp
  have hlp : (D (ev la + ev lb)).length < 2^39 := by
    have h3 : ev la + ev lb < B32 ^ (max la.length lb.length + 1) := by
      have h4 := ev_lt hla
      have h5 := ev_lt hlb
      have h6 : B32 ^ la.length ≤ B32 ^ (max la.length lb.length) := Nat.pow_le_pow_right (by decide) (by omega)
      have h7 : B32 ^ lb.length ≤ B32 ^ (max la.length lb.length) := Nat.pow_le_pow_right (by decide) (by omega)
      rw [Nat.pow_succ]
      have : B32 ^ (max la.length lb.length) * 2 ≤ B32 ^ (max la.length lb.length) * B32 := Nat.mul_le_mul_left _ (by decide)
      omega
    have := D_len_le h3
    omega
  have hd : ∀ s, pureCall (run F) 89 [.bool s, .slc false (u32s (D (ev la + ev lb)))] = some (IV (sgn s (ev la + ev lb))) := fun s => by
    have := pc_made (F := F) s false (D (ev la + ev lb)) (lim_D _) hlp
    rwa [ev_D] at this
  have e1 : sgn na (ev la) = sgn (na && decide (ev la ≠ 0)) (ev la) := by cases na <;> by_cases h0 : ev la = 0 <;> simp [sgn, h0]
  have e2 : sgn nb (ev lb) = sgn (nb && decide (ev lb ≠ 0)) (ev lb) := by cases nb <;> by_cases h0 : ev lb = 0 <;> simp [sgn, h0]
  rw [e1, e2]
  generalize (na && decide (ev la ≠ 0)) = s at *
  generalize (nb && decide (ev lb ≠ 0)) = t at *
  refine pure_ret h.limbs_sum rfl ?_
  by_cases hst : s = (t != mb)
  · have e : sgn s (ev la) + (if mb then - sgn t (ev lb) else sgn t (ev lb)) = sgn s (ev la + ev lb) := by
      subst hst; cases t <;> cases mb <;> simp [sgn] <;> omega
    rw [e]
    subst hst
    cases t <;> cases mb <;> simp [c_limbs_sum, any_pure, hm1, hm2, hn1, hn2, hp, hd, IV, putElem, putAgg]
  · have hst' : (t != mb) = !s := by cases s <;> cases t <;> cases mb <;> simp_all
    rcases Nat.lt_or_ge (ev la) (ev lb) with hab | hab
    · have hm := pc_minus (F := F) n2 n1 (D (ev lb)) (D (ev la)) (lim_D _) (lim_D _) (D_len_mono (by omega)) (by rw [ev_D, ev_D]; omega) (by omega)
      rw [ev_D, ev_D] at hm
      have hdm : ∀ s, pureCall (run F) 89 [.bool s, .slc false (u32s (D (ev lb - ev la)))] = some (IV (sgn s (ev lb - ev la))) := fun s => by
        have := pc_made (F := F) s false (D (ev lb - ev la)) (lim_D _) (by have := D_len_mono (Nat.sub_le (ev lb) (ev la)); omega)
        rwa [ev_D] at this
      have hcv : cmpI (ev la) (ev lb) = -1 := by unfold cmpI; rw [if_pos hab]
      rw [hcv] at hc
      have e : sgn s (ev la) + (if mb then - sgn t (ev lb) else sgn t (ev lb)) = sgn (t != mb) (ev lb - ev la) := by
        cases s <;> cases t <;> cases mb <;> simp [sgn] at hst' ⊢ <;> omega
      rw [e]
      cases s <;> cases t <;> cases mb <;> simp at hst' <;> simp [c_limbs_sum, any_pure, hm1, hm2, hn1, hn2, hc, hm, hdm, IV, putElem, putAgg]
    · have hm := pc_minus (F := F) n1 n2 (D (ev la)) (D (ev lb)) (lim_D _) (lim_D _) (D_len_mono hab) (by rw [ev_D, ev_D]; omega) (by omega)
      rw [ev_D, ev_D] at hm
      have hdm : ∀ s, pureCall (run F) 89 [.bool s, .slc false (u32s (D (ev la - ev lb)))] = some (IV (sgn s (ev la - ev lb))) := fun s => by
        have := pc_made (F := F) s false (D (ev la - ev lb)) (lim_D _) (by have := D_len_mono (Nat.sub_le (ev la) (ev lb)); omega)
        rwa [ev_D] at this
      have hcv : ¬ cmpI (ev la) (ev lb) < 0 := by unfold cmpI; rw [if_neg (by omega)]; split <;> omega
      have hcv' : 0 ≤ cmpI (ev la) (ev lb) := by omega
      have e : sgn s (ev la) + (if mb then - sgn t (ev lb) else sgn t (ev lb)) = sgn s (ev la - ev lb) := by
        cases s <;> cases t <;> cases mb <;> simp [sgn] at hst' ⊢ <;> omega
      rw [e]
      cases s <;> cases t <;> cases mb <;> simp at hst' <;> simp [c_limbs_sum, any_pure, hm1, hm2, hn1, hn2, hc, hcv', hm, hdm, IV, putElem, putAgg]

theorem pc_add (na n1 nb n2 : Bool) (la lb : List Nat) (hla : Lim la) (hlb : Lim lb) (h1 : la.length < 2^38) (h2 : lb.length < 2^38) :
    pureCall (run F) 43 [.agg [.bool na, .slc n1 (u32s la)], .agg [.bool nb, .slc n2 (u32s lb)]] = some (IV (sgn na (ev la) + sgn nb (ev lb))) := by
  have hs := pc_sum (F := F) na n1 nb n2 false la lb hla hlb h1 h2
  simp only [Bool.false_eq_true, if_false] at hs
  refine pure_ret h.limbs_Add rfl ?_
  simp [c_limbs_Add, any_pure, hs, IV, putElem, putAgg]

theorem pc_sub (na n1 nb n2 : Bool) (la lb : List Nat) (hla : Lim la) (hlb : Lim lb) (h1 : la.length < 2^38) (h2 : lb.length < 2^38) :
    pureCall (run F) 46 [.agg [.bool na, .slc n1 (u32s la)], .agg [.bool nb, .slc n2 (u32s lb)]] = some (IV (sgn na (ev la) - sgn nb (ev lb))) := by
  have hs := pc_sum (F := F) na n1 nb n2 true la lb hla hlb h1 h2
  simp only [if_true] at hs
  rw [← Int.sub_eq_add_neg] at hs
  refine pure_ret h.limbs_Sub rfl ?_
  simp [c_limbs_Sub, any_pure, hs, IV, putElem, putAgg]
end Go.Ash
/- Package limbs: school. -/
namespace Go.Ash
variable {F : Nat → Option RFunc} [h : CodeLimbs F]

theorem set_ev : ∀ {l : List Nat} {k : Nat} (hk : k < l.length) (v : Nat), ev (l.set k v) + B32 ^ k * l[k] = ev l + B32 ^ k * v
  | [], k, hk, v => by simp at hk
  | x :: l, 0, _, v => by simp [ev]; omega
  | x :: l, k + 1, hk, v => by
    have ih := set_ev (l := l) (k := k) (by simpa using hk) v
    simp only [List.set_cons_succ, ev, List.getElem_cons_succ, Nat.pow_succ]
    have e1 : B32 ^ k * B32 * l[k]'(by simpa using hk) = B32 * (B32 ^ k * l[k]'(by simpa using hk)) := by rw [Nat.mul_comm (B32 ^ k) B32, Nat.mul_assoc]
    have e2 : B32 ^ k * B32 * v = B32 * (B32 ^ k * v) := by rw [Nat.mul_comm (B32 ^ k) B32, Nat.mul_assoc]
    rw [e1, e2, Nat.add_assoc, ← Nat.mul_add, ih, Nat.mul_add, Nat.add_assoc]

theorem school_step {E A p o v c c2 u yj Y R : Nat} (e : v + B32 * c2 = c + u * yj + o) (hs : A + p * o = E + p * v) (h : R = A + p * B32 * (c2 + u * Y)) : R = E + p * (c + u * (yj + B32 * Y)) := by
  have e2 : p * (v + B32 * c2) = p * (c + u * yj + o) := by rw [e]
  have e3 : u * (B32 * Y) = B32 * (u * Y) := by rw [Nat.mul_left_comm]
  simp only [Nat.mul_add, Nat.mul_assoc, e3] at e2 h ⊢
  omega

theorem school_inner (nx ny : Bool) (x y : List Nat) (hy : Lim y) (hlx : x.length < 2^39) (hly : y.length < 2^39) (i u : Nat) (hi : i < x.length) (hu : u < 4294967296) :
    ∀ (k j : Nat) (out : List Nat) (c : Int) (b0 b2 b7 b8 : AVal) (env : List AVal), j + k = y.length → out.length = x.length + y.length → Lim out → 0 ≤ c → c < 4294967296 → ∃ (out' : List Nat) (c' : Int),
    exec F l_limbs_school_0 ⟨[b0, .slc ny (u32s y), b2, .mslc 0 0 (x.length + y.length), .int .i64 i, .int .u32 u, .int .u64 c, b7, b8, .slc nx (u32s x), .int .i64 x.length, .int .i64 i,
      .slc ny (u32s y), .int .i64 y.length, .int .i64 j], env, [some ⟨false, 1, u32s out⟩], 0⟩ =
      some (.exit 2, ⟨[.und, .slc ny (u32s y), .und, .mslc 0 0 (x.length + y.length), .int .i64 i, .int .u32 u, .int .u64 c', .und, .und, .slc nx (u32s x), .int .i64 x.length, .int .i64 i,
      .slc ny (u32s y), .int .i64 y.length, .int .i64 y.length], [], [some ⟨false, 1, u32s out'⟩], 0⟩) ∧
      out'.length = x.length + y.length ∧ Lim out' ∧ 0 ≤ c' ∧ c' < 4294967296 ∧ (∀ q, i + y.length ≤ q → out'[q]? = out[q]?) ∧
      ev out' + B32 ^ (i + y.length) * c'.toNat = ev out + B32 ^ (i + j) * (c.toNat + u * ev (y.drop j)) := by
  intro k
  induction k with
  | zero =>
    intro j out c b0 b2 b7 b8 env hj hout hlim h0 h1
    have hj' : j = y.length := by omega
    subst hj'
    refine ⟨out, c, ?_, hout, hlim, h0, h1, fun _ _ => rfl, ?_⟩
    · unfold l_limbs_school_0
      rw [exec_loop, tidy_one (by simp) (by simp)]
      simp
    · rw [List.drop_of_length_le (Nat.le_refl _)]
      simp [ev]
  | succ k ih =>
    intro j out c b0 b2 b7 b8 env hj hout hlim h0 h1
    have hjy : j < y.length := by omega
    have hyj := hy.get hjy
    have hko : i + j < out.length := by omega
    have hok := hlim.get hko
    have hP0 : (0 : Int) ≤ (u : Int) * (y[j] : Int) := Int.mul_nonneg (Int.natCast_nonneg _) (Int.natCast_nonneg _)
    have hPn : u * y[j] ≤ 18446744065119617025 := Nat.le_trans (Nat.mul_le_mul (Nat.le_of_lt_succ hu : u ≤ 4294967295) (Nat.le_of_lt_succ hyj : y[j] ≤ 4294967295)) (by decide)
    have hcast : ((u * y[j] : Nat) : Int) = (u : Int) * (y[j] : Int) := Int.natCast_mul _ _
    have hP1 : (u : Int) * (y[j] : Int) ≤ 18446744065119617025 := by omega
    have hil : (i : Int) + j < x.length + y.length := by omega
    have hij : ((i : Int) + j).toNat = i + j := by omega
    have hij0 : (0 : Int) ≤ (i : Int) + j := by omega
    obtain ⟨out', c', he, h2, h3, h4, h5, h6, h7⟩ := ih (j + 1) (out.set (i + j) (((c + (u * y[j] + out[i + j]))) % 4294967296).toNat) ((c + (u * y[j] + out[i + j])) / 4294967296) .und .und (.int .i64 j) (.int .u32 y[j]) []
      (by omega) (by simpa using hout) (lim_set hlim (by omega)) (by omega) (by omega)
    refine ⟨out', c', ?_, h2, h3, h4, h5, ?_, ?_⟩
    · conv => lhs; unfold l_limbs_school_0
      rw [exec_loop, tidy_one (by simp) (by simp)]
      simp (disch := omega) [hjy, hil, hij, hij0, wrap_u64, wrap_u32', wrap_i64, get?_u32s, set_u32s, putElem, putOne]
      exact exec_loop_env.trans he
    · intro q hq
      rw [h6 q hq, List.getElem?_set_ne (by omega)]
    · rw [drop_ev hjy]
      refine school_step (o := out[i + j]) (v := ((c + (u * y[j] + out[i + j])) % 4294967296).toNat) (c2 := ((c + (u * y[j] + out[i + j])) / 4294967296).toNat) ?_ (set_ev hko _) (by rw [h7, show i + (j + 1) = i + j + 1 from rfl, Nat.pow_succ])
      show _ + 4294967296 * _ = _
      omega

theorem school_outer (nx ny : Bool) (x y : List Nat) (hx : Lim x) (hy : Lim y) (hlx : x.length < 2^39) (hly : y.length < 2^39) :
    ∀ (k i : Nat) (out : List Nat) (b0 b2 b4 b5 b6 b7 b8 b12 b13 b14 : AVal) (env : List AVal), i + k = x.length → out.length = x.length + y.length → Lim out →
    (∀ q, i + y.length ≤ q → q < x.length + y.length → out[q]? = some 0) → ev out = ev (x.take i) * ev y → ∃ (out' : List Nat),
    exec F l_limbs_school_1 ⟨[b0, .slc ny (u32s y), b2, .mslc 0 0 (x.length + y.length), b4, b5, b6, b7, b8, .slc nx (u32s x), .int .i64 x.length, .int .i64 i, b12, b13, b14], env, [some ⟨false, 1, u32s out⟩], 0⟩ =
      some (.exit 0, ⟨[.und, .slc ny (u32s y), .und, .mslc 0 0 (x.length + y.length), .und, .und, .und, .und, .und, .slc nx (u32s x), .int .i64 x.length, .int .i64 x.length, .und, .und, .und], [],
        [some ⟨false, 1, u32s out'⟩], 0⟩) ∧ out'.length = x.length + y.length ∧ Lim out' ∧ ev out' = ev x * ev y := by
  intro k
  induction k with
  | zero =>
    intro i out b0 b2 b4 b5 b6 b7 b8 b12 b13 b14 env hi hout hlim hz hev
    have hi' : i = x.length := by omega
    subst hi'
    rw [List.take_length] at hev
    refine ⟨out, ?_, hout, hlim, hev⟩
    unfold l_limbs_school_1
    rw [exec_loop, tidy_one (by simp) (by simp)]
    simp
  | succ k ih =>
    intro i out b0 b2 b4 b5 b6 b7 b8 b12 b13 b14 env hi hout hlim hz hev
    have hix : i < x.length := by omega
    have hxi := hx.get hix
    obtain ⟨out1, c1, he1, g2, g3, g4, g5, g6, g7⟩ := school_inner (F := F) nx ny x y hy hlx hly i x[i] hix hxi y.length 0 out 0 .und .und .und .und [] (by omega) hout hlim (by omega) (by omega)
    have hpos : i + y.length < out1.length := by omega
    have hzero : out1[i + y.length] = 0 := by
      have h1 := g6 (i + y.length) (Nat.le_refl _)
      rw [hz _ (Nat.le_refl _) (by omega), List.getElem?_eq_getElem hpos] at h1
      exact Option.some.inj h1
    have hset := set_ev hpos c1.toNat
    rw [hzero] at hset
    simp only [List.drop_zero, Int.toNat_zero, Nat.zero_add, Nat.add_zero, Nat.mul_zero] at hset g7
    have hev' : ev (out1.set (i + y.length) c1.toNat) = ev (x.take (i + 1)) * ev y := by
      rw [hset, g7, hev, ev_take_succ hix, Nat.add_mul, Nat.mul_assoc]
    obtain ⟨out', he, h2, h3, h4⟩ := ih (i + 1) (out1.set (i + y.length) c1.toNat) .und .und (.int .i64 i) (.int .u32 x[i]) (.int .u64 c1) .und .und (.slc ny (u32s y)) (.int .i64 y.length) (.int .i64 y.length) []
      (by omega) (by simpa using g2) (lim_set g3 (by omega)) (by
        intro q hq1 hq2
        rw [List.getElem?_set_ne (by omega), g6 q (by omega)]
        exact hz q (by omega) hq2) hev'
    refine ⟨out', ?_, h2, h3, h4⟩
    have hl' : ∀ env, exec F l_limbs_school_0 ⟨[.und, .slc ny (u32s y), .und, .mslc 0 0 (x.length + y.length), .int .i64 i, .int .u32 x[i], .int .u64 0, .und, .und, .slc nx (u32s x), .int .i64 x.length, .int .i64 i,
      .slc ny (u32s y), .int .i64 y.length, .int .i64 0], env, [some ⟨false, 1, u32s out⟩], 0⟩ = _ := fun env => (exec_loop_env (F := F)).trans he1
    have hil : (i : Int) + y.length < x.length + y.length := by omega
    have hil0 : (0 : Int) ≤ (i : Int) + y.length := by omega
    have hij : ((i : Int) + y.length).toNat = i + y.length := by omega
    conv => lhs; unfold l_limbs_school_1
    rw [exec_loop, tidy_one (by simp) (by simp)]
    simp (disch := omega) [hix, hil, hil0, hij, wrap_u64, wrap_u32', wrap_i64, get?_u32s, set_u32s, putElem, putOne, hl', show c1 % 4294967296 = c1 from by omega]
    exact exec_loop_env.trans he

theorem pc_school (nx ny : Bool) (x y : List Nat) (hx : Lim x) (hy : Lim y) (hlx : x.length < 2^38) (hly : y.length < 2^38) :
    pureCall (run F) 115 [.slc nx (u32s x), .slc ny (u32s y)] = some (.slc false (u32s (D (ev x * ev y)))) := by
  have hz0 : ∀ k, ev (List.replicate k 0) = 0 := fun k => by have := ev_zeros [] k; simpa [ev] using this
  obtain ⟨out, he, h2, h3, h4⟩ := school_outer (F := F) nx ny x y hx hy (by omega) (by omega) x.length 0 (List.replicate (x.length + y.length) 0) (.slc nx (u32s x)) (.slc true []) .und .und .und .und .und .und .und .und []
    (by omega) (by simp) (lim_replicate _) (by intro q _ hq; simp [hq]) (by rw [hz0]; simp [ev])
  have ht := pc_trim (F := F) false out h3 (by omega)
  rw [h4] at ht
  have hl' : ∀ env, exec F l_limbs_school_1 ⟨[.slc nx (u32s x), .slc ny (u32s y), .slc true [], .mslc 0 0 (x.length + y.length), .und, .und, .und, .und, .und, .slc nx (u32s x), .int .i64 x.length, .int .i64 0, .und, .und, .und],
    env, [some ⟨false, 1, u32s (List.replicate (x.length + y.length) 0)⟩], 0⟩ = _ := fun env => (exec_loop_env (F := F)).trans he
  have m1 : (0 : Int) ≤ x.length + y.length := by omega
  have m2 : ((x.length : Int) + y.length) * 4 ≤ 70368744177664 := by omega
  have m3 : (x.length : Int) + y.length ≤ 70368744177664 := by omega
  have m4 : ((x.length : Int) + y.length).toNat = x.length + y.length := by omega
  have m6 : out.take (x.length + y.length) = out := List.take_of_length_le (by omega)
  refine pure_ret h.limbs_school rfl ?_
  simp (disch := omega) [c_limbs_school, wrap_i64, u32s_replicate, maxB, m1, m2, m3, m4, hl', any_pure, hand_u32, m6, ht]
end Go.Ash
