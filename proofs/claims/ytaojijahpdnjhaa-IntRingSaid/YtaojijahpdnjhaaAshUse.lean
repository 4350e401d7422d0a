/- The abstract interpreter: the equations by which its runs are reckoned. -/
import Derived.Test.YtaojijahpdnjhaaAshExec
set_option linter.all false
namespace Go.Ash
variable {F : Nat → Option RFunc} {call : CallF} {st : St} {env : List AVal} {os : List ROp}

attribute [simp] exec_skip exec_exit exec_ret exec_region exec_seq exec_cond exec_block
attribute [simp] execOps mask AVal.ids idsL AVal.ren renL AVal.cells AVal.isCell partA isShift binA unA nilA

theorem opd_v {i} : st.opd env (.v i) = gd st.vars i := rfl
theorem opd_p {j} : st.opd env (.p j) = gd env j := rfl
theorem opd_c {a} : st.opd env (.c a) = a := rfl
attribute [simp] opd_v opd_p opd_c
@[simp] theorem put_none {v} : st.put none v = st := rfl
@[simp] theorem put_some {i v} : st.put (some i) v = { st with vars := sv st.vars i v } := rfl

@[simp] theorem step_free {k args dst} : stepROp call ⟨k, args, dst, none, []⟩ env st =
    match stepOp call k (args.map (st.opd env)) st.heap with
    | some (v, H) => some (v, { st with heap := H }.put dst v)
    | none => none := rfl

theorem step_wanted {k args dst j want} (h : gd env j = .bool want) : stepROp call ⟨k, args, dst, some (j, want), []⟩ env st =
    stepROp call ⟨k, args, dst, none, []⟩ env st := by
  simp [stepROp, wantedA, h, apartA]

@[simp] theorem step_guard {k args dst j want} : stepROp call ⟨k, args, dst, some (j, want), []⟩ env st =
    match gd env j with
    | .bool b => if b = want then stepROp call ⟨k, args, dst, none, []⟩ env st else some (.tup [], st.put dst (.tup []))
    | .tup [] => some (.tup [], st.put dst (.tup []))
    | _ => none := by
  unfold stepROp wantedA
  simp only
  generalize gd env j = x
  cases x <;> simp [apartA]
  · rename_i b
    by_cases hb : b = want
    · simp [hb]
    · have : (b == want) = false := by simpa using hb
      simp [hb, this]
  · rename_i vs
    cases vs <;> simp

section
variable {H : Heap}
@[simp] theorem so_call {raw f vs} : stepOp call (.call raw f) vs H = anyCall call raw f vs H := rfl
@[simp] theorem so_callv {raw f first cap vs} : stepOp call (.callv raw) (.fn f first cap :: vs) H = anyCall call raw f (first ++ vs ++ cap) H := rfl
@[simp] theorem so_mov {a} : stepOp call .mov [a] H = some (a, H) := rfl
@[simp] theorem so_pick {c a b} : stepOp call .pick [.bool c, a, b] H = some (if c then a else b, H) := rfl
@[simp] theorem so_box {v} : stepOp call .box [v] H = if v.cells.all AVal.isCell then some (.mptr H.length 0 0, newBlk H v.cells.length [v]) else none := by
  simp only [stepOp, opSem]; split <;> rfl
@[simp] theorem so_alloc {z} : stepOp call (.alloc z) [] H = if z.cells.all AVal.isCell then some (.mptr H.length 0 0, newBlk H z.cells.length [z]) else none := by
  simp only [stepOp, opSem]; split <;> rfl
@[simp] theorem so_build {zero parts vs} : stepOp call (.build zero parts) vs H = (fillA zero parts vs).map fun cs => (.agg cs, H) := by
  simp only [stepOp, opSem, Option.map_map]; rfl
@[simp] theorem so_bslice {esz zero len idx vs} : stepOp call (.bslice esz zero len idx) vs H =
    if goodElems esz vs then (placeAll (List.replicate len zero) idx vs).map fun xs => (.mslc H.length 0 len, newBlk H esz xs) else none := by
  simp only [stepOp, opSem]; split
  · simp only [Option.map_map]; rfl
  · rfl
@[simp] theorem so_nilck_mptr {id i o} : stepOp call .nilck [.mptr id i o] H = some (.mptr id i o, H) := rfl
@[simp] theorem so_nilck_ptr {cs} : stepOp call .nilck [.ptr cs] H = some (.ptr cs, H) := rfl
@[simp] theorem so_bin {op a b} : stepOp call (.bin op) [a, b] H = (binA op a b).map fun v => (v, H) := by
  simp only [stepOp, opSem, Option.map_map]; rfl
@[simp] theorem so_un {op a} : stepOp call (.un op) [a] H = (unA op a).map fun v => (v, H) := by
  simp only [stepOp, opSem, Option.map_map]; rfl
@[simp] theorem so_conv {k k' n} : stepOp call (.conv k) [.int k' n] H = some (.int k (k.wrap n), H) := rfl
@[simp] theorem so_mkif {t v} : stepOp call (.mkif t) [v] H = some (.ifc t v, H) := rfl
@[simp] theorem so_mkfn {f n vs} : stepOp call (.mkfn f n) vs H = some (.fn f (vs.take n) (vs.drop n), H) := by
  simp only [stepOp, opSem]; rfl
@[simp] theorem so_load_ptr {agg sz cs} : stepOp call (.load agg sz) [.ptr cs] H = (partA agg sz cs).map fun v => (v, H) := by
  simp only [stepOp, opSem, Option.map_map]; rfl
@[simp] theorem so_load_mptr {agg sz id i o} : stepOp call (.load agg sz) [.mptr id i o] H = match H.at id with
    | some b =>
      match b.elems[i]? with
      | some e => (partA agg sz (e.cells.drop o)).map fun v => (v, H)
      | none => none
    | none => none := by
  simp only [stepOp, opSem]
  cases H.at id with
  | none => rfl
  | some b =>
    simp only
    cases b.elems[i]? with
    | none => rfl
    | some e => simp only [Option.map_map]; rfl
@[simp] theorem so_store {sz id i o v} : stepOp call (.store sz) [.mptr id i o, v] H = match H.at id with
    | some b =>
      match b.elems[i]? with
      | some e =>
        if b.frozen then none
        else if v.cells.length = sz ∧ v.cells.all AVal.isCell then
          (putElem e o v).map fun e' => (.tup [], H.set id (some { b with elems := b.elems.set i e' }))
        else none
      | none => none
    | none => none := by
  simp only [stepOp, opSem]
  cases H.at id with
  | none => rfl
  | some b =>
    simp only
    cases b.elems[i]? with
    | none => rfl
    | some e =>
      simp only
      split
      · rfl
      · split
        · simp only [Option.map_map]; rfl
        · rfl
@[simp] theorem so_iaddr {esz n xs k i} : stepOp call (.iaddr esz) [.slc n xs, .int k i] H =
    if 0 ≤ i ∧ i < xs.length then
      if (gd xs i.toNat).cells.length = esz then some (.ptr (gd xs i.toNat).cells, H) else none
    else none := by
  simp only [stepOp, opSem]; split
  · split <;> rfl
  · rfl
@[simp] theorem so_iaddr_m {esz id off len k i} : stepOp call (.iaddr esz) [.mslc id off len, .int k i] H =
    if 0 ≤ i ∧ i < len then
      match H.at id with
      | some b => if b.esz = esz then some (.mptr id (off + i.toNat) 0, H) else none
      | none => none
    else none := by
  simp only [stepOp, opSem]; split
  · cases H.at id with
    | none => rfl
    | some b => simp only; split <;> rfl
  · rfl
@[simp] theorem so_beq {neg x y} : stepOp call (.beq neg) [.bool x, .bool y] H = some (.bool (if neg then !(x == y) else x == y), H) := rfl
@[simp] theorem so_eqnil {neg kd a} : stepOp call (.eqnil neg kd) [a] H = (nilA kd a).map fun b => (.bool (if neg then !b else b), H) := by
  simp only [stepOp, opSem, Option.map_map]; rfl
@[simp] theorem so_len_slc {n xs} : stepOp call (.len false) [.slc n xs] H = some (.int .i64 xs.length, H) := rfl
@[simp] theorem so_len_mslc {id off len} : stepOp call (.len false) [.mslc id off len] H = some (.int .i64 len, H) := rfl
@[simp] theorem so_len_str {s} : stepOp call (.len true) [.str s] H = some (.int .i64 s.size, H) := rfl
@[simp] theorem so_slice {esz hi mx n xs vs} : stepOp call (.slice esz false hi mx) (.slc n xs :: vs) H =
    (bounds xs.length false hi mx vs).map fun (l, h) => (.slc n ((xs.take h).drop l), H) := by
  simp only [stepOp, opSem, Option.map_map, true_or, if_true]; rfl
@[simp] theorem so_slice_l {esz hi mx n xs vs} : stepOp call (.slice esz true hi mx) (.slc n xs :: vs) H =
    if allSz esz xs = true then (bounds xs.length true hi mx vs).map fun (l, h) => (.slc n ((xs.take h).drop l), H) else none := by
  simp only [stepOp, opSem, Bool.true_eq_false, false_or]; split
  · simp only [Option.map_map]; rfl
  · rfl
@[simp] theorem so_slice_m {esz lo hi mx id off len vs} : stepOp call (.slice esz lo hi mx) (.mslc id off len :: vs) H =
    match H.at id with
    | some b =>
      if b.esz = esz then (bounds len lo hi mx vs).map fun (l, h) =>
        (if l = 0 then .mslc id off h else if l = h then .slc false [] else .mslc id (off + l) (h - l), H)
      else none
    | none => none := by
  simp only [stepOp, opSem]
  cases H.at id with
  | none => rfl
  | some b =>
    simp only
    split
    · simp only [Option.map_map]; rfl
    · rfl
@[simp] theorem so_slice_s {lo hi s vs} : stepOp call (.slices lo hi) (.str s :: vs) H =
    (bounds s.size lo hi false vs).map fun (l, h) => (.str (s.extract l h), H) := by
  simp only [stepOp, opSem, Option.map_map]; rfl
@[simp] theorem so_faddr_ptr {off cs} : stepOp call (.faddr off) [.ptr cs] H = some (.ptr (cs.drop off), H) := rfl
@[simp] theorem so_faddr_mptr {off id i o} : stepOp call (.faddr off) [.mptr id i o] H = some (.mptr id i (o + off), H) := rfl
@[simp] theorem so_fld {agg off sz cs} : stepOp call (.fld agg off sz) [.agg cs] H = (partA agg sz (cs.drop off)).map fun v => (v, H) := by
  simp only [stepOp, opSem, Option.map_map]; rfl
@[simp] theorem so_extract {i vs} : stepOp call (.extract i) [.tup vs] H = (vs[i]?).map fun v => (v, H) := by
  simp only [stepOp, opSem, Option.map_map]; rfl
@[simp] theorem so_idx {s k i} : stepOp call .idx [.str s, .int k i] H = if 0 ≤ i ∧ i < s.size then some (.int .u8 (s.data.getD i.toNat 0).toNat, H) else none := by
  simp only [stepOp, opSem]; split <;> rfl
@[simp] theorem so_mkslice {esz zero bytes k k' l c} : stepOp call (.mkslice esz zero bytes) [.int k l, .int k' c] H =
    if 0 ≤ l ∧ l ≤ c ∧ c * bytes ≤ maxBytes ∧ c ≤ maxBytes then
      some (.mslc H.length 0 l.toNat, newBlk H esz (List.replicate l.toNat zero)) else none := by
  simp only [stepOp, opSem]; split <;> rfl
@[simp] theorem so_max {k k' x y} : stepOp call .max [.int k x, .int k' y] H = if k = k' then some (.int k (if x < y then y else x), H) else none := by
  simp only [stepOp, opSem]; split <;> rfl
@[simp] theorem so_min {k k' x y} : stepOp call .min [.int k x, .int k' y] H = if k = k' then some (.int k (if y < x then y else x), H) else none := by
  simp only [stepOp, opSem]; split <;> rfl
@[simp] theorem so_tassert {t agg t' v} : stepOp call (.tassert t agg) [.ifc t' v] H = if t = t' then some (v, H) else none := by
  simp only [stepOp, opSem]; split <;> rfl
@[simp] theorem so_app_nil {bytes esz x} : stepOp call (.app bytes esz) [.slc true [], x] H =
    match elemsOf H esz x with
    | none => none
    | some new =>
      if !goodElems esz new then none
      else if new = [] then some (.slc true [], H)
      else if new.length * bytes ≤ maxBytes ∧ new.length ≤ maxBytes then some (.mslc H.length 0 new.length, newBlk H esz new) else none := by
  simp only [stepOp, opSem]
  cases elemsOf H esz x with
  | none => rfl
  | some new =>
    simp only
    split
    · rfl
    · split
      · rfl
      · split <;> rfl
@[simp] theorem so_app {bytes esz id off len x} : stepOp call (.app bytes esz) [.mslc id off len, x] H =
    match elemsOf H esz x with
    | none => none
    | some new =>
      if !goodElems esz new then none
      else match H.at id with
        | some b =>
          if b.frozen = false ∧ b.esz = esz ∧ off + len ≤ b.elems.length ∧ (len + new.length) * bytes ≤ maxBytes ∧ len + new.length ≤ maxBytes then
            some (.mslc H.length 0 (len + new.length), newBlk (H.set id none) esz ((b.elems.drop off).take len ++ new)) else none
        | none => none := by
  simp only [stepOp, opSem]
  cases elemsOf H esz x with
  | none => rfl
  | some new =>
    simp only
    split
    · rfl
    · cases H.at id with
      | none => rfl
      | some b => simp only; split <;> rfl
end

@[simp] theorem intA_add {k x y} : intA .add k x y = some (.int k (k.wrap (x + y))) := rfl
@[simp] theorem intA_sub {k x y} : intA .sub k x y = some (.int k (k.wrap (x - y))) := rfl
@[simp] theorem intA_mul {k x y} : intA .mul k x y = some (.int k (k.wrap (x * y))) := rfl
@[simp] theorem intA_quo {k x y} : intA .quo k x y = if y = 0 then none else some (.int k (k.wrap (x.tdiv y))) := rfl
@[simp] theorem intA_rem {k x y} : intA .rem k x y = if y = 0 then none else some (.int k (x.tmod y)) := rfl
@[simp] theorem intA_eql {k x y} : intA .eql k x y = some (.bool (decide (x = y))) := rfl
@[simp] theorem intA_neq {k x y} : intA .neq k x y = some (.bool (!decide (x = y))) := rfl
@[simp] theorem intA_lss {k x y} : intA .lss k x y = some (.bool (decide (x < y))) := rfl
@[simp] theorem intA_leq {k x y} : intA .leq k x y = some (.bool (decide (x ≤ y))) := rfl
@[simp] theorem intA_gtr {k x y} : intA .gtr k x y = some (.bool (decide (y < x))) := rfl
@[simp] theorem intA_geq {k x y} : intA .geq k x y = some (.bool (decide (y ≤ x))) := rfl
@[simp] theorem shiftA_shl {k x y} : shiftA .shl k x y = if y < 0 then none else some (.int k (k.wrap (x * 2 ^ (Nat.min y.toNat k.bits)))) := rfl
@[simp] theorem shiftA_shr {k x y} : shiftA .shr k x y = if y < 0 then none else some (.int k (x.fdiv (2 ^ (Nat.min y.toNat k.bits)))) := rfl

@[simp] theorem bounds_ff {n} : bounds n false false false [] = some (0, n) := rfl
@[simp] theorem bounds_tf {n k l} : bounds n true false false [.int k l] = if 0 ≤ l ∧ l ≤ n then some (l.toNat, n) else none := by
  simp only [bounds]; split <;> simp_all
@[simp] theorem bounds_ft {n k h} : bounds n false true false [.int k h] = if 0 ≤ h ∧ h ≤ n then some (0, h.toNat) else none := by
  simp only [bounds]; split <;> simp_all

attribute [simp] Heap.at gd sv

theorem tidy_dry {live} (h : st.heap.length = st.pin) (hi : idsL (mask live st.vars) = []) : tidy live st = some { st with vars := mask live st.vars, env := [] } := by
  unfold tidy; rw [if_pos ⟨h, hi⟩]

theorem wrap_i64 {n : Int} (h0 : -9223372036854775808 ≤ n) (h : n < 9223372036854775808) : IntKind.i64.wrap n = n := by
  simp only [IntKind.wrap, IntKind.bits, IntKind.signed]; simp; omega
theorem wrap_u64 {n : Int} (h0 : 0 ≤ n) (h : n < 18446744073709551616) : IntKind.u64.wrap n = n := by
  simp only [IntKind.wrap, IntKind.bits, IntKind.signed]; simp; omega
theorem wrap_u32 {n : Int} (h0 : 0 ≤ n) (h : n < 4294967296) : IntKind.u32.wrap n = n := by
  simp only [IntKind.wrap, IntKind.bits, IntKind.signed]; simp; omega
theorem wrap_u32' {n : Int} : IntKind.u32.wrap n = n % 4294967296 := by
  simp only [IntKind.wrap, IntKind.bits, IntKind.signed]; simp
theorem wrap_u64' {n : Int} : IntKind.u64.wrap n = n % 18446744073709551616 := by
  simp only [IntKind.wrap, IntKind.bits, IntKind.signed]; simp

end Go.Ash
