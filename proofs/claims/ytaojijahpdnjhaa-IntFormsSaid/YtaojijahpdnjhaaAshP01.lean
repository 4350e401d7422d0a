/- The abstract interpreter of this work and its uses, part 1: AshOps1, AshOps2, AshOps3, AshOps4, AshOps5. -/
import Derived.Laws.Cover3
import Derived.Laws.BytesArg
import Derived.Test.YtaojijahpdnjhaaAshP00
set_option linter.all false
/- Operations that read, or give addresses: each does in the model what it does here. -/
namespace Go.Ash
section
variable {L : Link} {N : Nat → Prop} {w : World} {B : Nat → Prop} {m : PMap} {ρ : Operand → Value} {o : Oper}

theorem equalIn_ptr {P : Program} {t e : TypeId} (ht : P.underlying t = some (.pointer e)) (d : Nat) (a : Option Addr) :
    (Op.equalIn (d + 1) t (.pointer a) (.pointer none)).run P w = .ok a.isNone w := by
  cases a <;> simp [Op.equalIn, underlying, ht]
theorem equalIn_fn {P : Program} {t : TypeId} {ps rs : Array TypeId} {va : Bool} (ht : P.underlying t = some (.func ps rs va)) (d : Nat) (f : Fn) (a b : Array Value) :
    (Op.equalIn (d + 1) t (.func f a b) .nilFunc).run P w = .ok false w := by
  simp [Op.equalIn, underlying, ht]
theorem equalIn_nilfn {P : Program} {t : TypeId} {ps rs : Array TypeId} {va : Bool} (ht : P.underlying t = some (.func ps rs va)) (d : Nat) :
    (Op.equalIn (d + 1) t .nilFunc .nilFunc).run P w = .ok true w := by
  simp [Op.equalIn, underlying, ht]
theorem equalIn_ifc {P : Program} {t : TypeId} {ms : Array (String × TypeId)} (ht : P.underlying t = some (.interface ms)) (d : Nat) (ty : TypeId) (v : Value) :
    (Op.equalIn (d + 1) t (.iface ty v) .nilIface).run P w = .ok false w := by
  simp [Op.equalIn, underlying, ht]
theorem equalIn_nilif {P : Program} {t : TypeId} {ms : Array (String × TypeId)} (ht : P.underlying t = some (.interface ms)) (d : Nat) :
    (Op.equalIn (d + 1) t .nilIface .nilIface).run P w = .ok true w := by
  simp [Op.equalIn, underlying, ht]

theorem run_eqnil {P : Program} {kd : Nat} {t : TypeId} {u c : Value} {a : AVal} {b : Bool} (hk : nilKind P t = some kd) (hc : ∃ y, nilOpd y = some kd ∧ y = .const c)
    (hr : Reps L w B m u a) (hb : nilA kd a = some b) : (binOp .eql t u c).run P w = .ok (.bool b) w ∧ (binOp .neq t u c).run P w = .ok (.bool !b) w := by
  obtain ⟨y, hy, rfl⟩ := hc
  have hcc : (kd = 0 ∧ c = .slice none 0 0) ∨ (kd = 1 ∧ c = .pointer none) ∨ (kd = 2 ∧ c = .nilFunc) ∨ (kd = 3 ∧ c = .nilIface) := by
    unfold nilOpd at hy; split at hy <;> simp_all
  unfold nilKind at hk
  have eqd : ∀ (x y : Value), Op.equal t x y = Op.equalIn (9999 + 1) t x y := fun _ _ => rfl
  rcases hcc with ⟨rfl, rfl⟩ | ⟨rfl, rfl⟩ | ⟨rfl, rfl⟩ | ⟨rfl, rfl⟩
  · cases ht : P.underlying t with
    | none => rw [ht] at hk; simp at hk
    | some d =>
      rw [ht] at hk
      cases d <;> simp at hk
      rename_i e
      cases hr <;> simp [nilA] at hb <;> subst hb <;> simp [binOp, run_equal_slice_nil w t e _ _ _ ht]
  · cases ht : P.underlying t with
    | none => rw [ht] at hk; simp at hk
    | some d =>
      rw [ht] at hk
      cases d <;> simp at hk
      cases hr <;> simp [nilA] at hb <;> subst hb <;> simp only [binOp, eqd, Sem.run_bind, equalIn_ptr ht 9999, Result.andThen_ok, Sem.run_pure, Option.isNone, Bool.not_true, Bool.not_false, and_self]
  · cases ht : P.underlying t with
    | none => rw [ht] at hk; simp at hk
    | some d =>
      rw [ht] at hk
      cases d <;> simp at hk
      cases hr <;> simp [nilA] at hb <;> subst hb <;> simp only [binOp, eqd, Sem.run_bind, equalIn_fn ht 9999, equalIn_nilfn ht 9999, Result.andThen_ok, Sem.run_pure, Option.isNone, Bool.not_true, Bool.not_false, and_self]
  · cases ht : P.underlying t with
    | none => rw [ht] at hk; simp at hk
    | some d =>
      rw [ht] at hk
      cases d <;> simp at hk
      cases hr <;> simp [nilA] at hb <;> subst hb <;> simp only [binOp, eqd, Sem.run_bind, equalIn_ifc ht 9999, equalIn_nilif ht 9999, Result.andThen_ok, Sem.run_pure, Option.isNone, Bool.not_true, Bool.not_false, and_self]

theorem gives_eqnil {neg : Bool} {kd : Nat} {t u : TypeId} {x y : Operand} {a : AVal} {b : Bool} (ho : o.op = .binOp (if neg then .neq else .eql) t x y u)
    (hρ : ∀ v, ρ (.const v) = v) (hk : nilKind L.P t = some kd) (hy : nilOpd y = some kd) (ha : Reps L w B m (ρ x) a) (hb : nilA kd a = some b) :
    Gives L w B m ρ o (.bool (if neg then !b else b)) := by
  refine ⟨_, ?_, .bool _⟩
  obtain ⟨c, rfl⟩ : ∃ c, y = .const c := by
    unfold nilOpd at hy; split at hy <;> simp_all
  have hg : (eqGuard (if neg then .neq else .eql) t x (.const c) (ρ x) c).run L.P w = .ok () w := by
    unfold eqGuard
    have hcc : c = .slice none 0 0 ∨ c = .pointer none ∨ c = .nilFunc ∨ c = .nilIface := by
      unfold nilOpd at hy; split at hy <;> simp_all
    rcases hcc with rfl | rfl | rfl | rfl <;> cases neg <;> simp <;> split <;> simp_all
  obtain ⟨h1, h2⟩ := run_eqnil (P := L.P) hk ⟨_, hy, rfl⟩ ha hb
  simp only [execOp, ho, hρ]
  refine run_val ?_
  simp only [Sem.run_bind, hg, Result.andThen_ok]
  cases neg
  · exact h1
  · exact h2

/-! ### Cells -/

theorem Reps.one {v : Value} {a : AVal} (h : Reps L w B m v a) (hc : a.isCell = true) : v.oneCell' = true ∧ v.cells = #[v] ∧ a.cells = [a] := by
  cases h <;> simp_all [AVal.isCell, Value.oneCell', Value.cells, AVal.cells]

theorem Reps.cells {v : Value} {a : AVal} (h : Reps L w B m v a) (hc : a.cells.all AVal.isCell = true) :
    v.cells.size = a.cells.length ∧ ∀ (j : Nat) (c : AVal), a.cells[j]? = some c → ∃ u, v.cells[j]? = some u ∧ Reps L w B m u c ∧ u.oneCell' = true := by
  have key : a.isCell = true ∨ ∃ cs, a = .agg cs := by
    cases a <;> simp_all [AVal.isCell, AVal.cells]
  rcases key with hk | ⟨cs, rfl⟩
  · obtain ⟨h1, h2, h3⟩ := h.one hk
    refine ⟨by rw [h2, h3]; rfl, fun j c hj => ?_⟩
    rw [h3] at hj
    cases j with
    | zero => simp at hj; subst hj; exact ⟨v, by rw [h2]; rfl, h, h1⟩
    | succ j => simp at hj
  · cases h with
    | agg vs _ hl hr =>
      refine ⟨hl, fun j c hj => ?_⟩
      simp only [AVal.cells] at hj hc
      have hj' : j < vs.size := by
        rw [hl]
        rcases Nat.lt_or_ge j cs.length with h | h
        · exact h
        · simp [List.getElem?_eq_none h] at hj
      have hrj := hr j c hj
      have hg : vs.getD j undef = vs[j] := by simp [Array.getD, hj']
      rw [hg] at hrj
      have hcell : c.isCell = true := by
        have := List.all_eq_true.1 hc c (List.mem_of_getElem? hj)
        exact this
      exact ⟨vs[j], Array.getElem?_eq_getElem hj', hrj, (hrj.one hcell).1⟩

theorem run_isAgg {P : Program} {t : TypeId} {agg : Bool} (h : aggOf P t = some agg) (w : World) : (isAgg t).run P w = .ok agg w := by
  unfold aggOf at h
  cases ht : P.underlying t with
  | none => rw [ht] at h; simp at h
  | some d =>
    rw [ht] at h
    simp only [Option.map_some, Option.some.injEq] at h
    subst h
    cases d <;> simp [isAgg, underlying, ht, isAggD]

theorem run_sizeOf {P : Program} {t : TypeId} {n : Nat} (h : szOf P t = some n) (w : World) : (sizeOf t).run P w = .ok n w := by
  unfold szOf at h
  cases ht : P.info? t with
  | none => rw [ht] at h; simp at h
  | some i => rw [ht] at h; simp at h; subst h; simp [sizeOf, typeInfo, ht]

/-- Loading what lies at an address. -/
theorem run_loadVar_part {t : TypeId} {agg : Bool} {sz : Nat} {a : Addr} {cs : List AVal} {v : AVal} (hag : aggOf L.P t = some agg) (hsz : szOf L.P t = some sz)
    (hcells : ∀ (j : Nat) (c : AVal), cs[j]? = some c → ∃ u, w.cell? (a.add j) = some u ∧ Reps L w B m u c) (hv : partA agg sz cs = some v) :
    ∃ u, (loadVar t a).run L.P w = .ok u w ∧ Reps L w B m u v := by
  unfold partA at hv
  cases agg with
  | true =>
    simp only [if_true] at hv
    split at hv
    · rename_i hle
      simp only [Option.some.injEq] at hv
      subst hv
      have hx : ∀ j, j < sz → ∃ u, w.cell? (a.add j) = some u ∧ ∀ c, cs[j]? = some c → Reps L w B m u c := by
        intro j hj
        obtain ⟨u, hu, hr⟩ := hcells j cs[j] (List.getElem?_eq_getElem (by omega))
        exact ⟨u, hu, fun c hc => by rw [List.getElem?_eq_getElem (by omega)] at hc; cases hc; exact hr⟩
      let f : Nat → Value := fun j => (w.cell? (a.add j)).getD undef
      have hf : ∀ j, j < sz → w.cell? (a.add j) = some (f j) := by
        intro j hj
        obtain ⟨u, hu, _⟩ := hx j hj
        simp [f, hu]
      refine ⟨.agg ((List.range sz).map f).toArray, ?_, ?_⟩
      · simp [loadVar, run_isAgg hag, run_sizeOf hsz, run_loadCells w a sz f hf]
      · refine .agg _ _ (by simp; omega) fun i c hc => ?_
        rw [List.getElem?_take] at hc
        split at hc
        · rename_i hi
          obtain ⟨u, hu, hr⟩ := hx i hi
          have := hr c hc
          simpa [Array.getD, hi, f, hu] using this
        · simp at hc
    · simp at hv
  | false =>
    simp only [Bool.false_eq_true, if_false] at hv
    cases cs with
    | nil => simp at hv
    | cons c cs =>
      simp at hv; subst hv
      obtain ⟨u, hu, hr⟩ := hcells 0 c rfl
      exact ⟨u, by simp [loadVar, run_isAgg hag, hu, Addr.add] at hu ⊢; simp [hu], hr⟩

theorem addr_add {a : Addr} (hs : a.spot = none) (n : Nat) : a.add n = ⟨a.block, a.off + n, none⟩ := by
  obtain ⟨b, o, s⟩ := a
  simp only at hs
  subst hs
  exact Addr.add_lit b o n

theorem gives_load_ptr {t : TypeId} {agg : Bool} {sz : Nat} {x : Operand} {cs : List AVal} {v : AVal} (ho : o.op = .load t x) (hag : aggOf L.P t = some agg)
    (hsz : szOf L.P t = some sz) (ha : Reps L w B m (ρ x) (.ptr cs)) (hv : partA agg sz cs = some v) : Gives L w B m ρ o v := by
  generalize hx : ρ x = u at ha
  cases ha with
  | ptr a _ vs hspot hids hcell hrep hB =>
    obtain ⟨r, h1, h2⟩ := run_loadVar_part (a := a) hag hsz (fun j c hc => ⟨vs j, by rw [addr_add hspot]; exact hcell j c hc, hrep j c hc⟩) hv
    refine ⟨r, ?_, h2⟩
    simp only [execOp, ho, hx]
    refine run_val ?_
    simpa [Instr.loadAt, Instr.sureAddr] using h1

theorem gives_load_mptr {h : HF} (s : Sim L N w h m) {t : TypeId} {agg : Bool} {sz : Nat} {x : Operand} {id i oo : Nat} {b : Blk} {e v : AVal} (ho : o.op = .load t x)
    (hag : aggOf L.P t = some agg) (hsz : szOf L.P t = some sz) (ha : Reps L w (Bof N h m) m (ρ x) (.mptr id i oo)) (hb : h id = some b)
    (he : b.elems[i]? = some e) (hv : partA agg sz (e.cells.drop oo) = some v) : Gives L w (Bof N h m) m ρ o v := by
  generalize hx : ρ x = u at ha
  cases ha with
  | mptr _ _ _ p hm =>
    obtain ⟨q, arr, el, hq, hes, hn, harr, hszs, hcell⟩ := s.blk id b hb
    rw [hm] at hq; cases hq
    obtain ⟨r, h1, h2⟩ := run_loadVar_part (a := ⟨p.blk, p.base + i * p.esz + oo, none⟩) (B := Bof N h m) (m := m) hag hsz (fun j c hc => by
      rw [List.getElem?_drop] at hc
      obtain ⟨v, hv, hr⟩ := hcell i e (oo + j) c he hc
      refine ⟨v, ?_, hr⟩
      rw [Addr.add_lit, cells_eq harr]
      rw [← hv]; congr 1; omega) hv
    refine ⟨r, ?_, h2⟩
    simp only [execOp, ho, hx]
    refine run_val ?_
    simpa [Instr.loadAt, Instr.sureAddr] using h1

theorem gives_fld {t : TypeId} {agg : Bool} {off sz f : Nat} {x : Operand} {cs : List AVal} {v : AVal} {fields : Array Field} {fd : Field} (ho : o.op = .field t x f)
    (ht : L.P.underlying t = some (.struct fields)) (hf : fields[f]? = some fd) (hoff : fd.offset = off) (hag : aggOf L.P fd.type = some agg)
    (hsz : szOf L.P fd.type = some sz) (ha : Reps L w B m (ρ x) (.agg cs)) (hv : partA agg sz (cs.drop off) = some v) : Gives L w B m ρ o v := by
  generalize hx : ρ x = u at ha
  cases ha with
  | agg vs _ hl hr =>
    subst hoff
    have key : ∃ r, (part fd.type vs fd.offset).run L.P w = .ok r w ∧ Reps L w B m r v := by
      unfold partA at hv
      cases agg with
      | true =>
        simp only [if_true] at hv
        split at hv
        · rename_i hle
          simp only [Option.some.injEq] at hv
          subst hv
          simp at hle
          refine ⟨.agg (vs.extract fd.offset (fd.offset + sz)), by simp [part, run_isAgg hag, run_sizeOf hsz], .agg _ _ (by simp; omega) fun i c hc => ?_⟩
          rw [List.getElem?_take] at hc
          split at hc
          · rename_i hi
            rw [List.getElem?_drop] at hc
            have := hr _ c hc
            have hlt : fd.offset + i < vs.size := by
              rw [hl]
              rcases Nat.lt_or_ge (fd.offset + i) cs.length with h | h
              · exact h
              · simp [List.getElem?_eq_none h] at hc
            have e1 : (vs.extract fd.offset (fd.offset + sz)).getD i undef = vs.getD (fd.offset + i) undef := by
              have hs : i < (vs.extract fd.offset (fd.offset + sz)).size := by simp; omega
              simp only [Array.getD, dif_pos hs, dif_pos hlt]
              simp
            rw [e1]; exact this
          · simp at hc
        · simp at hv
      | false =>
        simp only [Bool.false_eq_true, if_false, List.head?_drop] at hv
        have := hr _ v hv
        have hlt : fd.offset < vs.size := by
          rw [hl]
          rcases Nat.lt_or_ge fd.offset cs.length with h | h
          · exact h
          · simp [List.getElem?_eq_none h] at hv
        refine ⟨vs[fd.offset], by simp [part, run_isAgg hag, Array.getElem?_eq_getElem hlt], ?_⟩
        simpa [Array.getD, hlt] using this
    obtain ⟨r, h1, h2⟩ := key
    refine ⟨r, ?_, h2⟩
    simp only [execOp, ho, hx]
    refine run_val ?_
    simpa [Instr.field, underlying, ht, hf, asAgg] using h1

theorem gives_faddr {t : TypeId} {off f : Nat} {x : Operand} {fields : Array Field} {fd : Field} {a v : AVal} (ho : o.op = .fieldAddr t x f)
    (ht : L.P.underlying t = some (.struct fields)) (hf : fields[f]? = some fd) (hoff : fd.offset = off) (hsz : (szOf L.P fd.type).any (· ≠ 0) = true)
    (ha : Reps L w B m (ρ x) a) (hv : (∃ cs, a = .ptr cs ∧ v = .ptr (cs.drop off)) ∨ (∃ id i oo, a = .mptr id i oo ∧ v = .mptr id i (oo + off))) : Gives L w B m ρ o v := by
  obtain ⟨sz, hs, hne⟩ : ∃ n, szOf L.P fd.type = some n ∧ n ≠ 0 := by
    cases h : szOf L.P fd.type with
    | none => rw [h] at hsz; simp at hsz
    | some n => rw [h] at hsz; simp at hsz; exact ⟨n, rfl, hsz⟩
  have run : ∀ ad : Addr, ρ x = .pointer (some ad) → (execOp ρ o).run L.P w = .ok (.value (.pointer (some (ad.add off)))) w := by
    intro ad had
    simp only [execOp, ho, had]
    refine run_val ?_
    simp [Instr.fieldAt, underlying, ht, hf, Instr.sureAddr, fieldPlace, run_sizeOf hs, hne, hoff]
  generalize hx : ρ x = u at ha run
  rcases hv with ⟨cs, rfl, rfl⟩ | ⟨id, i, oo, rfl, rfl⟩
  · cases ha with
    | ptr ad _ vs hspot hids hcell hrep hB =>
      refine ⟨_, run ad rfl, ?_⟩
      rw [addr_add hspot]
      refine .ptr _ _ (fun j => vs (off + j)) rfl (ids_of_mem fun i x hx => ?_) ?_ ?_ ?_
      · rw [List.getElem?_drop] at hx; exact idsL_mem hids hx
      · intro j c hc
        rw [List.getElem?_drop] at hc
        have := hcell _ c hc
        rwa [← Nat.add_assoc] at this
      · intro j c hc
        rw [List.getElem?_drop] at hc
        exact hrep _ c hc
      · intro hne'
        refine hB (fun h => hne' (by rw [h]; simp))
  · cases ha with
    | mptr _ _ _ p hm =>
      refine ⟨_, run _ rfl, ?_⟩
      rw [Addr.add_lit]
      have := Reps.mptr (L := L) (w := w) (B := B) (m := m) id i (oo + off) p hm
      rwa [← Nat.add_assoc] at this

theorem gd_get {xs : List AVal} {i : Nat} (h : i < xs.length) : xs[i]? = some (gd xs i) := by
  induction xs generalizing i with
  | nil => simp at h
  | cons x xs ih =>
    cases i with
    | zero => rfl
    | succ i => simp only [List.getElem?_cons_succ, gd]; exact ih (by simpa using h)

theorem run_indexAt {P : Program} {t e : TypeId} {k : IntKind} {i : Int} {esz : Nat} {ad : Addr} {len cap : Nat} (ht : P.underlying t = some (.slice e))
    (hs : szOf P e = some esz) (h0 : 0 ≤ i) (h1 : i < len) :
    (Instr.indexAt t (.slice (some ad) len cap) (.int k i)).run P w = .ok (.pointer (some (ad.add (i.toNat * esz)))) w := by
  simp [Instr.indexAt, asIntOf, underlying, ht, h0, h1, run_sizeOf hs]

theorem gives_iaddr {t e : TypeId} {esz : Nat} {x y : Operand} {n : Bool} {xs : List AVal} {k : IntKind} {i : Int} (ho : o.op = .indexAddr t x y)
    (ht : L.P.underlying t = some (.slice e)) (hs : szOf L.P e = some esz) (ha : Reps L w B m (ρ x) (.slc n xs)) (hi : Reps L w B m (ρ y) (.int k i))
    (h0 : 0 ≤ i) (h1 : i < xs.length) (hsz : (gd xs i.toNat).cells.length = esz) : Gives L w B m ρ o (.ptr (gd xs i.toNat).cells) := by
  have hlt : i.toNat < xs.length := by omega
  have hg := gd_get hlt
  generalize hx : ρ x = u at ha
  cases ha with
  | nils => simp at hlt
  | slc ad s cap _ vs hspot hcap hszs hids hcell hrep hB =>
    have hse : s = esz := by rw [← hszs _ _ hg, hsz]
    subst hse
    refine ⟨.pointer (some (ad.add (i.toNat * s))), ?_, ?_⟩
    · simp only [execOp, ho, hx, hi.int_inv]
      exact run_val (run_indexAt ht hs h0 h1)
    · rw [addr_add (hspot (fun h => by rw [h] at hlt; simp at hlt))]
      refine .ptr _ _ (fun j => vs i.toNat j) rfl (ids_cells (idsL_mem hids hg)) ?_ ?_ ?_
      · intro j c hc
        have := hcell _ _ j c hg hc
        rwa [← Nat.add_assoc] at this
      · intro j c hc; exact hrep _ _ j c hg hc
      · intro _; exact hB (fun h => by rw [h] at hlt; simp at hlt)

theorem gives_iaddr_m {h : HF} (s : Sim L N w h m) {t e : TypeId} {esz : Nat} {x y : Operand} {id off len : Nat} {k : IntKind} {i : Int} {b : Blk} (ho : o.op = .indexAddr t x y)
    (ht : L.P.underlying t = some (.slice e)) (hs : szOf L.P e = some esz) (ha : Reps L w (Bof N h m) m (ρ x) (.mslc id off len)) (hi : Reps L w (Bof N h m) m (ρ y) (.int k i))
    (h0 : 0 ≤ i) (h1 : i < len) (hb : h id = some b) (hes : b.esz = esz) : Gives L w (Bof N h m) m ρ o (.mptr id (off + i.toNat) 0) := by
  generalize hx : ρ x = u at ha
  cases ha with
  | mslc _ _ _ cap p arr el fz hm hcap hblk hroom =>
    obtain ⟨q, _, _, hq, hes', _⟩ := s.blk id b hb
    rw [hm] at hq; cases hq
    have hpe : p.esz = esz := by rw [hes', hes]
    refine ⟨.pointer (some ((⟨p.blk, p.base + off * p.esz, none⟩ : Addr).add (i.toNat * esz))), ?_, ?_⟩
    · simp only [execOp, ho, hx, hi.int_inv]
      exact run_val (run_indexAt ht hs h0 h1)
    · rw [Addr.add_lit, ← hpe]
      have := Reps.mptr (L := L) (w := w) (B := Bof N h m) (m := m) id (off + i.toNat) 0 p hm
      have e2 : p.base + (off + i.toNat) * p.esz + 0 = p.base + off * p.esz + i.toNat * p.esz := by rw [Nat.add_mul]; omega
      rwa [e2] at this

end
end Go.Ash
/- Slicing, structs built, functions made: each does in the model what it does here. -/
namespace Go.Ash
section
variable {L : Link} {N : Nat → Prop} {w : World} {B : Nat → Prop} {m : PMap} {ρ : Operand → Value} {o : Oper}

/-! ### Slicing -/

theorem run_bounds {P : Program} {lo hi mx : Option Operand} {vs : List AVal} {isS : Bool} {len cap l h : Nat} (hcap : len ≤ cap)
    (hargs : Args L w B m ρ (lo.toList ++ hi.toList ++ mx.toList) vs) (hb : bounds len lo.isSome hi.isSome mx.isSome vs = some (l, h)) :
    ∃ mm, (Instr.sliceBounds isS len cap (lo.map ρ) (hi.map ρ) (mx.map ρ)).run P w = .ok (l, h, mm) w ∧ l ≤ h ∧ h ≤ len ∧ h ≤ mm ∧ mm ≤ cap := by
  have num : ∀ (x : Operand) (v : AVal) (top n : Nat), Reps L w B m (ρ x) v →
      (match v with | .int _ i => if 0 ≤ i ∧ i ≤ top then some i.toNat else none | _ => none) = some n →
      ∀ (y : Nat) (c : BoundsCode), top ≤ y → (Instr.sliceBound (ρ x) y c).run P w = .ok n w ∧ n ≤ top := by
    intro x v top n hr hv y c hy
    split at hv
    · rename_i k i
      split at hv
      · rename_i hi
        simp only [Option.some.injEq] at hv
        subst hv
        rw [hr.int_inv]
        exact ⟨run_sliceBound w k i y c hi.1 (by omega), by omega⟩
      · simp at hv
    · simp at hv
  cases lo with
  | none =>
    cases hi with
    | none =>
      cases mx with
      | none =>
        cases hargs
        simp only [Option.isSome, bounds, Option.some.injEq, Prod.mk.injEq] at hb
        obtain ⟨rfl, rfl⟩ := hb
        exact ⟨cap, by simp [Instr.sliceBounds], by omega, by omega, by omega, by omega⟩
      | some z => cases hargs with | cons _ h2 => cases h2; simp [bounds] at hb
    | some y =>
      cases mx with
      | none =>
        obtain ⟨v, rfl, hr⟩ := All2.one hargs
        simp only [Option.isSome, bounds, Option.map_eq_some_iff] at hb
        obtain ⟨n, hn, he⟩ := hb
        simp only [Prod.mk.injEq] at he
        obtain ⟨rfl, rfl⟩ := he
        obtain ⟨h1, h2⟩ := num y v len n hr hn cap (if isS then .sliceAcap else .sliceAlen) hcap
        exact ⟨cap, by simp [Instr.sliceBounds, h1], by omega, by omega, by omega, by omega⟩
      | some z =>
        obtain ⟨v, v', rfl, hr, hr'⟩ := All2.two hargs
        simp only [Option.isSome, bounds, Option.bind_eq_some_iff, Option.map_eq_some_iff] at hb
        obtain ⟨mm, hm, n, hn, he⟩ := hb
        simp only [Prod.mk.injEq] at he
        obtain ⟨rfl, rfl⟩ := he
        obtain ⟨h1, h2⟩ := num z v' len mm hr' hm cap (if isS then .slice3Acap else .slice3Alen) hcap
        obtain ⟨h3, h4⟩ := num y v mm n hr hn mm .slice3B (Nat.le_refl _)
        exact ⟨mm, by simp [Instr.sliceBounds, h1, h3], by omega, by omega, by omega, by omega⟩
  | some x =>
    cases hi with
    | none =>
      cases mx with
      | none =>
        obtain ⟨v, rfl, hr⟩ := All2.one hargs
        simp only [Option.isSome, bounds, Option.map_eq_some_iff] at hb
        obtain ⟨n, hn, he⟩ := hb
        simp only [Prod.mk.injEq] at he
        obtain ⟨rfl, rfl⟩ := he
        obtain ⟨h1, h2⟩ := num x v len n hr hn len .sliceB (Nat.le_refl _)
        exact ⟨cap, by simp [Instr.sliceBounds, h1], by omega, by omega, by omega, by omega⟩
      | some z => obtain ⟨v, v', rfl, hr, hr'⟩ := All2.two hargs; simp [bounds] at hb
    | some y =>
      cases mx with
      | none =>
        obtain ⟨v, v', rfl, hr, hr'⟩ := All2.two hargs
        simp only [Option.isSome, bounds, Option.bind_eq_some_iff, Option.map_eq_some_iff] at hb
        obtain ⟨n, hn, l', hl', he⟩ := hb
        simp only [Prod.mk.injEq] at he
        obtain ⟨rfl, rfl⟩ := he
        obtain ⟨h1, h2⟩ := num y v' len n hr' hn cap (if isS then .sliceAcap else .sliceAlen) hcap
        obtain ⟨h3, h4⟩ := num x v n l' hr hl' n .sliceB (Nat.le_refl _)
        exact ⟨cap, by simp [Instr.sliceBounds, h1, h3], by omega, by omega, by omega, by omega⟩
      | some z =>
        cases hargs with
        | cons hr h2 =>
          obtain ⟨v', v'', rfl, hr', hr''⟩ := All2.two h2
          rename_i v
          simp only [Option.isSome, bounds, Option.bind_eq_some_iff, Option.map_eq_some_iff] at hb
          obtain ⟨mm, hm, n, hn, l', hl', he⟩ := hb
          simp only [Prod.mk.injEq] at he
          obtain ⟨rfl, rfl⟩ := he
          obtain ⟨h1, h2⟩ := num z v'' len mm hr'' hm cap (if isS then .slice3Acap else .slice3Alen) hcap
          obtain ⟨h3, h4⟩ := num y v' mm n hr' hn mm .slice3B (Nat.le_refl _)
          obtain ⟨h5, h6⟩ := num x v n l' hr hl' n .slice3C (Nat.le_refl _)
          exact ⟨mm, by simp [Instr.sliceBounds, h1, h3, h5], by omega, by omega, by omega, by omega⟩

theorem run_sliceAt {P : Program} {t e : TypeId} {esz l h mm len cap : Nat} {a : Option Addr} {lo hi mx : Option Value} (ht : P.underlying t = some (.slice e))
    (hs : szOf P e = some esz) (hb : (Instr.sliceBounds true len cap lo hi mx).run P w = .ok (l, h, mm) w) :
    (Instr.sliceAt t (.slice a len cap) lo hi mx).run P w = .ok (.slice (if mm = l then a else a.map (·.add (l * esz))) (h - l) (mm - l)) w := by
  simp [Instr.sliceAt, Instr.slice, underlying, ht, hb, run_sizeOf hs]

theorem gives_slice {t e : TypeId} {esz : Nat} {x : Operand} {lo hi mx : Option Operand} {n : Bool} {xs vs : List AVal} {l h : Nat} (ho : o.op = .slice t x lo hi mx)
    (ht : L.P.underlying t = some (.slice e)) (hs : szOf L.P e = some esz) (ha : Reps L w B m (ρ x) (.slc n xs))
    (hargs : Args L w B m ρ (lo.toList ++ hi.toList ++ mx.toList) vs) (hb : bounds xs.length lo.isSome hi.isSome mx.isSome vs = some (l, h))
    (hg : l = 0 ∨ ∀ x ∈ xs, x.cells.length = esz) : Gives L w B m ρ o (.slc n ((xs.take h).drop l)) := by
  generalize hx : ρ x = u at ha
  have run : ∀ a len cap mm, u = .slice a len cap → (Instr.sliceBounds true len cap (lo.map ρ) (hi.map ρ) (mx.map ρ)).run L.P w = .ok (l, h, mm) w →
      (execOp ρ o).run L.P w = .ok (.value (.slice (if mm = l then a else a.map (·.add (l * esz))) (h - l) (mm - l))) w := by
    intro a len cap mm hu hb
    simp only [execOp, ho, hx, hu]
    exact run_val (run_sliceAt ht hs hb)
  cases ha with
  | nils =>
    obtain ⟨mm, h1, h2, h3, h4, h5⟩ := run_bounds (P := L.P) (isS := true) (cap := 0) (Nat.le_refl 0) hargs hb
    simp at h3
    have e1 : l = 0 := by omega
    have e2 : mm = 0 := by omega
    subst e1; subst e2; subst h3
    exact ⟨_, run none 0 0 0 rfl h1, by simpa using Reps.nils⟩
  | slc ad s cap _ us hspot hcap hszs hids hcell hrep hB =>
    obtain ⟨mm, h1, h2, h3, h4, h5⟩ := run_bounds (P := L.P) (isS := true) (cap := cap) hcap hargs hb
    refine ⟨_, run (some ad) xs.length cap mm rfl h1, ?_⟩
    have hlen : ((xs.take h).drop l).length = h - l := by simp; omega
    have hget : ∀ (i : Nat) (y : AVal), ((xs.take h).drop l)[i]? = some y → xs[l + i]? = some y := by
      intro i y hy
      rw [List.getElem?_drop, List.getElem?_take] at hy
      split at hy
      · exact hy
      · simp at hy
    have hids' : idsL ((xs.take h).drop l) = [] := ids_of_mem fun i y hy => idsL_mem hids (hget i y hy)
    rw [← hlen]
    by_cases hml : mm = l
    · have hnil : ((xs.take h).drop l) = [] := List.eq_nil_of_length_eq_zero (by omega)
      rw [if_pos hml, hnil]
      exact .slc ad s (mm - l) [] us (fun h => absurd rfl h) (by simp) (by simp) rfl (by simp) (by simp) (by simp)
    · rw [if_neg hml]
      simp only [Option.map_some]
      by_cases hne : xs = []
      · have hnil : ((xs.take h).drop l) = [] := by simp [hne]
        rw [hnil]
        exact .slc _ s (mm - l) [] us (fun h => absurd rfl h) (by simp) (by simp) rfl (by simp) (by simp) (by simp)
      rw [addr_add (hspot hne)]
      have hse : l * esz = l * s := by
        rcases hg with h0 | hg
        · rw [h0]; simp
        · cases xs with
          | nil => exact absurd rfl hne
          | cons y ys => rw [← hszs 0 y rfl, hg y (by simp)]
      rw [hse]
      refine .slc _ s (mm - l) _ (fun i j => us (l + i) j) (fun _ => rfl) (by omega) ?_ hids' ?_ ?_ ?_
      · intro i y hy; exact hszs _ _ (hget i y hy)
      · intro i y j c hy hc
        have := hcell _ _ j c (hget i y hy) hc
        have e : ad.off + l * s + (i * s + j) = ad.off + ((l + i) * s + j) := by rw [Nat.add_mul]; omega
        show w.cell? ⟨ad.block, ad.off + l * s + (i * s + j), none⟩ = _
        rw [e]; exact this
      · intro i y j c hy hc; exact hrep _ _ j c (hget i y hy) hc
      · intro _; exact hB hne

theorem gives_slice_m {t e : TypeId} {esz : Nat} {x : Operand} {lo hi mx : Option Operand} {id off len : Nat} {vs : List AVal} {l h : Nat} {p : Pl} (ho : o.op = .slice t x lo hi mx)
    (ht : L.P.underlying t = some (.slice e)) (hs : szOf L.P e = some esz) (ha : Reps L w B m (ρ x) (.mslc id off len)) (hp : m id = some p) (hpe : p.esz = esz)
    (hargs : Args L w B m ρ (lo.toList ++ hi.toList ++ mx.toList) vs) (hb : bounds len lo.isSome hi.isSome mx.isSome vs = some (l, h)) :
    Gives L w B m ρ o (if l = 0 then .mslc id off h else if l = h then .slc false [] else .mslc id (off + l) (h - l)) := by
  generalize hx : ρ x = u at ha
  cases ha with
  | mslc _ _ _ cap q arr el fz hm hcap hblk hroom =>
    rw [hp] at hm; cases hm
    obtain ⟨mm, h1, h2, h3, h4, h5⟩ := run_bounds (P := L.P) (isS := true) (cap := cap) hcap hargs hb
    refine ⟨.slice (if mm = l then some ⟨p.blk, p.base + off * p.esz, none⟩ else (some (⟨p.blk, p.base + off * p.esz, none⟩ : Addr)).map (·.add (l * esz))) (h - l) (mm - l), ?_, ?_⟩
    · simp only [execOp, ho, hx]
      exact run_val (run_sliceAt ht hs h1)
    · by_cases hl0 : l = 0
      · subst hl0
        rw [if_pos rfl]
        have e : (if mm = 0 then some (⟨p.blk, p.base + off * p.esz, none⟩ : Addr) else (some (⟨p.blk, p.base + off * p.esz, none⟩ : Addr)).map (·.add (0 * esz))) = some ⟨p.blk, p.base + off * p.esz, none⟩ := by
          split <;> simp [Addr.add]
        rw [e]
        refine .mslc id off h mm p arr el fz hp (by omega) hblk ?_
        refine Nat.le_trans ?_ hroom
        exact Nat.add_le_add_left (Nat.mul_le_mul_right _ (by omega)) _
      · rw [if_neg hl0]
        by_cases hlh : l = h
        · subst hlh
          rw [if_pos rfl, Nat.sub_self]
          by_cases hml : mm = l
          · rw [if_pos hml]
            exact .slc _ 0 (mm - l) [] (fun _ _ => undef) (fun _ => rfl) (by simp) (by simp) rfl (by simp) (by simp) (by simp)
          · rw [if_neg hml]
            simp only [Option.map_some]
            rw [Addr.add_lit]
            exact .slc _ 0 (mm - l) [] (fun _ _ => undef) (fun _ => rfl) (by simp) (by simp) rfl (by simp) (by simp) (by simp)
        · rw [if_neg hlh, if_neg (by omega)]
          simp only [Option.map_some]
          rw [Addr.add_lit, ← hpe]
          have e : p.base + off * p.esz + l * p.esz = p.base + (off + l) * p.esz := by rw [Nat.add_mul]; omega
          rw [e]
          refine .mslc id (off + l) (h - l) (mm - l) p arr el fz hp (by omega) hblk ?_
          refine Nat.le_trans ?_ hroom
          exact Nat.add_le_add_left (Nat.mul_le_mul_right _ (by omega)) _

theorem gives_slice_s {t : TypeId} {x : Operand} {lo hi : Option Operand} {s : ByteArray} {vs : List AVal} {l h : Nat} (ho : o.op = .slice t x lo hi none)
    (ht : L.P.underlying t = some .string) (ha : Reps L w B m (ρ x) (.str s))
    (hargs : Args L w B m ρ (lo.toList ++ hi.toList) vs) (hb : bounds s.size lo.isSome hi.isSome false vs = some (l, h)) :
    Gives L w B m ρ o (.str (s.extract l h)) := by
  obtain ⟨mm, h1, _⟩ := run_bounds (P := L.P) (mx := none) (isS := false) (cap := s.size) (Nat.le_refl _) (by simpa using hargs) hb
  refine ⟨_, ?_, .str _⟩
  simp only [execOp, ho, ha.str_inv]
  refine run_val ?_
  simp only [Option.map_none] at h1
  simp [Instr.sliceAt, Instr.slice, underlying, ht, h1]

/-! ### Functions made -/

theorem args_arr {xs : Array Operand} {vs : List AVal} (h : Args L w B m ρ xs.toList vs) : (xs.map ρ).size = vs.length ∧
    ∀ (i : Nat) (c : AVal), vs[i]? = some c → Reps L w B m ((xs.map ρ).getD i undef) c := by
  have hl := h.length
  refine ⟨by simpa using hl, fun i c hc => ?_⟩
  have hi : i < xs.size := by
    have : i < vs.length := by
      rcases Nat.lt_or_ge i vs.length with h | h
      · exact h
      · simp [List.getElem?_eq_none h] at hc
    simp at hl; omega
  have := h.get (i := i) (a := xs[i]) (by simp [hi]) hc
  simpa [Array.getD, hi] using this

theorem All2.split {α β : Type} {R : α → β → Prop} {as as' : List α} {bs : List β} (h : All2 R (as ++ as') bs) :
    All2 R as (bs.take as.length) ∧ All2 R as' (bs.drop as.length) := by
  induction as generalizing bs with
  | nil => exact ⟨.nil, by simpa using h⟩
  | cons a as ih =>
    cases h with
    | cons h1 h2 =>
      obtain ⟨h3, h4⟩ := ih h2
      exact ⟨.cons h1 h3, h4⟩

theorem gives_mkfn {f g : Nat} {first cap : Array Operand} {vs : List AVal} (ho : o.op = .makeFunc (.func f) first cap) (hf : L.fn g = f) (hok : L.ok g)
    (hargs : Args L w B m ρ (first.toList ++ cap.toList) vs) : Gives L w B m ρ o (.fn g (vs.take first.size) (vs.drop first.size)) := by
  obtain ⟨h1, h2⟩ := All2.split hargs
  simp only [Array.length_toList] at h1 h2
  obtain ⟨h3, h4⟩ := args_arr h1
  obtain ⟨h5, h6⟩ := args_arr h2
  refine ⟨.func (.func (L.fn g)) (first.map ρ) (cap.map ρ), ?_, .fn g _ _ _ _ hok h3 h5 h4 h6⟩
  simp [execOp, ho, Instr.makeFunc, hf]

/-! ### Structs built -/

theorem setAll_length (cs : List AVal) (o : Nat) (vs : List AVal) : (setAll cs o vs).length = cs.length := by
  induction vs generalizing cs o with
  | nil => rfl
  | cons v vs ih => simp [setAll, ih]

theorem setAll_get (vs : List AVal) : ∀ (cs : List AVal) (o j : Nat), o + vs.length ≤ cs.length →
    (setAll cs o vs)[j]? = if o ≤ j ∧ j < o + vs.length then vs[j - o]? else cs[j]? := by
  induction vs with
  | nil => intro cs o j _; simp [setAll]; omega
  | cons v vs ih =>
    intro cs o j h
    simp only [List.length_cons] at h
    simp only [setAll]
    rw [ih _ _ _ (by simp; omega)]
    by_cases hj : o = j
    · subst hj
      rw [if_neg (by omega), if_pos (by simp), List.getElem?_set_self (by omega)]
      simp
    · by_cases h1 : o + 1 ≤ j ∧ j < o + 1 + vs.length
      · rw [if_pos h1, if_pos (by simp; omega)]
        have : j - o = (j - (o + 1)) + 1 := by omega
        rw [this, List.getElem?_cons_succ]
      · rw [if_neg h1, if_neg (by simp; omega), List.getElem?_set_ne hj]

theorem foldl_set (l : List Value) : ∀ (off k : Nat) (cs : Array Value), off + k + l.length ≤ cs.size →
    (∀ j, ((l.zipIdx k).foldl (fun (cs : Array Value) (c : Value × Nat) => cs.setIfInBounds (off + c.2) c.1) cs)[j]? = if off + k ≤ j ∧ j < off + k + l.length then l[j - (off + k)]? else cs[j]?) ∧
    ((l.zipIdx k).foldl (fun (cs : Array Value) (c : Value × Nat) => cs.setIfInBounds (off + c.2) c.1) cs).size = cs.size := by
  induction l with
  | nil => intro off k cs _; exact ⟨fun j => by simp; omega, by simp⟩
  | cons v l ih =>
    intro off k cs h
    simp only [List.length_cons] at h
    simp only [List.zipIdx_cons, List.foldl_cons]
    obtain ⟨h1, h2⟩ := ih off (k + 1) (cs.setIfInBounds (off + k) v) (by simp; omega)
    refine ⟨fun j => ?_, by rw [h2]; simp⟩
    rw [h1]
    by_cases hj : off + k = j
    · subst hj
      rw [if_neg (by omega), if_pos (by simp), Array.getElem?_setIfInBounds_self_of_lt (by omega)]
      simp
    · by_cases h3 : off + (k + 1) ≤ j ∧ j < off + (k + 1) + l.length
      · rw [if_pos h3, if_pos (by simp; omega)]
        have : j - (off + k) = (j - (off + (k + 1))) + 1 := by omega
        rw [this, List.getElem?_cons_succ]
      · rw [if_neg h3, if_neg (by simp; omega), Array.getElem?_setIfInBounds_ne hj]

/-- Cells that stand for a list. -/
def CellsRep (L : Link) (w : World) (B : Nat → Prop) (m : PMap) (arr : Array Value) (cs : List AVal) : Prop :=
  arr.size = cs.length ∧ ∀ (j : Nat) (c : AVal), cs[j]? = some c → ∃ u, arr[j]? = some u ∧ Reps L w B m u c

theorem fill_ok {pl : Nat → Option (Nat × Nat)} : ∀ (parts : List (Nat × Operand)) (ps : List (Nat × Nat)) (vs cs cs' : List AVal) (arr : Array Value),
    parts.map (fun q => pl q.1) = ps.map some → Args L w B m ρ (parts.map (·.2)) vs → CellsRep L w B m arr cs → fillA cs ps vs = some cs' →
    ∃ arr', Instr.fill pl arr (parts.map fun (i, x) => (i, ρ x)) = some arr' ∧ CellsRep L w B m arr' cs'
  | [], ps, vs, cs, cs', arr, hps, hargs, hc, hf => by
    cases ps with
    | nil => cases hargs; simp [fillA] at hf; subst hf; exact ⟨arr, rfl, hc⟩
    | cons _ _ => simp at hps
  | (i, x) :: parts, ps, vs, cs, cs', arr, hps, hargs, hc, hf => by
    cases ps with
    | nil => simp at hps
    | cons q ps =>
      obtain ⟨off, size⟩ := q
      simp only [List.map_cons, List.cons.injEq] at hps
      cases hargs with
      | cons hr hargs =>
        rename_i v vs
        simp only [fillA] at hf
        split at hf
        · rename_i hcond
          obtain ⟨hlen, hall, hle⟩ := hcond
          obtain ⟨hsz, hcells⟩ := hr.cells hall
          have hsz' : (ρ x).cells.size = v.cells.length := hsz
          obtain ⟨hg, hgs⟩ := foldl_set (ρ x).cells.toList off 0 arr (by simp [hsz', hc.1]; omega)
          simp only [Nat.add_zero, Array.length_toList] at hg hgs
          have hc' : CellsRep L w B m (((ρ x).cells.toList.zipIdx 0).foldl (fun (cs : Array Value) (c : Value × Nat) => cs.setIfInBounds (off + c.2) c.1) arr) (setAll cs off v.cells) := by
            refine ⟨by rw [hgs, setAll_length]; exact hc.1, fun j c hj => ?_⟩
            rw [setAll_get _ _ _ _ (by omega)] at hj
            rw [hg, hsz']
            split at hj
            · rename_i hin
              rw [if_pos hin]
              obtain ⟨u, hu, hru, _⟩ := hcells _ _ hj
              exact ⟨u, by simpa using hu, hru⟩
            · rename_i hin
              rw [if_neg hin]
              exact hc.2 j c hj
          obtain ⟨arr', h1, h2⟩ := fill_ok parts ps vs _ cs' _ hps.2 hargs hc' hf
          refine ⟨arr', ?_, h2⟩
          simp only [List.map_cons, Instr.fill, hps.1]
          have hne : ¬ ((ρ x).cells.size ≠ size ∨ off + (ρ x).cells.size > arr.size) := by
            rw [hsz', hc.1]; omega
          have hne' : (decide ((ρ x).cells.size ≠ size) || decide (off + (ρ x).cells.size > arr.size)) = false := by
            simp only [ne_eq, not_or, Decidable.not_not] at hne
            simp [hne.1]; omega
          rw [if_neg (by rw [hne']; simp)]
          have e : (ρ x).cells.zipIdx.foldl (fun (cs : Array Value) (c : Value × Nat) => cs.setIfInBounds (off + c.2) c.1) arr =
              ((ρ x).cells.toList.zipIdx 0).foldl (fun (cs : Array Value) (c : Value × Nat) => cs.setIfInBounds (off + c.2) c.1) arr := by
            rw [← Array.foldl_toList]; simp
          rw [e]
          exact h1
        · simp at hf

end
end Go.Ash
/- Operations that make or write blocks: each does in the model what it does here. -/
namespace Go.Ash
section
variable {L : Link} {N : Nat → Prop} {w : World} {h : HF} {B : Nat → Prop} {m : PMap} {ρ : Operand → Value} {o : Oper}

theorem run_places {P : Program} : ∀ (fs : List Field), (∀ f ∈ fs, (szOf P f.type).isSome = true) →
    (fs.mapM fun f => do pure (f.offset, ← sizeOf f.type) : Sem (List (Nat × Nat))).run P w = .ok (fs.map fun f => (f.offset, (szOf P f.type).getD 0)) w
  | [], _ => by simp
  | f :: fs, hf => by
    obtain ⟨n, hn⟩ := Option.isSome_iff_exists.1 (hf f (by simp))
    simp only [List.mapM_cons, Sem.run_bind, run_sizeOf hn, Result.andThen_ok, Sem.run_pure, run_places fs (fun g hg => hf g (by simp [hg])), List.map_cons, hn, Option.getD_some]

theorem gives_build {t : TypeId} {parts : Array (Nat × Operand)} {ps : List (Nat × Nat)} {zero vs cs : List AVal} {z : Value} {fields : Array Field} (ho : o.op = .build t parts)
    (hz : zeroOf L.P t = some z) (ht : L.P.underlying t = some (.struct fields)) (hzr : constRepL zero z.cells.toList = true)
    (hall : fields.toList.all (fun f => (szOf L.P f.type).isSome) = true)
    (hps : parts.toList.map (fun q => (fields[q.1]?).map fun f => (f.offset, (szOf L.P f.type).getD 0)) = ps.map some)
    (hargs : Args L w B m ρ (parts.toList.map (·.2)) vs) (hf : fillA zero ps vs = some cs) : Gives L w B m ρ o (.agg cs) := by
  obtain ⟨hl, hr⟩ := constRepL_reps (L := L) (w := w) (B := B) (m := m) zero _ hzr
  have hc : CellsRep L w B m z.cells zero := by
    refine ⟨by simpa using hl, fun j c hj => ?_⟩
    have := hr j c hj
    have hlt : j < z.cells.size := by
      have : j < zero.length := by
        rcases Nat.lt_or_ge j zero.length with h | h
        · exact h
        · simp [List.getElem?_eq_none h] at hj
      simp at hl; omega
    exact ⟨z.cells[j], Array.getElem?_eq_getElem hlt, by simpa [hlt] using this⟩
  let pl : Nat → Option (Nat × Nat) := fun i => (fields.map fun f => (f.offset, (szOf L.P f.type).getD 0))[i]?
  have hps' : parts.toList.map (fun q => pl q.1) = ps.map some := by
    rw [← hps]
    apply List.map_congr_left
    intro q _
    simp [pl]
  obtain ⟨arr', h1, h2⟩ := fill_ok (pl := pl) parts.toList ps vs zero cs z.cells hps' hargs hc hf
  refine ⟨.agg arr', ?_, ?_⟩
  · simp only [execOp, ho]
    refine run_val ?_
    obtain ⟨i, hi, hiz⟩ : ∃ i, L.P.info? t = some i ∧ i.zero = some z := by
      unfold zeroOf at hz
      cases hi : L.P.info? t with
      | none => rw [hi] at hz; simp at hz
      | some i => rw [hi] at hz; exact ⟨i, rfl, hz⟩
    have hm : (fields.mapM fun f => do pure (f.offset, ← sizeOf f.type) : Sem (Array (Nat × Nat))).run L.P w = .ok (fields.map fun f => (f.offset, (szOf L.P f.type).getD 0)) w := by
      rw [Array.mapM_eq_mapM_toList]
      simp only [Sem.run_map, run_places fields.toList (fun f hf => List.all_eq_true.1 hall f hf), Result.andThen_ok]
      congr 1
      rw [← Array.toList_map, Array.toArray_toList]
    have e : (parts.map fun x => (x.fst, ρ x.snd)).toList = parts.toList.map fun x => (x.1, ρ x.2) := by simp
    simp only [Instr.build, zeroValue, typeInfo, Sem.run_bind, run_program, Result.andThen_ok, hi, Sem.run_pure, hiz, underlying, ht, hm, e]
    have h1' : Instr.fill (fun i => (fields.map fun f => (f.offset, (szOf L.P f.type).getD 0))[i]?) z.cells (parts.toList.map fun x => (x.1, ρ x.2)) = some arr' := h1
    rw [h1']
    rfl
  · refine .agg arr' cs h2.1 fun i c hc => ?_
    obtain ⟨u, hu, hru⟩ := h2.2 i c hc
    have hlt := (Array.getElem?_eq_some_iff.1 hu).1
    simpa [Array.getD, hlt, (Array.getElem?_eq_some_iff.1 hu).2] using hru

/-- What an operation leaves that may touch blocks. -/
def nextVal : Next → Value
  | .value v => v
  | _ => undef

def plainNext : Next → Prop
  | .value _ => True
  | .skip => True
  | _ => False

structure Does (L : Link) (N : Nat → Prop) (w : World) (h : HF) (m : PMap) (ρ : Operand → Value) (o : Oper) (v : AVal) (h' : HF) (fresh : Nat) : Prop where
  does : ∃ r w' m', (execOp ρ o).run L.P w = .ok r w' ∧ plainNext r ∧ Step L N w h m w' h' m' ∧ (∀ id, id ≠ fresh → m' id = m id) ∧ (h' fresh = none → m' fresh = none) ∧
    Reps L w' (Bof N h' m') m' (nextVal r) v

theorem Gives.does {v : AVal} (s : Sim L N w h m) (g : Gives L w (Bof N h m) m ρ o v) {fresh : Nat} (hmf : m fresh = none) : Does L N w h m ρ o v h fresh := by
  obtain ⟨u, hu, hr⟩ := g
  exact ⟨.value u, w, m, hu, trivial, Step.refl s, fun _ _ => rfl, fun _ => hmf, hr⟩

theorem does_newVar (s : Sim L N w h m) {fresh : Nat} (hf : h fresh = none) (hmf : m fresh = none) {el : TypeId} {u : Value} {v : AVal}
    (hr : Reps L w (Bof N h m) m u v) (hc : v.cells.all AVal.isCell = true ∨ u.cells.size = v.cells.length ∧ ∀ (j : Nat) (c : AVal), v.cells[j]? = some c → ∃ x, u.cells[j]? = some x ∧ Reps L w (Bof N h m) m x c)
    (hrun : (execOp ρ o).run L.P w = .ok (.value (.pointer (some ⟨w.heap.size, 0, none⟩))) (w.alloc (.cells u.cells el))) :
    Does L N w h m ρ o (.mptr fresh 0 0) (upd h fresh (some ⟨false, v.cells.length, [v]⟩)) fresh := by
  have hcells : u.cells.size = v.cells.length ∧ ∀ (j : Nat) (c : AVal), v.cells[j]? = some c → ∃ x, u.cells[j]? = some x ∧ Reps L w (Bof N h m) m x c := by
    rcases hc with hc | hc
    · obtain ⟨h1, h2⟩ := hr.cells hc
      exact ⟨h1, fun j c hj => let ⟨x, a, b, _⟩ := h2 j c hj; ⟨x, a, b⟩⟩
    · exact hc
  refine ⟨_, _, upd m fresh (some ⟨w.heap.size, 0, v.cells.length⟩), hrun, trivial, ?_, fun id hid => upd_ne _ _ hid, (fun h => by rw [upd_same] at h; cases h), ?_⟩
  · refine Step.new s (WExt.alloc w _) (heap_alloc_new w _) hf hmf ?_ ?_
    · intro i x hx
      cases i with
      | zero => simp at hx; subst hx; rfl
      | succ i => simp at hx
    · intro i x j c hx hj
      cases i with
      | zero =>
        simp at hx; subst hx
        obtain ⟨u', hu', hr'⟩ := hcells.2 j c hj
        exact ⟨u', by simpa using hu', hr'⟩
      | succ i => simp at hx
  · have := Reps.mptr (L := L) (w := w.alloc (.cells u.cells el)) (B := Bof N (upd h fresh (some ⟨false, v.cells.length, [v]⟩)) (upd m fresh (some ⟨w.heap.size, 0, v.cells.length⟩)))
      (m := upd m fresh (some ⟨w.heap.size, 0, v.cells.length⟩)) fresh 0 0 ⟨w.heap.size, 0, v.cells.length⟩ (upd_same _ _ _)
    simpa [nextVal] using this

theorem does_box (s : Sim L N w h m) {fresh : Nat} (hf : h fresh = none) (hmf : m fresh = none) {el : TypeId} {x : Operand} {v : AVal} (ho : o.op = .box el x)
    (hr : Reps L w (Bof N h m) m (ρ x) v) (hc : v.cells.all AVal.isCell = true) :
    Does L N w h m ρ o (.mptr fresh 0 0) (upd h fresh (some ⟨false, v.cells.length, [v]⟩)) fresh := by
  refine does_newVar (el := el) s hf hmf hr (.inl hc) ?_
  simp only [execOp, ho]
  refine run_val ?_
  simp [Instr.box, newVar, newRow]

theorem zero_cells {zero : AVal} {z : Value} (h : constRep zero z = true) : z.cells.size = zero.cells.length ∧
    ∀ (j : Nat) (c : AVal), zero.cells[j]? = some c → ∃ x, z.cells[j]? = some x ∧ Reps L w B m x c := by
  have hr := constRep_reps (L := L) (w := w) (B := B) (m := m) zero z h
  cases zero <;> try (
    have e : z.cells = #[z] := by cases hr <;> first | rfl | (simp [constRep] at h)
    refine ⟨by rw [e]; rfl, fun j c hj => ?_⟩
    simp only [AVal.cells] at hj
    cases j with
    | zero => simp at hj; subst hj; exact ⟨z, by rw [e]; rfl, hr⟩
    | succ j => simp at hj)
  rename_i cs
  cases hr with
  | agg vs _ hl hr =>
    refine ⟨hl, fun j c hj => ?_⟩
    simp only [AVal.cells] at hj
    have hlt : j < vs.size := by
      rw [hl]
      rcases Nat.lt_or_ge j cs.length with h | h
      · exact h
      · simp [List.getElem?_eq_none h] at hj
    have := hr j c hj
    exact ⟨vs[j], Array.getElem?_eq_getElem hlt, by simpa [Array.getD, hlt] using this⟩

theorem zero_info {P : Program} {t : TypeId} {z : Value} (h : zeroOf P t = some z) : ∃ i, P.info? t = some i ∧ i.zero = some z := by
  unfold zeroOf at h
  cases hi : P.info? t with
  | none => rw [hi] at h; simp at h
  | some i => rw [hi] at h; exact ⟨i, rfl, h⟩

theorem does_alloc (s : Sim L N w h m) {fresh : Nat} (hf : h fresh = none) (hmf : m fresh = none) {t : TypeId} {zero : AVal} {z : Value} (ho : o.op = .alloc t)
    (hz : zeroOf L.P t = some z) (hzr : constRep zero z = true) :
    Does L N w h m ρ o (.mptr fresh 0 0) (upd h fresh (some ⟨false, zero.cells.length, [zero]⟩)) fresh := by
  refine does_newVar (el := t) (u := z) s hf hmf (constRep_reps _ _ hzr) (.inr (zero_cells hzr)) ?_
  obtain ⟨i, hi, hiz⟩ := zero_info hz
  simp only [execOp, ho]
  refine run_val ?_
  simp [Instr.alloc, zeroValue, typeInfo, hi, hiz, newVar, newRow]

/-- Cells of a row of elements. -/
def RowRep (L : Link) (w : World) (B : Nat → Prop) (m : PMap) (esz : Nat) (arr : Array Value) (xs : List AVal) : Prop :=
  arr.size = xs.length * esz ∧ (∀ x ∈ xs, x.cells.length = esz) ∧
  ∀ (i : Nat) (x : AVal) (j : Nat) (c : AVal), xs[i]? = some x → x.cells[j]? = some c → ∃ u, arr[i * esz + j]? = some u ∧ Reps L w B m u c

theorem place_ok {esz : Nat} (he : 0 < esz) : ∀ (parts : List (Nat × Operand)) (vs xs xs' : List AVal) (arr : Array Value),
    Args L w B m ρ (parts.map (·.2)) vs → (∀ q ∈ parts, q.1 < xs.length) → goodElems esz vs = true → RowRep L w B m esz arr xs → placeAll xs (parts.map (·.1)) vs = some xs' →
    ∃ arr', Instr.fill (fun i => some (i * esz, esz)) arr (parts.map fun (i, x) => (i, ρ x)) = some arr' ∧ RowRep L w B m esz arr' xs'
  | [], vs, xs, xs', arr, hargs, _, _, hr, hp => by
    cases hargs
    simp [placeAll] at hp; subst hp
    exact ⟨arr, rfl, hr⟩
  | (i, x) :: parts, vs, xs, xs', arr, hargs, hlt, hg, hr, hp => by
    cases hargs with
    | cons hv hargs =>
      rename_i v vs
      simp only [List.map_cons, placeAll] at hp
      simp only [goodElems, List.all_cons, Bool.and_eq_true, beq_iff_eq] at hg
      obtain ⟨⟨hvl, hvc⟩, hg⟩ := hg
      obtain ⟨hsz, hcells⟩ := hv.cells hvc
      have hil : i < xs.length := hlt (i, x) (by simp)
      have hroom : i * esz + esz ≤ arr.size := by
        rw [hr.1, ← Nat.succ_mul]; exact Nat.mul_le_mul_right _ hil
      obtain ⟨hgt, hgs⟩ := foldl_set (ρ x).cells.toList (i * esz) 0 arr (by simp [hsz, hvl]; omega)
      simp only [Nat.add_zero, Array.length_toList] at hgt hgs
      have hr' : RowRep L w B m esz (((ρ x).cells.toList.zipIdx 0).foldl (fun (cs : Array Value) (c : Value × Nat) => cs.setIfInBounds (i * esz + c.2) c.1) arr) (xs.set i v) := by
        refine ⟨by rw [hgs, hr.1]; simp, ?_, ?_⟩
        · intro y hy
          rcases List.mem_or_eq_of_mem_set hy with h | h
          · exact hr.2.1 y h
          · rw [h]; exact hvl
        · intro k y j c hy hj
          rw [hgt, hsz, hvl]
          by_cases hki : k = i
          · subst hki
            rw [List.getElem?_set_self hil] at hy
            cases hy
            have hjl : j < esz := by
              rw [← hvl]
              rcases Nat.lt_or_ge j v.cells.length with h | h
              · exact h
              · simp [List.getElem?_eq_none h] at hj
            rw [if_pos (by omega)]
            obtain ⟨u, hu, hru, _⟩ := hcells j c hj
            exact ⟨u, by simpa using hu, hru⟩
          · rw [List.getElem?_set_ne (Ne.symm hki)] at hy
            have hyl := hr.2.1 y (List.mem_of_getElem? hy)
            have hjl : j < esz := by
              rw [← hyl]
              rcases Nat.lt_or_ge j y.cells.length with h | h
              · exact h
              · simp [List.getElem?_eq_none h] at hj
            have hne : ¬ (i * esz ≤ k * esz + j ∧ k * esz + j < i * esz + esz) := by
              rintro ⟨h1, h2⟩
              rcases Nat.lt_or_gt_of_ne hki with hlt | hgt
              · have := Nat.mul_le_mul_right esz (Nat.succ_le_of_lt hlt)
                rw [Nat.succ_mul] at this; omega
              · have := Nat.mul_le_mul_right esz (Nat.succ_le_of_lt hgt)
                rw [Nat.succ_mul] at this; omega
            rw [if_neg hne]
            exact hr.2.2 k y j c hy hj
      obtain ⟨arr', h1, h2⟩ := place_ok he parts vs _ xs' _ hargs (fun q hq => by simpa using hlt q (by simp [hq])) hg hr' hp
      refine ⟨arr', ?_, h2⟩
      simp only [List.map_cons, Instr.fill]
      have hne' : (decide ((ρ x).cells.size ≠ esz) || decide (i * esz + (ρ x).cells.size > arr.size)) = false := by
        have : (ρ x).cells.size = esz := by rw [hsz]; exact hvl
        simp [this]; omega
      rw [if_neg (by rw [hne']; simp)]
      have e : (ρ x).cells.zipIdx.foldl (fun (cs : Array Value) (c : Value × Nat) => cs.setIfInBounds (i * esz + c.2) c.1) arr =
          ((ρ x).cells.toList.zipIdx 0).foldl (fun (cs : Array Value) (c : Value × Nat) => cs.setIfInBounds (i * esz + c.2) c.1) arr := by
        rw [← Array.foldl_toList]; simp
      rw [e]
      exact h1

theorem does_newRow (s : Sim L N w h m) {fresh esz n c : Nat} (hf : h fresh = none) (hmf : m fresh = none) {el : TypeId} {arr : Array Value} {xs : List AVal} {w1 : World}
    (hn : xs.length = n) (hnc : n ≤ c) (hroom : c * esz ≤ arr.size) (hsz : ∀ x ∈ xs, x.cells.length = esz) (hw1 : w1.heap = w.heap) (hr1 : w1.os = w.os ∧ w1.tape = w.tape ∧ w1.output = w.output)
    (hcell : ∀ (i : Nat) (x : AVal) (j : Nat) (c : AVal), xs[i]? = some x → x.cells[j]? = some c → ∃ u, arr[i * esz + j]? = some u ∧ Reps L w (Bof N h m) m u c)
    (hrun : (execOp ρ o).run L.P w = .ok (.value (.slice (some ⟨w.heap.size, 0, none⟩) n c)) (w1.alloc (.cells arr el))) :
    Does L N w h m ρ o (.mslc fresh 0 n) (upd h fresh (some ⟨false, esz, xs⟩)) fresh := by
  have hnew : (w1.alloc (.cells arr el)).heap[w.heap.size]? = some (.cells arr el (0, 0)) := by
    rw [← hw1]; exact heap_alloc_new w1 _
  have hext : WExt (fun _ => False) w (w1.alloc (.cells arr el)) := by
    have := WExt.alloc w1 (.cells arr el)
    exact ⟨by have := this.size; rw [hw1] at this; exact this, fun b hb hn => by have := this.old b (by rw [hw1]; exact hb) hn; rw [hw1] at this; exact this, fun _ _ _ _ h => h.elim, hr1⟩
  refine ⟨_, _, upd m fresh (some ⟨w.heap.size, 0, esz⟩), hrun, trivial, ?_, fun id hid => upd_ne _ _ hid, (fun h => by rw [upd_same] at h; cases h), ?_⟩
  · exact Step.new s hext hnew hf hmf (fun i x hx => hsz x (List.mem_of_getElem? hx)) hcell
  · have := Reps.mslc (L := L) (w := w1.alloc (.cells arr el)) (B := Bof N (upd h fresh (some ⟨false, esz, xs⟩)) (upd m fresh (some ⟨w.heap.size, 0, esz⟩)))
      (m := upd m fresh (some ⟨w.heap.size, 0, esz⟩)) fresh 0 n c ⟨w.heap.size, 0, esz⟩ arr el (0, 0) (upd_same _ _ _) hnc hnew (by simpa using hroom)
    simpa [nextVal] using this

theorem does_bslice (s : Sim L N w h m) {fresh : Nat} (hf : h fresh = none) (hmf : m fresh = none) {t e : TypeId} {len esz : Nat} {parts : Array (Nat × Operand)} {zero : AVal} {z : Value}
    {vs xs : List AVal} {i : TypeInfo} (ho : o.op = .buildSlice t len parts) (ht : L.P.underlying t = some (.slice e)) (hi : L.P.info? e = some i) (hz : zeroOf L.P e = some z)
    (hzr : constRep zero z = true) (his : i.size = esz) (hzs : z.cells.size = esz) (he : 0 < esz) (hmax : len * esz ≤ 2 ^ 24) (hlt : ∀ q ∈ parts.toList, q.1 < len)
    (hargs : Args L w (Bof N h m) m ρ (parts.toList.map (·.2)) vs) (hg : goodElems esz vs = true) (hp : placeAll (List.replicate len zero) (parts.toList.map (·.1)) vs = some xs) :
    Does L N w h m ρ o (.mslc fresh 0 len) (upd h fresh (some ⟨false, esz, xs⟩)) fresh := by
  obtain ⟨hzl, hzc⟩ := zero_cells (L := L) (w := w) (B := Bof N h m) (m := m) hzr
  have hrow : RowRep L w (Bof N h m) m esz ((Array.range (len * esz)).map (z.cells[· % z.cells.size]!)) (List.replicate len zero) := by
    refine ⟨by simp, fun x hx => by rw [List.eq_of_mem_replicate hx, ← hzl, hzs], fun k x j c hx hj => ?_⟩
    have hk : k < len := by
      rcases Nat.lt_or_ge k len with h | h
      · exact h
      · simp [List.getElem?_replicate, Nat.not_lt.2 h] at hx
    have hxz : x = zero := by simp [List.getElem?_replicate, hk] at hx; exact hx.symm
    subst hxz
    obtain ⟨u, hu, hr⟩ := hzc j c hj
    have hju := (Array.getElem?_eq_some_iff.1 hu).1
    have hlt2 : k * esz + j < len * esz := by
      have := Nat.mul_le_mul_right esz (Nat.succ_le_of_lt hk)
      rw [Nat.succ_mul] at this; omega
    refine ⟨u, ?_, hr⟩
    rw [Array.getElem?_map, Array.getElem?_range, if_pos hlt2]
    simp only [Option.map_some, Option.some.injEq]
    have hmod : (k * esz + j) % z.cells.size = j := by
      rw [hzs, Nat.add_comm, Nat.add_mul_mod_self_right, Nat.mod_eq_of_lt (by omega)]
    rw [hmod, getElem!_pos z.cells j hju, (Array.getElem?_eq_some_iff.1 hu).2]
  obtain ⟨arr', h1, h2⟩ := place_ok (ρ := ρ) he parts.toList vs _ xs _ hargs (fun q hq => by simpa using hlt q hq) hg hrow hp
  have hlen : xs.length = len := by
    have : ∀ (is : List Nat) (vs xs xs' : List AVal), placeAll xs is vs = some xs' → xs'.length = xs.length := by
      intro is
      induction is with
      | nil => intro vs xs xs' h; cases vs <;> simp [placeAll] at h; rw [h]
      | cons i is ih => intro vs xs xs' h; cases vs with
        | nil => simp [placeAll] at h
        | cons v vs => simp only [placeAll] at h; rw [ih _ _ _ h]; simp
    rw [this _ _ _ _ hp]; simp
  refine does_newRow (el := e) (w1 := w) s hf hmf hlen (Nat.le_refl _) ?_ h2.2.1 rfl ⟨rfl, rfl, rfl⟩ h2.2.2 ?_ (arr := arr')
  · rw [h2.1, hlen]; exact Nat.le_refl _
  · obtain ⟨i', hi', hiz⟩ := zero_info hz
    rw [hi] at hi'; cases hi'
    have e1 : (parts.map fun x => (x.fst, ρ x.snd)).toList = parts.toList.map fun x => (x.1, ρ x.2) := by simp
    have hmax' : ¬ (len * esz > 2 ^ 24) := by omega
    have h1' : Instr.fill (fun i => some (i * esz, esz)) ((Array.range (len * esz)).map (fun x => z.cells[x % z.cells.size]!)) (parts.toList.map (fun x => (x.1, ρ x.2))) = some arr' := h1
    simp only [execOp, ho]
    refine run_val ?_
    simp only [Instr.buildSlice, Sem.run_bind, underlying, run_program, Result.andThen_ok, ht, Sem.run_pure, sizeOf, typeInfo, hi, his, hmax', if_false, e1]
    by_cases h0 : len * esz = 0
    · have earr : ∀ f : Nat → Value, (Array.range (len * esz)).map f = (Array.range (len * esz)).map (fun x => z.cells[x % z.cells.size]!) := by
        intro f; simp [h0, Array.range_zero']
      rw [if_pos h0]
      simp only [Sem.run_bind, Sem.run_pure, Result.andThen_ok]
      rw [earr (fun x => (#[] : Array Value)[x % (#[] : Array Value).size]!), h1']
      simp [newRow]
    · simp only [h0, if_false, zeroValue, typeInfo, Sem.run_bind, run_program, Result.andThen_ok, hi, hiz, Sem.run_pure, h1']
      simp [newRow]
end
end Go.Ash
/- make, stores and append: each does in the model what it does here. -/
namespace Go.Ash
section
variable {L : Link} {N : Nat → Prop} {w : World} {h : HF} {m : PMap} {ρ : Operand → Value} {o : Oper}

theorem lt_of_get {α : Type} {l : List α} {i : Nat} {a : α} (h : l[i]? = some a) : i < l.length := by
  rcases Nat.lt_or_ge i l.length with h' | h'
  · exact h'
  · simp [List.getElem?_eq_none h'] at h

theorem does_mkslice (s : Sim L N w h m) {fresh : Nat} (hf : h fresh = none) (hmf : m fresh = none) {t e : TypeId} {esz bytes : Nat} {x y : Operand} {zero : AVal} {z : Value}
    {k k' : IntKind} {l c : Int} {i : TypeInfo} (ho : o.op = .makeSlice t x y) (ht : L.P.underlying t = some (.slice e)) (hi : L.P.info? e = some i) (hz : zeroOf L.P e = some z)
    (hzr : constRep zero z = true) (his : i.size = esz) (hzs : z.cells.size = esz) (hb : i.bytes = bytes)
    (hx : Reps L w (Bof N h m) m (ρ x) (.int k l)) (hy : Reps L w (Bof N h m) m (ρ y) (.int k' c)) (h0 : 0 ≤ l) (hlc : l ≤ c) (hmb : c * bytes ≤ maxBytes) (hmc : c ≤ maxBytes) :
    Does L N w h m ρ o (.mslc fresh 0 l.toNat) (upd h fresh (some ⟨false, esz, List.replicate l.toNat zero⟩)) fresh := by
  obtain ⟨hzl, hzc⟩ := zero_cells (L := L) (w := w) (B := Bof N h m) (m := m) hzr
  obtain ⟨i', hi', hiz⟩ := zero_info hz
  rw [hi] at hi'; cases hi'
  have hmax : (maxBytes : Int) = 70368744177664 := rfl
  have hrun := run_make w t e i z ht hi hiz k k' l c h0 hlc (by rw [hb, Int.mul_comm]; omega) (by omega)
  refine does_newRow (el := e) (w1 := w) s hf hmf (by simp) (by omega : l.toNat ≤ c.toNat) ?_ ?_ rfl ⟨rfl, rfl, rfl⟩ ?_ ?_ (arr := madeCells z.cells (c.toNat * i.size)) (esz := esz)
  · rw [size_madeCells, his]; exact Nat.le_refl _
  · intro x hx; rw [List.eq_of_mem_replicate hx, ← hzl, hzs]
  · intro q x j cc hx hj
    have hq := lt_of_get hx
    have hq' : q < l.toNat := by simpa using hq
    have hxz : x = zero := by simp [hq'] at hx; exact hx.symm
    subst hxz
    obtain ⟨u, hu, hr⟩ := hzc j cc hj
    have hju := (Array.getElem?_eq_some_iff.1 hu).1
    have hlt2 : q * esz + j < c.toNat * i.size := by
      have : (q + 1) * esz ≤ c.toNat * esz := Nat.mul_le_mul_right _ (by omega)
      rw [Nat.succ_mul] at this; rw [his]; omega
    refine ⟨u, ?_, hr⟩
    unfold madeCells
    rw [Array.getElem?_map, Array.getElem?_range, if_pos hlt2]
    simp only [Option.map_some, Option.some.injEq]
    have hmod : (q * esz + j) % z.cells.size = j := by
      rw [hzs, Nat.add_comm, Nat.add_mul_mod_self_right, Nat.mod_eq_of_lt (by omega)]
    rw [hmod, getElem!_pos z.cells j hju, (Array.getElem?_eq_some_iff.1 hu).2]
  · simp only [execOp, ho, hx.int_inv, hy.int_inv]
    exact run_val hrun

/-! ### Stores -/

theorem putElem_ok {e e' v : AVal} {oo : Nat} (hc : v.cells.all AVal.isCell = true) (he : putElem e oo v = some e') : e'.cells.length = e.cells.length ∧ oo + v.cells.length ≤ e.cells.length ∧
    ∀ (j : Nat), e'.cells[j]? = if oo ≤ j ∧ j < oo + v.cells.length then v.cells[j - oo]? else e.cells[j]? := by
  have agg : ∀ cs : List AVal, putAgg cs oo v = some e' →
      e'.cells.length = cs.length ∧ oo + v.cells.length ≤ cs.length ∧ ∀ (j : Nat), e'.cells[j]? = if oo ≤ j ∧ j < oo + v.cells.length then v.cells[j - oo]? else cs[j]? := by
    intro cs h
    unfold putAgg at h
    split at h
    · rename_i hw
      obtain ⟨rfl, hl⟩ := hw
      simp only [Option.some.injEq] at h
      subst h
      refine ⟨hl, by omega, fun j => ?_⟩
      show v.cells[j]? = _
      by_cases hj : j < v.cells.length
      · rw [if_pos (by omega)]; rfl
      · rw [if_neg (by omega), List.getElem?_eq_none (by omega), List.getElem?_eq_none (by omega)]
    · split at h
      · rename_i hle
        simp only [Option.some.injEq] at h
        subst h
        exact ⟨setAll_length _ _ _, hle, fun j => setAll_get _ _ _ _ hle⟩
      · simp at h
  have one : ∀ (u : AVal), u.cells = [u] → putOne oo v = some e' →
      e'.cells.length = u.cells.length ∧ oo + v.cells.length ≤ u.cells.length ∧ ∀ (j : Nat), e'.cells[j]? = if oo ≤ j ∧ j < oo + v.cells.length then v.cells[j - oo]? else u.cells[j]? := by
    intro u hu h
    have key : oo = 0 ∧ e' = v ∧ v.cells = [v] := by
      unfold putOne at h
      split at h
      · rename_i hh
        simp only [Option.some.injEq] at h
        refine ⟨hh.2, h.symm, ?_⟩
        have := hh.1
        cases v <;> simp_all [AVal.isCell, AVal.cells]
      · simp at h
    obtain ⟨rfl, rfl, hv⟩ := key
    rw [hu, hv]
    refine ⟨rfl, by simp, fun j => ?_⟩
    cases j with
    | zero => simp
    | succ j => simp
  unfold putElem at he
  cases e with
  | agg cs => exact agg cs he
  | _ => exact one _ rfl he

theorem does_store (s : Sim L N w h m) {fresh : Nat} (hmf : m fresh = none) {t : TypeId} {x y : Operand} {sz id i oo : Nat} {b : Blk} {e e' v : AVal} (ho : o.op = .store t x y)
    (hsz : szOf L.P t = some sz) (hpos : 0 < sz) (hx : Reps L w (Bof N h m) m (ρ x) (.mptr id i oo)) (hy : Reps L w (Bof N h m) m (ρ y) v) (hb : h id = some b) (he : b.elems[i]? = some e)
    (hfz : b.frozen = false) (hvl : v.cells.length = sz) (hvc : v.cells.all AVal.isCell = true) (hp : putElem e oo v = some e') :
    Does L N w h m ρ o (.tup []) (upd h id (some { b with elems := b.elems.set i e' })) fresh := by
  obtain ⟨hl', hle, hget⟩ := putElem_ok hvc hp
  obtain ⟨hvs, hvcells⟩ := hy.cells hvc
  generalize hxx : ρ x = u at hx
  cases hx with
  | mptr _ _ _ p hm =>
    obtain ⟨q, arr, el, hq, hes, hn, ha, hszs, hcell⟩ := s.blk id b hb
    rw [hm] at hq; cases hq
    have hil := lt_of_get he
    have hel := hszs i e he
    -- the cells that are written
    have hin : p.base + i * p.esz + oo + (ρ y).cells.toList.length ≤ arr.size := by
      rw [Array.length_toList, hvs]
      obtain ⟨u, hu, _⟩ := hcell i e (oo + v.cells.length - 1) _ he (List.getElem?_eq_getElem (by omega))
      have := (Array.getElem?_eq_some_iff.1 hu).1
      omega
    have hone : ∀ u ∈ (ρ y).cells.toList, u.oneCell' = true := by
      intro u hu
      obtain ⟨j, hj, rfl⟩ := List.mem_iff_getElem.1 hu
      simp only [Array.length_toList, hvs] at hj
      obtain ⟨u', hu', _, h1⟩ := hvcells j _ (List.getElem?_eq_getElem hj)
      have : (ρ y).cells.toList[j]? = some u' := by simpa using hu'
      rw [List.getElem?_eq_getElem (by simpa [hvs] using hj)] at this
      cases this
      exact h1
    have hst := run_storeCells_at L.P p.blk (p.base + i * p.esz + oo) el (ρ y).cells.toList 0 arr w ha (by simpa using hin) hone
    simp only [Nat.add_zero] at hst
    refine ⟨.skip, w.setRow p.blk (arr.toList.take (p.base + i * p.esz + oo) ++ (ρ y).cells.toList ++ arr.toList.drop (p.base + i * p.esz + oo + (ρ y).cells.toList.length)).toArray, m, ?_, trivial, ?_, fun _ _ => rfl, fun _ => hmf, ?_⟩
    · simp only [execOp, ho, hxx]
      have hnot : ¬ ((ρ y).cells.size ≠ sz) := by rw [hvs, hvl]; simp
      have hv0 : (storeVar t ⟨p.blk, p.base + i * p.esz + oo, none⟩ (ρ y)).run L.P w = .ok () (w.setRow p.blk (arr.toList.take (p.base + i * p.esz + oo) ++ (ρ y).cells.toList ++ arr.toList.drop (p.base + i * p.esz + oo + (ρ y).cells.toList.length)).toArray) := by
        simp only [storeVar, Sem.run_bind, run_sizeOf hsz, Result.andThen_ok]
        rw [if_neg hnot]
        exact hst
      simp only [Instr.storeAt, Instr.sureAddr, Sem.run_bind, Sem.run_pure, Result.andThen_ok, hv0]
    · have hu : upd (upd h id none) id (some { b with elems := b.elems.set i e' }) = upd h id (some { b with elems := b.elems.set i e' }) := by
        funext j; simp only [upd]; split <;> rfl
      have hmu : upd m id (some p) = m := by
        funext j; simp only [upd]; split
        · rename_i hj; rw [hj, hm]
        · rfl
      have hsize : (arr.toList.take (p.base + i * p.esz + oo) ++ (ρ y).cells.toList ++ arr.toList.drop (p.base + i * p.esz + oo + (ρ y).cells.toList.length)).toArray.size = arr.size := by
        simp only [List.size_toArray, List.length_append, List.length_take, List.length_drop, Array.length_toList] at hin ⊢
        omega
      have := Step.write (w' := w.setRow p.blk (arr.toList.take (p.base + i * p.esz + oo) ++ (ρ y).cells.toList ++ arr.toList.drop (p.base + i * p.esz + oo + (ρ y).cells.toList.length)).toArray)
        (k' := { b with elems := b.elems.set i e' }) (id2 := id) (p' := p) s hb hfz hm ha (by simp) ⟨rfl, rfl, rfl⟩ (fun b hb => setRow_other w p.blk b _ hb) (setRow_heap w p.blk arr _ el (0, 0) ha) hsize (.inl rfl) rfl (fun _ => rfl) hes hfz
        (by
          intro i' x' hx'
          by_cases hii : i' = i
          · subst hii; rw [List.getElem?_set_self hil] at hx'; cases hx'; rw [hl']; exact hel
          · rw [List.getElem?_set_ne (Ne.symm hii)] at hx'; exact hszs i' x' hx')
        (by
          intro i' x' j c hx' hj
          have hget2 : ∀ k, (arr.toList.take (p.base + i * p.esz + oo) ++ (ρ y).cells.toList ++ arr.toList.drop (p.base + i * p.esz + oo + (ρ y).cells.toList.length)).toArray[k]? =
              if p.base + i * p.esz + oo ≤ k ∧ k < p.base + i * p.esz + oo + v.cells.length then (ρ y).cells[k - (p.base + i * p.esz + oo)]? else arr[k]? := by
            intro k
            rw [List.getElem?_toArray]
            simp only [Array.length_toList, hvs] at hin ⊢
            have hlt : (arr.toList.take (p.base + i * p.esz + oo)).length = p.base + i * p.esz + oo := by simp; omega
            by_cases hk1 : k < p.base + i * p.esz + oo
            · rw [if_neg (by omega), List.append_assoc, List.getElem?_append_left (by omega), List.getElem?_take, if_pos hk1]; simp
            · by_cases hk2 : k < p.base + i * p.esz + oo + v.cells.length
              · rw [if_pos (by omega), List.getElem?_append_left (by simp only [List.length_append, hlt, Array.length_toList, hvs]; omega), List.getElem?_append_right (by omega), hlt]; simp
              · rw [if_neg (by omega), List.getElem?_append_right (by simp only [List.length_append, hlt, Array.length_toList, hvs]; omega), List.getElem?_drop]
                simp only [List.length_append, hlt, Array.length_toList, hvs]
                have : p.base + i * p.esz + oo + v.cells.length + (k - (p.base + i * p.esz + oo + v.cells.length)) = k := by omega
                rw [this]; simp
          rw [hget2]
          by_cases hii : i' = i
          · subst hii
            rw [List.getElem?_set_self hil] at hx'; cases hx'
            rw [hget] at hj
            split at hj
            · rename_i hjin
              rw [if_pos (by omega)]
              obtain ⟨u, hu, hru, _⟩ := hvcells _ _ hj
              refine ⟨u, ?_, hru⟩
              rw [← hu]; congr 1; omega
            · rename_i hjin
              rw [if_neg (by omega)]
              exact hcell i' e j c he hj
          · rw [List.getElem?_set_ne (Ne.symm hii)] at hx'
            have hjl := lt_of_get hj
            rw [hszs i' x' hx'] at hjl
            have hne : ¬ (p.base + i * p.esz + oo ≤ p.base + i' * p.esz + j ∧ p.base + i' * p.esz + j < p.base + i * p.esz + oo + v.cells.length) := by
              rintro ⟨h1, h2⟩
              rw [hel] at hle
              rcases Nat.lt_or_gt_of_ne hii with hlt | hgt
              · have := Nat.mul_le_mul_right p.esz (Nat.succ_le_of_lt hlt)
                rw [Nat.succ_mul] at this; omega
              · have := Nat.mul_le_mul_right p.esz (Nat.succ_le_of_lt hgt)
                rw [Nat.succ_mul] at this; omega
            rw [if_neg hne]
            exact hcell i' x' j c hx' hj)
      rw [hu, hmu] at this
      exact this
    · exact .tup #[] [] rfl (fun i c hc => by simp at hc)

end
end Go.Ash
/- append: it does in the model what it does here. -/
namespace Go.Ash
section
variable {L : Link} {N : Nat → Prop} {w : World} {H : Heap} {m : PMap} {ρ : Operand → Value} {o : Oper}

/-- The cells that a slice shows, in a list. -/
def Shows (L : Link) (w : World) (B : Nat → Prop) (m : PMap) (esz : Nat) (a : Addr) (news : List Value) (new : List AVal) : Prop :=
  news.length = new.length * esz ∧ (∀ (j : Nat) (u : Value), news[j]? = some u → w.cell? (a.add j) = some u) ∧ (∀ u ∈ news, u.oneCell' = true) ∧
  ∀ (i : Nat) (x : AVal) (j : Nat) (c : AVal), new[i]? = some x → x.cells[j]? = some c → ∃ u, news[i * esz + j]? = some u ∧ Reps L w B m u c

theorem shows_of {B : Nat → Prop} {esz : Nat} (he : 0 < esz) {a : Addr} {new : List AVal} (hg : goodElems esz new = true)
    (hc : ∀ (i : Nat) (x : AVal) (j : Nat) (c : AVal), new[i]? = some x → x.cells[j]? = some c → ∃ u, w.cell? (a.add (i * esz + j)) = some u ∧ Reps L w B m u c) :
    ∃ news, Shows L w B m esz a news new := by
  have hgood : ∀ x ∈ new, x.cells.length = esz ∧ x.cells.all AVal.isCell = true := by
    intro x hx
    have := List.all_eq_true.1 hg x hx
    simpa [Bool.and_eq_true] using this
  have key : ∀ k, k < new.length * esz → ∃ x c u, new[k / esz]? = some x ∧ x.cells[k % esz]? = some c ∧ w.cell? (a.add k) = some u ∧ Reps L w B m u c ∧ u.oneCell' = true := by
    intro k hk
    have h1 : k / esz < new.length := by
      rw [Nat.div_lt_iff_lt_mul he]; exact hk
    have hx := List.getElem?_eq_getElem h1
    obtain ⟨hl, hcs⟩ := hgood _ (List.getElem_mem h1)
    have h2 : k % esz < new[k / esz].cells.length := by rw [hl]; exact Nat.mod_lt _ he
    have hcc := List.getElem?_eq_getElem h2
    obtain ⟨u, hu, hr⟩ := hc _ _ _ _ hx hcc
    have e : k / esz * esz + k % esz = k := by rw [Nat.mul_comm]; exact Nat.div_add_mod k esz
    rw [e] at hu
    have hcell : (new[k / esz].cells[k % esz]).isCell = true := List.all_eq_true.1 hcs _ (List.getElem_mem h2)
    exact ⟨_, _, u, hx, hcc, hu, hr, (hr.one hcell).1⟩
  refine ⟨(List.range (new.length * esz)).map fun k => (w.cell? (a.add k)).getD undef, by simp, ?_, ?_, ?_⟩
  · intro j u hu
    have hj : j < new.length * esz := by simpa using lt_of_get hu
    obtain ⟨_, _, u', _, _, hu', _⟩ := key j hj
    simp [hj, hu'] at hu
    rw [← hu]; exact hu'
  · intro u hu
    obtain ⟨k, hk, rfl⟩ := List.mem_map.1 hu
    obtain ⟨_, _, u', _, _, hu', _, h1⟩ := key k (by simpa using hk)
    rw [hu']; exact h1
  · intro i x j c hx hj
    have hi := lt_of_get hx
    have hjl := lt_of_get hj
    rw [(hgood x (List.mem_of_getElem? hx)).1] at hjl
    have hlt : i * esz + j < new.length * esz := by
      have := Nat.mul_le_mul_right esz (Nat.succ_le_of_lt hi)
      rw [Nat.succ_mul] at this; omega
    obtain ⟨u, hu, hr⟩ := hc i x j c hx hj
    exact ⟨u, by simp [hlt, hu], hr⟩

theorem elems_shown (s : Sim L N w H.at m) {esz : Nat} (he : 0 < esz) {x : AVal} {new : List AVal} {v : Value} (hx : elemsOf H esz x = some new) (hg : goodElems esz new = true)
    (hr : Reps L w (Bof N H.at m) m v x) : (v = .slice none 0 0 ∧ new = []) ∨ ∃ a c news, v = .slice (some a) new.length c ∧ Shows L w (Bof N H.at m) m esz a news new := by
  cases hr with
  | nils => simp [elemsOf] at hx; exact .inl ⟨rfl, hx⟩
  | slc a s cap xs vs hspot hcap hsz hids hcell hrep hB =>
    simp [elemsOf] at hx; subst hx
    obtain ⟨news, hn⟩ := shows_of (L := L) (w := w) (B := Bof N H.at m) (m := m) (a := a) he hg (by
      intro i x j c hxi hj
      have hse : s = esz := by
        rw [← hsz i x hxi]
        have := List.all_eq_true.1 hg x (List.mem_of_getElem? hxi)
        simp only [Bool.and_eq_true, beq_iff_eq] at this
        exact this.1
      subst hse
      exact ⟨vs i j, by rw [addr_add (hspot (by rintro rfl; simp at hxi))]; exact hcell i x j c hxi hj, hrep i x j c hxi hj⟩)
    exact .inr ⟨a, cap, news, rfl, hn⟩
  | mslc id off len cap p arr el fz hm hcap hblk hroom =>
    simp only [elemsOf] at hx
    cases hb : H.at id with
    | none => rw [hb] at hx; simp at hx
    | some b =>
      rw [hb] at hx
      simp only at hx
      split at hx
      · rename_i hcond
        simp only [Option.some.injEq] at hx
        subst hx
        obtain ⟨q, arr', el', hq, hes, hn, ha, hszs, hcell⟩ := s.blk id b hb
        rw [hm] at hq; cases hq
        have hlen : ((b.elems.drop off).take len).length = len := by simp; omega
        obtain ⟨news, hn⟩ := shows_of (L := L) (w := w) (B := Bof N H.at m) (m := m) (a := ⟨p.blk, p.base + off * p.esz, none⟩) he hg (by
          intro i x j c hxi hj
          have hi := lt_of_get hxi
          rw [hlen] at hi
          rw [List.getElem?_take, if_pos hi, List.getElem?_drop] at hxi
          obtain ⟨u, hu, hr⟩ := hcell _ x j c hxi hj
          refine ⟨u, ?_, hr⟩
          rw [Addr.add_lit, cells_eq ha, ← hu, ← hcond.1, ← hes]
          congr 1
          rw [Nat.add_mul]; omega)
        refine .inr ⟨_, cap, news, ?_, hn⟩
        rw [hlen]
      · simp at hx
  | _ => simp [elemsOf] at hx

theorem bytesOf_good : ∀ (l : List AVal) (ns : List Int), bytesOf l = some ns → l = ns.map (AVal.int .u8)
  | [], ns, h => by simp [bytesOf] at h; subst h; rfl
  | x :: l, ns, h => by
    unfold bytesOf at h
    split at h
    · rename_i heq; cases heq
    · rename_i n l' heq
      cases heq
      simp only [Option.map_eq_some_iff] at h
      obtain ⟨ms, hm, rfl⟩ := h
      rw [bytesOf_good l ms hm]; rfl
    · simp at h

theorem gives_b2s (s : Sim L N w H.at m) {sr d e : TypeId} {x : Operand} {a : AVal} {l : List AVal} {ns : List Int} (ho : o.op = .convert sr d x) (hs : L.P.underlying sr = some (.slice e))
    (he : L.P.underlying e = some (.int .u8)) (hd : L.P.underlying d = some .string) (hr : Reps L w (Bof N H.at m) m (ρ x) a) (hl : elemsOf H 1 a = some l) (hb : bytesOf l = some ns) :
    Gives L w (Bof N H.at m) m ρ o (.str (textOf ns)) := by
  have hg := bytesOf_good l ns hb
  subst hg
  refine ⟨.string (textOf ns), ?_, .str _⟩
  simp only [execOp, ho]
  refine run_val ?_
  rcases elems_shown s (by omega) hl (by simp [goodElems, AVal.cells, AVal.isCell]) hr with ⟨hv, hn⟩ | ⟨ad, cap, news, hv, hnl, hcells, hone, hreps⟩
  · rw [hv, run_convert_bytes_nil w sr e hs he 0 0 d hd]
    have : ns = [] := by simpa using hn
    subst this
    rfl
  · rw [hv]
    have hnews : news = ns.map (Value.int .u8) := by
      apply List.ext_getElem?
      intro j
      by_cases hj : j < ns.length
      · obtain ⟨u, hu, hru⟩ := hreps j (.int .u8 ns[j]) 0 (.int .u8 ns[j]) (by simp [hj]) (by simp [AVal.cells])
        have := hru.int_inv
        subst this
        simp only [Nat.mul_one, Nat.add_zero] at hu
        rw [hu]; simp [hj]
      · rw [List.getElem?_eq_none (by rw [hnl]; simp; omega), List.getElem?_eq_none (by simp; omega)]
    have hld : (loadCells ad ns.length).run L.P w = .ok (ns.map (Value.int .u8)).toArray w := by
      have := run_loadCells_list (P := L.P) w ad (ns.map (Value.int .u8)) (fun j v hj => by rw [← hnews] at hj; exact hcells j v hj)
      simpa using this
    rw [run_convert_bytes_string w sr d e _ _ cap hs he hd, List.length_map, run_bytesToString w _ _ cap ns hld, foldl_push_bytes]
    simp [textOf, ByteArray.empty, ByteArray.emptyWithCapacity]
    rfl

/-- The types of what is appended to, and of what is appended: slices. -/
def ApTys (P : Program) (c : Call) (t : TypeId) : Prop := ∃ t2 e e2, c.argTypes = #[t, t2] ∧ P.underlying t = some (.slice e) ∧ P.underlying t2 = some (.slice e2)

theorem append_types {P : Program} {t t2 e e2 ty : TypeId} (h1 : P.underlying t = some (.slice e)) (h2 : P.underlying t2 = some (.slice e2)) (a b : Value) (w : World) :
    (Builtin.append_ #[t, t2] ty #[a, b]).run P w = (Builtin.append_ #[t, t] ty #[a, b]).run P w := by
  cases a with
  | slice base n cap =>
    cases hi : P.info? e with
    | none => simp [Builtin.append_, underlying, h1, sizeOf, typeInfo, hi]
    | some i => simp [Builtin.append_, underlying, h1, h2, sizeOf, typeInfo, hi, Sem.run_bind]
  | _ => simp [Builtin.append_, underlying, h1]

theorem run_app {t e : TypeId} {c : Call} {x y : Operand} (ho : o.op = .call c) (hc : c.callee = .builtin .append) (hargs : c.args = #[x, y]) (htt : ApTys L.P c t)
    {u : Value} {w' : World} (hrun : (Builtin.append_ #[t, t] o.type #[ρ x, ρ y]).run L.P w = .ok u w') : (execOp ρ o).run L.P w = .ok (.value u) w' := by
  obtain ⟨t2, e1, e2, htt, h1, h2⟩ := htt
  rw [← append_types h1 h2] at hrun
  simp only [execOp, ho, resolve, hc, hargs, htt, invoke, builtin, Sem.run_bind, Sem.run_pure, Result.andThen_ok]
  have : Array.map ρ #[x, y] = #[ρ x, ρ y] := by simp
  rw [this, hrun]
  rfl

theorem argTypes_two {P : Program} {c : Call} {t e : TypeId} (h0 : c.argTypes[0]? = some t) (h1 : (c.argTypes[1]?).any (fun t2 => (sliceOf P t2).isSome) = true) (hs : c.argTypes.size = 2)
    (he : P.underlying t = some (.slice e)) : ApTys P c t := by
  cases h : c.argTypes[1]? with
  | none => rw [h] at h1; simp at h1
  | some t2 =>
    rw [h] at h1
    simp only [Option.any_some] at h1
    obtain ⟨e2, he2⟩ := Option.isSome_iff_exists.1 h1
    refine ⟨t2, e, e2, ?_, he, sliceOf_spec he2⟩
    apply Array.ext
    · simpa using hs
    · intro i hi hi'
      have e0 : c.argTypes[0] = t := by rw [Array.getElem?_eq_getElem (by omega)] at h0; exact Option.some.inj h0
      have e1 : c.argTypes[1] = t2 := by rw [Array.getElem?_eq_getElem (by omega)] at h; exact Option.some.inj h
      simp at hi'
      rcases (by omega : i = 0 ∨ i = 1) with rfl | rfl
      · exact e0
      · exact e1

/-- Onto nil. -/
theorem does_app_nil (s : Sim L N w H.at m) {fresh : Nat} (hf : H.at fresh = none) (hmf : m fresh = none) {t e : TypeId} {esz bytes : Nat} {c : Call} {x y : Operand} {z : Value}
    {a : AVal} {new : List AVal} {i : TypeInfo} (ho : o.op = .call c) (hc : c.callee = .builtin .append) (hargs : c.args = #[x, y]) (htt : ApTys L.P c t)
    (ht : L.P.underlying t = some (.slice e)) (hi : L.P.info? e = some i) (hz : zeroOf L.P e = some z) (hzs : z.cells.size = esz) (his : i.size = esz) (he : 0 < esz) (hb : i.bytes = bytes)
    (hx : Reps L w (Bof N H.at m) m (ρ x) (.slc true [])) (hy : Reps L w (Bof N H.at m) m (ρ y) a) (hel : elemsOf H esz a = some new) (hg : goodElems esz new = true)
    (h0 : new ≠ []) (hmb : new.length * bytes ≤ maxBytes) (hml : new.length ≤ maxBytes) :
    Does L N w H.at m ρ o (.mslc fresh 0 new.length) (upd H.at fresh (some ⟨false, esz, new⟩)) fresh := by
  have hxv : ρ x = .slice none 0 0 := by
    generalize ρ x = u at hx ⊢
    cases hx; rfl
  have hpos : 0 < new.length := by cases new; exact absurd rfl h0; simp
  have hmax : maxBytes = 70368744177664 := rfl
  obtain ⟨i', hi', hiz⟩ := zero_info hz
  rw [hi] at hi'; cases hi'
  rcases elems_shown s he hel hg hy with ⟨_, hn⟩ | ⟨ad, cap, news, hyv, hl, hcells, hone, hreps⟩
  · exact absurd hn h0
  · have hrun := run_append_nil (P := L.P) w t o.type e i z ht hi hiz ad new.length cap news (by rw [hl, his]) hcells hpos (by omega) (by rw [hb]; omega)
    have hcap := grownCap_ge w new.length 0 e
    refine does_newRow (el := e) (w1 := w.drew) s hf hmf rfl hcap ?_ ?_ rfl ⟨rfl, rfl, rfl⟩ ?_ (run_app (e := e) ho hc hargs htt (by rw [hxv, hyv]; exact hrun)) (esz := esz)
    · simp only [Array.size_append, List.size_toArray, hl, size_zeroCells, hzs]
      rw [← Nat.add_mul]
      exact Nat.mul_le_mul_right _ (by omega)
    · intro x hx
      have := List.all_eq_true.1 hg x hx
      simp only [Bool.and_eq_true, beq_iff_eq] at this
      exact this.1
    · intro i x j cc hx hj
      obtain ⟨u, hu, hr⟩ := hreps i x j cc hx hj
      have := lt_of_get hu
      exact ⟨u, by rw [Array.getElem?_append_left (by simpa using this)]; simpa using hu, hr⟩

theorem gives_app_none (s : Sim L N w H.at m) {t e : TypeId} {esz : Nat} {c : Call} {x y : Operand} {a : AVal} {i : TypeInfo} (ho : o.op = .call c)
    (hc : c.callee = .builtin .append) (hargs : c.args = #[x, y]) (htt : ApTys L.P c t) (ht : L.P.underlying t = some (.slice e)) (hi : L.P.info? e = some i) (he : 0 < esz)
    (hx : Reps L w (Bof N H.at m) m (ρ x) (.slc true [])) (hy : Reps L w (Bof N H.at m) m (ρ y) a) (hel : elemsOf H esz a = some []) : Gives L w (Bof N H.at m) m ρ o (.slc true []) := by
  have hxv : ρ x = .slice none 0 0 := by
    generalize ρ x = u at hx ⊢
    cases hx; rfl
  refine ⟨.slice none 0 0, run_app (e := e) ho hc hargs htt ?_, .nils⟩
  rw [hxv]
  rcases elems_shown s he hel (by rfl) hy with ⟨hyv, _⟩ | ⟨ad, cap, news, hyv, hl, hcells, hone, hreps⟩
  · rw [hyv]
    simp [Builtin.append_, underlying, ht, sizeOf, typeInfo, hi, Builtin.lenOf, Builtin.firstCells]
  · rw [hyv]
    simp [Builtin.append_, underlying, ht, sizeOf, typeInfo, hi, Builtin.lenOf, Builtin.firstCells, loadCells, loadCellsFrom]

/-- Onto what may be written: in place, or into a new block; the elder number is gone. -/
theorem does_app (s : Sim L N w H.at m) {fresh : Nat} (hf : H.at fresh = none) (hmf : m fresh = none) {t e : TypeId} {esz bytes id off len : Nat} {c : Call} {x y : Operand} {z : Value}
    {a : AVal} {new : List AVal} {i : TypeInfo} {b : Blk} (ho : o.op = .call c) (hc : c.callee = .builtin .append) (hargs : c.args = #[x, y]) (htt : ApTys L.P c t)
    (ht : L.P.underlying t = some (.slice e)) (hi : L.P.info? e = some i) (hz : zeroOf L.P e = some z) (hzs : z.cells.size = esz) (his : i.size = esz) (he : 0 < esz) (hb : i.bytes = bytes)
    (hx : Reps L w (Bof N H.at m) m (ρ x) (.mslc id off len)) (hy : Reps L w (Bof N H.at m) m (ρ y) a) (hel : elemsOf H esz a = some new) (hg : goodElems esz new = true)
    (hblk : H.at id = some b) (hfz : b.frozen = false) (hbe : b.esz = esz) (hlen : off + len ≤ b.elems.length)
    (hmb : (len + new.length) * bytes ≤ maxBytes) (hml : len + new.length ≤ maxBytes) :
    Does L N w H.at m ρ o (.mslc fresh 0 (len + new.length)) (upd (upd H.at id none) fresh (some ⟨false, esz, (b.elems.drop off).take len ++ new⟩)) fresh := by
  have hmax : maxBytes = 70368744177664 := rfl
  have hgood : ∀ x ∈ new, x.cells.length = esz := by
    intro x hx
    have := List.all_eq_true.1 hg x hx
    simp only [Bool.and_eq_true, beq_iff_eq] at this
    exact this.1
  obtain ⟨i', hi', hiz⟩ := zero_info hz
  rw [hi] at hi'; cases hi'
  have hne : id ≠ fresh := by rintro rfl; rw [hf] at hblk; cases hblk
  generalize hxv : ρ x = ux at hx
  cases hx with
  | mslc _ _ _ cap p arr0 el0 fz0 hm hcap harr0 hroom =>
    obtain ⟨q, arr, el, hq, hes, hn, ha, hszs, hcell⟩ := s.blk id b hblk
    rw [hm] at hq; cases hq
    have hinj := Option.some.inj (ha.symm.trans harr0)
    simp only [Obj.cells.injEq] at hinj
    obtain ⟨e1, _, _⟩ := hinj
    subst e1
    have hpe : p.esz = esz := by rw [hes, hbe]
    have holdlen : ((b.elems.drop off).take len).length = len := by simp; omega
    have hxslen : ((b.elems.drop off).take len ++ new).length = len + new.length := by rw [List.length_append, holdlen]
    have hold : ∀ (k : Nat) (y : AVal), ((b.elems.drop off).take len)[k]? = some y → b.elems[off + k]? = some y := by
      intro k y hy
      rw [List.getElem?_take] at hy
      split at hy
      · rwa [List.getElem?_drop] at hy
      · simp at hy
    have hxsz : ∀ x ∈ (b.elems.drop off).take len ++ new, x.cells.length = esz := by
      intro x hx
      rcases List.mem_append.1 hx with h | h
      · obtain ⟨k, hk, rfl⟩ := List.mem_iff_getElem.1 h
        rw [← hpe]; exact hszs _ _ (hold k _ (List.getElem?_eq_getElem hk))
      · exact hgood x h
    have hshow := elems_shown s he hel hg hy
    -- the new cells, whatever is handed in
    obtain ⟨news, hnl, hnone, hnreps, hfirst⟩ : ∃ news : List Value, news.length = new.length * esz ∧ (∀ u ∈ news, u.oneCell' = true) ∧
        (∀ (i : Nat) (x : AVal) (j : Nat) (c : AVal), new[i]? = some x → x.cells[j]? = some c → ∃ u, news[i * esz + j]? = some u ∧ Reps L w (Bof N H.at m) m u c) ∧
        (Builtin.lenOf (ρ y)).run L.P w = .ok new.length w ∧ (Builtin.firstCells esz new.length (ρ y)).run L.P w = .ok news.toArray w := by
      rcases hshow with ⟨hyv, hnn⟩ | ⟨ad, c2, news, hyv, hl, hcells, hone, hreps⟩
      · subst hnn
        exact ⟨[], by simp, by simp, by simp, by rw [hyv]; simp [Builtin.lenOf], by rw [hyv]; simp [Builtin.firstCells]⟩
      · refine ⟨news, hl, hone, hreps, by rw [hyv]; simp [Builtin.lenOf], ?_⟩
        rw [hyv]
        exact run_firstCells_some (P := L.P) w esz new.length ad new.length c2 news hl hcells
    by_cases hroomy : len + new.length ≤ cap
    · -- in place
      have hin : p.base + off * p.esz + len * esz + news.length ≤ arr.size := by
        rw [hnl, ← hpe]
        have : (off + len + new.length) * p.esz ≤ (off + cap) * p.esz := Nat.mul_le_mul_right _ (by omega)
        rw [Nat.add_mul, Nat.add_mul] at this
        omega
      have hst := run_storeCells_at L.P p.blk (p.base + off * p.esz + len * esz) el news 0 arr w ha (by simpa using hin) hnone
      simp only [Nat.add_zero] at hst
      have hrun : (Builtin.append_ #[t, t] o.type #[.slice (some ⟨p.blk, p.base + off * p.esz, none⟩) len cap, ρ y]).run L.P w =
          .ok (.slice (some ⟨p.blk, p.base + off * p.esz, none⟩) (len + new.length) cap)
            (w.setRow p.blk (arr.toList.take (p.base + off * p.esz + len * esz) ++ news ++ arr.toList.drop (p.base + off * p.esz + len * esz + news.length)).toArray) := by
        simp [Builtin.append_, sizeOf, typeInfo, hi, his, hfirst.1, hroomy, hfirst.2, Addr.add_lit, hst, underlying, ht]
      have hgetn : ∀ k, (arr.toList.take (p.base + off * p.esz + len * esz) ++ news ++ arr.toList.drop (p.base + off * p.esz + len * esz + news.length)).toArray[k]? =
          if p.base + off * p.esz + len * esz ≤ k ∧ k < p.base + off * p.esz + len * esz + news.length then news[k - (p.base + off * p.esz + len * esz)]? else arr[k]? := by
        intro k
        rw [List.getElem?_toArray]
        have hlt : (arr.toList.take (p.base + off * p.esz + len * esz)).length = p.base + off * p.esz + len * esz := by simp; omega
        by_cases hk1 : k < p.base + off * p.esz + len * esz
        · rw [if_neg (by omega), List.append_assoc, List.getElem?_append_left (by omega), List.getElem?_take, if_pos hk1]; simp
        · by_cases hk2 : k < p.base + off * p.esz + len * esz + news.length
          · rw [if_pos (by omega), List.getElem?_append_left (by simp only [List.length_append, hlt]; omega), List.getElem?_append_right (by omega), hlt]
          · rw [if_neg (by omega), List.getElem?_append_right (by simp only [List.length_append, hlt]; omega), List.getElem?_drop]
            simp only [List.length_append, hlt]
            have : p.base + off * p.esz + len * esz + news.length + (k - (p.base + off * p.esz + len * esz + news.length)) = k := by omega
            rw [this]; simp
      have hsize : (arr.toList.take (p.base + off * p.esz + len * esz) ++ news ++ arr.toList.drop (p.base + off * p.esz + len * esz + news.length)).toArray.size = arr.size := by
        simp only [List.size_toArray, List.length_append, List.length_take, List.length_drop, Array.length_toList]
        omega
      refine ⟨_, _, upd m fresh (some ⟨p.blk, p.base + off * p.esz, esz⟩), run_app (e := e) ho hc hargs htt (by rw [hxv]; exact hrun), trivial, ?_, fun id hid => upd_ne _ _ hid, (fun h => by rw [upd_same] at h; cases h), ?_⟩
      · refine Step.write (id2 := fresh) (p' := ⟨p.blk, p.base + off * p.esz, esz⟩) (k' := ⟨false, esz, (b.elems.drop off).take len ++ new⟩) s hblk hfz hm ha (by simp) ⟨rfl, rfl, rfl⟩
          (fun b hb => setRow_other w p.blk b _ hb) (setRow_heap w p.blk arr _ el (0, 0) ha) hsize (.inr ⟨hf, hmf⟩) rfl (fun h => absurd h.symm hne) rfl rfl
          (fun i x hx => hxsz x (List.mem_of_getElem? hx)) ?_
        intro i x j cc hx hj
        have hjl := lt_of_get hj
        rw [hxsz x (List.mem_of_getElem? hx)] at hjl
        rw [hgetn]
        by_cases hil : i < len
        · rw [List.getElem?_append_left (by omega)] at hx
          have hlt : i * esz + j < len * esz := by
            have := Nat.mul_le_mul_right esz (Nat.succ_le_of_lt hil)
            rw [Nat.succ_mul] at this; omega
          rw [if_neg (by simp only; omega)]
          obtain ⟨u, hu, hr⟩ := hcell _ x j cc (hold i x hx) hj
          refine ⟨u, ?_, hr⟩
          rw [← hu]; simp only; congr 1
          rw [hpe, Nat.add_mul]; omega
        · rw [List.getElem?_append_right (by omega), holdlen] at hx
          obtain ⟨u, hu, hr⟩ := hnreps _ x j cc hx hj
          have hul := lt_of_get hu
          have e1 : i * esz = len * esz + (i - len) * esz := by rw [← Nat.add_mul]; congr 1; omega
          rw [if_pos (by simp only; omega)]
          refine ⟨u, ?_, hr⟩
          rw [← hu]; simp only; congr 1
          omega
      · have := Reps.mslc (L := L) (w := w.setRow p.blk (arr.toList.take (p.base + off * p.esz + len * esz) ++ news ++ arr.toList.drop (p.base + off * p.esz + len * esz + news.length)).toArray)
          (B := Bof N (upd (upd H.at id none) fresh (some ⟨false, esz, (b.elems.drop off).take len ++ new⟩)) (upd m fresh (some ⟨p.blk, p.base + off * p.esz, esz⟩)))
          (m := upd m fresh (some ⟨p.blk, p.base + off * p.esz, esz⟩)) fresh 0 (len + new.length) cap ⟨p.blk, p.base + off * p.esz, esz⟩ _ el (0, 0) (upd_same _ _ _) hroomy
          (setRow_heap w p.blk arr _ el (0, 0) ha) (by rw [hsize]; simp only [Nat.zero_add]; rw [hpe, Nat.add_mul] at hroom; rw [hpe]; omega)
        simpa [nextVal] using this
    · -- into a new block
      have hn0 : new ≠ [] := by rintro rfl; simp at hroomy; omega
      rcases hshow with ⟨_, hnn⟩ | ⟨ad, c2, news2, hyv, hl2, hcells2, hone2, hreps2⟩
      · exact absurd hnn hn0
      · have hfit : Builtin.nextslicecap (len + new.length) cap * i.bytes ≤ 281474976710656 := by
          have h1 := nextslicecap_le (need := len + new.length) (old := cap) (by omega)
          have : Builtin.nextslicecap (len + new.length) cap * i.bytes ≤ 2 * (len + new.length) * i.bytes := Nat.mul_le_mul_right _ h1
          rw [Nat.mul_assoc, hb] at this
          rw [hb]; omega
        let olds : List Value := (List.range (len * esz)).map fun k => arr.getD (p.base + off * p.esz + k) undef
        have holdc : ∀ k, k < len * esz → ∃ u, arr[p.base + off * p.esz + k]? = some u ∧ arr.getD (p.base + off * p.esz + k) undef = u := by
          intro k hk
          have h1 : k / esz < len := by rw [Nat.div_lt_iff_lt_mul he]; exact hk
          have h2 : off + k / esz < b.elems.length := by omega
          have hx := List.getElem?_eq_getElem h2
          have hlc := hszs _ _ hx
          have h3 : k % esz < b.elems[off + k / esz].cells.length := by rw [hlc, hpe]; exact Nat.mod_lt _ he
          obtain ⟨u, hu, _⟩ := hcell _ _ _ _ hx (List.getElem?_eq_getElem h3)
          have e1 : p.base + (off + k / esz) * p.esz + k % esz = p.base + off * p.esz + k := by
            rw [hpe, Nat.add_mul]
            have : k / esz * esz + k % esz = k := by rw [Nat.mul_comm]; exact Nat.div_add_mod k esz
            omega
          rw [e1] at hu
          have hlt := (Array.getElem?_eq_some_iff.1 hu).1
          exact ⟨u, hu, by simp [Array.getD, hlt, (Array.getElem?_eq_some_iff.1 hu).2]⟩
        have hrun := run_append_grow (P := L.P) w t o.type e i z ht hi hiz ⟨p.blk, p.base + off * p.esz, none⟩ len cap olds (by simp [olds, his]) (by
          intro j u hu
          have hj : j < len * esz := by simpa [olds] using lt_of_get hu
          obtain ⟨u', hu', hg'⟩ := holdc j hj
          rw [Addr.add_lit, cells_eq ha, hu']
          simp only [olds, List.getElem?_map, List.getElem?_range hj, Option.map_some, Option.some.injEq] at hu
          rw [← hu, hg']) ad new.length c2 news2 (by rw [hl2, his]) hcells2 (by omega) (by omega) hfit
        have hcap2 := grownCap_ge w (len + new.length) cap e
        have sl : Step L N w H.at m w (upd H.at id none) m := Step.less s (by
          intro id' k' hk'
          by_cases h : id' = id
          · subst h; rw [upd_same] at hk'; cases hk'
          · rw [upd_ne _ _ h] at hk'; exact ⟨k', hk', rfl, rfl, fun h => h⟩)
        have hd := does_newRow (o := o) (ρ := ρ) (el := e) (w1 := w.drew) (h := upd H.at id none) (N := N) (m := m) (xs := (b.elems.drop off).take len ++ new) (esz := esz) (fresh := fresh)
          (n := len + new.length) (c := grownCap w (len + new.length) cap e) (arr := olds.toArray ++ news2.toArray ++ Builtin.zeroCells z.cells (grownCap w (len + new.length) cap e - (len + new.length)))
          sl.sim (by rw [upd_ne _ _ (Ne.symm hne)]; exact hf) hmf hxslen hcap2 (by
            simp only [Array.size_append, List.size_toArray, hl2, size_zeroCells, hzs]
            have : olds.length = len * esz := by simp [olds]
            rw [this, ← Nat.add_mul, ← Nat.add_mul]
            exact Nat.mul_le_mul_right _ (by omega)) hxsz rfl ⟨rfl, rfl, rfl⟩ (by
            intro i x j cc hx hj
            have hjl := lt_of_get hj
            rw [hxsz x (List.mem_of_getElem? hx)] at hjl
            have hol : olds.length = len * esz := by simp [olds]
            by_cases hil : i < len
            · rw [List.getElem?_append_left (by omega)] at hx
              have hlt : i * esz + j < len * esz := by
                have := Nat.mul_le_mul_right esz (Nat.succ_le_of_lt hil)
                rw [Nat.succ_mul] at this; omega
              obtain ⟨u, hu, hr⟩ := hcell _ x j cc (hold i x hx) hj
              refine ⟨u, ?_, hr.step sl⟩
              rw [Array.getElem?_append_left (by simp only [Array.size_append, List.size_toArray, hol]; omega), Array.getElem?_append_left (by simp only [List.size_toArray, hol]; omega), List.getElem?_toArray]
              simp only [olds, List.getElem?_map, List.getElem?_range hlt, Option.map_some, Option.some.injEq]
              obtain ⟨u', hu', hg'⟩ := holdc _ hlt
              rw [hg']
              have e1 : p.base + (off + i) * p.esz + j = p.base + off * p.esz + (i * esz + j) := by rw [hpe, Nat.add_mul]; omega
              rw [e1, hu'] at hu
              exact Option.some.inj hu
            · rw [List.getElem?_append_right (by omega), holdlen] at hx
              obtain ⟨u, hu, hr⟩ := hreps2 _ x j cc hx hj
              have hul := lt_of_get hu
              have e1 : i * esz = len * esz + (i - len) * esz := by rw [← Nat.add_mul]; congr 1; omega
              refine ⟨u, ?_, hr.step sl⟩
              rw [Array.getElem?_append_left (by simp only [Array.size_append, List.size_toArray, hol]; omega), Array.getElem?_append_right (by simp only [List.size_toArray, hol]; omega), List.getElem?_toArray]
              rw [← hu]; simp only [List.size_toArray, hol]; congr 1
              omega)
          (run_app (e := e) ho hc hargs htt (by rw [hxv, hyv]; exact hrun))
        obtain ⟨r, w', m', hr, hpn, hstep, hm', hfn, hrep⟩ := hd
        exact ⟨r, w', m', hr, hpn, sl.trans hstep, hm', hfn, hrep⟩
end
end Go.Ash
