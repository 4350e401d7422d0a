/- Operations that read, or give addresses: each does in the model what it does here. -/
import Derived.Test.YtaojijahpdnjhaaAshOps0
import Derived.Laws.Cover3
set_option linter.all false
namespace Go.Ash
section
variable {L : Link} {N : Nat → Prop} {w : World} {B : Nat → Prop} {m : PMap} {ρ : Operand → Value} {o : Oper}

theorem equalIn_ptr {P : Program} {t e : TypeId} (ht : P.underlying t = some (.pointer e)) (d : Nat) (a : Option Addr) :
    (Op.equalIn (d + 1) t (.pointer a) (.pointer none)).run P w = .ok a.isNone w := by
  cases a <;> simp [Op.equalIn, underlying, ht]
theorem equalIn_fn {P : Program} {t : TypeId} {ps rs : Array TypeId} {va : Bool} (ht : P.underlying t = some (.func ps rs va)) (d : Nat) (f : Fn) (a b : Array Value) :
    (Op.equalIn (d + 1) t (.func f a b) .nilFunc).run P w = .ok false w := by
  simp [Op.equalIn, underlying, ht]
theorem equalIn_nilfn {P : Program} {t : TypeId} {ps rs : Array TypeId} {va : Bool} (ht : P.underlying t = some (.func ps rs va)) (d : Nat) :
    (Op.equalIn (d + 1) t .nilFunc .nilFunc).run P w = .ok true w := by
  simp [Op.equalIn, underlying, ht]
theorem equalIn_ifc {P : Program} {t : TypeId} {ms : Array (String × TypeId)} (ht : P.underlying t = some (.interface ms)) (d : Nat) (ty : TypeId) (v : Value) :
    (Op.equalIn (d + 1) t (.iface ty v) .nilIface).run P w = .ok false w := by
  simp [Op.equalIn, underlying, ht]
theorem equalIn_nilif {P : Program} {t : TypeId} {ms : Array (String × TypeId)} (ht : P.underlying t = some (.interface ms)) (d : Nat) :
    (Op.equalIn (d + 1) t .nilIface .nilIface).run P w = .ok true w := by
  simp [Op.equalIn, underlying, ht]

theorem run_eqnil {P : Program} {kd : Nat} {t : TypeId} {u c : Value} {a : AVal} {b : Bool} (hk : nilKind P t = some kd) (hc : ∃ y, nilOpd y = some kd ∧ y = .const c)
    (hr : Reps L w B m u a) (hb : nilA kd a = some b) : (binOp .eql t u c).run P w = .ok (.bool b) w ∧ (binOp .neq t u c).run P w = .ok (.bool !b) w := by
  obtain ⟨y, hy, rfl⟩ := hc
  have hcc : (kd = 0 ∧ c = .slice none 0 0) ∨ (kd = 1 ∧ c = .pointer none) ∨ (kd = 2 ∧ c = .nilFunc) ∨ (kd = 3 ∧ c = .nilIface) := by
    unfold nilOpd at hy; split at hy <;> simp_all
  unfold nilKind at hk
  have eqd : ∀ (x y : Value), Op.equal t x y = Op.equalIn (9999 + 1) t x y := fun _ _ => rfl
  rcases hcc with ⟨rfl, rfl⟩ | ⟨rfl, rfl⟩ | ⟨rfl, rfl⟩ | ⟨rfl, rfl⟩
  · cases ht : P.underlying t with
    | none => rw [ht] at hk; simp at hk
    | some d =>
      rw [ht] at hk
      cases d <;> simp at hk
      rename_i e
      cases hr <;> simp [nilA] at hb <;> subst hb <;> simp [binOp, run_equal_slice_nil w t e _ _ _ ht]
  · cases ht : P.underlying t with
    | none => rw [ht] at hk; simp at hk
    | some d =>
      rw [ht] at hk
      cases d <;> simp at hk
      cases hr <;> simp [nilA] at hb <;> subst hb <;> simp only [binOp, eqd, Sem.run_bind, equalIn_ptr ht 9999, Result.andThen_ok, Sem.run_pure, Option.isNone, Bool.not_true, Bool.not_false, and_self]
  · cases ht : P.underlying t with
    | none => rw [ht] at hk; simp at hk
    | some d =>
      rw [ht] at hk
      cases d <;> simp at hk
      cases hr <;> simp [nilA] at hb <;> subst hb <;> simp only [binOp, eqd, Sem.run_bind, equalIn_fn ht 9999, equalIn_nilfn ht 9999, Result.andThen_ok, Sem.run_pure, Option.isNone, Bool.not_true, Bool.not_false, and_self]
  · cases ht : P.underlying t with
    | none => rw [ht] at hk; simp at hk
    | some d =>
      rw [ht] at hk
      cases d <;> simp at hk
      cases hr <;> simp [nilA] at hb <;> subst hb <;> simp only [binOp, eqd, Sem.run_bind, equalIn_ifc ht 9999, equalIn_nilif ht 9999, Result.andThen_ok, Sem.run_pure, Option.isNone, Bool.not_true, Bool.not_false, and_self]

theorem gives_eqnil {neg : Bool} {kd : Nat} {t u : TypeId} {x y : Operand} {a : AVal} {b : Bool} (ho : o.op = .binOp (if neg then .neq else .eql) t x y u)
    (hρ : ∀ v, ρ (.const v) = v) (hk : nilKind L.P t = some kd) (hy : nilOpd y = some kd) (ha : Reps L w B m (ρ x) a) (hb : nilA kd a = some b) :
    Gives L w B m ρ o (.bool (if neg then !b else b)) := by
  refine ⟨_, ?_, .bool _⟩
  obtain ⟨c, rfl⟩ : ∃ c, y = .const c := by
    unfold nilOpd at hy; split at hy <;> simp_all
  have hg : (eqGuard (if neg then .neq else .eql) t x (.const c) (ρ x) c).run L.P w = .ok () w := by
    unfold eqGuard
    have hcc : c = .slice none 0 0 ∨ c = .pointer none ∨ c = .nilFunc ∨ c = .nilIface := by
      unfold nilOpd at hy; split at hy <;> simp_all
    rcases hcc with rfl | rfl | rfl | rfl <;> cases neg <;> simp <;> split <;> simp_all
  obtain ⟨h1, h2⟩ := run_eqnil (P := L.P) hk ⟨_, hy, rfl⟩ ha hb
  simp only [execOp, ho, hρ]
  refine run_val ?_
  simp only [Sem.run_bind, hg, Result.andThen_ok]
  cases neg
  · exact h1
  · exact h2

/-! ### Cells -/

theorem Reps.one {v : Value} {a : AVal} (h : Reps L w B m v a) (hc : a.isCell = true) : v.oneCell' = true ∧ v.cells = #[v] ∧ a.cells = [a] := by
  cases h <;> simp_all [AVal.isCell, Value.oneCell', Value.cells, AVal.cells]

theorem Reps.cells {v : Value} {a : AVal} (h : Reps L w B m v a) (hc : a.cells.all AVal.isCell = true) :
    v.cells.size = a.cells.length ∧ ∀ (j : Nat) (c : AVal), a.cells[j]? = some c → ∃ u, v.cells[j]? = some u ∧ Reps L w B m u c ∧ u.oneCell' = true := by
  have key : a.isCell = true ∨ ∃ cs, a = .agg cs := by
    cases a <;> simp_all [AVal.isCell, AVal.cells]
  rcases key with hk | ⟨cs, rfl⟩
  · obtain ⟨h1, h2, h3⟩ := h.one hk
    refine ⟨by rw [h2, h3]; rfl, fun j c hj => ?_⟩
    rw [h3] at hj
    cases j with
    | zero => simp at hj; subst hj; exact ⟨v, by rw [h2]; rfl, h, h1⟩
    | succ j => simp at hj
  · cases h with
    | agg vs _ hl hr =>
      refine ⟨hl, fun j c hj => ?_⟩
      simp only [AVal.cells] at hj hc
      have hj' : j < vs.size := by
        rw [hl]
        rcases Nat.lt_or_ge j cs.length with h | h
        · exact h
        · simp [List.getElem?_eq_none h] at hj
      have hrj := hr j c hj
      have hg : vs.getD j undef = vs[j] := by simp [Array.getD, hj']
      rw [hg] at hrj
      have hcell : c.isCell = true := by
        have := List.all_eq_true.1 hc c (List.mem_of_getElem? hj)
        exact this
      exact ⟨vs[j], Array.getElem?_eq_getElem hj', hrj, (hrj.one hcell).1⟩

theorem run_isAgg {P : Program} {t : TypeId} {agg : Bool} (h : aggOf P t = some agg) (w : World) : (isAgg t).run P w = .ok agg w := by
  unfold aggOf at h
  cases ht : P.underlying t with
  | none => rw [ht] at h; simp at h
  | some d =>
    rw [ht] at h
    simp only [Option.map_some, Option.some.injEq] at h
    subst h
    cases d <;> simp [isAgg, underlying, ht, isAggD]

theorem run_sizeOf {P : Program} {t : TypeId} {n : Nat} (h : szOf P t = some n) (w : World) : (sizeOf t).run P w = .ok n w := by
  unfold szOf at h
  cases ht : P.info? t with
  | none => rw [ht] at h; simp at h
  | some i => rw [ht] at h; simp at h; subst h; simp [sizeOf, typeInfo, ht]

/-- Loading what lies at an address. -/
theorem run_loadVar_part {t : TypeId} {agg : Bool} {sz : Nat} {a : Addr} {cs : List AVal} {v : AVal} (hag : aggOf L.P t = some agg) (hsz : szOf L.P t = some sz)
    (hcells : ∀ (j : Nat) (c : AVal), cs[j]? = some c → ∃ u, w.cell? (a.add j) = some u ∧ Reps L w B m u c) (hv : partA agg sz cs = some v) :
    ∃ u, (loadVar t a).run L.P w = .ok u w ∧ Reps L w B m u v := by
  unfold partA at hv
  cases agg with
  | true =>
    simp only [if_true] at hv
    split at hv
    · rename_i hle
      simp only [Option.some.injEq] at hv
      subst hv
      have hx : ∀ j, j < sz → ∃ u, w.cell? (a.add j) = some u ∧ ∀ c, cs[j]? = some c → Reps L w B m u c := by
        intro j hj
        obtain ⟨u, hu, hr⟩ := hcells j cs[j] (List.getElem?_eq_getElem (by omega))
        exact ⟨u, hu, fun c hc => by rw [List.getElem?_eq_getElem (by omega)] at hc; cases hc; exact hr⟩
      let f : Nat → Value := fun j => (w.cell? (a.add j)).getD undef
      have hf : ∀ j, j < sz → w.cell? (a.add j) = some (f j) := by
        intro j hj
        obtain ⟨u, hu, _⟩ := hx j hj
        simp [f, hu]
      refine ⟨.agg ((List.range sz).map f).toArray, ?_, ?_⟩
      · simp [loadVar, run_isAgg hag, run_sizeOf hsz, run_loadCells w a sz f hf]
      · refine .agg _ _ (by simp; omega) fun i c hc => ?_
        rw [List.getElem?_take] at hc
        split at hc
        · rename_i hi
          obtain ⟨u, hu, hr⟩ := hx i hi
          have := hr c hc
          simpa [Array.getD, hi, f, hu] using this
        · simp at hc
    · simp at hv
  | false =>
    simp only [Bool.false_eq_true, if_false] at hv
    cases cs with
    | nil => simp at hv
    | cons c cs =>
      simp at hv; subst hv
      obtain ⟨u, hu, hr⟩ := hcells 0 c rfl
      exact ⟨u, by simp [loadVar, run_isAgg hag, hu, Addr.add] at hu ⊢; simp [hu], hr⟩

theorem addr_add {a : Addr} (hs : a.spot = none) (n : Nat) : a.add n = ⟨a.block, a.off + n, none⟩ := by
  obtain ⟨b, o, s⟩ := a
  simp only at hs
  subst hs
  exact Addr.add_lit b o n

theorem gives_load_ptr {t : TypeId} {agg : Bool} {sz : Nat} {x : Operand} {cs : List AVal} {v : AVal} (ho : o.op = .load t x) (hag : aggOf L.P t = some agg)
    (hsz : szOf L.P t = some sz) (ha : Reps L w B m (ρ x) (.ptr cs)) (hv : partA agg sz cs = some v) : Gives L w B m ρ o v := by
  generalize hx : ρ x = u at ha
  cases ha with
  | ptr a _ vs hspot hids hcell hrep hB =>
    obtain ⟨r, h1, h2⟩ := run_loadVar_part (a := a) hag hsz (fun j c hc => ⟨vs j, by rw [addr_add hspot]; exact hcell j c hc, hrep j c hc⟩) hv
    refine ⟨r, ?_, h2⟩
    simp only [execOp, ho, hx]
    refine run_val ?_
    simpa [Instr.loadAt, Instr.sureAddr] using h1

theorem gives_load_mptr {h : HF} (s : Sim L N w h m) {t : TypeId} {agg : Bool} {sz : Nat} {x : Operand} {id i oo : Nat} {b : Blk} {e v : AVal} (ho : o.op = .load t x)
    (hag : aggOf L.P t = some agg) (hsz : szOf L.P t = some sz) (ha : Reps L w (Bof N h m) m (ρ x) (.mptr id i oo)) (hb : h id = some b)
    (he : b.elems[i]? = some e) (hv : partA agg sz (e.cells.drop oo) = some v) : Gives L w (Bof N h m) m ρ o v := by
  generalize hx : ρ x = u at ha
  cases ha with
  | mptr _ _ _ p hm =>
    obtain ⟨q, arr, el, hq, hes, hn, harr, hszs, hcell⟩ := s.blk id b hb
    rw [hm] at hq; cases hq
    obtain ⟨r, h1, h2⟩ := run_loadVar_part (a := ⟨p.blk, p.base + i * p.esz + oo, none⟩) (B := Bof N h m) (m := m) hag hsz (fun j c hc => by
      rw [List.getElem?_drop] at hc
      obtain ⟨v, hv, hr⟩ := hcell i e (oo + j) c he hc
      refine ⟨v, ?_, hr⟩
      rw [Addr.add_lit, cells_eq harr]
      rw [← hv]; congr 1; omega) hv
    refine ⟨r, ?_, h2⟩
    simp only [execOp, ho, hx]
    refine run_val ?_
    simpa [Instr.loadAt, Instr.sureAddr] using h1

theorem gives_fld {t : TypeId} {agg : Bool} {off sz f : Nat} {x : Operand} {cs : List AVal} {v : AVal} {fields : Array Field} {fd : Field} (ho : o.op = .field t x f)
    (ht : L.P.underlying t = some (.struct fields)) (hf : fields[f]? = some fd) (hoff : fd.offset = off) (hag : aggOf L.P fd.type = some agg)
    (hsz : szOf L.P fd.type = some sz) (ha : Reps L w B m (ρ x) (.agg cs)) (hv : partA agg sz (cs.drop off) = some v) : Gives L w B m ρ o v := by
  generalize hx : ρ x = u at ha
  cases ha with
  | agg vs _ hl hr =>
    subst hoff
    have key : ∃ r, (part fd.type vs fd.offset).run L.P w = .ok r w ∧ Reps L w B m r v := by
      unfold partA at hv
      cases agg with
      | true =>
        simp only [if_true] at hv
        split at hv
        · rename_i hle
          simp only [Option.some.injEq] at hv
          subst hv
          simp at hle
          refine ⟨.agg (vs.extract fd.offset (fd.offset + sz)), by simp [part, run_isAgg hag, run_sizeOf hsz], .agg _ _ (by simp; omega) fun i c hc => ?_⟩
          rw [List.getElem?_take] at hc
          split at hc
          · rename_i hi
            rw [List.getElem?_drop] at hc
            have := hr _ c hc
            have hlt : fd.offset + i < vs.size := by
              rw [hl]
              rcases Nat.lt_or_ge (fd.offset + i) cs.length with h | h
              · exact h
              · simp [List.getElem?_eq_none h] at hc
            have e1 : (vs.extract fd.offset (fd.offset + sz)).getD i undef = vs.getD (fd.offset + i) undef := by
              have hs : i < (vs.extract fd.offset (fd.offset + sz)).size := by simp; omega
              simp only [Array.getD, dif_pos hs, dif_pos hlt]
              simp
            rw [e1]; exact this
          · simp at hc
        · simp at hv
      | false =>
        simp only [Bool.false_eq_true, if_false, List.head?_drop] at hv
        have := hr _ v hv
        have hlt : fd.offset < vs.size := by
          rw [hl]
          rcases Nat.lt_or_ge fd.offset cs.length with h | h
          · exact h
          · simp [List.getElem?_eq_none h] at hv
        refine ⟨vs[fd.offset], by simp [part, run_isAgg hag, Array.getElem?_eq_getElem hlt], ?_⟩
        simpa [Array.getD, hlt] using this
    obtain ⟨r, h1, h2⟩ := key
    refine ⟨r, ?_, h2⟩
    simp only [execOp, ho, hx]
    refine run_val ?_
    simpa [Instr.field, underlying, ht, hf, asAgg] using h1

theorem gives_faddr {t : TypeId} {off f : Nat} {x : Operand} {fields : Array Field} {fd : Field} {a v : AVal} (ho : o.op = .fieldAddr t x f)
    (ht : L.P.underlying t = some (.struct fields)) (hf : fields[f]? = some fd) (hoff : fd.offset = off) (hsz : (szOf L.P fd.type).any (· ≠ 0) = true)
    (ha : Reps L w B m (ρ x) a) (hv : (∃ cs, a = .ptr cs ∧ v = .ptr (cs.drop off)) ∨ (∃ id i oo, a = .mptr id i oo ∧ v = .mptr id i (oo + off))) : Gives L w B m ρ o v := by
  obtain ⟨sz, hs, hne⟩ : ∃ n, szOf L.P fd.type = some n ∧ n ≠ 0 := by
    cases h : szOf L.P fd.type with
    | none => rw [h] at hsz; simp at hsz
    | some n => rw [h] at hsz; simp at hsz; exact ⟨n, rfl, hsz⟩
  have run : ∀ ad : Addr, ρ x = .pointer (some ad) → (execOp ρ o).run L.P w = .ok (.value (.pointer (some (ad.add off)))) w := by
    intro ad had
    simp only [execOp, ho, had]
    refine run_val ?_
    simp [Instr.fieldAt, underlying, ht, hf, Instr.sureAddr, fieldPlace, run_sizeOf hs, hne, hoff]
  generalize hx : ρ x = u at ha run
  rcases hv with ⟨cs, rfl, rfl⟩ | ⟨id, i, oo, rfl, rfl⟩
  · cases ha with
    | ptr ad _ vs hspot hids hcell hrep hB =>
      refine ⟨_, run ad rfl, ?_⟩
      rw [addr_add hspot]
      refine .ptr _ _ (fun j => vs (off + j)) rfl (ids_of_mem fun i x hx => ?_) ?_ ?_ ?_
      · rw [List.getElem?_drop] at hx; exact idsL_mem hids hx
      · intro j c hc
        rw [List.getElem?_drop] at hc
        have := hcell _ c hc
        rwa [← Nat.add_assoc] at this
      · intro j c hc
        rw [List.getElem?_drop] at hc
        exact hrep _ c hc
      · intro hne'
        refine hB (fun h => hne' (by rw [h]; simp))
  · cases ha with
    | mptr _ _ _ p hm =>
      refine ⟨_, run _ rfl, ?_⟩
      rw [Addr.add_lit]
      have := Reps.mptr (L := L) (w := w) (B := B) (m := m) id i (oo + off) p hm
      rwa [← Nat.add_assoc] at this

theorem gd_get {xs : List AVal} {i : Nat} (h : i < xs.length) : xs[i]? = some (gd xs i) := by
  induction xs generalizing i with
  | nil => simp at h
  | cons x xs ih =>
    cases i with
    | zero => rfl
    | succ i => simp only [List.getElem?_cons_succ, gd]; exact ih (by simpa using h)

theorem run_indexAt {P : Program} {t e : TypeId} {k : IntKind} {i : Int} {esz : Nat} {ad : Addr} {len cap : Nat} (ht : P.underlying t = some (.slice e))
    (hs : szOf P e = some esz) (h0 : 0 ≤ i) (h1 : i < len) :
    (Instr.indexAt t (.slice (some ad) len cap) (.int k i)).run P w = .ok (.pointer (some (ad.add (i.toNat * esz)))) w := by
  simp [Instr.indexAt, asIntOf, underlying, ht, h0, h1, run_sizeOf hs]

theorem gives_iaddr {t e : TypeId} {esz : Nat} {x y : Operand} {n : Bool} {xs : List AVal} {k : IntKind} {i : Int} (ho : o.op = .indexAddr t x y)
    (ht : L.P.underlying t = some (.slice e)) (hs : szOf L.P e = some esz) (ha : Reps L w B m (ρ x) (.slc n xs)) (hi : Reps L w B m (ρ y) (.int k i))
    (h0 : 0 ≤ i) (h1 : i < xs.length) (hsz : (gd xs i.toNat).cells.length = esz) : Gives L w B m ρ o (.ptr (gd xs i.toNat).cells) := by
  have hlt : i.toNat < xs.length := by omega
  have hg := gd_get hlt
  generalize hx : ρ x = u at ha
  cases ha with
  | nils => simp at hlt
  | slc ad s cap _ vs hspot hcap hszs hids hcell hrep hB =>
    have hse : s = esz := by rw [← hszs _ _ hg, hsz]
    subst hse
    refine ⟨.pointer (some (ad.add (i.toNat * s))), ?_, ?_⟩
    · simp only [execOp, ho, hx, hi.int_inv]
      exact run_val (run_indexAt ht hs h0 h1)
    · rw [addr_add (hspot (fun h => by rw [h] at hlt; simp at hlt))]
      refine .ptr _ _ (fun j => vs i.toNat j) rfl (ids_cells (idsL_mem hids hg)) ?_ ?_ ?_
      · intro j c hc
        have := hcell _ _ j c hg hc
        rwa [← Nat.add_assoc] at this
      · intro j c hc; exact hrep _ _ j c hg hc
      · intro _; exact hB (fun h => by rw [h] at hlt; simp at hlt)

theorem gives_iaddr_m {h : HF} (s : Sim L N w h m) {t e : TypeId} {esz : Nat} {x y : Operand} {id off len : Nat} {k : IntKind} {i : Int} {b : Blk} (ho : o.op = .indexAddr t x y)
    (ht : L.P.underlying t = some (.slice e)) (hs : szOf L.P e = some esz) (ha : Reps L w (Bof N h m) m (ρ x) (.mslc id off len)) (hi : Reps L w (Bof N h m) m (ρ y) (.int k i))
    (h0 : 0 ≤ i) (h1 : i < len) (hb : h id = some b) (hes : b.esz = esz) : Gives L w (Bof N h m) m ρ o (.mptr id (off + i.toNat) 0) := by
  generalize hx : ρ x = u at ha
  cases ha with
  | mslc _ _ _ cap p arr el fz hm hcap hblk hroom =>
    obtain ⟨q, _, _, hq, hes', _⟩ := s.blk id b hb
    rw [hm] at hq; cases hq
    have hpe : p.esz = esz := by rw [hes', hes]
    refine ⟨.pointer (some ((⟨p.blk, p.base + off * p.esz, none⟩ : Addr).add (i.toNat * esz))), ?_, ?_⟩
    · simp only [execOp, ho, hx, hi.int_inv]
      exact run_val (run_indexAt ht hs h0 h1)
    · rw [Addr.add_lit, ← hpe]
      have := Reps.mptr (L := L) (w := w) (B := Bof N h m) (m := m) id (off + i.toNat) 0 p hm
      have e2 : p.base + (off + i.toNat) * p.esz + 0 = p.base + off * p.esz + i.toNat * p.esz := by rw [Nat.add_mul]; omega
      rwa [e2] at this

end
end Go.Ash
