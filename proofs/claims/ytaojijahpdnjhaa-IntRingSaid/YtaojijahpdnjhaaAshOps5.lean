/- append: it does in the model what it does here. -/
import Derived.Test.YtaojijahpdnjhaaAshOps4
import Derived.Laws.BytesArg
set_option linter.all false
namespace Go.Ash
section
variable {L : Link} {N : Nat → Prop} {w : World} {H : Heap} {m : PMap} {ρ : Operand → Value} {o : Oper}

/-- The cells that a slice shows, in a list. -/
def Shows (L : Link) (w : World) (B : Nat → Prop) (m : PMap) (esz : Nat) (a : Addr) (news : List Value) (new : List AVal) : Prop :=
  news.length = new.length * esz ∧ (∀ (j : Nat) (u : Value), news[j]? = some u → w.cell? (a.add j) = some u) ∧ (∀ u ∈ news, u.oneCell' = true) ∧
  ∀ (i : Nat) (x : AVal) (j : Nat) (c : AVal), new[i]? = some x → x.cells[j]? = some c → ∃ u, news[i * esz + j]? = some u ∧ Reps L w B m u c

theorem shows_of {B : Nat → Prop} {esz : Nat} (he : 0 < esz) {a : Addr} {new : List AVal} (hg : goodElems esz new = true)
    (hc : ∀ (i : Nat) (x : AVal) (j : Nat) (c : AVal), new[i]? = some x → x.cells[j]? = some c → ∃ u, w.cell? (a.add (i * esz + j)) = some u ∧ Reps L w B m u c) :
    ∃ news, Shows L w B m esz a news new := by
  have hgood : ∀ x ∈ new, x.cells.length = esz ∧ x.cells.all AVal.isCell = true := by
    intro x hx
    have := List.all_eq_true.1 hg x hx
    simpa [Bool.and_eq_true] using this
  have key : ∀ k, k < new.length * esz → ∃ x c u, new[k / esz]? = some x ∧ x.cells[k % esz]? = some c ∧ w.cell? (a.add k) = some u ∧ Reps L w B m u c ∧ u.oneCell' = true := by
    intro k hk
    have h1 : k / esz < new.length := by
      rw [Nat.div_lt_iff_lt_mul he]; exact hk
    have hx := List.getElem?_eq_getElem h1
    obtain ⟨hl, hcs⟩ := hgood _ (List.getElem_mem h1)
    have h2 : k % esz < new[k / esz].cells.length := by rw [hl]; exact Nat.mod_lt _ he
    have hcc := List.getElem?_eq_getElem h2
    obtain ⟨u, hu, hr⟩ := hc _ _ _ _ hx hcc
    have e : k / esz * esz + k % esz = k := by rw [Nat.mul_comm]; exact Nat.div_add_mod k esz
    rw [e] at hu
    have hcell : (new[k / esz].cells[k % esz]).isCell = true := List.all_eq_true.1 hcs _ (List.getElem_mem h2)
    exact ⟨_, _, u, hx, hcc, hu, hr, (hr.one hcell).1⟩
  refine ⟨(List.range (new.length * esz)).map fun k => (w.cell? (a.add k)).getD undef, by simp, ?_, ?_, ?_⟩
  · intro j u hu
    have hj : j < new.length * esz := by simpa using lt_of_get hu
    obtain ⟨_, _, u', _, _, hu', _⟩ := key j hj
    simp [hj, hu'] at hu
    rw [← hu]; exact hu'
  · intro u hu
    obtain ⟨k, hk, rfl⟩ := List.mem_map.1 hu
    obtain ⟨_, _, u', _, _, hu', _, h1⟩ := key k (by simpa using hk)
    rw [hu']; exact h1
  · intro i x j c hx hj
    have hi := lt_of_get hx
    have hjl := lt_of_get hj
    rw [(hgood x (List.mem_of_getElem? hx)).1] at hjl
    have hlt : i * esz + j < new.length * esz := by
      have := Nat.mul_le_mul_right esz (Nat.succ_le_of_lt hi)
      rw [Nat.succ_mul] at this; omega
    obtain ⟨u, hu, hr⟩ := hc i x j c hx hj
    exact ⟨u, by simp [hlt, hu], hr⟩

theorem elems_shown (s : Sim L N w H.at m) {esz : Nat} (he : 0 < esz) {x : AVal} {new : List AVal} {v : Value} (hx : elemsOf H esz x = some new) (hg : goodElems esz new = true)
    (hr : Reps L w (Bof N H.at m) m v x) : (v = .slice none 0 0 ∧ new = []) ∨ ∃ a c news, v = .slice (some a) new.length c ∧ Shows L w (Bof N H.at m) m esz a news new := by
  cases hr with
  | nils => simp [elemsOf] at hx; exact .inl ⟨rfl, hx⟩
  | slc a s cap xs vs hspot hcap hsz hids hcell hrep hB =>
    simp [elemsOf] at hx; subst hx
    obtain ⟨news, hn⟩ := shows_of (L := L) (w := w) (B := Bof N H.at m) (m := m) (a := a) he hg (by
      intro i x j c hxi hj
      have hse : s = esz := by
        rw [← hsz i x hxi]
        have := List.all_eq_true.1 hg x (List.mem_of_getElem? hxi)
        simp only [Bool.and_eq_true, beq_iff_eq] at this
        exact this.1
      subst hse
      exact ⟨vs i j, by rw [addr_add (hspot (by rintro rfl; simp at hxi))]; exact hcell i x j c hxi hj, hrep i x j c hxi hj⟩)
    exact .inr ⟨a, cap, news, rfl, hn⟩
  | mslc id off len cap p arr el fz hm hcap hblk hroom =>
    simp only [elemsOf] at hx
    cases hb : H.at id with
    | none => rw [hb] at hx; simp at hx
    | some b =>
      rw [hb] at hx
      simp only at hx
      split at hx
      · rename_i hcond
        simp only [Option.some.injEq] at hx
        subst hx
        obtain ⟨q, arr', el', hq, hes, hn, ha, hszs, hcell⟩ := s.blk id b hb
        rw [hm] at hq; cases hq
        have hlen : ((b.elems.drop off).take len).length = len := by simp; omega
        obtain ⟨news, hn⟩ := shows_of (L := L) (w := w) (B := Bof N H.at m) (m := m) (a := ⟨p.blk, p.base + off * p.esz, none⟩) he hg (by
          intro i x j c hxi hj
          have hi := lt_of_get hxi
          rw [hlen] at hi
          rw [List.getElem?_take, if_pos hi, List.getElem?_drop] at hxi
          obtain ⟨u, hu, hr⟩ := hcell _ x j c hxi hj
          refine ⟨u, ?_, hr⟩
          rw [Addr.add_lit, cells_eq ha, ← hu, ← hcond.1, ← hes]
          congr 1
          rw [Nat.add_mul]; omega)
        refine .inr ⟨_, cap, news, ?_, hn⟩
        rw [hlen]
      · simp at hx
  | _ => simp [elemsOf] at hx

theorem bytesOf_good : ∀ (l : List AVal) (ns : List Int), bytesOf l = some ns → l = ns.map (AVal.int .u8)
  | [], ns, h => by simp [bytesOf] at h; subst h; rfl
  | x :: l, ns, h => by
    unfold bytesOf at h
    split at h
    · rename_i heq; cases heq
    · rename_i n l' heq
      cases heq
      simp only [Option.map_eq_some_iff] at h
      obtain ⟨ms, hm, rfl⟩ := h
      rw [bytesOf_good l ms hm]; rfl
    · simp at h

theorem gives_b2s (s : Sim L N w H.at m) {sr d e : TypeId} {x : Operand} {a : AVal} {l : List AVal} {ns : List Int} (ho : o.op = .convert sr d x) (hs : L.P.underlying sr = some (.slice e))
    (he : L.P.underlying e = some (.int .u8)) (hd : L.P.underlying d = some .string) (hr : Reps L w (Bof N H.at m) m (ρ x) a) (hl : elemsOf H 1 a = some l) (hb : bytesOf l = some ns) :
    Gives L w (Bof N H.at m) m ρ o (.str (textOf ns)) := by
  have hg := bytesOf_good l ns hb
  subst hg
  refine ⟨.string (textOf ns), ?_, .str _⟩
  simp only [execOp, ho]
  refine run_val ?_
  rcases elems_shown s (by omega) hl (by simp [goodElems, AVal.cells, AVal.isCell]) hr with ⟨hv, hn⟩ | ⟨ad, cap, news, hv, hnl, hcells, hone, hreps⟩
  · rw [hv, run_convert_bytes_nil w sr e hs he 0 0 d hd]
    have : ns = [] := by simpa using hn
    subst this
    rfl
  · rw [hv]
    have hnews : news = ns.map (Value.int .u8) := by
      apply List.ext_getElem?
      intro j
      by_cases hj : j < ns.length
      · obtain ⟨u, hu, hru⟩ := hreps j (.int .u8 ns[j]) 0 (.int .u8 ns[j]) (by simp [hj]) (by simp [AVal.cells])
        have := hru.int_inv
        subst this
        simp only [Nat.mul_one, Nat.add_zero] at hu
        rw [hu]; simp [hj]
      · rw [List.getElem?_eq_none (by rw [hnl]; simp; omega), List.getElem?_eq_none (by simp; omega)]
    have hld : (loadCells ad ns.length).run L.P w = .ok (ns.map (Value.int .u8)).toArray w := by
      have := run_loadCells_list (P := L.P) w ad (ns.map (Value.int .u8)) (fun j v hj => by rw [← hnews] at hj; exact hcells j v hj)
      simpa using this
    rw [run_convert_bytes_string w sr d e _ _ cap hs he hd, List.length_map, run_bytesToString w _ _ cap ns hld, foldl_push_bytes]
    simp [textOf, ByteArray.empty, ByteArray.emptyWithCapacity]
    rfl

/-- The types of what is appended to, and of what is appended: slices. -/
def ApTys (P : Program) (c : Call) (t : TypeId) : Prop := ∃ t2 e e2, c.argTypes = #[t, t2] ∧ P.underlying t = some (.slice e) ∧ P.underlying t2 = some (.slice e2)

theorem append_types {P : Program} {t t2 e e2 ty : TypeId} (h1 : P.underlying t = some (.slice e)) (h2 : P.underlying t2 = some (.slice e2)) (a b : Value) (w : World) :
    (Builtin.append_ #[t, t2] ty #[a, b]).run P w = (Builtin.append_ #[t, t] ty #[a, b]).run P w := by
  cases a with
  | slice base n cap =>
    cases hi : P.info? e with
    | none => simp [Builtin.append_, underlying, h1, sizeOf, typeInfo, hi]
    | some i => simp [Builtin.append_, underlying, h1, h2, sizeOf, typeInfo, hi, Sem.run_bind]
  | _ => simp [Builtin.append_, underlying, h1]

theorem run_app {t e : TypeId} {c : Call} {x y : Operand} (ho : o.op = .call c) (hc : c.callee = .builtin .append) (hargs : c.args = #[x, y]) (htt : ApTys L.P c t)
    {u : Value} {w' : World} (hrun : (Builtin.append_ #[t, t] o.type #[ρ x, ρ y]).run L.P w = .ok u w') : (execOp ρ o).run L.P w = .ok (.value u) w' := by
  obtain ⟨t2, e1, e2, htt, h1, h2⟩ := htt
  rw [← append_types h1 h2] at hrun
  simp only [execOp, ho, resolve, hc, hargs, htt, invoke, builtin, Sem.run_bind, Sem.run_pure, Result.andThen_ok]
  have : Array.map ρ #[x, y] = #[ρ x, ρ y] := by simp
  rw [this, hrun]
  rfl

theorem argTypes_two {P : Program} {c : Call} {t e : TypeId} (h0 : c.argTypes[0]? = some t) (h1 : (c.argTypes[1]?).any (fun t2 => (sliceOf P t2).isSome) = true) (hs : c.argTypes.size = 2)
    (he : P.underlying t = some (.slice e)) : ApTys P c t := by
  cases h : c.argTypes[1]? with
  | none => rw [h] at h1; simp at h1
  | some t2 =>
    rw [h] at h1
    simp only [Option.any_some] at h1
    obtain ⟨e2, he2⟩ := Option.isSome_iff_exists.1 h1
    refine ⟨t2, e, e2, ?_, he, sliceOf_spec he2⟩
    apply Array.ext
    · simpa using hs
    · intro i hi hi'
      have e0 : c.argTypes[0] = t := by rw [Array.getElem?_eq_getElem (by omega)] at h0; exact Option.some.inj h0
      have e1 : c.argTypes[1] = t2 := by rw [Array.getElem?_eq_getElem (by omega)] at h; exact Option.some.inj h
      simp at hi'
      rcases (by omega : i = 0 ∨ i = 1) with rfl | rfl
      · exact e0
      · exact e1

/-- Onto nil. -/
theorem does_app_nil (s : Sim L N w H.at m) {fresh : Nat} (hf : H.at fresh = none) (hmf : m fresh = none) {t e : TypeId} {esz bytes : Nat} {c : Call} {x y : Operand} {z : Value}
    {a : AVal} {new : List AVal} {i : TypeInfo} (ho : o.op = .call c) (hc : c.callee = .builtin .append) (hargs : c.args = #[x, y]) (htt : ApTys L.P c t)
    (ht : L.P.underlying t = some (.slice e)) (hi : L.P.info? e = some i) (hz : zeroOf L.P e = some z) (hzs : z.cells.size = esz) (his : i.size = esz) (he : 0 < esz) (hb : i.bytes = bytes)
    (hx : Reps L w (Bof N H.at m) m (ρ x) (.slc true [])) (hy : Reps L w (Bof N H.at m) m (ρ y) a) (hel : elemsOf H esz a = some new) (hg : goodElems esz new = true)
    (h0 : new ≠ []) (hmb : new.length * bytes ≤ maxBytes) (hml : new.length ≤ maxBytes) :
    Does L N w H.at m ρ o (.mslc fresh 0 new.length) (upd H.at fresh (some ⟨false, esz, new⟩)) fresh := by
  have hxv : ρ x = .slice none 0 0 := by
    generalize ρ x = u at hx ⊢
    cases hx; rfl
  have hpos : 0 < new.length := by cases new; exact absurd rfl h0; simp
  have hmax : maxBytes = 70368744177664 := rfl
  obtain ⟨i', hi', hiz⟩ := zero_info hz
  rw [hi] at hi'; cases hi'
  rcases elems_shown s he hel hg hy with ⟨_, hn⟩ | ⟨ad, cap, news, hyv, hl, hcells, hone, hreps⟩
  · exact absurd hn h0
  · have hrun := run_append_nil (P := L.P) w t o.type e i z ht hi hiz ad new.length cap news (by rw [hl, his]) hcells hpos (by omega) (by rw [hb]; omega)
    have hcap := grownCap_ge w new.length 0 e
    refine does_newRow (el := e) (w1 := w.drew) s hf hmf rfl hcap ?_ ?_ rfl ⟨rfl, rfl, rfl⟩ ?_ (run_app (e := e) ho hc hargs htt (by rw [hxv, hyv]; exact hrun)) (esz := esz)
    · simp only [Array.size_append, List.size_toArray, hl, size_zeroCells, hzs]
      rw [← Nat.add_mul]
      exact Nat.mul_le_mul_right _ (by omega)
    · intro x hx
      have := List.all_eq_true.1 hg x hx
      simp only [Bool.and_eq_true, beq_iff_eq] at this
      exact this.1
    · intro i x j cc hx hj
      obtain ⟨u, hu, hr⟩ := hreps i x j cc hx hj
      have := lt_of_get hu
      exact ⟨u, by rw [Array.getElem?_append_left (by simpa using this)]; simpa using hu, hr⟩

theorem gives_app_none (s : Sim L N w H.at m) {t e : TypeId} {esz : Nat} {c : Call} {x y : Operand} {a : AVal} {i : TypeInfo} (ho : o.op = .call c)
    (hc : c.callee = .builtin .append) (hargs : c.args = #[x, y]) (htt : ApTys L.P c t) (ht : L.P.underlying t = some (.slice e)) (hi : L.P.info? e = some i) (he : 0 < esz)
    (hx : Reps L w (Bof N H.at m) m (ρ x) (.slc true [])) (hy : Reps L w (Bof N H.at m) m (ρ y) a) (hel : elemsOf H esz a = some []) : Gives L w (Bof N H.at m) m ρ o (.slc true []) := by
  have hxv : ρ x = .slice none 0 0 := by
    generalize ρ x = u at hx ⊢
    cases hx; rfl
  refine ⟨.slice none 0 0, run_app (e := e) ho hc hargs htt ?_, .nils⟩
  rw [hxv]
  rcases elems_shown s he hel (by rfl) hy with ⟨hyv, _⟩ | ⟨ad, cap, news, hyv, hl, hcells, hone, hreps⟩
  · rw [hyv]
    simp [Builtin.append_, underlying, ht, sizeOf, typeInfo, hi, Builtin.lenOf, Builtin.firstCells]
  · rw [hyv]
    simp [Builtin.append_, underlying, ht, sizeOf, typeInfo, hi, Builtin.lenOf, Builtin.firstCells, loadCells, loadCellsFrom]

/-- Onto what may be written: in place, or into a new block; the elder number is gone. -/
theorem does_app (s : Sim L N w H.at m) {fresh : Nat} (hf : H.at fresh = none) (hmf : m fresh = none) {t e : TypeId} {esz bytes id off len : Nat} {c : Call} {x y : Operand} {z : Value}
    {a : AVal} {new : List AVal} {i : TypeInfo} {b : Blk} (ho : o.op = .call c) (hc : c.callee = .builtin .append) (hargs : c.args = #[x, y]) (htt : ApTys L.P c t)
    (ht : L.P.underlying t = some (.slice e)) (hi : L.P.info? e = some i) (hz : zeroOf L.P e = some z) (hzs : z.cells.size = esz) (his : i.size = esz) (he : 0 < esz) (hb : i.bytes = bytes)
    (hx : Reps L w (Bof N H.at m) m (ρ x) (.mslc id off len)) (hy : Reps L w (Bof N H.at m) m (ρ y) a) (hel : elemsOf H esz a = some new) (hg : goodElems esz new = true)
    (hblk : H.at id = some b) (hfz : b.frozen = false) (hbe : b.esz = esz) (hlen : off + len ≤ b.elems.length)
    (hmb : (len + new.length) * bytes ≤ maxBytes) (hml : len + new.length ≤ maxBytes) :
    Does L N w H.at m ρ o (.mslc fresh 0 (len + new.length)) (upd (upd H.at id none) fresh (some ⟨false, esz, (b.elems.drop off).take len ++ new⟩)) fresh := by
  have hmax : maxBytes = 70368744177664 := rfl
  have hgood : ∀ x ∈ new, x.cells.length = esz := by
    intro x hx
    have := List.all_eq_true.1 hg x hx
    simp only [Bool.and_eq_true, beq_iff_eq] at this
    exact this.1
  obtain ⟨i', hi', hiz⟩ := zero_info hz
  rw [hi] at hi'; cases hi'
  have hne : id ≠ fresh := by rintro rfl; rw [hf] at hblk; cases hblk
  generalize hxv : ρ x = ux at hx
  cases hx with
  | mslc _ _ _ cap p arr0 el0 fz0 hm hcap harr0 hroom =>
    obtain ⟨q, arr, el, hq, hes, hn, ha, hszs, hcell⟩ := s.blk id b hblk
    rw [hm] at hq; cases hq
    have hinj := Option.some.inj (ha.symm.trans harr0)
    simp only [Obj.cells.injEq] at hinj
    obtain ⟨e1, _, _⟩ := hinj
    subst e1
    have hpe : p.esz = esz := by rw [hes, hbe]
    have holdlen : ((b.elems.drop off).take len).length = len := by simp; omega
    have hxslen : ((b.elems.drop off).take len ++ new).length = len + new.length := by rw [List.length_append, holdlen]
    have hold : ∀ (k : Nat) (y : AVal), ((b.elems.drop off).take len)[k]? = some y → b.elems[off + k]? = some y := by
      intro k y hy
      rw [List.getElem?_take] at hy
      split at hy
      · rwa [List.getElem?_drop] at hy
      · simp at hy
    have hxsz : ∀ x ∈ (b.elems.drop off).take len ++ new, x.cells.length = esz := by
      intro x hx
      rcases List.mem_append.1 hx with h | h
      · obtain ⟨k, hk, rfl⟩ := List.mem_iff_getElem.1 h
        rw [← hpe]; exact hszs _ _ (hold k _ (List.getElem?_eq_getElem hk))
      · exact hgood x h
    have hshow := elems_shown s he hel hg hy
    -- the new cells, whatever is handed in
    obtain ⟨news, hnl, hnone, hnreps, hfirst⟩ : ∃ news : List Value, news.length = new.length * esz ∧ (∀ u ∈ news, u.oneCell' = true) ∧
        (∀ (i : Nat) (x : AVal) (j : Nat) (c : AVal), new[i]? = some x → x.cells[j]? = some c → ∃ u, news[i * esz + j]? = some u ∧ Reps L w (Bof N H.at m) m u c) ∧
        (Builtin.lenOf (ρ y)).run L.P w = .ok new.length w ∧ (Builtin.firstCells esz new.length (ρ y)).run L.P w = .ok news.toArray w := by
      rcases hshow with ⟨hyv, hnn⟩ | ⟨ad, c2, news, hyv, hl, hcells, hone, hreps⟩
      · subst hnn
        exact ⟨[], by simp, by simp, by simp, by rw [hyv]; simp [Builtin.lenOf], by rw [hyv]; simp [Builtin.firstCells]⟩
      · refine ⟨news, hl, hone, hreps, by rw [hyv]; simp [Builtin.lenOf], ?_⟩
        rw [hyv]
        exact run_firstCells_some (P := L.P) w esz new.length ad new.length c2 news hl hcells
    by_cases hroomy : len + new.length ≤ cap
    · -- in place
      have hin : p.base + off * p.esz + len * esz + news.length ≤ arr.size := by
        rw [hnl, ← hpe]
        have : (off + len + new.length) * p.esz ≤ (off + cap) * p.esz := Nat.mul_le_mul_right _ (by omega)
        rw [Nat.add_mul, Nat.add_mul] at this
        omega
      have hst := run_storeCells_at L.P p.blk (p.base + off * p.esz + len * esz) el news 0 arr w ha (by simpa using hin) hnone
      simp only [Nat.add_zero] at hst
      have hrun : (Builtin.append_ #[t, t] o.type #[.slice (some ⟨p.blk, p.base + off * p.esz, none⟩) len cap, ρ y]).run L.P w =
          .ok (.slice (some ⟨p.blk, p.base + off * p.esz, none⟩) (len + new.length) cap)
            (w.setRow p.blk (arr.toList.take (p.base + off * p.esz + len * esz) ++ news ++ arr.toList.drop (p.base + off * p.esz + len * esz + news.length)).toArray) := by
        simp [Builtin.append_, sizeOf, typeInfo, hi, his, hfirst.1, hroomy, hfirst.2, Addr.add_lit, hst, underlying, ht]
      have hgetn : ∀ k, (arr.toList.take (p.base + off * p.esz + len * esz) ++ news ++ arr.toList.drop (p.base + off * p.esz + len * esz + news.length)).toArray[k]? =
          if p.base + off * p.esz + len * esz ≤ k ∧ k < p.base + off * p.esz + len * esz + news.length then news[k - (p.base + off * p.esz + len * esz)]? else arr[k]? := by
        intro k
        rw [List.getElem?_toArray]
        have hlt : (arr.toList.take (p.base + off * p.esz + len * esz)).length = p.base + off * p.esz + len * esz := by simp; omega
        by_cases hk1 : k < p.base + off * p.esz + len * esz
        · rw [if_neg (by omega), List.append_assoc, List.getElem?_append_left (by omega), List.getElem?_take, if_pos hk1]; simp
        · by_cases hk2 : k < p.base + off * p.esz + len * esz + news.length
          · rw [if_pos (by omega), List.getElem?_append_left (by simp only [List.length_append, hlt]; omega), List.getElem?_append_right (by omega), hlt]
          · rw [if_neg (by omega), List.getElem?_append_right (by simp only [List.length_append, hlt]; omega), List.getElem?_drop]
            simp only [List.length_append, hlt]
            have : p.base + off * p.esz + len * esz + news.length + (k - (p.base + off * p.esz + len * esz + news.length)) = k := by omega
            rw [this]; simp
      have hsize : (arr.toList.take (p.base + off * p.esz + len * esz) ++ news ++ arr.toList.drop (p.base + off * p.esz + len * esz + news.length)).toArray.size = arr.size := by
        simp only [List.size_toArray, List.length_append, List.length_take, List.length_drop, Array.length_toList]
        omega
      refine ⟨_, _, upd m fresh (some ⟨p.blk, p.base + off * p.esz, esz⟩), run_app (e := e) ho hc hargs htt (by rw [hxv]; exact hrun), trivial, ?_, fun id hid => upd_ne _ _ hid, (fun h => by rw [upd_same] at h; cases h), ?_⟩
      · refine Step.write (id2 := fresh) (p' := ⟨p.blk, p.base + off * p.esz, esz⟩) (k' := ⟨false, esz, (b.elems.drop off).take len ++ new⟩) s hblk hfz hm ha (by simp) ⟨rfl, rfl, rfl⟩
          (fun b hb => setRow_other w p.blk b _ hb) (setRow_heap w p.blk arr _ el (0, 0) ha) hsize (.inr ⟨hf, hmf⟩) rfl (fun h => absurd h.symm hne) rfl rfl
          (fun i x hx => hxsz x (List.mem_of_getElem? hx)) ?_
        intro i x j cc hx hj
        have hjl := lt_of_get hj
        rw [hxsz x (List.mem_of_getElem? hx)] at hjl
        rw [hgetn]
        by_cases hil : i < len
        · rw [List.getElem?_append_left (by omega)] at hx
          have hlt : i * esz + j < len * esz := by
            have := Nat.mul_le_mul_right esz (Nat.succ_le_of_lt hil)
            rw [Nat.succ_mul] at this; omega
          rw [if_neg (by simp only; omega)]
          obtain ⟨u, hu, hr⟩ := hcell _ x j cc (hold i x hx) hj
          refine ⟨u, ?_, hr⟩
          rw [← hu]; simp only; congr 1
          rw [hpe, Nat.add_mul]; omega
        · rw [List.getElem?_append_right (by omega), holdlen] at hx
          obtain ⟨u, hu, hr⟩ := hnreps _ x j cc hx hj
          have hul := lt_of_get hu
          have e1 : i * esz = len * esz + (i - len) * esz := by rw [← Nat.add_mul]; congr 1; omega
          rw [if_pos (by simp only; omega)]
          refine ⟨u, ?_, hr⟩
          rw [← hu]; simp only; congr 1
          omega
      · have := Reps.mslc (L := L) (w := w.setRow p.blk (arr.toList.take (p.base + off * p.esz + len * esz) ++ news ++ arr.toList.drop (p.base + off * p.esz + len * esz + news.length)).toArray)
          (B := Bof N (upd (upd H.at id none) fresh (some ⟨false, esz, (b.elems.drop off).take len ++ new⟩)) (upd m fresh (some ⟨p.blk, p.base + off * p.esz, esz⟩)))
          (m := upd m fresh (some ⟨p.blk, p.base + off * p.esz, esz⟩)) fresh 0 (len + new.length) cap ⟨p.blk, p.base + off * p.esz, esz⟩ _ el (0, 0) (upd_same _ _ _) hroomy
          (setRow_heap w p.blk arr _ el (0, 0) ha) (by rw [hsize]; simp only [Nat.zero_add]; rw [hpe, Nat.add_mul] at hroom; rw [hpe]; omega)
        simpa [nextVal] using this
    · -- into a new block
      have hn0 : new ≠ [] := by rintro rfl; simp at hroomy; omega
      rcases hshow with ⟨_, hnn⟩ | ⟨ad, c2, news2, hyv, hl2, hcells2, hone2, hreps2⟩
      · exact absurd hnn hn0
      · have hfit : Builtin.nextslicecap (len + new.length) cap * i.bytes ≤ 281474976710656 := by
          have h1 := nextslicecap_le (need := len + new.length) (old := cap) (by omega)
          have : Builtin.nextslicecap (len + new.length) cap * i.bytes ≤ 2 * (len + new.length) * i.bytes := Nat.mul_le_mul_right _ h1
          rw [Nat.mul_assoc, hb] at this
          rw [hb]; omega
        let olds : List Value := (List.range (len * esz)).map fun k => arr.getD (p.base + off * p.esz + k) undef
        have holdc : ∀ k, k < len * esz → ∃ u, arr[p.base + off * p.esz + k]? = some u ∧ arr.getD (p.base + off * p.esz + k) undef = u := by
          intro k hk
          have h1 : k / esz < len := by rw [Nat.div_lt_iff_lt_mul he]; exact hk
          have h2 : off + k / esz < b.elems.length := by omega
          have hx := List.getElem?_eq_getElem h2
          have hlc := hszs _ _ hx
          have h3 : k % esz < b.elems[off + k / esz].cells.length := by rw [hlc, hpe]; exact Nat.mod_lt _ he
          obtain ⟨u, hu, _⟩ := hcell _ _ _ _ hx (List.getElem?_eq_getElem h3)
          have e1 : p.base + (off + k / esz) * p.esz + k % esz = p.base + off * p.esz + k := by
            rw [hpe, Nat.add_mul]
            have : k / esz * esz + k % esz = k := by rw [Nat.mul_comm]; exact Nat.div_add_mod k esz
            omega
          rw [e1] at hu
          have hlt := (Array.getElem?_eq_some_iff.1 hu).1
          exact ⟨u, hu, by simp [Array.getD, hlt, (Array.getElem?_eq_some_iff.1 hu).2]⟩
        have hrun := run_append_grow (P := L.P) w t o.type e i z ht hi hiz ⟨p.blk, p.base + off * p.esz, none⟩ len cap olds (by simp [olds, his]) (by
          intro j u hu
          have hj : j < len * esz := by simpa [olds] using lt_of_get hu
          obtain ⟨u', hu', hg'⟩ := holdc j hj
          rw [Addr.add_lit, cells_eq ha, hu']
          simp only [olds, List.getElem?_map, List.getElem?_range hj, Option.map_some, Option.some.injEq] at hu
          rw [← hu, hg']) ad new.length c2 news2 (by rw [hl2, his]) hcells2 (by omega) (by omega) hfit
        have hcap2 := grownCap_ge w (len + new.length) cap e
        have sl : Step L N w H.at m w (upd H.at id none) m := Step.less s (by
          intro id' k' hk'
          by_cases h : id' = id
          · subst h; rw [upd_same] at hk'; cases hk'
          · rw [upd_ne _ _ h] at hk'; exact ⟨k', hk', rfl, rfl, fun h => h⟩)
        have hd := does_newRow (o := o) (ρ := ρ) (el := e) (w1 := w.drew) (h := upd H.at id none) (N := N) (m := m) (xs := (b.elems.drop off).take len ++ new) (esz := esz) (fresh := fresh)
          (n := len + new.length) (c := grownCap w (len + new.length) cap e) (arr := olds.toArray ++ news2.toArray ++ Builtin.zeroCells z.cells (grownCap w (len + new.length) cap e - (len + new.length)))
          sl.sim (by rw [upd_ne _ _ (Ne.symm hne)]; exact hf) hmf hxslen hcap2 (by
            simp only [Array.size_append, List.size_toArray, hl2, size_zeroCells, hzs]
            have : olds.length = len * esz := by simp [olds]
            rw [this, ← Nat.add_mul, ← Nat.add_mul]
            exact Nat.mul_le_mul_right _ (by omega)) hxsz rfl ⟨rfl, rfl, rfl⟩ (by
            intro i x j cc hx hj
            have hjl := lt_of_get hj
            rw [hxsz x (List.mem_of_getElem? hx)] at hjl
            have hol : olds.length = len * esz := by simp [olds]
            by_cases hil : i < len
            · rw [List.getElem?_append_left (by omega)] at hx
              have hlt : i * esz + j < len * esz := by
                have := Nat.mul_le_mul_right esz (Nat.succ_le_of_lt hil)
                rw [Nat.succ_mul] at this; omega
              obtain ⟨u, hu, hr⟩ := hcell _ x j cc (hold i x hx) hj
              refine ⟨u, ?_, hr.step sl⟩
              rw [Array.getElem?_append_left (by simp only [Array.size_append, List.size_toArray, hol]; omega), Array.getElem?_append_left (by simp only [List.size_toArray, hol]; omega), List.getElem?_toArray]
              simp only [olds, List.getElem?_map, List.getElem?_range hlt, Option.map_some, Option.some.injEq]
              obtain ⟨u', hu', hg'⟩ := holdc _ hlt
              rw [hg']
              have e1 : p.base + (off + i) * p.esz + j = p.base + off * p.esz + (i * esz + j) := by rw [hpe, Nat.add_mul]; omega
              rw [e1, hu'] at hu
              exact Option.some.inj hu
            · rw [List.getElem?_append_right (by omega), holdlen] at hx
              obtain ⟨u, hu, hr⟩ := hreps2 _ x j cc hx hj
              have hul := lt_of_get hu
              have e1 : i * esz = len * esz + (i - len) * esz := by rw [← Nat.add_mul]; congr 1; omega
              refine ⟨u, ?_, hr.step sl⟩
              rw [Array.getElem?_append_left (by simp only [Array.size_append, List.size_toArray, hol]; omega), Array.getElem?_append_right (by simp only [List.size_toArray, hol]; omega), List.getElem?_toArray]
              rw [← hu]; simp only [List.size_toArray, hol]; congr 1
              omega)
          (run_app (e := e) ho hc hargs htt (by rw [hxv, hyv]; exact hrun))
        obtain ⟨r, w', m', hr, hpn, hstep, hm', hfn, hrep⟩ := hd
        exact ⟨r, w', m', hr, hpn, sl.trans hstep, hm', hfn, hrep⟩
end
end Go.Ash
