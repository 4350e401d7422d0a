/- make, stores and append: each does in the model what it does here. -/
import Derived.Test.YtaojijahpdnjhaaAshOps3
set_option linter.all false
namespace Go.Ash
section
variable {L : Link} {N : Nat → Prop} {w : World} {h : HF} {m : PMap} {ρ : Operand → Value} {o : Oper}

theorem lt_of_get {α : Type} {l : List α} {i : Nat} {a : α} (h : l[i]? = some a) : i < l.length := by
  rcases Nat.lt_or_ge i l.length with h' | h'
  · exact h'
  · simp [List.getElem?_eq_none h'] at h

theorem does_mkslice (s : Sim L N w h m) {fresh : Nat} (hf : h fresh = none) (hmf : m fresh = none) {t e : TypeId} {esz bytes : Nat} {x y : Operand} {zero : AVal} {z : Value}
    {k k' : IntKind} {l c : Int} {i : TypeInfo} (ho : o.op = .makeSlice t x y) (ht : L.P.underlying t = some (.slice e)) (hi : L.P.info? e = some i) (hz : zeroOf L.P e = some z)
    (hzr : constRep zero z = true) (his : i.size = esz) (hzs : z.cells.size = esz) (hb : i.bytes = bytes)
    (hx : Reps L w (Bof N h m) m (ρ x) (.int k l)) (hy : Reps L w (Bof N h m) m (ρ y) (.int k' c)) (h0 : 0 ≤ l) (hlc : l ≤ c) (hmb : c * bytes ≤ maxBytes) (hmc : c ≤ maxBytes) :
    Does L N w h m ρ o (.mslc fresh 0 l.toNat) (upd h fresh (some ⟨false, esz, List.replicate l.toNat zero⟩)) fresh := by
  obtain ⟨hzl, hzc⟩ := zero_cells (L := L) (w := w) (B := Bof N h m) (m := m) hzr
  obtain ⟨i', hi', hiz⟩ := zero_info hz
  rw [hi] at hi'; cases hi'
  have hmax : (maxBytes : Int) = 70368744177664 := rfl
  have hrun := run_make w t e i z ht hi hiz k k' l c h0 hlc (by rw [hb, Int.mul_comm]; omega) (by omega)
  refine does_newRow (el := e) (w1 := w) s hf hmf (by simp) (by omega : l.toNat ≤ c.toNat) ?_ ?_ rfl ⟨rfl, rfl, rfl⟩ ?_ ?_ (arr := madeCells z.cells (c.toNat * i.size)) (esz := esz)
  · rw [size_madeCells, his]; exact Nat.le_refl _
  · intro x hx; rw [List.eq_of_mem_replicate hx, ← hzl, hzs]
  · intro q x j cc hx hj
    have hq := lt_of_get hx
    have hq' : q < l.toNat := by simpa using hq
    have hxz : x = zero := by simp [hq'] at hx; exact hx.symm
    subst hxz
    obtain ⟨u, hu, hr⟩ := hzc j cc hj
    have hju := (Array.getElem?_eq_some_iff.1 hu).1
    have hlt2 : q * esz + j < c.toNat * i.size := by
      have : (q + 1) * esz ≤ c.toNat * esz := Nat.mul_le_mul_right _ (by omega)
      rw [Nat.succ_mul] at this; rw [his]; omega
    refine ⟨u, ?_, hr⟩
    unfold madeCells
    rw [Array.getElem?_map, Array.getElem?_range, if_pos hlt2]
    simp only [Option.map_some, Option.some.injEq]
    have hmod : (q * esz + j) % z.cells.size = j := by
      rw [hzs, Nat.add_comm, Nat.add_mul_mod_self_right, Nat.mod_eq_of_lt (by omega)]
    rw [hmod, getElem!_pos z.cells j hju, (Array.getElem?_eq_some_iff.1 hu).2]
  · simp only [execOp, ho, hx.int_inv, hy.int_inv]
    exact run_val hrun

/-! ### Stores -/

theorem putElem_ok {e e' v : AVal} {oo : Nat} (hc : v.cells.all AVal.isCell = true) (he : putElem e oo v = some e') : e'.cells.length = e.cells.length ∧ oo + v.cells.length ≤ e.cells.length ∧
    ∀ (j : Nat), e'.cells[j]? = if oo ≤ j ∧ j < oo + v.cells.length then v.cells[j - oo]? else e.cells[j]? := by
  have agg : ∀ cs : List AVal, putAgg cs oo v = some e' →
      e'.cells.length = cs.length ∧ oo + v.cells.length ≤ cs.length ∧ ∀ (j : Nat), e'.cells[j]? = if oo ≤ j ∧ j < oo + v.cells.length then v.cells[j - oo]? else cs[j]? := by
    intro cs h
    unfold putAgg at h
    split at h
    · rename_i hw
      obtain ⟨rfl, hl⟩ := hw
      simp only [Option.some.injEq] at h
      subst h
      refine ⟨hl, by omega, fun j => ?_⟩
      show v.cells[j]? = _
      by_cases hj : j < v.cells.length
      · rw [if_pos (by omega)]; rfl
      · rw [if_neg (by omega), List.getElem?_eq_none (by omega), List.getElem?_eq_none (by omega)]
    · split at h
      · rename_i hle
        simp only [Option.some.injEq] at h
        subst h
        exact ⟨setAll_length _ _ _, hle, fun j => setAll_get _ _ _ _ hle⟩
      · simp at h
  have one : ∀ (u : AVal), u.cells = [u] → putOne oo v = some e' →
      e'.cells.length = u.cells.length ∧ oo + v.cells.length ≤ u.cells.length ∧ ∀ (j : Nat), e'.cells[j]? = if oo ≤ j ∧ j < oo + v.cells.length then v.cells[j - oo]? else u.cells[j]? := by
    intro u hu h
    have key : oo = 0 ∧ e' = v ∧ v.cells = [v] := by
      unfold putOne at h
      split at h
      · rename_i hh
        simp only [Option.some.injEq] at h
        refine ⟨hh.2, h.symm, ?_⟩
        have := hh.1
        cases v <;> simp_all [AVal.isCell, AVal.cells]
      · simp at h
    obtain ⟨rfl, rfl, hv⟩ := key
    rw [hu, hv]
    refine ⟨rfl, by simp, fun j => ?_⟩
    cases j with
    | zero => simp
    | succ j => simp
  unfold putElem at he
  cases e with
  | agg cs => exact agg cs he
  | _ => exact one _ rfl he

theorem does_store (s : Sim L N w h m) {fresh : Nat} (hmf : m fresh = none) {t : TypeId} {x y : Operand} {sz id i oo : Nat} {b : Blk} {e e' v : AVal} (ho : o.op = .store t x y)
    (hsz : szOf L.P t = some sz) (hpos : 0 < sz) (hx : Reps L w (Bof N h m) m (ρ x) (.mptr id i oo)) (hy : Reps L w (Bof N h m) m (ρ y) v) (hb : h id = some b) (he : b.elems[i]? = some e)
    (hfz : b.frozen = false) (hvl : v.cells.length = sz) (hvc : v.cells.all AVal.isCell = true) (hp : putElem e oo v = some e') :
    Does L N w h m ρ o (.tup []) (upd h id (some { b with elems := b.elems.set i e' })) fresh := by
  obtain ⟨hl', hle, hget⟩ := putElem_ok hvc hp
  obtain ⟨hvs, hvcells⟩ := hy.cells hvc
  generalize hxx : ρ x = u at hx
  cases hx with
  | mptr _ _ _ p hm =>
    obtain ⟨q, arr, el, hq, hes, hn, ha, hszs, hcell⟩ := s.blk id b hb
    rw [hm] at hq; cases hq
    have hil := lt_of_get he
    have hel := hszs i e he
    -- the cells that are written
    have hin : p.base + i * p.esz + oo + (ρ y).cells.toList.length ≤ arr.size := by
      rw [Array.length_toList, hvs]
      obtain ⟨u, hu, _⟩ := hcell i e (oo + v.cells.length - 1) _ he (List.getElem?_eq_getElem (by omega))
      have := (Array.getElem?_eq_some_iff.1 hu).1
      omega
    have hone : ∀ u ∈ (ρ y).cells.toList, u.oneCell' = true := by
      intro u hu
      obtain ⟨j, hj, rfl⟩ := List.mem_iff_getElem.1 hu
      simp only [Array.length_toList, hvs] at hj
      obtain ⟨u', hu', _, h1⟩ := hvcells j _ (List.getElem?_eq_getElem hj)
      have : (ρ y).cells.toList[j]? = some u' := by simpa using hu'
      rw [List.getElem?_eq_getElem (by simpa [hvs] using hj)] at this
      cases this
      exact h1
    have hst := run_storeCells_at L.P p.blk (p.base + i * p.esz + oo) el (ρ y).cells.toList 0 arr w ha (by simpa using hin) hone
    simp only [Nat.add_zero] at hst
    refine ⟨.skip, w.setRow p.blk (arr.toList.take (p.base + i * p.esz + oo) ++ (ρ y).cells.toList ++ arr.toList.drop (p.base + i * p.esz + oo + (ρ y).cells.toList.length)).toArray, m, ?_, trivial, ?_, fun _ _ => rfl, fun _ => hmf, ?_⟩
    · simp only [execOp, ho, hxx]
      have hnot : ¬ ((ρ y).cells.size ≠ sz) := by rw [hvs, hvl]; simp
      have hv0 : (storeVar t ⟨p.blk, p.base + i * p.esz + oo, none⟩ (ρ y)).run L.P w = .ok () (w.setRow p.blk (arr.toList.take (p.base + i * p.esz + oo) ++ (ρ y).cells.toList ++ arr.toList.drop (p.base + i * p.esz + oo + (ρ y).cells.toList.length)).toArray) := by
        simp only [storeVar, Sem.run_bind, run_sizeOf hsz, Result.andThen_ok]
        rw [if_neg hnot]
        exact hst
      simp only [Instr.storeAt, Instr.sureAddr, Sem.run_bind, Sem.run_pure, Result.andThen_ok, hv0]
    · have hu : upd (upd h id none) id (some { b with elems := b.elems.set i e' }) = upd h id (some { b with elems := b.elems.set i e' }) := by
        funext j; simp only [upd]; split <;> rfl
      have hmu : upd m id (some p) = m := by
        funext j; simp only [upd]; split
        · rename_i hj; rw [hj, hm]
        · rfl
      have hsize : (arr.toList.take (p.base + i * p.esz + oo) ++ (ρ y).cells.toList ++ arr.toList.drop (p.base + i * p.esz + oo + (ρ y).cells.toList.length)).toArray.size = arr.size := by
        simp only [List.size_toArray, List.length_append, List.length_take, List.length_drop, Array.length_toList] at hin ⊢
        omega
      have := Step.write (w' := w.setRow p.blk (arr.toList.take (p.base + i * p.esz + oo) ++ (ρ y).cells.toList ++ arr.toList.drop (p.base + i * p.esz + oo + (ρ y).cells.toList.length)).toArray)
        (k' := { b with elems := b.elems.set i e' }) (id2 := id) (p' := p) s hb hfz hm ha (by simp) ⟨rfl, rfl, rfl⟩ (fun b hb => setRow_other w p.blk b _ hb) (setRow_heap w p.blk arr _ el (0, 0) ha) hsize (.inl rfl) rfl (fun _ => rfl) hes hfz
        (by
          intro i' x' hx'
          by_cases hii : i' = i
          · subst hii; rw [List.getElem?_set_self hil] at hx'; cases hx'; rw [hl']; exact hel
          · rw [List.getElem?_set_ne (Ne.symm hii)] at hx'; exact hszs i' x' hx')
        (by
          intro i' x' j c hx' hj
          have hget2 : ∀ k, (arr.toList.take (p.base + i * p.esz + oo) ++ (ρ y).cells.toList ++ arr.toList.drop (p.base + i * p.esz + oo + (ρ y).cells.toList.length)).toArray[k]? =
              if p.base + i * p.esz + oo ≤ k ∧ k < p.base + i * p.esz + oo + v.cells.length then (ρ y).cells[k - (p.base + i * p.esz + oo)]? else arr[k]? := by
            intro k
            rw [List.getElem?_toArray]
            simp only [Array.length_toList, hvs] at hin ⊢
            have hlt : (arr.toList.take (p.base + i * p.esz + oo)).length = p.base + i * p.esz + oo := by simp; omega
            by_cases hk1 : k < p.base + i * p.esz + oo
            · rw [if_neg (by omega), List.append_assoc, List.getElem?_append_left (by omega), List.getElem?_take, if_pos hk1]; simp
            · by_cases hk2 : k < p.base + i * p.esz + oo + v.cells.length
              · rw [if_pos (by omega), List.getElem?_append_left (by simp only [List.length_append, hlt, Array.length_toList, hvs]; omega), List.getElem?_append_right (by omega), hlt]; simp
              · rw [if_neg (by omega), List.getElem?_append_right (by simp only [List.length_append, hlt, Array.length_toList, hvs]; omega), List.getElem?_drop]
                simp only [List.length_append, hlt, Array.length_toList, hvs]
                have : p.base + i * p.esz + oo + v.cells.length + (k - (p.base + i * p.esz + oo + v.cells.length)) = k := by omega
                rw [this]; simp
          rw [hget2]
          by_cases hii : i' = i
          · subst hii
            rw [List.getElem?_set_self hil] at hx'; cases hx'
            rw [hget] at hj
            split at hj
            · rename_i hjin
              rw [if_pos (by omega)]
              obtain ⟨u, hu, hru, _⟩ := hvcells _ _ hj
              refine ⟨u, ?_, hru⟩
              rw [← hu]; congr 1; omega
            · rename_i hjin
              rw [if_neg (by omega)]
              exact hcell i' e j c he hj
          · rw [List.getElem?_set_ne (Ne.symm hii)] at hx'
            have hjl := lt_of_get hj
            rw [hszs i' x' hx'] at hjl
            have hne : ¬ (p.base + i * p.esz + oo ≤ p.base + i' * p.esz + j ∧ p.base + i' * p.esz + j < p.base + i * p.esz + oo + v.cells.length) := by
              rintro ⟨h1, h2⟩
              rw [hel] at hle
              rcases Nat.lt_or_gt_of_ne hii with hlt | hgt
              · have := Nat.mul_le_mul_right p.esz (Nat.succ_le_of_lt hlt)
                rw [Nat.succ_mul] at this; omega
              · have := Nat.mul_le_mul_right p.esz (Nat.succ_le_of_lt hgt)
                rw [Nat.succ_mul] at this; omega
            rw [if_neg hne]
            exact hcell i' x' j c hx' hj)
      rw [hu, hmu] at this
      exact this
    · exact .tup #[] [] rfl (fun i c hc => by simp at hc)

end
end Go.Ash
