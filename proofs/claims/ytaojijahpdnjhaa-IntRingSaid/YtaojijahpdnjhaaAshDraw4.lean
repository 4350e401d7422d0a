/- A region whose order is drawn: one operation more. -/
import Derived.Test.YtaojijahpdnjhaaAshDraw3
set_option linter.all false
namespace Go.Ash

theorem ids_cell {x : AVal} {y : Nat} (h : y ∈ x.ids) : ∃ (k : Nat) (c : AVal), x.cells[k]? = some c ∧ y ∈ c.ids := by
  cases x <;> simp only [AVal.ids] at h <;> first
    | (obtain ⟨k, c, h1, h2⟩ := idsL_mem_get h; exact ⟨k, c, h1, h2⟩)
    | exact ⟨0, _, rfl, by simpa [AVal.ids] using h⟩
    | skip

section
variable {L : Link} {N : Nat → Prop} {okb : Nat → Bool} {call : CallF} {a : Act} {w : World} {m : PMap} {o : Oper} {Q : Exit → Act → World → Prop}

theorem opFull (hl : LinkOk L okb) (hcall : CallOk L call) {H H' : Heap} (s : Sim L N w H.at m) (d : Dom H m) {k : OpK} {xs : List Operand} {args : List AVal} {v0 : AVal}
    (hops : opsOf L.P L.fn L.ty okb o.op k = some xs) (hargs : Args L w (Bof N H.at m) m a.eval xs args) (hstep : stepOp call k args H = some (v0, H')) {K : Act → World → Prop}
    (fin : ∀ u w' m', Step L N w H.at m w' H'.at m' → Dom H' m' → H.length ≤ H'.length → (∀ j, j < H.length → m' j = m j) → Reps L w' (Bof N H'.at m') m' u v0 → K (a.put o.dst u) w') :
    o.wp L.P a w K Q := by
  by_cases hnc : notCall k = true
  · have hsem : ∃ e, opSem k args H H.length = some (v0, e) ∧ H' = e.apply H := by
      rw [stepOp_plain hnc] at hstep
      simp only [Option.map_eq_some_iff] at hstep
      obtain ⟨⟨v1, e⟩, he1, he2⟩ := hstep
      simp only [Prod.mk.injEq] at he2
      obtain ⟨rfl, rfl⟩ := he2
      exact ⟨e, he1, rfl⟩
    obtain ⟨e, hsem, rfl⟩ := hsem
    have hfit := opSem_fits hsem
    have hfr : H.at H.length = none := heap_at_none (Nat.le_refl _)
    have hmf : m H.length = none := by
      cases h : m H.length with
      | none => rfl
      | some p => exact absurd (d _ _ h) (Nat.lt_irrefl _)
    obtain ⟨rr, w', m', hrun, hplain, hst, hm', hfn, hrep⟩ := (op_sound s hfr hmf (fun _ => rfl) hnc hl.ok hops hargs hsem).does
    rw [← apply_at hfit] at hst hrep hfn
    have hlen : H.length ≤ (e.apply H).length := apply_len
    have hdom : Dom (e.apply H) m' := by
      intro id p hp
      by_cases hid : id = H.length
      · rcases Nat.lt_or_ge id (e.apply H).length with h | h
        · exact h
        · have := hfn (heap_at_none (by omega))
          rw [hid, this] at hp; cases hp
      · rw [hm' id hid] at hp
        exact Nat.lt_of_lt_of_le (d id p hp) hlen
    have hfin := fin (nextVal rr) w' m' hst hdom hlen (fun j hj => hm' j (by omega)) hrep
    unfold Oper.wp
    rw [hrun]
    cases rr <;> first | (exact hplain.elim) | exact hfin
  · have hk := call_cases (K := k) (by simpa using hnc)
    rcases hk with ⟨raw, f, rfl⟩ | ⟨raw, rfl⟩
    · cases hop : o.op <;> rw [hop] at hops <;> simp only [opsOf] at hops <;> try (simp at hops; done)
      rename_i c
      split at hops
      · rename_i g hcal
        split at hops
        · rename_i hcond
          simp only [Option.some.injEq] at hops
          subst hops
          obtain ⟨rfl, hokb⟩ := hcond
          have hok := hl.ok f hokb
          have hrun := run_call_value (ρ := a.eval) hl hop hcal (f := f) (first := #[]) (cap := #[]) rfl hok w
          simp only [Array.empty_append, Array.append_empty] at hrun
          obtain ⟨hsz, hreps⟩ := args_reps hargs
          have hc := anyCall_ok hcall hstep hok s d hsz hreps
          unfold Oper.wp
          rw [hrun]
          refine hc.mono ?_
          rintro e w' ⟨u, m', rfl, hst, hd, hlen, hpin, hru⟩
          exact fin u w' m' hst hd hlen hpin hru
        · simp at hops
      · simp at hops
    · cases hop : o.op <;> rw [hop] at hops <;> simp only [opsOf] at hops <;> try (simp at hops; done)
      rename_i c
      split at hops
      · rename_i x hcal
        simp only [Option.some.injEq] at hops
        subst hops
        cases hra : args with
        | nil => rw [hra] at hargs; cases hargs
        | cons fv vs =>
          rw [hra] at hargs hstep
          cases hargs with
          | cons hf hargs =>
            have hfn : ∃ f first cap, fv = .fn f first cap ∧ anyCall call raw f (first ++ vs ++ cap) H = some (v0, H') := by
              cases fv <;> first | exact ⟨_, _, _, rfl, hstep⟩ | (simp [stepOp, opSem] at hstep)
            obtain ⟨f, first, cap, rfl, hany⟩ := hfn
            generalize hxv : a.eval x = fx at hf
            cases hf with
            | fn _ _ _ vf vc hok hf1 hc1 rf rc =>
              have hrun := run_call_value (ρ := a.eval) hl hop hcal (f := f) hxv hok w
              obtain ⟨hsz, hreps⟩ := args_reps hargs
              have hr1 := reps_append hf1 rf hreps
              have hsz1 : (vf ++ c.args.map a.eval).size = (first ++ vs).length := by simp only [Array.size_append, List.length_append, hf1, hsz]
              have hr2 := reps_append hsz1 hr1 rc
              have hsz2 : (vf ++ c.args.map a.eval ++ vc).size = (first ++ vs ++ cap).length := by simp only [Array.size_append, List.length_append, hf1, hsz, hc1]
              have hc := anyCall_ok hcall hany hok s d hsz2 hr2
              unfold Oper.wp
              rw [hrun]
              refine hc.mono ?_
              rintro e w' ⟨u, m', rfl, hst, hd, hlen, hpin, hru⟩
              exact fin u w' m' hst hd hlen hpin hru
      · simp at hops
end

section
variable {L : Link} {N : Nat → Prop} {okb : Nat → Bool} {slots : List Nat} {nt : Nat} {call : CallF} {ops : Array Oper} {rs : List ROp} {bt : BT} {stt : Nat → St} {val : Nat → AVal}
variable {U : List Nat} {c : Nat} {a : Act} {w : World} {m : PMap} {i : Nat} {o : Oper} {r : ROp} {Q : Exit → Act → World → Prop}

theorem isA_notR {r : ROp} (h : isA r = true) : isR r = false := by
  obtain ⟨k, as, d, g, ap⟩ := r
  cases k <;> simp_all [isA, isR]

/-- No store lies between what makes a block and the cut. -/
theorem J.growA (j : J L N slots nt ops rs bt stt val U c a w m) (T : Tx L okb slots nt call ops rs bt stt val) (hi : i ∈ U) (hr : rs[i]? = some r) (ha : isA r = true) :
    i < c ∨ i = c → Grow (stt i).heap (stt c).heap ∧ (i < c → Grow (stt (i + 1)).heap (stt c).heap) := by
  intro hic
  have no : ∀ k q, i ≤ k → k < c → rs[k]? = some q → isW q = false := by
    intro k q hik hkc hq
    cases hw : isW q with
    | false => rfl
    | true =>
      exfalso
      have hne : k ≠ i := by rintro rfl; rw [hr] at hq; cases hq; rw [isA_notW ha] at hw; cases hw
      rcases T.pair hr hq hw (.inr (.inl ha)) hne with h | ⟨h, _⟩ | ⟨h, _⟩
      · exact j.closed k ((j.cut k q hq hw).2 hkc) (lt_of_getx hq) i h hi
      · rw [ha] at h; cases h
      · rw [isA_notR ha] at h; cases h
  exact ⟨T.grows (by omega) j.cutle no, fun h => T.grows (by omega) j.cutle fun k q h1 => no k q (by omega)⟩

theorem J.beforeA (j : J L N slots nt ops rs bt stt val U c a w m) (T : Tx L okb slots nt call ops rs bt stt val) (hr : rs[i]? = some r) (ha : isA r = true) : i ≤ c := by
  rcases Nat.lt_or_ge c i with h | h
  · exfalso
    have hin := lt_of_getx hr
    obtain ⟨rc, hrc, hw⟩ := j.cutW (by omega)
    rcases T.pair hr hrc hw (.inr (.inl ha)) (by omega) with h1 | ⟨h1, _⟩ | ⟨h1, _⟩
    · have := T.bef_lt (by omega) h1; omega
    · rw [ha] at h1; cases h1
    · rw [isA_notR ha] at h1; cases h1
  · exact h

theorem J.pos (j : J L N slots nt ops rs bt stt val U c a w m) (T : Tx L okb slots nt call ops rs bt stt val) (hr : rs[i]? = some r) (ha : isA r = true) : i < c := by
  have h := j.beforeA T hr ha
  have hin := lt_of_getx hr
  rcases Nat.lt_or_ge i c with h' | h'
  · exact h'
  · exfalso
    have : c = i := by omega
    subst this
    obtain ⟨q, hq, hw⟩ := j.cutW hin
    rw [hr] at hq; cases hq
    rw [isA_notW ha] at hw; cases hw

theorem J.agreeA (j : J L N slots nt ops rs bt stt val U c a w m) (T : Tx L okb slots nt call ops rs bt stt val) (hi : i ∈ U) (hr : rs[i]? = some r) (ha : isA r = true) {id : Nat} {p : Pl} (hp : m id = some p) :
    AgreeAt (stt i).heap ((List.range (stt rs.length).heap.length).map (hU stt U c)) id := by
  intro b hb
  obtain ⟨b', h1, h2⟩ := (j.growA T hi hr ha (.inl (j.pos T hr ha))).1.agree id b hb
  refine ⟨b', ?_, h2⟩
  rw [j.list_at T, j.alive hp]
  exact h1

/-- A call with trees, on the way, as in the text. -/
theorem J.pure (j : J L N slots nt ops rs bt stt val U c a w m) (T : Tx L okb slots nt call ops rs bt stt val) (hi : i ∈ U) (hr : rs[i]? = some r) (hw : isW r = false) (hnc : notCall r.k = false)
    {xs : List Operand} (hargs : Args L w (Bof N (hU stt U c) m) m a.eval xs (r.args.map ((stt i).opd (envA [] val i))))
    (hs : stepOp call r.k (r.args.map ((stt i).opd (envA [] val i))) (stt i).heap = some (val i, (stt (i + 1)).heap)) :
    (stt (i + 1)).heap.length = (stt i).heap.length ∧
    ∃ H', stepOp call r.k (r.args.map ((stt i).opd (envA [] val i))) ((List.range (stt rs.length).heap.length).map (hU stt U c)) = some (val i, H') ∧ H'.length = (stt rs.length).heap.length ∧
      (∀ id k', hU stt (U.erase i) c id = some k' → ∃ k, H'.at id = some k ∧ k'.esz = k.esz ∧ k'.elems = k.elems ∧ (k'.frozen = false → k.frozen = false)) := by
  obtain ⟨ha, hp⟩ := call_pure hnc hw
  obtain ⟨raw, f, as, h1, h2⟩ := stepOp_call hnc hs
  have hraw : raw = false := by
    rcases hp with ⟨g, hg⟩ | hg <;> rcases h2 with ⟨h2, _⟩ | ⟨h2, _⟩ <;> rw [hg] at h2 <;> cases h2 <;> rfl
  subst hraw
  have hids : ∀ y ∈ idsL as, ∃ p, m y = some p := by
    have hall : ∀ x ∈ r.args.map ((stt i).opd (envA [] val i)), ∀ y ∈ x.ids, ∃ p, m y = some p := by
      intro x hx y hy
      obtain ⟨z, hz⟩ := hargs.right x hx
      exact hz.mapped y hy
    intro y hy
    obtain ⟨k, x, hx, hyx⟩ := idsL_mem_get hy
    have hxm := List.mem_of_getElem? hx
    rcases h2 with ⟨_, rfl⟩ | ⟨_, first, cap, vs, he, rfl⟩
    · exact hall x hxm y hyx
    · rw [he] at hall
      simp only [List.mem_append] at hxm
      rcases hxm with (h | h) | h
      · obtain ⟨k, hk⟩ := List.mem_iff_getElem?.1 h
        exact hall (.fn f first cap) (by simp) y (by simp only [AVal.ids, List.mem_append]; exact .inl (idsL_mem_of hk hyx))
      · exact hall x (by simp [h]) y hyx
      · obtain ⟨k, hk⟩ := List.mem_iff_getElem?.1 h
        exact hall (.fn f first cap) (by simp) y (by simp only [AVal.ids, List.mem_append]; exact .inr (idsL_mem_of hk hyx))
  simp only [anyCall, Bool.false_eq_true, if_false, Option.bind_eq_some_iff, Option.map_eq_some_iff, Prod.exists, Prod.mk.injEq] at h1
  obtain ⟨ts, H1, hh, t, ht, hvt, rfl⟩ := h1
  have hlen := handOn_len hh
  have hlist := j.list_at T
  refine ⟨hlen, ?_⟩
  have hgrow := (j.growA T hi hr ha (.inl (j.pos T hr ha))).2 (j.pos T hr ha)
  -- the trees are the same
  have hon : ∃ H', handOn as ((List.range (stt rs.length).heap.length).map (hU stt U c)) = some (ts, H') ∧ H'.length = (stt rs.length).heap.length ∧
      (∀ id k', hU stt (U.erase i) c id = some k' → ∃ k, H'.at id = some k ∧ k'.esz = k.esz ∧ k'.elems = k.elems ∧ (k'.frozen = false → k.frozen = false)) := by
    unfold handOn at hh ⊢
    split at hh
    · rename_i hnil
      rw [if_pos hnil]
      simp only [Option.some.injEq, Prod.mk.injEq] at hh
      obtain ⟨rfl, _⟩ := hh
      refine ⟨_, rfl, by simp, fun id k' hk' => ⟨k', ?_, rfl, rfl, fun h => h⟩⟩
      rw [hlist]; exact j.shown hi hlen hk'
    · rename_i hnil
      rw [if_neg hnil]
      simp only [Option.map_eq_some_iff, Prod.mk.injEq, Prod.exists] at hh
      obtain ⟨ts', l, htree, rfl, hfz⟩ := hh
      have htree' := (tree_agree (H := (stt i).heap) (H' := (List.range (stt rs.length).heap.length).map (hU stt U c)) (C := fun y => ∃ p, m y = some p)
        (fun id ⟨p, hp⟩ => j.agreeA T hi hr ha hp) (by
          rintro id b ⟨p, hp⟩ hb y hy
          obtain ⟨b', hb', _, hel, _⟩ := j.agreeA T hi hr ha hp b hb
          rw [hlist] at hb'
          obtain ⟨q, arr, el, _, _, _, _, _, hcell⟩ := j.sim.blk id b' hb'
          rw [← hel] at hy
          obtain ⟨k, x, hx, hyx⟩ := idsL_mem_get hy
          obtain ⟨k2, c2, hc2, hyc⟩ := ids_cell hyx
          obtain ⟨v, _, hv⟩ := hcell k x k2 c2 hx hc2
          exact hv.mapped y hyc) fuelTree).2 as _ hids htree
      refine ⟨freeze ((List.range (stt rs.length).heap.length).map (hU stt U c)) l, by rw [htree']; rfl, by rw [freeze_length]; simp, ?_⟩
      intro id k' hk'
      have hk := j.shown hi hlen hk'
      rw [freeze_at, hlist, hk]
      by_cases hid : id ∈ l
      · rw [if_pos hid]
        refine ⟨{ k' with frozen := true }, rfl, rfl, rfl, ?_⟩
        intro hf
        exfalso
        obtain ⟨b, hb⟩ := (tree_alive (H := (stt i).heap) fuelTree).2 _ _ _ htree id hid
        have h1 : (stt (i + 1)).heap.at id = some { b with frozen := true } := by
          rw [← hfz, freeze_at, if_pos hid, hb]; rfl
        obtain ⟨b', hb', _, _, hfr⟩ := hgrow.agree id _ h1
        rw [(hU_some hk).1] at hb'
        cases hb'
        rw [hfr rfl] at hf; cases hf
      · rw [if_neg hid]
        exact ⟨k', rfl, rfl, rfl, fun h => h⟩
  obtain ⟨H', hon, hlen', hshow⟩ := hon
  refine ⟨H', ?_, hlen', hshow⟩
  have hany : anyCall call false f as ((List.range (stt rs.length).heap.length).map (hU stt U c)) = some (val i, H') := by
    simp only [anyCall, Bool.false_eq_true, if_false, hon, Option.bind_some, ht, Option.map_some, hvt]
  rcases h2 with ⟨hk, rfl⟩ | ⟨hk, first, cap, vs, he, rfl⟩
  · rw [hk]; exact hany
  · rw [hk, he]; exact hany
end
end Go.Ash
