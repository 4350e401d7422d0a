/- The abstract interpreter of this work and its uses, part 12: AshDraw, AshLink, AshCodeGauge. -/
import Derived.Test.YtaojijahpdnjhaaAshP11
set_option linter.all false
/- A region whose order is drawn is sound. -/
namespace Go.Ash

theorem next_cut (rs : List ROp) : ∀ (d a : Nat), a + d = rs.length → ∃ c, a ≤ c ∧ c ≤ rs.length ∧ (c < rs.length → ∃ r, rs[c]? = some r ∧ isW r = true) ∧
    ∀ k r, a ≤ k → k < c → rs[k]? = some r → isW r = false
  | 0, a, h => ⟨a, Nat.le_refl _, by omega, fun h' => by omega, fun k r h1 h2 => by omega⟩
  | d + 1, a, h => by
    have ha : a < rs.length := by omega
    cases hw : isW rs[a] with
    | true => exact ⟨a, Nat.le_refl _, by omega, fun _ => ⟨_, List.getElem?_eq_getElem ha, hw⟩, fun k r h1 h2 => by omega⟩
    | false =>
      obtain ⟨c, h1, h2, h3, h4⟩ := next_cut rs d (a + 1) (by omega)
      refine ⟨c, by omega, h2, h3, ?_⟩
      intro k r hk1 hk2 hr
      by_cases hka : k = a
      · subst hka; rw [List.getElem?_eq_getElem ha] at hr; cases hr; exact hw
      · exact h4 k r (by omega) hk2 hr

section
variable {L : Link} {N : Nat → Prop} {okb : Nat → Bool} {slots : List Nat} {nt : Nat} {call : CallF} {ops : Array Oper} {rs : List ROp} {bt : BT} {stt : Nat → St} {val : Nat → AVal}
variable {U : List Nat} {c : Nat} {a : Act} {w : World} {m : PMap} {i : Nat} {o : Oper} {r : ROp} {Q : Exit → Act → World → Prop}

/-- One operation more that writes no block. -/
theorem J.step (j : J L N slots nt ops rs bt stt val U c a w m) (T : Tx L okb slots nt call ops rs bt stt val) (hl : LinkOk L okb) (hcall : CallOk L call) (hi : i ∈ U) (ho : ops[i]? = some o) (hr : rs[i]? = some r)
    (hbef : ∀ k ∈ befAt bt i, k ∉ U) (hw : isW r = false) {K : Act → World → Prop}
    (hK : ∀ a' w' m', J L N slots nt ops rs bt stt val (U.erase i) c a' w' m' → Fwd w (hU stt U c) m w' (hU stt (U.erase i) c) m' → (∀ k, k < (stt 0).heap.length → m' k = m k) → K a' w') :
    wpOp L.P ops Q i K a w := by
  have hin := lt_of_getx hr
  have hchk := T.chk i o r ho hr
  unfold chkROp at hchk
  simp only [Bool.and_eq_true] at hchk
  obtain ⟨⟨h1, h2⟩, h3⟩ := hchk
  obtain ⟨_, s2, s3, _⟩ := T.static ho hr
  have hlenn := T.lens (Nat.zero_le i) (by omega)
  have hleni := T.lens (i := i + 1) (j := rs.length) (by omega) (Nat.le_refl _)
  have hlen00 := T.lens (Nat.zero_le rs.length) (Nat.le_refl _)
  unfold wpOp
  simp only [ho]
  rcases T.text hr with ⟨hwt, hv, he⟩ | ⟨hwt, hap, H, hs, he⟩
  · have hwant := j.wanted (o := o) hbef h3 s3 hwt
    rw [hwant, if_neg (by simp)]
    have hheap : (stt (i + 1)).heap = (stt i).heap := by rw [he, put_heap]
    obtain ⟨j', f⟩ := j.next T hi ho hbef j.cutle j.cutW (j.cut_same hr hw) (Step.refl j.sim) (u := undef)
      (fun id k' hk' => ⟨k', j.shown hi (by rw [hheap]) hk', rfl, rfl, fun h => h⟩) (by rw [hv]; exact .tup #[] [] rfl (fun i c hc => by simp at hc)) j.dom j.hid_erase
    exact hK _ _ _ j' f (fun _ _ => rfl)
  · have hwant := j.wanted (o := o) hbef h3 s3 hwt
    rw [hwant, if_pos rfl]
    refine .inl ?_
    have hheap : (stt (i + 1)).heap = H := by rw [he, put_heap]
    cases hops : opsOf L.P L.fn L.ty okb o.op r.k with
    | none => rw [hops] at h1; simp at h1
    | some xs =>
      rw [hops] at h1
      have hargs := j.opds T hl hi hbef xs r.args h1 s2
      have hlist := j.list_at T
      cases hnc : notCall r.k with
      | true =>
        rcases j.sem T hi hr hbef hw hnc hargs hs with ⟨hsem, hH⟩ | ⟨esz, ys, hsem, hH, ha⟩
        · have hfr : hU stt U c (stt rs.length).heap.length = none := by
            rw [← hlist]; exact heap_at_none (by simp)
          have hmf : m (stt rs.length).heap.length = none := by
            cases h : m (stt rs.length).heap.length with
            | none => rfl
            | some p => exact absurd (j.dom _ _ h) (Nat.lt_irrefl _)
          obtain ⟨rr, w', m', hrun, hplain, hst, hm', hfn, hrep⟩ := (op_sound (N := N) (by rw [hlist]; exact j.sim) (by rw [hlist]; exact hfr) hmf (fun _ => rfl) hnc hl.ok hops (by rw [hlist]; exact hargs) hsem).does
          rw [hlist] at hst hfn hrep
          simp only [Eff.applyF] at hst hfn hrep
          have hmn := hfn hfr
          obtain ⟨j', f⟩ := j.next T hi ho hbef j.cutle j.cutW (j.cut_same hr hw) hst
            (fun id k' hk' => ⟨k', j.shown hi (by rw [hheap, hH]) hk', rfl, rfl, fun h => h⟩) hrep (by
              intro id p hp
              by_cases hid : id = (stt rs.length).heap.length
              · rw [hid, hmn] at hp; cases hp
              · rw [hm' id hid] at hp; exact j.dom id p hp) (by
              intro k hk id hk1 hk2
              have hkl := j.lt k (List.mem_of_mem_erase hk)
              have := T.lens (i := k + 1) (j := rs.length) (by omega) (Nat.le_refl _)
              rw [hm' id (by omega)]
              exact j.hid_erase k hk id hk1 hk2)
          have hfin := hK _ _ _ j' f (fun k hk => hm' k (by omega))
          unfold Oper.wp
          rw [hrun]
          cases rr <;> first | (exact hplain.elim) | exact hfin
        · have hlen1 : (stt (i + 1)).heap.length = (stt i).heap.length + 1 := by rw [hheap, hH]; simp [Eff.apply, newBlk]
          have hfr : hU stt U c (stt i).heap.length = none := hU_none hi (Nat.le_refl _) (by omega)
          have hmf : m (stt i).heap.length = none := j.hid i hi _ (Nat.le_refl _) (by omega)
          obtain ⟨rr, w', m', hrun, hplain, hst, hm', hfn, hrep⟩ := (op_sound (N := N) (by rw [hlist]; exact j.sim) (by rw [hlist]; exact hfr) hmf (fun _ => rfl) hnc hl.ok hops (by rw [hlist]; exact hargs) hsem).does
          rw [hlist] at hst hfn hrep
          simp only [Eff.applyF] at hst hfn hrep
          obtain ⟨j', f⟩ := j.next T hi ho hbef j.cutle j.cutW (j.cut_same hr hw) hst (by
              intro id k' hk'
              obtain ⟨hk1, hk2⟩ := hU_some hk'
              by_cases hid : id = (stt i).heap.length
              · have hpos := j.pos T hr ha
                have hg := ((j.growA T hi hr ha (.inl hpos)).2 hpos).agree id ⟨false, esz, ys⟩ (by
                  rw [hheap, hH, hid]
                  simp only [Eff.apply, newBlk]
                  rw [at_append, if_neg (by omega)]
                  simp [Heap.at])
                obtain ⟨b', hb', e1, e2, _⟩ := hg
                rw [hk1] at hb'
                cases hb'
                refine ⟨⟨false, esz, ys⟩, by rw [hid, upd_same], e1, e2, fun _ => rfl⟩
              · refine ⟨k', ?_, rfl, rfl, fun h => h⟩
                rw [upd_ne _ _ hid, ← hk1]
                refine hU_at fun k hk hka hkb => ?_
                by_cases hki : k = i
                · subst hki; omega
                · exact hk2 k ((j.und.mem_erase_iff).2 ⟨hki, hk⟩) hka hkb) hrep (by
              intro id p hp
              by_cases hid : id = (stt i).heap.length
              · omega
              · rw [hm' id hid] at hp; exact j.dom id p hp) (by
              intro k hk id hk1 hk2
              have hkl := j.lt k (List.mem_of_mem_erase hk)
              have hki : k ≠ i := ((j.und.mem_erase_iff).1 hk).1
              have hne : id ≠ (stt i).heap.length := by
                rcases Nat.lt_or_ge k i with h | h
                · have := T.lens (i := k + 1) (j := i) (by omega) (by omega); omega
                · have := T.lens (i := i + 1) (j := k) (by omega) (by omega); omega
              rw [hm' id hne]
              exact j.hid_erase k hk id hk1 hk2)
          have hfin := hK _ _ _ j' f (fun k hk => hm' k (by omega))
          unfold Oper.wp
          rw [hrun]
          cases rr <;> first | (exact hplain.elim) | exact hfin
      | false =>
        obtain ⟨hsame, H', hstep, hlen', hshow⟩ := j.pure T hi hr hw hnc hargs (by rw [hheap]; exact hs)
        have hlenl : ((List.range (stt rs.length).heap.length).map (hU stt U c)).length = (stt rs.length).heap.length := by simp
        refine opFull hl hcall (N := N) (m := m) (by rw [hlist]; exact j.sim) (fun id p hp => by rw [hlenl]; exact j.dom id p hp) hops (by rw [hlist]; exact hargs) hstep ?_
        intro u w' m' hst hd _ hpin hru
        rw [hlist] at hst
        rw [hlenl] at hpin
        obtain ⟨j', f⟩ := j.next T hi ho hbef j.cutle j.cutW (j.cut_same hr hw) hst hshow hru (fun id p hp => by rw [← hlen']; exact hd id p hp) (by
          intro k hk id hk1 hk2
          have hkl := j.lt k (List.mem_of_mem_erase hk)
          have := T.lens (i := k + 1) (j := rs.length) (by omega) (Nat.le_refl _)
          rw [hpin id (by omega)]
          exact j.hid_erase k hk id hk1 hk2)
        exact hK _ _ _ j' f (fun k hk => hpin k (by omega))

theorem Tx.sames (T : Tx L okb slots nt call ops rs bt stt val) {i j : Nat} (hij : i ≤ j) (hj : j ≤ rs.length) (hw : ∀ k r, i ≤ k → k < j → rs[k]? = some r → isW r = false ∧ isA r = false) :
    (stt j).heap = (stt i).heap := by
  induction j with
  | zero => rw [Nat.le_zero.1 hij]
  | succ j ih =>
    by_cases h : i = j + 1
    · rw [h]
    · obtain ⟨o, r, _, hr⟩ := T.getO (i := j) (by omega)
      obtain ⟨h1, h2⟩ := hw j r (by omega) (by omega) hr
      rw [T.same hr h1 h2]
      exact ih (by omega) (by omega) (fun k q h1 h2 => hw k q h1 (by omega))

/-- One operation more that writes a block. -/
theorem J.stepW (j : J L N slots nt ops rs bt stt val U c a w m) (T : Tx L okb slots nt call ops rs bt stt val) (hl : LinkOk L okb) (hcall : CallOk L call) (hi : i ∈ U) (ho : ops[i]? = some o) (hr : rs[i]? = some r)
    (hbef : ∀ k ∈ befAt bt i, k ∉ U) (hw : isW r = true) {K : Act → World → Prop}
    (hK : ∀ c' a' w' m', J L N slots nt ops rs bt stt val (U.erase i) c' a' w' m' → Fwd w (hU stt U c) m w' (hU stt (U.erase i) c') m' → (∀ k, k < (stt 0).heap.length → m' k = m k) → K a' w') :
    wpOp L.P ops Q i K a w := by
  have hin := lt_of_getx hr
  -- the cut is here
  have hci : c = i := by
    have h1 : ¬ i < c := fun h => (j.cut i r hr hw).2 h hi
    rcases Nat.lt_or_ge c i with h | h
    · exfalso
      obtain ⟨rc, hrc, hwc⟩ := j.cutW (by omega)
      have hcU : c ∈ U := by
        by_cases hcU : c ∈ U
        · exact hcU
        · exact absurd ((j.cut c rc hrc hwc).1 hcU) (Nat.lt_irrefl _)
      rcases T.pair hr hrc hwc (.inl hw) (by omega) with h1 | ⟨_, h1⟩ | ⟨h1, _⟩
      · have := T.bef_lt (by omega) h1; omega
      · exact hbef c h1 hcU
      · rw [isR_notW h1] at hw; cases hw
    · omega
  subst hci
  have noA : ∀ k q, rs[k]? = some q → isA q = true → k ∈ befAt bt c := by
    intro k q hq ha
    have hne : c ≠ k := by rintro rfl; rw [hr] at hq; cases hq; rw [isA_notW ha] at hw; cases hw
    rcases T.pair hq hr hw (.inr (.inl ha)) hne with h | ⟨h, _⟩ | ⟨h, _⟩
    · exact h
    · rw [ha] at h; cases h
    · rw [isA_notR ha] at h; cases h
  -- what may still be hidden lies beyond
  have beyond : ∀ k ∈ U, ∀ id, (stt k).heap.length ≤ id → id < (stt (k + 1)).heap.length → c ≤ k := by
    intro k hk id h1 h2
    obtain ⟨q, hq⟩ : ∃ q, rs[k]? = some q := ⟨_, List.getElem?_eq_getElem (j.lt k hk)⟩
    cases hqw : isW q with
    | true =>
      rcases Nat.lt_or_ge k c with h | h
      · exact absurd hk ((j.cut k q hq hqw).2 h)
      · exact h
    | false =>
      cases hqa : isA q with
      | true => exact absurd hk (hbef k (noA k q hq hqa))
      | false => rw [T.same hq hqw hqa] at h2; omega
  have hUc : hU stt U c = (stt c).heap.at := by
    funext id
    by_cases h : ∃ k ∈ U, (stt k).heap.length ≤ id ∧ id < (stt (k + 1)).heap.length
    · obtain ⟨k, hk, h1, h2⟩ := h
      rw [hU_none hk h1 h2]
      have h3 := beyond k hk id h1 h2
      have := T.lens h3 (by have := j.lt k hk; omega)
      exact (heap_at_none (by omega)).symm
    · exact hU_at fun k hk h1 h2 => h ⟨k, hk, h1, h2⟩
  have hdomc : Dom (stt c).heap m := by
    intro id p hp
    rcases Nat.lt_or_ge id (stt c).heap.length with h | h
    · exact h
    · exfalso
      -- the step that brings the number
      have : ∀ d, c + d ≤ rs.length → id < (stt (c + d)).heap.length → False := by
        intro d
        induction d with
        | zero => intro _ h'; simp only [Nat.add_zero] at h'; omega
        | succ d ih =>
          intro hd h'
          rcases Nat.lt_or_ge id (stt (c + d)).heap.length with h2 | h2
          · exact ih (by omega) h2
          · have hkU : c + d ∈ U := by
              by_cases hkU : c + d ∈ U
              · exact hkU
              · exfalso
                obtain ⟨q, hq⟩ : ∃ q, rs[c + d]? = some q := ⟨_, List.getElem?_eq_getElem (by omega)⟩
                cases hqw : isW q with
                | true => have := (j.cut _ q hq hqw).1 hkU; omega
                | false =>
                  cases hqa : isA q with
                  | true => have := T.bef_lt hin (noA _ q hq hqa); omega
                  | false => rw [show c + (d + 1) = c + d + 1 from rfl, T.same hq hqw hqa] at h'; omega
            rw [j.hid _ hkU id h2 h'] at hp; cases hp
      exact this (rs.length - c) (by omega) (by rw [show c + (rs.length - c) = rs.length from by omega]; exact j.dom id p hp)
  -- the next cut
  obtain ⟨c', hc1, hc2, hc3, hc4⟩ := next_cut rs (rs.length - (c + 1)) (c + 1) (by omega)
  have hnext : (stt c').heap = (stt (c + 1)).heap := T.sames hc1 hc2 fun k q h1 h2 hq => by
    refine ⟨hc4 k q h1 h2 hq, ?_⟩
    cases hqa : isA q with
    | false => rfl
    | true => have := T.bef_lt hin (noA k q hq hqa); omega
  have hcut : ∀ k q, rs[k]? = some q → isW q = true → ((k ∉ U ∨ k = c) ↔ k < c') := by
    intro k q hq hqw
    rw [j.cut k q hq hqw]
    constructor
    · rintro (h | h) <;> omega
    · intro h
      rcases Nat.lt_or_ge k (c + 1) with h' | h'
      · omega
      · have := hc4 k q h' h hq; rw [hqw] at this; cases this
  have shown : ∀ id k', hU stt (U.erase c) c' id = some k' → ∃ k, (stt (c + 1)).heap.at id = some k ∧ k'.esz = k.esz ∧ k'.elems = k.elems ∧ (k'.frozen = false → k.frozen = false) := by
    intro id k' hk'
    obtain ⟨h1, _⟩ := hU_some hk'
    rw [hnext] at h1
    exact ⟨k', h1, rfl, rfl, fun h => h⟩
  have hlen0 := T.lens (Nat.zero_le c) (by omega)
  have hlen1 := T.len1 hr
  have hleni := T.lens (i := c + 1) (j := rs.length) (by omega) (Nat.le_refl _)
  have hidden : ∀ (m' : PMap), Dom (stt (c + 1)).heap m' → ∀ k ∈ U.erase c, ∀ id, (stt k).heap.length ≤ id → id < (stt (k + 1)).heap.length → m' id = none := by
    intro m' hd k hk id h1 h2
    have hkc : k ≠ c := ((j.und.mem_erase_iff).1 hk).1
    have hkU := List.mem_of_mem_erase hk
    have := beyond k hkU id h1 h2
    have := T.lens (i := c + 1) (j := k) (by omega) (by have := j.lt k hkU; omega)
    cases h : m' id with
    | none => rfl
    | some p => have := hd id p h; omega
  have hchk := T.chk c o r ho hr
  unfold chkROp at hchk
  simp only [Bool.and_eq_true] at hchk
  obtain ⟨⟨h1, h2⟩, h3⟩ := hchk
  obtain ⟨_, s2, s3, _⟩ := T.static ho hr
  unfold wpOp
  simp only [ho]
  rcases T.text hr with ⟨hwt, hv, he⟩ | ⟨hwt, hap, H, hs, he⟩
  · have hwant := j.wanted (o := o) hbef h3 s3 hwt
    rw [hwant, if_neg (by simp)]
    have hheap : (stt (c + 1)).heap = (stt c).heap := by rw [he, put_heap]
    obtain ⟨j', f⟩ := j.next T hi ho hbef hc2 hc3 hcut (Step.refl j.sim) (u := undef) (by rw [hUc, ← hheap]; exact shown)
      (by rw [hv]; exact .tup #[] [] rfl (fun i c hc => by simp at hc)) j.dom (hidden m (by rw [hheap]; exact hdomc))
    exact hK _ _ _ _ j' f (fun _ _ => rfl)
  · have hwant := j.wanted (o := o) hbef h3 s3 hwt
    rw [hwant, if_pos rfl]
    refine .inl ?_
    have hheap : (stt (c + 1)).heap = H := by rw [he, put_heap]
    cases hops : opsOf L.P L.fn L.ty okb o.op r.k with
    | none => rw [hops] at h1; simp at h1
    | some xs =>
      rw [hops] at h1
      have hargs := j.opds T hl hi hbef xs r.args h1 s2
      refine opFull hl hcall (N := N) (m := m) (by rw [← hUc]; exact j.sim) hdomc hops (by rw [← hUc]; exact hargs) hs ?_
      intro u w' m' hst hd hlen hpin hru
      rw [← hUc, ← hheap] at hst
      rw [← hheap] at hd hru
      obtain ⟨j', f⟩ := j.next T hi ho hbef hc2 hc3 hcut hst shown hru (fun id p hp => Nat.lt_of_lt_of_le (hd id p hp) hleni) (hidden m' hd)
      exact hK _ _ _ _ j' f (fun k hk => hpin k (by omega))

theorem exists_least {U : List Nat} (h : U ≠ []) : ∃ i ∈ U, ∀ k, k < i → k ∉ U := by
  have : ∀ n, (∃ i ∈ U, i ≤ n) → ∃ i ∈ U, ∀ k, k < i → k ∉ U := by
    intro n
    induction n with
    | zero =>
      rintro ⟨i, hi, h0⟩
      exact ⟨i, hi, fun k hk => by omega⟩
    | succ n ih =>
      rintro ⟨i, hi, hle⟩
      by_cases h : ∃ k ∈ U, k ≤ n
      · exact ih h
      · exact ⟨i, hi, fun k hk hkU => h ⟨k, hkU, by omega⟩⟩
  cases U with
  | nil => exact absurd rfl h
  | cons x xs => exact this x ⟨x, by simp, Nat.le_refl _⟩

theorem mem_hardOn {o : Oper} {j : Nat} : j ∈ hardOn o ↔ ∃ e ∈ o.after, Region.binds .any e = true ∧ e.on = j := by
  unfold hardOn
  simp only [List.mem_filterMap, Array.mem_toList_iff, Option.ite_none_right_eq_some, Option.some.injEq]

theorem J.all (T : Tx L okb slots nt call ops rs bt stt val) (hl : LinkOk L okb) (hcall : CallOk L call) : ∀ (fuel : Nat) (U : List Nat) (c : Nat) (listed : Array Bool) (a : Act) (w : World) (m : PMap),
    J L N slots nt ops rs bt stt val U c a w m → (∀ k, k < rs.length → (listed.getD k true = false ↔ k ∈ U)) → listed.size = rs.length → U.length ≤ fuel →
    (∀ a' w' m', J L N slots nt ops rs bt stt val [] rs.length a' w' m' → Fwd w (hU stt U c) m w' (hU stt [] rs.length) m' → (∀ k, k < (stt 0).heap.length → m' k = m k) → Q .normal a' w') →
    wpAny L.P .any ops Q fuel listed a w := by
  intro fuel
  induction fuel with
  | zero =>
    intro U c listed a w m j hls hsz hf hQ
    have hnil : U = [] := List.length_eq_zero_iff.1 (by omega)
    subst hnil
    have hcn : c = rs.length := by
      rcases Nat.lt_or_ge c rs.length with h | h
      · obtain ⟨r, hr, hw⟩ := j.cutW h
        exact absurd ((j.cut c r hr hw).1 (by simp)) (Nat.lt_irrefl _)
      · have := j.cutle; omega
    subst hcn
    refine ⟨?_, hQ a w m j (Fwd.refl _ _ _) (fun _ _ => rfl)⟩
    refine List.eq_nil_iff_forall_not_mem.2 fun k hk => ?_
    obtain ⟨h0, o, ho, _⟩ := mem_ready.1 hk
    obtain ⟨r, hr⟩ := T.getR ho
    exact absurd ((hls k (lt_of_getx hr)).1 h0) (by simp)
  | succ fuel ih =>
    intro U c listed a w m j hls hsz hf hQ
    have listed' : ∀ k, k < rs.length → k ∉ U → listed.getD k false = true := by
      intro k hk hkU
      have h1 : ¬ listed.getD k true = false := fun h => hkU ((hls k hk).1 h)
      have hks : k < listed.size := by omega
      simp only [Array.getD_eq_getD_getElem?, Array.getElem?_eq_getElem hks, Option.getD_some] at h1 ⊢
      simpa using h1
    refine ⟨?_, ?_⟩
    · intro hnone
      have hnil : U = [] := by
        by_cases hne : U = []
        · exact hne
        · exfalso
          obtain ⟨i, hi, hmin⟩ := exists_least hne
          have hin := j.lt i hi
          obtain ⟨o, r, ho, hr⟩ := T.getO hin
          have hb := okBefAt_spec (T.static ho hr).1
          have : i ∈ Region.ready .any ops listed := by
            rw [mem_ready]
            refine ⟨(hls i hin).2 hi, o, ho, fun e he hbd => ?_⟩
            have hlt := hb.1 e.on (mem_hardOn.2 ⟨e, he, hbd, rfl⟩)
            exact listed' e.on (by omega) (hmin e.on hlt)
          rw [hnone] at this; cases this
      subst hnil
      have hcn : c = rs.length := by
        rcases Nat.lt_or_ge c rs.length with h | h
        · obtain ⟨r, hr, hw⟩ := j.cutW h
          exact absurd ((j.cut c r hr hw).1 (by simp)) (Nat.lt_irrefl _)
        · have := j.cutle; omega
      subst hcn
      exact hQ a w m j (Fwd.refl _ _ _) (fun _ _ => rfl)
    · intro i hir
      obtain ⟨h0, o, ho, hafter⟩ := mem_ready.1 hir
      obtain ⟨r, hr⟩ := T.getR ho
      have hin := lt_of_getx hr
      have hi := (hls i hin).1 h0
      have hb := okBefAt_spec (T.static ho hr).1
      have hard : ∀ k ∈ hardOn o, k ∉ U := by
        intro k hk hkU
        obtain ⟨e, he, hbd, rfl⟩ := mem_hardOn.1 hk
        have h1 := hafter e he hbd
        have hlt := hb.1 e.on hk
        have h2 := (hls e.on (by omega)).2 hkU
        have hks : e.on < listed.size := by omega
        simp only [Array.getD_eq_getD_getElem?, Array.getElem?_eq_getElem hks, Option.getD_some] at h1 h2
        rw [h1] at h2; cases h2
      have hbef : ∀ k ∈ befAt bt i, k ∉ U := by
        intro k hk
        obtain ⟨l, hl, h | h⟩ := hb.2 k hk
        · rw [h]; exact hard l hl
        · have hlt := hb.1 l hl
          exact j.closed l (hard l hl) (by omega) k h
      have hls' : ∀ k, k < rs.length → ((listed.setIfInBounds i true).getD k true = false ↔ k ∈ U.erase i) := by
        intro k hk
        rw [j.und.mem_erase_iff]
        by_cases hki : k = i
        · subst hki
          have hks : k < listed.size := by omega
          simp [hks]
        · rw [getD_set_ne true (Ne.symm hki), hls k hk]
          exact ⟨fun h => ⟨hki, h⟩, fun h => h.2⟩
      have hlen : (U.erase i).length ≤ fuel := by
        rw [List.length_erase_of_mem hi]; omega
      cases hw : isW r with
      | false =>
        refine j.step T hl hcall hi ho hr hbef hw ?_
        intro a' w' m' j' f hp
        refine ih (U.erase i) c _ a' w' m' j' hls' (by simpa using hsz) hlen ?_
        intro a2 w2 m2 j2 f2 hp2
        exact hQ a2 w2 m2 j2 (f.trans f2) (fun k hk => by rw [hp2 k hk, hp k hk])
      | true =>
        refine j.stepW T hl hcall hi ho hr hbef hw ?_
        intro c' a' w' m' j' f hp
        refine ih (U.erase i) c' _ a' w' m' j' hls' (by simpa using hsz) hlen ?_
        intro a2 w2 m2 j2 f2 hp2
        exact hQ a2 w2 m2 j2 (f.trans f2) (fun k hk => by rw [hp2 k hk, hp k hk])

end

/-- Regions whose order is drawn are sound. -/
theorem drawOk {L : Link} {okb : Nat → Bool} (hl : LinkOk L okb) (hmix : L.P.follows .mixedOrders = true) : DrawOk L okb drawC := by
  intro N slots nt call hn hcall id ops rs hchk hdraw st st' a w m Q hexec inv hpin hQ
  obtain ⟨stt, val, h0, hsteps, hend⟩ := trace rs [] st st' hexec
  obtain ⟨bt, T⟩ := tx_of hn hchk hdraw hsteps
  subst h0
  have hlen : ops.size = rs.length := T.len
  obtain ⟨c, _, hc2, hc3, hc4⟩ := next_cut rs rs.length 0 (by omega)
  have s1 : Step L N w (stt 0).heap.at m w.drew (stt 0).heap.at m := Step.world inv.sim (WExt.drew w)
  have grow : Grow (stt 0).heap (stt c).heap := T.grows (Nat.zero_le _) hc2 fun k r _ h2 hr => hc4 k r (Nat.zero_le _) h2 hr
  -- every number beyond the first ones has its maker
  have maker : ∀ d, d ≤ rs.length → ∀ id, (stt 0).heap.length ≤ id → id < (stt d).heap.length → ∃ i ∈ List.range rs.length, (stt i).heap.length ≤ id ∧ id < (stt (i + 1)).heap.length := by
    intro d
    induction d with
    | zero => intro _ id h1 h2; omega
    | succ d ih =>
      intro hd id h1 h2
      rcases Nat.lt_or_ge id (stt d).heap.length with h | h
      · exact ih (by omega) id h1 h
      · exact ⟨d, List.mem_range.2 (by omega), h, h2⟩
  have s2 : Step L N w.drew (stt 0).heap.at m w.drew (hU stt (List.range rs.length) c) m := by
    refine Step.less s1.sim ?_
    intro id k' hk'
    obtain ⟨h1, h2⟩ := hU_some hk'
    have hlt : id < (stt 0).heap.length := by
      rcases Nat.lt_or_ge id (stt 0).heap.length with h | h
      · exact h
      · obtain ⟨i, hi, ha, hb⟩ := maker c hc2 id h (heap_at_lt h1)
        exact absurd hb (h2 i hi ha)
    cases hb : (stt 0).heap.at id with
    | none => rw [(grow.2 id hlt).2 hb] at h1; cases h1
    | some b =>
      obtain ⟨b', hb', e1, e2, e3⟩ := (grow.2 id hlt).1 b hb
      rw [h1] at hb'; cases hb'
      refine ⟨b, rfl, e1, e2, fun h => ?_⟩
      cases hbf : b.frozen with
      | false => rfl
      | true => rw [e3 hbf] at h; cases h
  have s12 := s1.trans s2
  have j0 : J L N slots nt ops rs bt stt val (List.range rs.length) c a w.drew m := by
    refine ⟨List.nodup_range, fun k hk => List.mem_range.1 hk, fun k hk hkl => absurd (List.mem_range.2 hkl) hk, hc2, hc3, ?_, inv.size, inv.defers, ?_, ?_, s12.sim, ?_, ?_⟩
    · intro k r hr hw
      have hkl := lt_of_getx hr
      constructor
      · intro h; exact absurd (List.mem_range.2 hkl) h
      · intro h
        have := hc4 k r (Nat.zero_le _) h hr
        rw [hw] at this; cases this
    · intro k o t hk ho
      obtain ⟨r, hr⟩ := T.getR ho
      exact absurd (List.mem_range.2 (lt_of_getx hr)) hk
    · intro s t hs _
      exact (inv.vars s t hs).step s12
    · intro id p hp
      exact Nat.lt_of_lt_of_le (inv.dom id p hp) (T.lens (Nat.zero_le _) (Nat.le_refl _))
    · intro i hi id h1 h2
      cases h : m id with
      | none => rfl
      | some p =>
        have := inv.dom id p h
        have := T.lens (Nat.zero_le i) (by have := List.mem_range.1 hi; omega)
        omega
  refine wp_region_any hmix ?_
  rw [hlen]
  refine J.all T hl hcall rs.length (List.range rs.length) c _ a w.drew m j0 ?_ (by simp) (by simp) ?_
  · intro k hk
    simp [hk]
  · intro a' w' m' j' f hp
    have hfin : hU stt [] rs.length = (stt rs.length).heap.at := by
      funext id; exact hU_at fun i hi => by cases hi
    rw [hfin] at f
    have hst : st'.heap = (stt rs.length).heap := by rw [hend]
    refine hQ a' w' m' (by rw [hst]; exact s12.toFwd.trans f) (fun k hk => hp k (by omega)) ?_ ?_ ?_
    · rw [hend]; exact T.pins rs.length (Nat.le_refl _)
    · rw [hst]
      exact Nat.le_trans hpin (T.lens (Nat.zero_le _) (Nat.le_refl _))
    · have hsim := j'.sim
      have hdone := j'.done
      have hrest := j'.rest
      rw [hfin] at hsim hdone hrest
      refine ⟨j'.size, j'.defers, ?_, ?_, by rw [hst]; exact hsim, ?_⟩
      · intro s t hs
        rw [hend]
        simp only
        rcases T.slot hs rs.length (Nat.le_refl _) with ⟨k, o, hk, ho, hd, h | h⟩ | ⟨h1, h2⟩
        · rw [h]; exact hdone k o t (by simp) ho hd
        · rw [h]; exact .und _
        · rw [h2]
          refine hrest s t hs fun k o _ ho => ?_
          obtain ⟨r, hr⟩ := T.getR ho
          exact h1 k o (lt_of_getx hr) ho
      · intro jj t hj
        rw [dsts, envE_dsts] at hj
        obtain ⟨hlt, o, ho, hd⟩ := envE_get _ _ _ _ hj
        have hl' : ops.toList.length = rs.length := by simpa using hlen
        rw [hl'] at hlt ho
        rw [hend]
        simp only
        rw [gd_envA, if_pos hlt]
        exact hdone _ o t (by simp) (by simpa using ho) hd
      · intro id p hp
        rw [hst]; exact j'.dom id p hp
end Go.Ash
/- A table of code and a program: when the one is the other's. -/
namespace Go.Ash

def look {α : Type} : List (Nat × α) → Nat → Option α
  | [], _ => none
  | (k, v) :: l, i => if i = k then some v else look l i

def numOf (l : List (Nat × Nat)) (i : Nat) : Nat := (look l i).getD 0
def hasOf (l : List (Nat × Nat)) (i : Nat) : Bool := (look l i).isSome

theorem look_mem {α : Type} : ∀ {l : List (Nat × α)} {i : Nat} {v : α}, look l i = some v → (i, v) ∈ l
  | [], _, _, h => by simp [look] at h
  | (k, x) :: l, i, v, h => by
    simp only [look] at h
    split at h
    · rename_i hk; cases h; subst hk; simp
    · exact List.mem_cons_of_mem _ (look_mem h)

/-- One function of the table. -/
def Ties (P : Program) (ids tys : List (Nat × Nat)) (tab : List (Nat × RFunc)) (f n : Nat) : Prop :=
  ∃ gf r, P.funcs[n]? = some gf ∧ look tab f = some r ∧ chkF P (numOf ids) (numOf tys) (hasOf ids) drawC gf r = true

def theLink (P : Program) (ids tys : List (Nat × Nat)) : Link := ⟨P, numOf ids, numOf tys, fun g => hasOf ids g = true⟩

theorem linked_of {P : Program} {ids tys : List (Nat × Nat)} {tab : List (Nat × RFunc)} (hmix : P.follows .mixedOrders = true) (h : ∀ p ∈ ids, Ties P ids tys tab p.1 p.2) :
    Linked (theLink P ids tys) (hasOf ids) drawC (look tab) := by
  have fns : ∀ f, hasOf ids f = true → ∃ gf r, P.funcs[numOf ids f]? = some gf ∧ look tab f = some r ∧ chkF P (numOf ids) (numOf tys) (hasOf ids) drawC gf r = true := by
    intro f hf
    unfold hasOf at hf
    obtain ⟨n, hn⟩ := Option.isSome_iff_exists.1 hf
    have := h _ (look_mem hn)
    unfold numOf
    rw [hn]
    exact this
  have ok : LinkOk (theLink P ids tys) (hasOf ids) := by
    refine ⟨fun g hg => hg, fun f hf => ?_⟩
    obtain ⟨gf, r, h1, _, h3⟩ := fns f hf
    unfold chkF at h3
    simp only [Bool.and_eq_true] at h3
    obtain ⟨⟨⟨⟨_, _⟩, h4⟩, h5⟩, _⟩ := h3
    split at h5
    · rename_i c hc
      exact ⟨gf, c, h1, by simpa using h4, hc⟩
    · simp at h5
  exact ⟨fun _ => Iff.rfl, fns, drawOk ok hmix⟩
end Go.Ash
/- The code of functions of the given program, printed by a program of this work out of the dump (codes.py): data alone. -/
namespace Go.Ash
set_option maxRecDepth 10000
def c_gauge_Times : RFunc := ⟨1, [0, 2, 3],
(.seq (.region [⟨.mov, [.c (.int .i64 0)], some 1, none, []⟩] false)
(.seq (.region [⟨.build [.int .i64 0] [(0, 1)], [.c (.int .i64 1)], none, none, []⟩,
 ⟨.box, [.p 0], none, none, []⟩,
 ⟨.mov, [.p 0], some 2, none, []⟩] false)
(.seq (.region [⟨.mov, [.v 2], none, none, []⟩,
 ⟨.mkfn 66 1, [.p 0], none, none, []⟩,
 ⟨.mov, [.v 0], none, none, []⟩,
 ⟨.call true 67, [.p 1, .p 0], none, none, []⟩] false)
(.seq (.region [⟨.mov, [.v 2], none, none, []⟩,
 ⟨.nilck, [.p 0], none, none, []⟩,
 ⟨.faddr 0, [.p 0], none, none, []⟩,
 ⟨.load false 1, [.p 0], none, none, []⟩,
 ⟨.mov, [.p 0], some 1, none, []⟩] false)
.ret)))),
[.v 1]⟩
def c_gauge_Of : RFunc := ⟨1, [0, 2],
(.seq (.region [⟨.alloc (.agg [.int .i64 0, .int .i64 0, .int .i64 0]), [], some 1, none, []⟩] false)
(.seq (.region [⟨.mov, [.v 0], none, none, []⟩,
 ⟨.call false 72, [.p 0], none, none, []⟩,
 ⟨.store 3, [.v 1, .p 0], none, none, []⟩] false)
.ret)),
[.cell 1 true 3]⟩
def c_gauge_Mul : RFunc := ⟨3, [0, 1, 2, 5, 6],
(.seq (.region [⟨.box, [.v 2], some 3, none, []⟩,
 ⟨.mov, [.c (.int .i64 0)], some 4, none, []⟩] false)
(.seq (.region [⟨.mov, [.v 0], none, none, []⟩,
 ⟨.mov, [.v 1], none, none, []⟩,
 ⟨.load true 2, [.v 3], none, none, []⟩,
 ⟨.call false 76, [.p 2, .p 1, .p 0], none, none, []⟩,
 ⟨.mov, [.p 0], some 4, none, []⟩] false)
.ret)),
[.v 4]⟩
def c_gauge_Apply : RFunc := ⟨3, [0, 1, 2, 5, 6],
(.seq (.region [⟨.box, [.v 2], some 3, none, []⟩,
 ⟨.mov, [.c (.int .i64 0)], some 4, none, []⟩] false)
(.seq (.region [⟨.mov, [.v 0], none, none, []⟩,
 ⟨.mov, [.v 1], none, none, []⟩,
 ⟨.load true 2, [.v 3], none, none, []⟩,
 ⟨.call false 78, [.p 2, .p 1, .p 0], none, none, []⟩,
 ⟨.mov, [.p 0], some 4, none, []⟩] false)
.ret)),
[.v 4]⟩
def c_gauge_Divide : RFunc := ⟨3, [0, 1, 2, 5, 6, 7, 8, 9, 10],
(.seq (.region [⟨.box, [.v 2], some 3, none, []⟩,
 ⟨.mov, [.c (.int .i64 0)], some 4, none, []⟩] false)
(.seq (.region [⟨.mov, [.v 0], none, none, []⟩,
 ⟨.call false 11, [.p 0], none, none, []⟩,
 ⟨.mov, [.v 1], none, none, []⟩,
 ⟨.call false 11, [.p 0], none, none, []⟩,
 ⟨.load true 2, [.v 3], none, none, []⟩,
 ⟨.call false 53, [.p 0], none, none, []⟩,
 ⟨.alloc (.agg [.int .i64 0, .int .i64 0, .int .i64 0]), [], some 5, none, []⟩,
 ⟨.alloc (.agg [.int .i64 0, .int .i64 0, .int .i64 0]), [], some 6, none, []⟩,
 ⟨.store 3, [.v 5, .p 6], none, none, []⟩,
 ⟨.store 3, [.v 6, .p 5], none, none, []⟩,
 ⟨.mov, [.p 4], some 7, none, []⟩] true)
(.seq (.region [⟨.faddr 2, [.v 5], none, none, []⟩,
 ⟨.load false 1, [.p 0], none, none, []⟩,
 ⟨.faddr 2, [.v 6], none, none, []⟩,
 ⟨.load false 1, [.p 0], none, none, []⟩,
 ⟨.faddr 0, [.v 5], none, none, []⟩,
 ⟨.load false 1, [.p 0], none, none, []⟩,
 ⟨.bin .add, [.p 0, .c (.int .i64 1)], none, none, []⟩,
 ⟨.mov, [.v 7], none, none, []⟩,
 ⟨.bslice 1 (.int .i64 0) 2 [0, 1], [.p 0, .c (.int .i64 2)], none, none, []⟩,
 ⟨.call false 81, [.p 0], none, none, []⟩,
 ⟨.bslice 1 (.int .i64 0) 2 [0, 1], [.p 3, .p 0], none, none, []⟩,
 ⟨.call false 82, [.p 0], none, none, []⟩,
 ⟨.bslice 1 (.int .i64 0) 4 [0, 1, 2, 3], [.p 10, .p 8, .p 0, .c (.int .i64 8)], none, none, []⟩,
 ⟨.call false 81, [.p 0], none, none, []⟩,
 ⟨.mov, [.p 0], some 8, none, []⟩] true)
(.seq (.region [⟨.faddr 0, [.v 5], none, none, []⟩,
 ⟨.load false 1, [.p 0], none, none, []⟩,
 ⟨.bin .add, [.p 0, .c (.int .i64 1)], none, none, []⟩,
 ⟨.faddr 0, [.v 6], none, none, []⟩,
 ⟨.load false 1, [.p 0], none, none, []⟩,
 ⟨.bin .add, [.p 0, .c (.int .i64 1)], none, none, []⟩,
 ⟨.faddr 0, [.v 5], none, none, []⟩,
 ⟨.load false 1, [.p 0], none, none, []⟩,
 ⟨.faddr 0, [.v 6], none, none, []⟩,
 ⟨.load false 1, [.p 0], none, none, []⟩,
 ⟨.bslice 1 (.int .i64 0) 3 [0, 1, 2], [.p 2, .p 0, .c (.int .i64 2)], none, none, []⟩,
 ⟨.call false 81, [.p 0], none, none, []⟩,
 ⟨.faddr 1, [.v 5], none, none, []⟩,
 ⟨.load false 1, [.p 0], none, none, []⟩,
 ⟨.faddr 1, [.v 6], none, none, []⟩,
 ⟨.load false 1, [.p 0], none, none, []⟩,
 ⟨.bslice 1 (.int .i64 0) 3 [0, 1, 2], [.p 2, .p 0, .c (.int .i64 2)], none, none, []⟩,
 ⟨.call false 81, [.p 0], none, none, []⟩,
 ⟨.mov, [.v 8], none, none, []⟩,
 ⟨.bslice 1 (.int .i64 0) 5 [0, 1, 2, 3, 4], [.p 16, .p 13, .p 7, .p 1, .p 0], none, none, []⟩,
 ⟨.call false 3, [.p 0], none, none, []⟩,
 ⟨.mov, [.p 0], some 4, none, []⟩] true)
.ret)))),
[.v 4]⟩
def c_gauge_Common : RFunc := ⟨3, [0, 1, 2, 5, 6, 7, 8, 9, 10, 11],
(.seq (.region [⟨.box, [.v 2], some 3, none, []⟩,
 ⟨.mov, [.c (.int .i64 0)], some 4, none, []⟩] false)
(.seq (.region [⟨.mov, [.v 0], none, none, []⟩,
 ⟨.call false 11, [.p 0], none, none, []⟩,
 ⟨.mov, [.v 1], none, none, []⟩,
 ⟨.call false 11, [.p 0], none, none, []⟩,
 ⟨.load true 2, [.v 3], none, none, []⟩,
 ⟨.call false 53, [.p 0], none, none, []⟩,
 ⟨.alloc (.agg [.int .i64 0, .int .i64 0, .int .i64 0]), [], some 5, none, []⟩,
 ⟨.alloc (.agg [.int .i64 0, .int .i64 0, .int .i64 0]), [], some 6, none, []⟩,
 ⟨.store 3, [.v 5, .p 6], none, none, []⟩,
 ⟨.store 3, [.v 6, .p 5], none, none, []⟩,
 ⟨.mov, [.p 4], some 7, none, []⟩] true)
(.seq (.region [⟨.faddr 0, [.v 5], none, none, []⟩,
 ⟨.load false 1, [.p 0], none, none, []⟩,
 ⟨.faddr 0, [.v 6], none, none, []⟩,
 ⟨.load false 1, [.p 0], none, none, []⟩,
 ⟨.bslice 1 (.int .i64 0) 3 [0, 1, 2], [.p 2, .p 0, .c (.int .i64 2)], none, none, []⟩,
 ⟨.call false 81, [.p 0], none, none, []⟩,
 ⟨.mov, [.p 0], some 8, none, []⟩] false)
(.seq (.region [⟨.faddr 2, [.v 5], none, none, []⟩,
 ⟨.load false 1, [.p 0], none, none, []⟩,
 ⟨.faddr 2, [.v 6], none, none, []⟩,
 ⟨.load false 1, [.p 0], none, none, []⟩,
 ⟨.mov, [.v 8], none, none, []⟩,
 ⟨.bin .sub, [.p 0, .c (.int .i64 1)], none, none, []⟩,
 ⟨.mov, [.v 7], none, none, []⟩,
 ⟨.bslice 1 (.int .i64 0) 2 [0, 1], [.p 0, .c (.int .i64 2)], none, none, []⟩,
 ⟨.call false 81, [.p 0], none, none, []⟩,
 ⟨.bslice 1 (.int .i64 0) 2 [0, 1], [.p 3, .p 0], none, none, []⟩,
 ⟨.call false 82, [.p 0], none, none, []⟩,
 ⟨.bslice 1 (.int .i64 0) 4 [0, 1, 2, 3], [.p 9, .p 7, .p 0, .c (.int .i64 8)], none, none, []⟩,
 ⟨.call false 81, [.p 0], none, none, []⟩,
 ⟨.mov, [.p 0], some 9, none, []⟩] true)
(.seq (.region [⟨.mov, [.v 8], none, none, []⟩,
 ⟨.mov, [.v 8], none, none, []⟩,
 ⟨.mov, [.v 8], none, none, []⟩,
 ⟨.mov, [.v 8], none, none, []⟩,
 ⟨.faddr 1, [.v 5], none, none, []⟩,
 ⟨.load false 1, [.p 0], none, none, []⟩,
 ⟨.faddr 1, [.v 6], none, none, []⟩,
 ⟨.load false 1, [.p 0], none, none, []⟩,
 ⟨.bslice 1 (.int .i64 0) 2 [0, 1], [.p 2, .p 0], none, none, []⟩,
 ⟨.call false 81, [.p 0], none, none, []⟩,
 ⟨.bslice 1 (.int .i64 0) 2 [0, 1], [.p 6, .p 0], none, none, []⟩,
 ⟨.call false 82, [.p 0], none, none, []⟩,
 ⟨.bslice 1 (.int .i64 0) 2 [0, 1], [.p 0, .c (.int .i64 2)], none, none, []⟩,
 ⟨.call false 81, [.p 0], none, none, []⟩,
 ⟨.mov, [.v 9], none, none, []⟩,
 ⟨.bslice 1 (.int .i64 0) 5 [0, 1, 2, 3, 4], [.p 14, .p 13, .p 12, .p 1, .p 0], none, none, []⟩,
 ⟨.call false 3, [.p 0], none, none, []⟩,
 ⟨.mov, [.p 0], some 4, none, []⟩] false)
.ret))))),
[.v 4]⟩
def l_gauge_each_0 : RCode := (.loop [true, false, false, true, true, true] (.seq (.region [⟨.bin .lss, [.v 5, .v 4], none, none, []⟩] false)
(.seq (.cond (.p 0) .skip (.exit 0))
(.seq (.block 1 (.seq (.region [⟨.iaddr 1, [.v 3, .v 5], none, none, []⟩,
 ⟨.load false 1, [.p 0], none, none, []⟩,
 ⟨.mov, [.p 0], some 2, none, []⟩] false)
(.region [⟨.mov, [.v 0], none, none, []⟩,
 ⟨.mov, [.v 2], none, none, []⟩,
 ⟨.callv true, [.p 1, .p 0], none, none, []⟩] false)))
(.region [⟨.bin .add, [.v 5, .c (.int .i64 1)], none, none, []⟩,
 ⟨.mov, [.p 0], some 5, none, []⟩] false)))))
def c_gauge_each : RFunc := ⟨2, [0, 1, 5, 6, 7, 8],
(.seq (.region [⟨.mov, [.v 1], some 3, none, []⟩,
 ⟨.len false, [.v 3], some 4, none, []⟩,
 ⟨.mov, [.c (.int .i64 0)], some 5, none, []⟩] false)
(.block 0 l_gauge_each_0)),
[]⟩
def c_gauge_product_take : RFunc := ⟨2, [0, 1],
(.region [⟨.mov, [.v 0], none, none, []⟩,
 ⟨.mov, [.v 0], none, none, []⟩,
 ⟨.nilck, [.p 0], none, none, []⟩,
 ⟨.faddr 0, [.p 0], none, none, []⟩,
 ⟨.load false 1, [.p 0], none, none, []⟩,
 ⟨.mov, [.v 1], none, none, []⟩,
 ⟨.max, [.p 0, .c (.int .i64 1)], none, none, []⟩,
 ⟨.bslice 1 (.int .i64 0) 2 [0, 1], [.p 2, .p 0], none, none, []⟩,
 ⟨.call false 82, [.p 0], none, none, []⟩,
 ⟨.nilck, [.p 8], none, none, []⟩,
 ⟨.faddr 0, [.p 0], none, none, []⟩,
 ⟨.store 1, [.p 0, .p 2], none, none, []⟩] false),
[]⟩
def l_zcost_Of_0 : RCode := (.loop [true, true, true] (.seq (.seq (.region [⟨.mov, [.v 2], none, none, []⟩,
 ⟨.bin .geq, [.p 0, .c (.int .i64 0)], none, none, []⟩,
 ⟨.mov, [.p 0], none, none, []⟩,
 ⟨.mov, [.v 0], none, some (0, true), []⟩,
 ⟨.mov, [.v 2], none, some (1, true), []⟩,
 ⟨.iaddr 1, [.p 1, .p 0], none, some (2, true), []⟩,
 ⟨.load false 1, [.p 0], none, some (3, true), []⟩,
 ⟨.call false 104, [.p 0], none, some (4, true), []⟩,
 ⟨.bin .lss, [.p 0, .c (.int .i64 0)], none, some (5, true), []⟩,
 ⟨.pick, [.p 6, .p 0, .c (.bool false)], none, none, []⟩] false)
(.cond (.p 0) .skip (.exit 0)))
(.block 1 (.region [⟨.mov, [.v 2], none, none, []⟩,
 ⟨.bin .sub, [.p 0, .c (.int .i64 1)], none, none, []⟩,
 ⟨.mov, [.p 0], some 2, none, []⟩] false))))
def l_zcost_Of_1 : RCode := (.loop [false, true, false, true, false, true, true, true] (.seq (.region [⟨.bin .lss, [.v 7, .v 6], none, none, []⟩] false)
(.seq (.cond (.p 0) .skip (.exit 2))
(.seq (.block 3 (.seq (.region [⟨.iaddr 1, [.v 5, .v 7], none, none, []⟩,
 ⟨.load false 1, [.p 0], none, none, []⟩,
 ⟨.mov, [.p 0], some 4, none, []⟩] false)
(.region [⟨.faddr 1, [.v 3], none, none, []⟩,
 ⟨.load false 1, [.p 0], none, none, []⟩,
 ⟨.mov, [.v 4], none, none, []⟩,
 ⟨.call false 104, [.p 0], none, none, []⟩,
 ⟨.max, [.p 2, .p 0], none, none, []⟩,
 ⟨.faddr 2, [.v 3], none, none, []⟩,
 ⟨.load false 1, [.p 0], none, none, []⟩,
 ⟨.mov, [.v 4], none, none, []⟩,
 ⟨.call false 105, [.p 0], none, none, []⟩,
 ⟨.max, [.p 2, .p 0], none, none, []⟩,
 ⟨.faddr 1, [.v 3], none, none, []⟩,
 ⟨.store 1, [.p 0, .p 6], none, none, []⟩,
 ⟨.faddr 2, [.v 3], none, none, []⟩,
 ⟨.store 1, [.p 0, .p 3], none, none, []⟩] true)))
(.region [⟨.bin .add, [.v 7, .c (.int .i64 1)], none, none, []⟩,
 ⟨.mov, [.p 0], some 7, none, []⟩] false)))))
def c_zcost_Of : RFunc := ⟨1, [0, 2, 3, 4, 6, 30, 31, 32],
(.seq (.region [⟨.alloc (.agg [.int .i64 0, .int .i64 0, .int .i64 0]), [], some 1, none, []⟩] false)
(.seq (.region [⟨.mov, [.v 0], none, none, []⟩,
 ⟨.len false, [.p 0], none, none, []⟩,
 ⟨.bin .sub, [.p 0, .c (.int .i64 1)], none, none, []⟩,
 ⟨.mov, [.p 0], some 2, none, []⟩] false)
(.seq (.block 0 l_zcost_Of_0)
(.seq (.seq (.region [⟨.mov, [.v 2], none, none, []⟩,
 ⟨.bin .lss, [.p 0, .c (.int .i64 0)], none, none, []⟩] false)
(.cond (.p 0) (.seq (.region [⟨.build [.int .i64 0, .int .i64 0, .int .i64 0] [], [], none, none, []⟩,
 ⟨.store 3, [.v 1, .p 0], none, none, []⟩] false)
.ret) .skip))
(.seq (.region [⟨.mov, [.v 2], none, none, []⟩,
 ⟨.build [.int .i64 0, .int .i64 0, .int .i64 0] [(0, 1)], [.p 0], none, none, []⟩,
 ⟨.alloc (.agg [.int .i64 0, .int .i64 0, .int .i64 0]), [], some 3, none, []⟩,
 ⟨.store 3, [.v 3, .p 1], none, none, []⟩] false)
(.seq (.seq (.region [⟨.mov, [.v 0], none, none, []⟩,
 ⟨.mov, [.v 2], none, none, []⟩,
 ⟨.bin .add, [.p 0, .c (.int .i64 1)], none, none, []⟩,
 ⟨.slice 1 false true false, [.p 2, .p 0], some 5, none, []⟩,
 ⟨.len false, [.v 5], some 6, none, []⟩,
 ⟨.mov, [.c (.int .i64 0)], some 7, none, []⟩] false)
(.block 2 l_zcost_Of_1))
(.seq (.region [⟨.load true 3, [.v 3], none, none, []⟩,
 ⟨.store 3, [.v 1, .p 0], none, none, []⟩] false)
.ret))))))),
[.cell 1 true 3]⟩
def c_zcost_Product : RFunc := ⟨3, [0, 1, 2, 5, 6, 7, 8, 9, 10],
(.seq (.region [⟨.box, [.v 2], some 3, none, []⟩,
 ⟨.mov, [.c (.int .i64 0)], some 4, none, []⟩] false)
(.seq (.region [⟨.mov, [.v 0], none, none, []⟩,
 ⟨.call false 72, [.p 0], none, none, []⟩,
 ⟨.mov, [.v 1], none, none, []⟩,
 ⟨.call false 72, [.p 0], none, none, []⟩,
 ⟨.load true 2, [.v 3], none, none, []⟩,
 ⟨.call false 53, [.p 0], none, none, []⟩,
 ⟨.alloc (.agg [.int .i64 0, .int .i64 0, .int .i64 0]), [], some 5, none, []⟩,
 ⟨.alloc (.agg [.int .i64 0, .int .i64 0, .int .i64 0]), [], some 6, none, []⟩,
 ⟨.store 3, [.v 5, .p 6], none, none, []⟩,
 ⟨.store 3, [.v 6, .p 5], none, none, []⟩,
 ⟨.mov, [.p 4], some 7, none, []⟩] true)
(.seq (.region [⟨.faddr 2, [.v 5], none, none, []⟩,
 ⟨.load false 1, [.p 0], none, none, []⟩,
 ⟨.faddr 2, [.v 6], none, none, []⟩,
 ⟨.load false 1, [.p 0], none, none, []⟩,
 ⟨.faddr 0, [.v 5], none, none, []⟩,
 ⟨.load false 1, [.p 0], none, none, []⟩,
 ⟨.bin .add, [.p 0, .c (.int .i64 1)], none, none, []⟩,
 ⟨.faddr 1, [.v 6], none, none, []⟩,
 ⟨.load false 1, [.p 0], none, none, []⟩,
 ⟨.bin .add, [.p 0, .c (.int .i64 1)], none, none, []⟩,
 ⟨.bslice 1 (.int .i64 0) 2 [0, 1], [.p 3, .p 0], none, none, []⟩,
 ⟨.call false 82, [.p 0], none, none, []⟩,
 ⟨.faddr 0, [.v 5], none, none, []⟩,
 ⟨.load false 1, [.p 0], none, none, []⟩,
 ⟨.faddr 1, [.v 6], none, none, []⟩,
 ⟨.load false 1, [.p 0], none, none, []⟩,
 ⟨.bin .add, [.p 0, .c (.int .i64 1)], none, none, []⟩,
 ⟨.mov, [.v 7], none, none, []⟩,
 ⟨.bslice 1 (.int .i64 0) 3 [0, 1, 2], [.p 4, .p 1, .p 0], none, none, []⟩,
 ⟨.call false 82, [.p 0], none, none, []⟩,
 ⟨.bslice 1 (.int .i64 0) 5 [0, 1, 2, 3, 4], [.p 18, .p 16, .p 8, .p 0, .c (.int .i64 8)], none, none, []⟩,
 ⟨.call false 81, [.p 0], none, none, []⟩,
 ⟨.mov, [.p 0], some 8, none, []⟩] true)
(.seq (.region [⟨.faddr 0, [.v 5], none, none, []⟩,
 ⟨.load false 1, [.p 0], none, none, []⟩,
 ⟨.bin .add, [.p 0, .c (.int .i64 1)], none, none, []⟩,
 ⟨.faddr 0, [.v 6], none, none, []⟩,
 ⟨.load false 1, [.p 0], none, none, []⟩,
 ⟨.bin .add, [.p 0, .c (.int .i64 1)], none, none, []⟩,
 ⟨.faddr 1, [.v 5], none, none, []⟩,
 ⟨.load false 1, [.p 0], none, none, []⟩,
 ⟨.faddr 1, [.v 6], none, none, []⟩,
 ⟨.load false 1, [.p 0], none, none, []⟩,
 ⟨.bslice 1 (.int .i64 0) 3 [0, 1, 2], [.p 2, .p 0, .c (.int .i64 2)], none, none, []⟩,
 ⟨.call false 81, [.p 0], none, none, []⟩,
 ⟨.mov, [.v 8], none, none, []⟩,
 ⟨.bslice 1 (.int .i64 0) 4 [0, 1, 2, 3], [.p 10, .p 7, .p 1, .p 0], none, none, []⟩,
 ⟨.call false 106, [.p 0], none, none, []⟩,
 ⟨.mov, [.p 0], some 4, none, []⟩] true)
.ret)))),
[.v 4]⟩
def c_zcost_Apply : RFunc := ⟨3, [0, 1, 2, 5, 6, 7, 8, 9, 10],
(.seq (.region [⟨.box, [.v 2], some 3, none, []⟩,
 ⟨.mov, [.c (.int .i64 0)], some 4, none, []⟩] false)
(.seq (.region [⟨.mov, [.v 0], none, none, []⟩,
 ⟨.call false 72, [.p 0], none, none, []⟩,
 ⟨.mov, [.v 1], none, none, []⟩,
 ⟨.call false 104, [.p 0], none, none, []⟩,
 ⟨.load true 2, [.v 3], none, none, []⟩,
 ⟨.call false 53, [.p 0], none, none, []⟩,
 ⟨.alloc (.agg [.int .i64 0, .int .i64 0, .int .i64 0]), [], some 5, none, []⟩,
 ⟨.store 3, [.v 5, .p 5], none, none, []⟩,
 ⟨.mov, [.p 4], some 6, none, []⟩,
 ⟨.mov, [.p 3], some 7, none, []⟩] true)
(.seq (.region [⟨.faddr 2, [.v 5], none, none, []⟩,
 ⟨.load false 1, [.p 0], none, none, []⟩,
 ⟨.mov, [.v 1], none, none, []⟩,
 ⟨.call false 105, [.p 0], none, none, []⟩,
 ⟨.faddr 0, [.v 5], none, none, []⟩,
 ⟨.load false 1, [.p 0], none, none, []⟩,
 ⟨.bin .add, [.p 0, .c (.int .i64 1)], none, none, []⟩,
 ⟨.mov, [.v 6], none, none, []⟩,
 ⟨.bin .add, [.p 0, .c (.int .i64 2)], none, none, []⟩,
 ⟨.mov, [.v 7], none, none, []⟩,
 ⟨.bslice 1 (.int .i64 0) 2 [0, 1], [.p 0, .c (.int .i64 8)], none, none, []⟩,
 ⟨.call false 81, [.p 0], none, none, []⟩,
 ⟨.bslice 1 (.int .i64 0) 3 [0, 1, 2], [.p 5, .p 3, .p 0], none, none, []⟩,
 ⟨.call false 82, [.p 0], none, none, []⟩,
 ⟨.bslice 1 (.int .i64 0) 3 [0, 1, 2], [.p 12, .p 10, .p 0], none, none, []⟩,
 ⟨.call false 81, [.p 0], none, none, []⟩,
 ⟨.mov, [.p 0], some 8, none, []⟩] true)
(.seq (.region [⟨.faddr 0, [.v 5], none, none, []⟩,
 ⟨.load false 1, [.p 0], none, none, []⟩,
 ⟨.bin .add, [.p 0, .c (.int .i64 1)], none, none, []⟩,
 ⟨.faddr 1, [.v 5], none, none, []⟩,
 ⟨.load false 1, [.p 0], none, none, []⟩,
 ⟨.mov, [.v 6], none, none, []⟩,
 ⟨.bin .add, [.p 0, .c (.int .i64 3)], none, none, []⟩,
 ⟨.bslice 1 (.int .i64 0) 2 [0, 1], [.p 2, .p 0], none, none, []⟩,
 ⟨.call false 81, [.p 0], none, none, []⟩,
 ⟨.mov, [.v 8], none, none, []⟩,
 ⟨.bslice 1 (.int .i64 0) 3 [0, 1, 2], [.p 7, .p 1, .p 0], none, none, []⟩,
 ⟨.call false 106, [.p 0], none, none, []⟩,
 ⟨.mov, [.p 0], some 4, none, []⟩] true)
.ret)))),
[.v 4]⟩
def l_zcost_Add_0 : RCode := (.loop [false, false, true, false, true, true, true] (.seq (.region [⟨.bin .lss, [.v 6, .v 5], none, none, []⟩] false)
(.seq (.cond (.p 0) .skip (.exit 0))
(.seq (.block 1 (.seq (.region [⟨.iaddr 1, [.v 4, .v 6], none, none, []⟩,
 ⟨.load false 1, [.p 0], none, none, []⟩,
 ⟨.mov, [.p 0], some 3, none, []⟩] false)
(.seq (.seq (.region [⟨.mov, [.v 3], none, none, []⟩,
 ⟨.mov, [.v 2], none, none, []⟩,
 ⟨.bin .sub, [.c (.int .i64 4611686018427387904), .p 0], none, none, []⟩,
 ⟨.bin .gtr, [.p 2, .p 0], none, none, []⟩] false)
(.cond (.p 0) (.seq (.region [⟨.mov, [.c (.int .i64 4611686018427387904)], some 1, none, []⟩] false)
.ret) .skip))
(.region [⟨.mov, [.v 2], none, none, []⟩,
 ⟨.mov, [.v 3], none, none, []⟩,
 ⟨.bin .add, [.p 1, .p 0], none, none, []⟩,
 ⟨.mov, [.p 0], some 2, none, []⟩] false))))
(.region [⟨.bin .add, [.v 6, .c (.int .i64 1)], none, none, []⟩,
 ⟨.mov, [.p 0], some 6, none, []⟩] false)))))
def c_zcost_Add : RFunc := ⟨1, [0, 2, 3, 5, 6, 7, 8],
(.seq (.region [⟨.mov, [.c (.int .i64 0)], some 1, none, []⟩] false)
(.seq (.region [⟨.mov, [.c (.int .i64 0)], some 2, none, []⟩] false)
(.seq (.seq (.region [⟨.mov, [.v 0], some 4, none, []⟩,
 ⟨.len false, [.v 4], some 5, none, []⟩,
 ⟨.mov, [.c (.int .i64 0)], some 6, none, []⟩] false)
(.block 0 l_zcost_Add_0))
(.seq (.region [⟨.mov, [.v 2], none, none, []⟩,
 ⟨.mov, [.p 0], some 1, none, []⟩] false)
.ret)))),
[.v 1]⟩
def l_zcost_Mul_0 : RCode := (.loop [true, false, true, false, false, true, true, true] (.seq (.region [⟨.bin .lss, [.v 7, .v 6], none, none, []⟩] false)
(.seq (.cond (.p 0) .skip (.exit 0))
(.seq (.block 1 (.seq (.region [⟨.iaddr 1, [.v 5, .v 7], none, none, []⟩,
 ⟨.load false 1, [.p 0], none, none, []⟩,
 ⟨.mov, [.p 0], some 3, none, []⟩] false)
(.seq (.region [⟨.mov, [.v 3], none, none, []⟩,
 ⟨.bin .eql, [.p 0, .c (.int .i64 0)], none, none, []⟩] false)
(.cond (.p 0) (.seq (.region [⟨.mov, [.c (.int .i64 0)], some 1, none, []⟩] false)
.ret) .skip))))
(.region [⟨.bin .add, [.v 7, .c (.int .i64 1)], none, none, []⟩,
 ⟨.mov, [.p 0], some 7, none, []⟩] false)))))
def l_zcost_Mul_1 : RCode := (.loop [false, false, true, false, false, false, false, false, true, true, true] (.seq (.region [⟨.bin .lss, [.v 10, .v 9], none, none, []⟩] false)
(.seq (.cond (.p 0) .skip (.exit 2))
(.seq (.block 3 (.seq (.region [⟨.iaddr 1, [.v 8, .v 10], none, none, []⟩,
 ⟨.load false 1, [.p 0], none, none, []⟩,
 ⟨.mov, [.p 0], some 4, none, []⟩] false)
(.seq (.seq (.region [⟨.mov, [.v 2], none, none, []⟩,
 ⟨.mov, [.v 4], none, none, []⟩,
 ⟨.bin .quo, [.c (.int .i64 4611686018427387904), .p 0], none, none, []⟩,
 ⟨.bin .gtr, [.p 2, .p 0], none, none, []⟩] false)
(.cond (.p 0) (.seq (.region [⟨.mov, [.c (.int .i64 4611686018427387904)], some 1, none, []⟩] false)
.ret) .skip))
(.region [⟨.mov, [.v 2], none, none, []⟩,
 ⟨.mov, [.v 4], none, none, []⟩,
 ⟨.bin .mul, [.p 1, .p 0], none, none, []⟩,
 ⟨.mov, [.p 0], some 2, none, []⟩] false))))
(.region [⟨.bin .add, [.v 10, .c (.int .i64 1)], none, none, []⟩,
 ⟨.mov, [.p 0], some 10, none, []⟩] false)))))
def c_zcost_Mul : RFunc := ⟨1, [0, 2, 3, 5, 7, 8, 9, 10, 17, 18, 19],
(.seq (.region [⟨.mov, [.c (.int .i64 0)], some 1, none, []⟩] false)
(.seq (.region [⟨.mov, [.c (.int .i64 1)], some 2, none, []⟩] false)
(.seq (.seq (.region [⟨.mov, [.v 0], some 5, none, []⟩,
 ⟨.len false, [.v 5], some 6, none, []⟩,
 ⟨.mov, [.c (.int .i64 0)], some 7, none, []⟩] false)
(.block 0 l_zcost_Mul_0))
(.seq (.seq (.region [⟨.mov, [.v 0], some 8, none, []⟩,
 ⟨.len false, [.v 8], some 9, none, []⟩,
 ⟨.mov, [.c (.int .i64 0)], some 10, none, []⟩] false)
(.block 2 l_zcost_Mul_1))
(.seq (.region [⟨.mov, [.v 2], none, none, []⟩,
 ⟨.mov, [.p 0], some 1, none, []⟩] false)
.ret))))),
[.v 1]⟩
def l_zcost_Times_0 : RCode := (.loop [false, false, true, false, true, true, true] (.seq (.region [⟨.bin .lss, [.v 6, .v 5], none, none, []⟩] false)
(.seq (.cond (.p 0) .skip (.exit 0))
(.seq (.block 1 (.seq (.region [⟨.iaddr 1, [.v 4, .v 6], none, none, []⟩,
 ⟨.load false 1, [.p 0], none, none, []⟩,
 ⟨.mov, [.p 0], some 3, none, []⟩] false)
(.region [⟨.mov, [.v 2], none, none, []⟩,
 ⟨.mov, [.v 3], none, none, []⟩,
 ⟨.max, [.p 0, .c (.int .i64 1)], none, none, []⟩,
 ⟨.bslice 1 (.int .i64 0) 2 [0, 1], [.p 2, .p 0], none, none, []⟩,
 ⟨.call false 82, [.p 0], none, none, []⟩,
 ⟨.mov, [.p 0], some 2, none, []⟩] false)))
(.region [⟨.bin .add, [.v 6, .c (.int .i64 1)], none, none, []⟩,
 ⟨.mov, [.p 0], some 6, none, []⟩] false)))))
def c_zcost_Times : RFunc := ⟨1, [0, 2, 3, 5, 6, 7, 8],
(.seq (.region [⟨.mov, [.c (.int .i64 0)], some 1, none, []⟩] false)
(.seq (.region [⟨.mov, [.c (.int .i64 1)], some 2, none, []⟩] false)
(.seq (.seq (.region [⟨.mov, [.v 0], some 4, none, []⟩,
 ⟨.len false, [.v 4], some 5, none, []⟩,
 ⟨.mov, [.c (.int .i64 0)], some 6, none, []⟩] false)
(.block 0 l_zcost_Times_0))
(.seq (.region [⟨.mov, [.v 2], none, none, []⟩,
 ⟨.mov, [.p 0], some 1, none, []⟩] false)
.ret)))),
[.v 1]⟩
def c_upoly_Deg : RFunc := ⟨1, [0, 2],
(.seq (.region [⟨.mov, [.c (.int .i64 0)], some 1, none, []⟩] false)
(.seq (.region [⟨.mov, [.v 0], none, none, []⟩,
 ⟨.call false 119, [.p 0], none, none, []⟩,
 ⟨.len false, [.p 0], none, none, []⟩,
 ⟨.bin .sub, [.p 0, .c (.int .i64 1)], none, none, []⟩,
 ⟨.mov, [.p 0], some 1, none, []⟩] false)
.ret)),
[.v 1]⟩
def l_upoly_Bits_0 : RCode := (.loop [false, false, true, false, true, true, true] (.seq (.region [⟨.bin .lss, [.v 6, .v 5], none, none, []⟩] false)
(.seq (.cond (.p 0) .skip (.exit 0))
(.seq (.block 1 (.seq (.region [⟨.iaddr 2, [.v 4, .v 6], none, none, []⟩,
 ⟨.load true 2, [.p 0], none, none, []⟩,
 ⟨.alloc (.agg [.bool false, .slc true []]), [], some 3, none, []⟩,
 ⟨.store 2, [.v 3, .p 1], none, none, []⟩] false)
(.region [⟨.mov, [.v 2], none, none, []⟩,
 ⟨.load true 2, [.v 3], none, none, []⟩,
 ⟨.call false 53, [.p 0], none, none, []⟩,
 ⟨.max, [.p 2, .p 0], none, none, []⟩,
 ⟨.mov, [.p 0], some 2, none, []⟩] false)))
(.region [⟨.bin .add, [.v 6, .c (.int .i64 1)], none, none, []⟩,
 ⟨.mov, [.p 0], some 6, none, []⟩] false)))))
def c_upoly_Bits : RFunc := ⟨1, [0, 2, 3, 5, 6, 7, 8],
(.seq (.region [⟨.mov, [.c (.int .i64 0)], some 1, none, []⟩] false)
(.seq (.region [⟨.mov, [.c (.int .i64 0)], some 2, none, []⟩] false)
(.seq (.seq (.region [⟨.mov, [.v 0], some 4, none, []⟩,
 ⟨.len false, [.v 4], some 5, none, []⟩,
 ⟨.mov, [.c (.int .i64 0)], some 6, none, []⟩] false)
(.block 0 l_upoly_Bits_0))
(.seq (.region [⟨.mov, [.v 2], none, none, []⟩,
 ⟨.mov, [.p 0], some 1, none, []⟩] false)
.ret)))),
[.v 1]⟩
def l_upoly_cut_0 : RCode := (.loop [true, false, true] (.seq (.seq (.region [⟨.mov, [.v 2], none, none, []⟩,
 ⟨.bin .gtr, [.p 0, .c (.int .i64 0)], none, none, []⟩,
 ⟨.mov, [.p 0], none, none, []⟩,
 ⟨.mov, [.v 0], none, some (0, true), []⟩,
 ⟨.mov, [.v 2], none, some (1, true), []⟩,
 ⟨.bin .sub, [.p 0, .c (.int .i64 1)], none, some (2, true), []⟩,
 ⟨.iaddr 2, [.p 2, .p 0], none, some (3, true), []⟩,
 ⟨.load true 2, [.p 0], none, some (4, true), []⟩,
 ⟨.call false 52, [.p 0], none, some (5, true), []⟩,
 ⟨.bin .eql, [.p 0, .c (.int .i64 0)], none, some (6, true), []⟩,
 ⟨.pick, [.p 7, .p 0, .c (.bool false)], none, none, []⟩] false)
(.cond (.p 0) .skip (.exit 0)))
(.block 1 (.region [⟨.mov, [.v 2], none, none, []⟩,
 ⟨.bin .sub, [.p 0, .c (.int .i64 1)], none, none, []⟩,
 ⟨.mov, [.p 0], some 2, none, []⟩] false))))
def c_upoly_cut : RFunc := ⟨1, [0, 2, 3],
(.seq (.region [⟨.mov, [.c (.slc true [])], some 1, none, []⟩] false)
(.seq (.region [⟨.mov, [.v 0], none, none, []⟩,
 ⟨.len false, [.p 0], none, none, []⟩,
 ⟨.mov, [.p 0], some 2, none, []⟩] false)
(.seq (.block 0 l_upoly_cut_0)
(.seq (.seq (.region [⟨.mov, [.v 2], none, none, []⟩,
 ⟨.bin .eql, [.p 0, .c (.int .i64 0)], none, none, []⟩] false)
(.cond (.p 0) (.seq (.region [⟨.mov, [.c (.slc true [])], some 1, none, []⟩] false)
.ret) .skip))
(.seq (.region [⟨.mov, [.v 0], none, none, []⟩,
 ⟨.mov, [.v 2], none, none, []⟩,
 ⟨.slice 2 false true false, [.p 1, .p 0], none, none, []⟩,
 ⟨.mov, [.p 0], some 1, none, []⟩] false)
.ret))))),
[.v 1]⟩
def l_ashlarref3_From_0 : RCode := (.loop [true, false, true, true] (.seq (.seq (.region [⟨.mov, [.v 3], none, none, []⟩,
 ⟨.mov, [.v 0], none, none, []⟩,
 ⟨.len false, [.p 0], none, none, []⟩,
 ⟨.bin .lss, [.p 2, .p 0], none, none, []⟩] false)
(.cond (.p 0) .skip (.exit 0)))
(.seq (.block 1 (.region [⟨.mov, [.v 2], none, none, []⟩,
 ⟨.mov, [.v 0], none, none, []⟩,
 ⟨.mov, [.v 3], none, none, []⟩,
 ⟨.iaddr 2, [.p 1, .p 0], none, none, []⟩,
 ⟨.load true 2, [.p 0], none, none, []⟩,
 ⟨.call false 10, [.p 0], none, none, []⟩,
 ⟨.bslice 2 (.agg [.bool false, .slc true []]) 1 [0], [.p 0], none, none, []⟩,
 ⟨.app 32 2, [.p 6, .p 0], none, none, []⟩,
 ⟨.mov, [.p 0], some 2, none, []⟩] false))
(.region [⟨.mov, [.v 3], none, none, []⟩,
 ⟨.bin .add, [.p 0, .c (.int .i64 1)], none, none, []⟩,
 ⟨.mov, [.p 0], some 3, none, []⟩] false))))
def c_ashlarref3_From : RFunc := ⟨1, [0, 2, 3, 4],
(.seq (.region [⟨.mov, [.c (.slc true [])], some 1, none, []⟩] false)
(.seq (.region [⟨.mov, [.c (.slc true [])], some 2, none, []⟩] false)
(.seq (.seq (.region [⟨.mov, [.c (.int .i64 0)], some 3, none, []⟩] false)
(.block 0 l_ashlarref3_From_0))
(.seq (.region [⟨.mov, [.v 2], none, none, []⟩,
 ⟨.call false 70, [.p 0], none, none, []⟩,
 ⟨.mov, [.p 0], some 1, none, []⟩] false)
.ret)))),
[.v 1]⟩
def l_ashlarref3_Of_0 : RCode := (.loop [true, false, true, true] (.seq (.seq (.region [⟨.mov, [.v 3], none, none, []⟩,
 ⟨.mov, [.v 0], none, none, []⟩,
 ⟨.len false, [.p 0], none, none, []⟩,
 ⟨.bin .lss, [.p 2, .p 0], none, none, []⟩] false)
(.cond (.p 0) .skip (.exit 0)))
(.seq (.block 1 (.region [⟨.mov, [.v 2], none, none, []⟩,
 ⟨.mov, [.v 0], none, none, []⟩,
 ⟨.mov, [.v 3], none, none, []⟩,
 ⟨.iaddr 1, [.p 1, .p 0], none, none, []⟩,
 ⟨.load false 1, [.p 0], none, none, []⟩,
 ⟨.call false 34, [.p 0], none, none, []⟩,
 ⟨.bslice 2 (.agg [.bool false, .slc true []]) 1 [0], [.p 0], none, none, []⟩,
 ⟨.app 32 2, [.p 6, .p 0], none, none, []⟩,
 ⟨.mov, [.p 0], some 2, none, []⟩] false))
(.region [⟨.mov, [.v 3], none, none, []⟩,
 ⟨.bin .add, [.p 0, .c (.int .i64 1)], none, none, []⟩,
 ⟨.mov, [.p 0], some 3, none, []⟩] false))))
def c_ashlarref3_Of : RFunc := ⟨1, [0, 2, 3, 4],
(.seq (.region [⟨.mov, [.c (.slc true [])], some 1, none, []⟩] false)
(.seq (.region [⟨.mov, [.c (.slc true [])], some 2, none, []⟩] false)
(.seq (.seq (.region [⟨.mov, [.c (.int .i64 0)], some 3, none, []⟩] false)
(.block 0 l_ashlarref3_Of_0))
(.seq (.region [⟨.mov, [.v 2], none, none, []⟩,
 ⟨.call false 70, [.p 0], none, none, []⟩,
 ⟨.mov, [.p 0], some 1, none, []⟩] false)
.ret)))),
[.v 1]⟩
def l_ashlarref3_Trim_0 : RCode := (.loop [true, false, true] (.seq (.seq (.region [⟨.mov, [.v 2], none, none, []⟩,
 ⟨.bin .gtr, [.p 0, .c (.int .i64 0)], none, none, []⟩,
 ⟨.mov, [.p 0], none, none, []⟩,
 ⟨.mov, [.v 0], none, some (0, true), []⟩,
 ⟨.mov, [.v 2], none, some (1, true), []⟩,
 ⟨.bin .sub, [.p 0, .c (.int .i64 1)], none, some (2, true), []⟩,
 ⟨.iaddr 2, [.p 2, .p 0], none, some (3, true), []⟩,
 ⟨.load true 2, [.p 0], none, some (4, true), []⟩,
 ⟨.call false 25, [.p 0], none, some (5, true), []⟩,
 ⟨.bin .eql, [.p 0, .c (.int .i64 0)], none, some (6, true), []⟩,
 ⟨.pick, [.p 7, .p 0, .c (.bool false)], none, none, []⟩] false)
(.cond (.p 0) .skip (.exit 0)))
(.block 1 (.region [⟨.mov, [.v 2], none, none, []⟩,
 ⟨.bin .sub, [.p 0, .c (.int .i64 1)], none, none, []⟩,
 ⟨.mov, [.p 0], some 2, none, []⟩] false))))
def c_ashlarref3_Trim : RFunc := ⟨1, [0, 2, 3],
(.seq (.region [⟨.mov, [.c (.slc true [])], some 1, none, []⟩] false)
(.seq (.region [⟨.mov, [.v 0], none, none, []⟩,
 ⟨.len false, [.p 0], none, none, []⟩,
 ⟨.mov, [.p 0], some 2, none, []⟩] false)
(.seq (.block 0 l_ashlarref3_Trim_0)
(.seq (.region [⟨.mov, [.v 0], none, none, []⟩,
 ⟨.mov, [.v 2], none, none, []⟩,
 ⟨.mov, [.v 2], none, none, []⟩,
 ⟨.slice 2 false true true, [.p 2, .p 1, .p 0], none, none, []⟩,
 ⟨.mov, [.p 0], some 1, none, []⟩] false)
.ret)))),
[.v 1]⟩
def c_ashlarref3_Deg : RFunc := ⟨1, [0, 2],
(.seq (.region [⟨.mov, [.c (.int .i64 0)], some 1, none, []⟩] false)
(.seq (.region [⟨.mov, [.v 0], none, none, []⟩,
 ⟨.len false, [.p 0], none, none, []⟩,
 ⟨.bin .sub, [.p 0, .c (.int .i64 1)], none, none, []⟩,
 ⟨.mov, [.p 0], some 1, none, []⟩] false)
.ret)),
[.v 1]⟩
def l_ashlarref3_Bits_0 : RCode := (.loop [true, false, true, true] (.seq (.seq (.region [⟨.mov, [.v 3], none, none, []⟩,
 ⟨.mov, [.v 0], none, none, []⟩,
 ⟨.len false, [.p 0], none, none, []⟩,
 ⟨.bin .lss, [.p 2, .p 0], none, none, []⟩] false)
(.cond (.p 0) .skip (.exit 0)))
(.seq (.block 1 (.seq (.region [⟨.mov, [.v 0], none, none, []⟩,
 ⟨.mov, [.v 3], none, none, []⟩,
 ⟨.iaddr 2, [.p 1, .p 0], none, none, []⟩,
 ⟨.load true 2, [.p 0], none, none, []⟩,
 ⟨.call false 54, [.p 0], none, none, []⟩,
 ⟨.mov, [.p 0], some 4, none, []⟩] false)
(.seq (.region [⟨.mov, [.v 4], none, none, []⟩,
 ⟨.mov, [.v 2], none, none, []⟩,
 ⟨.bin .gtr, [.p 1, .p 0], none, none, []⟩] false)
(.cond (.p 0) (.region [⟨.mov, [.v 4], none, none, []⟩,
 ⟨.mov, [.p 0], some 2, none, []⟩] false) .skip))))
(.region [⟨.mov, [.v 3], none, none, []⟩,
 ⟨.bin .add, [.p 0, .c (.int .i64 1)], none, none, []⟩,
 ⟨.mov, [.p 0], some 3, none, []⟩] false))))
def c_ashlarref3_Bits : RFunc := ⟨1, [0, 2, 3, 4, 5],
(.seq (.region [⟨.mov, [.c (.int .i64 0)], some 1, none, []⟩] false)
(.seq (.region [⟨.mov, [.c (.int .i64 0)], some 2, none, []⟩] false)
(.seq (.seq (.region [⟨.mov, [.c (.int .i64 0)], some 3, none, []⟩] false)
(.block 0 l_ashlarref3_Bits_0))
(.seq (.region [⟨.mov, [.v 2], none, none, []⟩,
 ⟨.mov, [.p 0], some 1, none, []⟩] false)
.ret)))),
[.v 1]⟩
def l_ashlarref3_To_0 : RCode := (.loop [true, false, true, true] (.seq (.seq (.region [⟨.mov, [.v 3], none, none, []⟩,
 ⟨.mov, [.v 0], none, none, []⟩,
 ⟨.len false, [.p 0], none, none, []⟩,
 ⟨.bin .lss, [.p 2, .p 0], none, none, []⟩] false)
(.cond (.p 0) .skip (.exit 0)))
(.seq (.block 1 (.region [⟨.mov, [.v 2], none, none, []⟩,
 ⟨.mov, [.v 0], none, none, []⟩,
 ⟨.mov, [.v 3], none, none, []⟩,
 ⟨.iaddr 2, [.p 1, .p 0], none, none, []⟩,
 ⟨.load true 2, [.p 0], none, none, []⟩,
 ⟨.call false 93, [.p 0], none, none, []⟩,
 ⟨.bslice 2 (.agg [.bool false, .slc true []]) 1 [0], [.p 0], none, none, []⟩,
 ⟨.app 32 2, [.p 6, .p 0], none, none, []⟩,
 ⟨.mov, [.p 0], some 2, none, []⟩] false))
(.region [⟨.mov, [.v 3], none, none, []⟩,
 ⟨.bin .add, [.p 0, .c (.int .i64 1)], none, none, []⟩,
 ⟨.mov, [.p 0], some 3, none, []⟩] false))))
def c_ashlarref3_To : RFunc := ⟨1, [0, 2, 3, 4],
(.seq (.region [⟨.mov, [.c (.slc true [])], some 1, none, []⟩] false)
(.seq (.region [⟨.mov, [.c (.slc true [])], some 2, none, []⟩] false)
(.seq (.seq (.region [⟨.mov, [.c (.int .i64 0)], some 3, none, []⟩] false)
(.block 0 l_ashlarref3_To_0))
(.seq (.region [⟨.mov, [.v 2], none, none, []⟩,
 ⟨.mov, [.p 0], some 1, none, []⟩] false)
.ret)))),
[.v 1]⟩
def l_ashlarref8_From_0 : RCode := (.loop [true, false, true, true] (.seq (.seq (.region [⟨.mov, [.v 3], none, none, []⟩,
 ⟨.mov, [.v 0], none, none, []⟩,
 ⟨.len false, [.p 0], none, none, []⟩,
 ⟨.bin .lss, [.p 2, .p 0], none, none, []⟩] false)
(.cond (.p 0) .skip (.exit 0)))
(.seq (.block 1 (.region [⟨.mov, [.v 2], none, none, []⟩,
 ⟨.mov, [.v 0], none, none, []⟩,
 ⟨.mov, [.v 3], none, none, []⟩,
 ⟨.iaddr 1, [.p 1, .p 0], none, none, []⟩,
 ⟨.load false 1, [.p 0], none, none, []⟩,
 ⟨.call false 9, [.p 0], none, none, []⟩,
 ⟨.bslice 1 (.slc true []) 1 [0], [.p 0], none, none, []⟩,
 ⟨.app 24 1, [.p 6, .p 0], none, none, []⟩,
 ⟨.mov, [.p 0], some 2, none, []⟩] false))
(.region [⟨.mov, [.v 3], none, none, []⟩,
 ⟨.bin .add, [.p 0, .c (.int .i64 1)], none, none, []⟩,
 ⟨.mov, [.p 0], some 3, none, []⟩] false))))
def c_ashlarref8_From : RFunc := ⟨1, [0, 2, 3, 4],
(.seq (.region [⟨.mov, [.c (.slc true [])], some 1, none, []⟩] false)
(.seq (.region [⟨.mov, [.c (.slc true [])], some 2, none, []⟩] false)
(.seq (.seq (.region [⟨.mov, [.c (.int .i64 0)], some 3, none, []⟩] false)
(.block 0 l_ashlarref8_From_0))
(.seq (.region [⟨.mov, [.v 2], none, none, []⟩,
 ⟨.call false 69, [.p 0], none, none, []⟩,
 ⟨.mov, [.p 0], some 1, none, []⟩] false)
.ret)))),
[.v 1]⟩
def l_ashlarref8_Trim_0 : RCode := (.loop [true, false, true] (.seq (.seq (.region [⟨.mov, [.v 2], none, none, []⟩,
 ⟨.bin .gtr, [.p 0, .c (.int .i64 0)], none, none, []⟩,
 ⟨.mov, [.p 0], none, none, []⟩,
 ⟨.mov, [.v 0], none, some (0, true), []⟩,
 ⟨.mov, [.v 2], none, some (1, true), []⟩,
 ⟨.bin .sub, [.p 0, .c (.int .i64 1)], none, some (2, true), []⟩,
 ⟨.iaddr 1, [.p 2, .p 0], none, some (3, true), []⟩,
 ⟨.load false 1, [.p 0], none, some (4, true), []⟩,
 ⟨.len false, [.p 0], none, some (5, true), []⟩,
 ⟨.bin .eql, [.p 0, .c (.int .i64 0)], none, some (6, true), []⟩,
 ⟨.pick, [.p 7, .p 0, .c (.bool false)], none, none, []⟩] false)
(.cond (.p 0) .skip (.exit 0)))
(.block 1 (.region [⟨.mov, [.v 2], none, none, []⟩,
 ⟨.bin .sub, [.p 0, .c (.int .i64 1)], none, none, []⟩,
 ⟨.mov, [.p 0], some 2, none, []⟩] false))))
def c_ashlarref8_Trim : RFunc := ⟨1, [0, 2, 3],
(.seq (.region [⟨.mov, [.c (.slc true [])], some 1, none, []⟩] false)
(.seq (.region [⟨.mov, [.v 0], none, none, []⟩,
 ⟨.len false, [.p 0], none, none, []⟩,
 ⟨.mov, [.p 0], some 2, none, []⟩] false)
(.seq (.block 0 l_ashlarref8_Trim_0)
(.seq (.region [⟨.mov, [.v 0], none, none, []⟩,
 ⟨.mov, [.v 2], none, none, []⟩,
 ⟨.mov, [.v 2], none, none, []⟩,
 ⟨.slice 1 false true true, [.p 2, .p 1, .p 0], none, none, []⟩,
 ⟨.mov, [.p 0], some 1, none, []⟩] false)
.ret)))),
[.v 1]⟩
def c_ashlarref8_Order : RFunc := ⟨1, [0, 2],
(.seq (.region [⟨.mov, [.c (.int .i64 0)], some 1, none, []⟩] false)
(.seq (.region [⟨.mov, [.v 0], none, none, []⟩,
 ⟨.len false, [.p 0], none, none, []⟩,
 ⟨.bin .sub, [.p 0, .c (.int .i64 1)], none, none, []⟩,
 ⟨.mov, [.p 0], some 1, none, []⟩] false)
.ret)),
[.v 1]⟩
def l_ashlarref8_Degree_0 : RCode := (.loop [true, false, true, true] (.seq (.seq (.region [⟨.mov, [.v 3], none, none, []⟩,
 ⟨.mov, [.v 0], none, none, []⟩,
 ⟨.len false, [.p 0], none, none, []⟩,
 ⟨.bin .lss, [.p 2, .p 0], none, none, []⟩] false)
(.cond (.p 0) .skip (.exit 0)))
(.seq (.block 1 (.seq (.region [⟨.mov, [.v 0], none, none, []⟩,
 ⟨.mov, [.v 3], none, none, []⟩,
 ⟨.iaddr 1, [.p 1, .p 0], none, none, []⟩,
 ⟨.load false 1, [.p 0], none, none, []⟩,
 ⟨.call false 79, [.p 0], none, none, []⟩,
 ⟨.mov, [.p 0], some 4, none, []⟩] false)
(.seq (.region [⟨.mov, [.v 4], none, none, []⟩,
 ⟨.mov, [.v 2], none, none, []⟩,
 ⟨.bin .gtr, [.p 1, .p 0], none, none, []⟩] false)
(.cond (.p 0) (.region [⟨.mov, [.v 4], none, none, []⟩,
 ⟨.mov, [.p 0], some 2, none, []⟩] false) .skip))))
(.region [⟨.mov, [.v 3], none, none, []⟩,
 ⟨.bin .add, [.p 0, .c (.int .i64 1)], none, none, []⟩,
 ⟨.mov, [.p 0], some 3, none, []⟩] false))))
def c_ashlarref8_Degree : RFunc := ⟨1, [0, 2, 3, 4, 5],
(.seq (.region [⟨.mov, [.c (.int .i64 0)], some 1, none, []⟩] false)
(.seq (.region [⟨.mov, [.c (.int .i64 (-1))], some 2, none, []⟩] false)
(.seq (.seq (.region [⟨.mov, [.c (.int .i64 0)], some 3, none, []⟩] false)
(.block 0 l_ashlarref8_Degree_0))
(.seq (.region [⟨.mov, [.v 2], none, none, []⟩,
 ⟨.mov, [.p 0], some 1, none, []⟩] false)
.ret)))),
[.v 1]⟩
def l_ashlarref8_Bits_0 : RCode := (.loop [true, false, true, true] (.seq (.seq (.region [⟨.mov, [.v 3], none, none, []⟩,
 ⟨.mov, [.v 0], none, none, []⟩,
 ⟨.len false, [.p 0], none, none, []⟩,
 ⟨.bin .lss, [.p 2, .p 0], none, none, []⟩] false)
(.cond (.p 0) .skip (.exit 0)))
(.seq (.block 1 (.seq (.region [⟨.mov, [.v 0], none, none, []⟩,
 ⟨.mov, [.v 3], none, none, []⟩,
 ⟨.iaddr 1, [.p 1, .p 0], none, none, []⟩,
 ⟨.load false 1, [.p 0], none, none, []⟩,
 ⟨.call false 80, [.p 0], none, none, []⟩,
 ⟨.mov, [.p 0], some 4, none, []⟩] false)
(.seq (.region [⟨.mov, [.v 4], none, none, []⟩,
 ⟨.mov, [.v 2], none, none, []⟩,
 ⟨.bin .gtr, [.p 1, .p 0], none, none, []⟩] false)
(.cond (.p 0) (.region [⟨.mov, [.v 4], none, none, []⟩,
 ⟨.mov, [.p 0], some 2, none, []⟩] false) .skip))))
(.region [⟨.mov, [.v 3], none, none, []⟩,
 ⟨.bin .add, [.p 0, .c (.int .i64 1)], none, none, []⟩,
 ⟨.mov, [.p 0], some 3, none, []⟩] false))))
def c_ashlarref8_Bits : RFunc := ⟨1, [0, 2, 3, 4, 5],
(.seq (.region [⟨.mov, [.c (.int .i64 0)], some 1, none, []⟩] false)
(.seq (.region [⟨.mov, [.c (.int .i64 0)], some 2, none, []⟩] false)
(.seq (.seq (.region [⟨.mov, [.c (.int .i64 0)], some 3, none, []⟩] false)
(.block 0 l_ashlarref8_Bits_0))
(.seq (.region [⟨.mov, [.v 2], none, none, []⟩,
 ⟨.mov, [.p 0], some 1, none, []⟩] false)
.ret)))),
[.v 1]⟩
def l_ashlarref8_To_0 : RCode := (.loop [true, false, true, true] (.seq (.seq (.region [⟨.mov, [.v 3], none, none, []⟩,
 ⟨.mov, [.v 0], none, none, []⟩,
 ⟨.len false, [.p 0], none, none, []⟩,
 ⟨.bin .lss, [.p 2, .p 0], none, none, []⟩] false)
(.cond (.p 0) .skip (.exit 0)))
(.seq (.block 1 (.region [⟨.mov, [.v 2], none, none, []⟩,
 ⟨.mov, [.v 0], none, none, []⟩,
 ⟨.mov, [.v 3], none, none, []⟩,
 ⟨.iaddr 1, [.p 1, .p 0], none, none, []⟩,
 ⟨.load false 1, [.p 0], none, none, []⟩,
 ⟨.call false 118, [.p 0], none, none, []⟩,
 ⟨.bslice 1 (.slc true []) 1 [0], [.p 0], none, none, []⟩,
 ⟨.app 24 1, [.p 6, .p 0], none, none, []⟩,
 ⟨.mov, [.p 0], some 2, none, []⟩] false))
(.region [⟨.mov, [.v 3], none, none, []⟩,
 ⟨.bin .add, [.p 0, .c (.int .i64 1)], none, none, []⟩,
 ⟨.mov, [.p 0], some 3, none, []⟩] false))))
def c_ashlarref8_To : RFunc := ⟨1, [0, 2, 3, 4],
(.seq (.region [⟨.mov, [.c (.slc true [])], some 1, none, []⟩] false)
(.seq (.region [⟨.mov, [.c (.slc true [])], some 2, none, []⟩] false)
(.seq (.seq (.region [⟨.mov, [.c (.int .i64 0)], some 3, none, []⟩] false)
(.block 0 l_ashlarref8_To_0))
(.seq (.region [⟨.mov, [.v 2], none, none, []⟩,
 ⟨.mov, [.p 0], some 1, none, []⟩] false)
.ret)))),
[.v 1]⟩
def l_ashlarref9_Times_0 : RCode := (.loop [true, false, true, true] (.seq (.seq (.region [⟨.mov, [.v 3], none, none, []⟩,
 ⟨.mov, [.v 0], none, none, []⟩,
 ⟨.len false, [.p 0], none, none, []⟩,
 ⟨.bin .lss, [.p 2, .p 0], none, none, []⟩] false)
(.cond (.p 0) .skip (.exit 0)))
(.seq (.block 1 (.seq (.region [⟨.mov, [.v 0], none, none, []⟩,
 ⟨.mov, [.v 3], none, none, []⟩,
 ⟨.iaddr 1, [.p 1, .p 0], none, none, []⟩,
 ⟨.load false 1, [.p 0], none, none, []⟩,
 ⟨.bin .gtr, [.p 0, .c (.int .i64 1)], none, none, []⟩] false)
(.cond (.p 0) (.region [⟨.mov, [.v 2], none, none, []⟩,
 ⟨.mov, [.v 0], none, none, []⟩,
 ⟨.mov, [.v 3], none, none, []⟩,
 ⟨.iaddr 1, [.p 1, .p 0], none, none, []⟩,
 ⟨.load false 1, [.p 0], none, none, []⟩,
 ⟨.call false 68, [.p 4, .p 0], none, none, []⟩,
 ⟨.mov, [.p 0], some 2, none, []⟩] false) .skip)))
(.region [⟨.mov, [.v 3], none, none, []⟩,
 ⟨.bin .add, [.p 0, .c (.int .i64 1)], none, none, []⟩,
 ⟨.mov, [.p 0], some 3, none, []⟩] false))))
def c_ashlarref9_Times : RFunc := ⟨1, [0, 2, 3, 4],
(.seq (.region [⟨.mov, [.c (.int .i64 0)], some 1, none, []⟩] false)
(.seq (.region [⟨.mov, [.c (.int .i64 1)], some 2, none, []⟩] false)
(.seq (.seq (.region [⟨.mov, [.c (.int .i64 0)], some 3, none, []⟩] false)
(.block 0 l_ashlarref9_Times_0))
(.seq (.region [⟨.mov, [.v 2], none, none, []⟩,
 ⟨.mov, [.p 0], some 1, none, []⟩] false)
.ret)))),
[.v 1]⟩
def c_ashlarref9_Size : RFunc := ⟨1, [0, 2, 3, 4],
(.seq (.region [⟨.mov, [.c (.int .i64 0)], some 1, none, []⟩,
 ⟨.mov, [.c (.int .i64 0)], some 2, none, []⟩,
 ⟨.mov, [.c (.int .i64 0)], some 3, none, []⟩] false)
(.seq (.seq (.region [⟨.mov, [.v 0], none, none, []⟩,
 ⟨.len false, [.p 0], none, none, []⟩,
 ⟨.bin .eql, [.p 0, .c (.int .i64 0)], none, none, []⟩] false)
(.cond (.p 0) (.seq (.region [⟨.mov, [.c (.int .i64 0)], some 1, none, []⟩,
 ⟨.mov, [.c (.int .i64 0)], some 2, none, []⟩,
 ⟨.mov, [.c (.int .i64 0)], some 3, none, []⟩] false)
.ret) .skip))
(.seq (.region [⟨.mov, [.v 0], none, none, []⟩,
 ⟨.call false 73, [.p 0], none, none, []⟩,
 ⟨.mov, [.v 0], none, none, []⟩,
 ⟨.call false 74, [.p 0], none, none, []⟩,
 ⟨.mov, [.v 0], none, none, []⟩,
 ⟨.call false 75, [.p 0], none, none, []⟩,
 ⟨.mov, [.p 4], some 1, none, []⟩,
 ⟨.mov, [.p 3], some 2, none, []⟩,
 ⟨.mov, [.p 2], some 3, none, []⟩] false)
.ret))),
[.v 1, .v 2, .v 3]⟩
def c_ashlarref9_Mul : RFunc := ⟨3, [0, 1, 2, 5, 6, 7, 8, 9, 10, 11, 12, 13],
(.seq (.region [⟨.box, [.v 2], some 3, none, []⟩,
 ⟨.mov, [.c (.int .i64 0)], some 4, none, []⟩] false)
(.seq (.region [⟨.mov, [.v 0], none, none, []⟩,
 ⟨.call false 12, [.p 0], none, none, []⟩,
 ⟨.mov, [.p 0], none, none, []⟩,
 ⟨.extract 0, [.p 0], none, none, []⟩,
 ⟨.extract 1, [.p 1], none, none, []⟩,
 ⟨.extract 2, [.p 2], none, none, []⟩,
 ⟨.mov, [.p 2], some 5, none, []⟩,
 ⟨.mov, [.p 2], some 6, none, []⟩,
 ⟨.mov, [.p 2], some 7, none, []⟩] false)
(.seq (.region [⟨.mov, [.v 1], none, none, []⟩,
 ⟨.call false 12, [.p 0], none, none, []⟩,
 ⟨.mov, [.p 0], none, none, []⟩,
 ⟨.extract 0, [.p 0], none, none, []⟩,
 ⟨.extract 1, [.p 1], none, none, []⟩,
 ⟨.extract 2, [.p 2], none, none, []⟩,
 ⟨.mov, [.p 2], some 8, none, []⟩,
 ⟨.mov, [.p 2], some 9, none, []⟩,
 ⟨.mov, [.p 2], some 10, none, []⟩] false)
(.seq (.region [⟨.load true 2, [.v 3], none, none, []⟩,
 ⟨.call false 54, [.p 0], none, none, []⟩,
 ⟨.mov, [.p 0], some 11, none, []⟩] false)
(.seq (.region [⟨.mov, [.v 5], none, none, []⟩,
 ⟨.bin .add, [.p 0, .c (.int .i64 1)], none, none, []⟩,
 ⟨.mov, [.v 8], none, none, []⟩,
 ⟨.bin .add, [.p 0, .c (.int .i64 1)], none, none, []⟩,
 ⟨.mov, [.v 6], none, none, []⟩,
 ⟨.mov, [.v 9], none, none, []⟩,
 ⟨.bin .add, [.p 1, .p 0], none, none, []⟩,
 ⟨.bin .add, [.p 0, .c (.int .i64 2)], none, none, []⟩,
 ⟨.mov, [.v 7], none, none, []⟩,
 ⟨.mov, [.v 10], none, none, []⟩,
 ⟨.mov, [.v 5], none, none, []⟩,
 ⟨.bin .add, [.p 0, .c (.int .i64 1)], none, none, []⟩,
 ⟨.mov, [.v 9], none, none, []⟩,
 ⟨.bin .add, [.p 0, .c (.int .i64 1)], none, none, []⟩,
 ⟨.call false 68, [.p 2, .p 0], none, none, []⟩,
 ⟨.mov, [.v 5], none, none, []⟩,
 ⟨.mov, [.v 9], none, none, []⟩,
 ⟨.bin .add, [.p 0, .c (.int .i64 1)], none, none, []⟩,
 ⟨.call false 68, [.p 2, .p 0], none, none, []⟩,
 ⟨.mov, [.v 11], none, none, []⟩,
 ⟨.call false 68, [.p 1, .p 0], none, none, []⟩,
 ⟨.bslice 1 (.int .i64 0) 5 [0, 1, 2, 3, 4], [.p 12, .p 11, .p 6, .p 0, .c (.int .i64 8)], none, none, []⟩,
 ⟨.call false 77, [.p 0], none, none, []⟩,
 ⟨.bslice 1 (.int .i64 0) 4 [0, 1, 2, 3], [.p 21, .p 19, .p 15, .p 0], none, none, []⟩,
 ⟨.call false 4, [.p 0], none, none, []⟩,
 ⟨.mov, [.p 0], some 4, none, []⟩] false)
.ret))))),
[.v 4]⟩
def c_ashlarref9_Apply : RFunc := ⟨3, [0, 1, 2, 5, 6, 7, 8, 9, 10, 11],
(.seq (.region [⟨.box, [.v 2], some 3, none, []⟩,
 ⟨.mov, [.c (.int .i64 0)], some 4, none, []⟩] false)
(.seq (.region [⟨.mov, [.v 0], none, none, []⟩,
 ⟨.call false 12, [.p 0], none, none, []⟩,
 ⟨.mov, [.p 0], none, none, []⟩,
 ⟨.extract 0, [.p 0], none, none, []⟩,
 ⟨.extract 1, [.p 1], none, none, []⟩,
 ⟨.extract 2, [.p 2], none, none, []⟩,
 ⟨.mov, [.p 2], some 5, none, []⟩,
 ⟨.mov, [.p 2], some 6, none, []⟩,
 ⟨.mov, [.p 2], some 7, none, []⟩] false)
(.seq (.region [⟨.load true 2, [.v 3], none, none, []⟩,
 ⟨.call false 54, [.p 0], none, none, []⟩,
 ⟨.mov, [.p 0], some 8, none, []⟩] false)
(.seq (.region [⟨.mov, [.v 1], none, none, []⟩,
 ⟨.call false 79, [.p 0], none, none, []⟩,
 ⟨.mov, [.p 0], some 9, none, []⟩] false)
(.seq (.region [⟨.mov, [.v 5], none, none, []⟩,
 ⟨.bin .add, [.p 0, .c (.int .i64 1)], none, none, []⟩,
 ⟨.mov, [.v 6], none, none, []⟩,
 ⟨.mov, [.v 9], none, none, []⟩,
 ⟨.bin .add, [.p 1, .p 0], none, none, []⟩,
 ⟨.bin .add, [.p 0, .c (.int .i64 3)], none, none, []⟩,
 ⟨.mov, [.v 7], none, none, []⟩,
 ⟨.mov, [.v 1], none, none, []⟩,
 ⟨.call false 80, [.p 0], none, none, []⟩,
 ⟨.mov, [.v 5], none, none, []⟩,
 ⟨.bin .add, [.p 0, .c (.int .i64 1)], none, none, []⟩,
 ⟨.mov, [.v 9], none, none, []⟩,
 ⟨.bin .add, [.p 0, .c (.int .i64 2)], none, none, []⟩,
 ⟨.call false 68, [.p 2, .p 0], none, none, []⟩,
 ⟨.mov, [.v 8], none, none, []⟩,
 ⟨.bin .add, [.p 0, .c (.int .i64 8)], none, none, []⟩,
 ⟨.call false 68, [.p 2, .p 0], none, none, []⟩,
 ⟨.bslice 1 (.int .i64 0) 3 [0, 1, 2], [.p 10, .p 8, .p 0], none, none, []⟩,
 ⟨.call false 77, [.p 0], none, none, []⟩,
 ⟨.bslice 1 (.int .i64 0) 3 [0, 1, 2], [.p 17, .p 13, .p 0], none, none, []⟩,
 ⟨.call false 4, [.p 0], none, none, []⟩,
 ⟨.mov, [.p 0], some 4, none, []⟩] false)
.ret))))),
[.v 4]⟩
def c_ashlarref9_Divide : RFunc := ⟨3, [0, 1, 2, 5, 6, 7, 8, 9, 10, 11, 12, 13],
(.seq (.region [⟨.box, [.v 2], some 3, none, []⟩,
 ⟨.mov, [.c (.int .i64 0)], some 4, none, []⟩] false)
(.seq (.region [⟨.mov, [.v 0], none, none, []⟩,
 ⟨.call false 12, [.p 0], none, none, []⟩,
 ⟨.mov, [.p 0], none, none, []⟩,
 ⟨.extract 0, [.p 0], none, none, []⟩,
 ⟨.extract 1, [.p 1], none, none, []⟩,
 ⟨.extract 2, [.p 2], none, none, []⟩,
 ⟨.mov, [.p 2], some 5, none, []⟩,
 ⟨.mov, [.p 2], some 6, none, []⟩,
 ⟨.mov, [.p 2], some 7, none, []⟩] false)
(.seq (.region [⟨.mov, [.v 1], none, none, []⟩,
 ⟨.call false 12, [.p 0], none, none, []⟩,
 ⟨.mov, [.p 0], none, none, []⟩,
 ⟨.extract 0, [.p 0], none, none, []⟩,
 ⟨.extract 1, [.p 1], none, none, []⟩,
 ⟨.extract 2, [.p 2], none, none, []⟩,
 ⟨.mov, [.p 2], some 8, none, []⟩,
 ⟨.mov, [.p 2], some 9, none, []⟩,
 ⟨.mov, [.p 2], some 10, none, []⟩] false)
(.seq (.region [⟨.load true 2, [.v 3], none, none, []⟩,
 ⟨.call false 54, [.p 0], none, none, []⟩,
 ⟨.mov, [.p 0], some 11, none, []⟩] false)
(.seq (.region [⟨.mov, [.v 5], none, none, []⟩,
 ⟨.bin .add, [.p 0, .c (.int .i64 1)], none, none, []⟩,
 ⟨.mov, [.v 8], none, none, []⟩,
 ⟨.bin .add, [.p 0, .c (.int .i64 1)], none, none, []⟩,
 ⟨.mov, [.v 5], none, none, []⟩,
 ⟨.mov, [.v 8], none, none, []⟩,
 ⟨.bin .add, [.p 1, .p 0], none, none, []⟩,
 ⟨.bin .add, [.p 0, .c (.int .i64 2)], none, none, []⟩,
 ⟨.mov, [.v 6], none, none, []⟩,
 ⟨.mov, [.v 9], none, none, []⟩,
 ⟨.bin .add, [.p 1, .p 0], none, none, []⟩,
 ⟨.bin .add, [.p 0, .c (.int .i64 2)], none, none, []⟩,
 ⟨.mov, [.v 7], none, none, []⟩,
 ⟨.mov, [.v 10], none, none, []⟩,
 ⟨.mov, [.v 5], none, none, []⟩,
 ⟨.bin .add, [.p 0, .c (.int .i64 1)], none, none, []⟩,
 ⟨.mov, [.v 11], none, none, []⟩,
 ⟨.bin .add, [.p 0, .c (.int .i64 2)], none, none, []⟩,
 ⟨.call false 68, [.p 2, .p 0], none, none, []⟩,
 ⟨.bslice 1 (.int .i64 0) 4 [0, 1, 2, 3], [.p 6, .p 5, .p 0, .c (.int .i64 8)], none, none, []⟩,
 ⟨.call false 77, [.p 0], none, none, []⟩,
 ⟨.bslice 1 (.int .i64 0) 5 [0, 1, 2, 3, 4], [.p 19, .p 17, .p 13, .p 9, .p 0], none, none, []⟩,
 ⟨.call false 4, [.p 0], none, none, []⟩,
 ⟨.mov, [.p 0], some 4, none, []⟩] false)
.ret))))),
[.v 4]⟩
def c_ashlarref9_Common : RFunc := ⟨3, [0, 1, 2, 5, 6, 7, 8, 9, 10, 11, 12, 13, 14],
(.seq (.region [⟨.box, [.v 2], some 3, none, []⟩,
 ⟨.mov, [.c (.int .i64 0)], some 4, none, []⟩] false)
(.seq (.region [⟨.mov, [.v 0], none, none, []⟩,
 ⟨.call false 12, [.p 0], none, none, []⟩,
 ⟨.mov, [.p 0], none, none, []⟩,
 ⟨.extract 0, [.p 0], none, none, []⟩,
 ⟨.extract 1, [.p 1], none, none, []⟩,
 ⟨.extract 2, [.p 2], none, none, []⟩,
 ⟨.mov, [.p 2], some 5, none, []⟩,
 ⟨.mov, [.p 2], some 6, none, []⟩,
 ⟨.mov, [.p 2], some 7, none, []⟩] false)
(.seq (.region [⟨.mov, [.v 1], none, none, []⟩,
 ⟨.call false 12, [.p 0], none, none, []⟩,
 ⟨.mov, [.p 0], none, none, []⟩,
 ⟨.extract 0, [.p 0], none, none, []⟩,
 ⟨.extract 1, [.p 1], none, none, []⟩,
 ⟨.extract 2, [.p 2], none, none, []⟩,
 ⟨.mov, [.p 2], some 8, none, []⟩,
 ⟨.mov, [.p 2], some 9, none, []⟩,
 ⟨.mov, [.p 2], some 10, none, []⟩] false)
(.seq (.region [⟨.load true 2, [.v 3], none, none, []⟩,
 ⟨.call false 54, [.p 0], none, none, []⟩,
 ⟨.mov, [.p 0], some 11, none, []⟩] false)
(.seq (.region [⟨.mov, [.v 5], none, none, []⟩,
 ⟨.mov, [.v 8], none, none, []⟩,
 ⟨.bin .add, [.p 1, .p 0], none, none, []⟩,
 ⟨.bin .add, [.p 0, .c (.int .i64 2)], none, none, []⟩,
 ⟨.mov, [.p 0], some 12, none, []⟩] false)
(.seq (.region [⟨.mov, [.v 12], none, none, []⟩,
 ⟨.mov, [.v 12], none, none, []⟩,
 ⟨.mov, [.v 12], none, none, []⟩,
 ⟨.mov, [.v 12], none, none, []⟩,
 ⟨.mov, [.v 6], none, none, []⟩,
 ⟨.mov, [.v 9], none, none, []⟩,
 ⟨.bin .add, [.p 1, .p 0], none, none, []⟩,
 ⟨.call false 68, [.p 3, .p 0], none, none, []⟩,
 ⟨.call false 83, [.p 0, .c (.int .i64 2)], none, none, []⟩,
 ⟨.mov, [.v 7], none, none, []⟩,
 ⟨.mov, [.v 10], none, none, []⟩,
 ⟨.mov, [.v 5], none, none, []⟩,
 ⟨.mov, [.v 8], none, none, []⟩,
 ⟨.bin .add, [.p 1, .p 0], none, none, []⟩,
 ⟨.bin .add, [.p 0, .c (.int .i64 1)], none, none, []⟩,
 ⟨.mov, [.v 11], none, none, []⟩,
 ⟨.bin .add, [.p 0, .c (.int .i64 2)], none, none, []⟩,
 ⟨.call false 68, [.p 2, .p 0], none, none, []⟩,
 ⟨.bslice 1 (.int .i64 0) 4 [0, 1, 2, 3], [.p 8, .p 7, .p 0, .c (.int .i64 8)], none, none, []⟩,
 ⟨.call false 77, [.p 0], none, none, []⟩,
 ⟨.bslice 1 (.int .i64 0) 5 [0, 1, 2, 3, 4], [.p 19, .p 18, .p 17, .p 11, .p 0], none, none, []⟩,
 ⟨.call false 4, [.p 0], none, none, []⟩,
 ⟨.mov, [.p 0], some 4, none, []⟩] false)
.ret)))))),
[.v 4]⟩
def c_ashlarref9_By : RFunc := ⟨2, [0, 1, 4],
(.seq (.region [⟨.mov, [.c (.int .i64 0)], some 2, none, []⟩] false)
(.seq (.seq (.region [⟨.mov, [.v 0], none, none, []⟩,
 ⟨.bin .gtr, [.p 0, .c (.int .i64 4611686018427387904)], none, none, []⟩] false)
(.cond (.p 0) (.region [⟨.mov, [.c (.int .i64 4611686018427387904)], some 0, none, []⟩] false) .skip))
(.seq (.seq (.region [⟨.mov, [.v 0], none, none, []⟩,
 ⟨.bin .neq, [.p 0, .c (.int .i64 0)], none, none, []⟩,
 ⟨.mov, [.p 0], none, none, []⟩,
 ⟨.mov, [.v 1], none, some (0, true), []⟩,
 ⟨.mov, [.v 0], none, some (1, true), []⟩,
 ⟨.bin .quo, [.c (.int .i64 4611686018427387904), .p 0], none, some (2, true), []⟩,
 ⟨.bin .gtr, [.p 2, .p 0], none, some (3, true), []⟩,
 ⟨.pick, [.p 4, .p 0, .c (.bool false)], none, none, []⟩] false)
(.cond (.p 0) (.seq (.region [⟨.mov, [.c (.int .i64 4611686018427387904)], some 2, none, []⟩] false)
.ret) .skip))
(.seq (.region [⟨.mov, [.v 0], none, none, []⟩,
 ⟨.mov, [.v 1], none, none, []⟩,
 ⟨.bin .mul, [.p 1, .p 0], none, none, []⟩,
 ⟨.mov, [.p 0], some 2, none, []⟩] false)
.ret)))),
[.v 2]⟩
def l_ashlarref9_Sum_0 : RCode := (.loop [true, false, true, true] (.seq (.seq (.region [⟨.mov, [.v 3], none, none, []⟩,
 ⟨.mov, [.v 0], none, none, []⟩,
 ⟨.len false, [.p 0], none, none, []⟩,
 ⟨.bin .lss, [.p 2, .p 0], none, none, []⟩] false)
(.cond (.p 0) .skip (.exit 0)))
(.seq (.block 1 (.region [⟨.mov, [.v 2], none, none, []⟩,
 ⟨.mov, [.v 0], none, none, []⟩,
 ⟨.mov, [.v 3], none, none, []⟩,
 ⟨.iaddr 1, [.p 1, .p 0], none, none, []⟩,
 ⟨.load false 1, [.p 0], none, none, []⟩,
 ⟨.call false 83, [.p 4, .p 0], none, none, []⟩,
 ⟨.mov, [.p 0], some 2, none, []⟩] false))
(.region [⟨.mov, [.v 3], none, none, []⟩,
 ⟨.bin .add, [.p 0, .c (.int .i64 1)], none, none, []⟩,
 ⟨.mov, [.p 0], some 3, none, []⟩] false))))
def c_ashlarref9_Sum : RFunc := ⟨1, [0, 2, 3, 4],
(.seq (.region [⟨.mov, [.c (.int .i64 0)], some 1, none, []⟩] false)
(.seq (.region [⟨.mov, [.c (.int .i64 0)], some 2, none, []⟩] false)
(.seq (.seq (.region [⟨.mov, [.c (.int .i64 0)], some 3, none, []⟩] false)
(.block 0 l_ashlarref9_Sum_0))
(.seq (.region [⟨.mov, [.v 2], none, none, []⟩,
 ⟨.mov, [.p 0], some 1, none, []⟩] false)
.ret)))),
[.v 1]⟩
def c_ashlarref9_Plus : RFunc := ⟨2, [0, 1, 4],
(.seq (.region [⟨.mov, [.c (.int .i64 0)], some 2, none, []⟩] false)
(.seq (.seq (.region [⟨.mov, [.v 0], none, none, []⟩,
 ⟨.mov, [.v 1], none, none, []⟩,
 ⟨.bin .sub, [.c (.int .i64 4611686018427387904), .p 0], none, none, []⟩,
 ⟨.bin .gtr, [.p 2, .p 0], none, none, []⟩] false)
(.cond (.p 0) (.seq (.region [⟨.mov, [.c (.int .i64 4611686018427387904)], some 2, none, []⟩] false)
.ret) .skip))
(.seq (.region [⟨.mov, [.v 0], none, none, []⟩,
 ⟨.mov, [.v 1], none, none, []⟩,
 ⟨.bin .add, [.p 1, .p 0], none, none, []⟩,
 ⟨.mov, [.p 0], some 2, none, []⟩] false)
.ret))),
[.v 2]⟩
def l_ashlarlaw9_GaugeTimes_0 : RCode := (.loop [true, false, true, true, true] (.seq (.seq (.region [⟨.mov, [.v 4], none, none, []⟩,
 ⟨.bin .geq, [.p 0, .c (.int .i64 0)], none, none, []⟩] false)
(.cond (.p 0) .skip (.exit 0)))
(.seq (.block 1 (.region [⟨.mov, [.v 3], none, none, []⟩,
 ⟨.mov, [.v 0], none, none, []⟩,
 ⟨.mov, [.v 4], none, none, []⟩,
 ⟨.iaddr 1, [.p 1, .p 0], none, none, []⟩,
 ⟨.load false 1, [.p 0], none, none, []⟩,
 ⟨.bslice 1 (.int .i64 0) 1 [0], [.p 0], none, none, []⟩,
 ⟨.app 8 1, [.p 5, .p 0], none, none, []⟩,
 ⟨.mov, [.p 0], some 3, none, []⟩] false))
(.region [⟨.mov, [.v 4], none, none, []⟩,
 ⟨.bin .sub, [.p 0, .c (.int .i64 1)], none, none, []⟩,
 ⟨.mov, [.p 0], some 4, none, []⟩] false))))
def c_ashlarlaw9_GaugeTimes : RFunc := ⟨1, [0, 2, 3, 4, 5, 6],
(.seq (.region [⟨.mov, [.c (.bool false)], some 1, none, []⟩] false)
(.seq (.region [⟨.call false 2, [], none, none, []⟩,
 ⟨.mov, [.p 0], some 2, none, []⟩] false)
(.seq (.seq (.region [⟨.mov, [.v 0], none, none, []⟩,
 ⟨.len false, [.p 0], none, none, []⟩,
 ⟨.bin .gtr, [.p 0, .c (.int .i64 50)], none, none, []⟩] false)
(.cond (.p 0) (.region [⟨.mov, [.v 0], none, none, []⟩,
 ⟨.slice 1 false true false, [.p 0, .c (.int .i64 50)], none, none, []⟩,
 ⟨.mov, [.p 0], some 0, none, []⟩] false) .skip))
(.seq (.region [⟨.mov, [.c (.slc true [])], some 3, none, []⟩] false)
(.seq (.seq (.region [⟨.mov, [.v 0], none, none, []⟩,
 ⟨.len false, [.p 0], none, none, []⟩,
 ⟨.bin .sub, [.p 0, .c (.int .i64 1)], none, none, []⟩,
 ⟨.mov, [.p 0], some 4, none, []⟩] false)
(.block 0 l_ashlarlaw9_GaugeTimes_0))
(.seq (.region [⟨.mov, [.v 0], none, none, []⟩,
 ⟨.call false 3, [.p 0], none, none, []⟩,
 ⟨.mov, [.p 0], some 5, none, []⟩] false)
(.seq (.region [⟨.mov, [.v 2], none, none, []⟩,
 ⟨.mov, [.p 0], none, none, []⟩,
 ⟨.mov, [.v 5], none, some (0, true), []⟩,
 ⟨.mov, [.v 0], none, some (1, true), []⟩,
 ⟨.call false 4, [.p 0], none, some (2, true), []⟩,
 ⟨.bin .eql, [.p 2, .p 0], none, some (3, true), []⟩,
 ⟨.pick, [.p 4, .p 0, .c (.bool false)], none, none, []⟩,
 ⟨.mov, [.p 0], none, none, []⟩,
 ⟨.mov, [.v 3], none, some (0, true), []⟩,
 ⟨.call false 3, [.p 0], none, some (1, true), []⟩,
 ⟨.mov, [.v 5], none, some (2, true), []⟩,
 ⟨.bin .eql, [.p 1, .p 0], none, some (3, true), []⟩,
 ⟨.pick, [.p 4, .p 0, .c (.bool false)], none, none, []⟩,
 ⟨.mov, [.p 0], none, none, []⟩,
 ⟨.mov, [.v 5], none, some (0, true), []⟩,
 ⟨.bin .geq, [.p 0, .c (.int .i64 1)], none, some (1, true), []⟩,
 ⟨.pick, [.p 2, .p 0, .c (.bool false)], none, none, []⟩,
 ⟨.mov, [.p 0], none, none, []⟩,
 ⟨.mov, [.v 5], none, some (0, true), []⟩,
 ⟨.bin .leq, [.p 0, .c (.int .i64 4611686018427387904)], none, some (1, true), []⟩,
 ⟨.pick, [.p 2, .p 0, .c (.bool false)], none, none, []⟩,
 ⟨.mov, [.p 0], some 1, none, []⟩] false)
.ret))))))),
[.v 1]⟩
def c_ashlarlaw9_GaugeOps : RFunc := ⟨4, [0, 1, 2, 3, 7, 8, 9, 10, 11, 12, 13, 14, 15, 16, 17],
(.seq (.region [⟨.box, [.v 3], some 4, none, []⟩,
 ⟨.mov, [.c (.bool false)], some 5, none, []⟩] false)
(.seq (.region [⟨.call false 2, [], none, none, []⟩,
 ⟨.mov, [.p 0], some 6, none, []⟩] false)
(.seq (.region [⟨.mov, [.v 0], none, none, []⟩,
 ⟨.call false 6, [.p 0, .c (.int .i64 8), .c (.int .i64 8), .c (.int .i64 4)], none, none, []⟩,
 ⟨.mov, [.v 1], none, none, []⟩,
 ⟨.call false 6, [.p 0, .c (.int .i64 8), .c (.int .i64 8), .c (.int .i64 4)], none, none, []⟩,
 ⟨.mov, [.v 2], none, none, []⟩,
 ⟨.call false 7, [.p 0, .c (.int .i64 9), .c (.int .i64 4)], none, none, []⟩,
 ⟨.load true 2, [.v 4], none, none, []⟩,
 ⟨.bslice 2 (.agg [.bool false, .slc true []]) 1 [0], [.p 0], none, none, []⟩,
 ⟨.call false 7, [.p 0, .c (.int .i64 1), .c (.int .i64 4)], none, none, []⟩,
 ⟨.iaddr 2, [.p 0, .c (.int .i64 0)], none, none, []⟩,
 ⟨.load true 2, [.p 0], none, none, []⟩,
 ⟨.mov, [.p 9], some 0, none, []⟩,
 ⟨.mov, [.p 8], some 1, none, []⟩,
 ⟨.mov, [.p 7], some 2, none, []⟩,
 ⟨.store 2, [.v 4, .p 3], none, none, []⟩] true)
(.seq (.region [⟨.mov, [.v 0], none, none, []⟩,
 ⟨.call false 8, [.p 0], none, none, []⟩,
 ⟨.mov, [.v 1], none, none, []⟩,
 ⟨.call false 8, [.p 0], none, none, []⟩,
 ⟨.mov, [.v 2], none, none, []⟩,
 ⟨.call false 9, [.p 0], none, none, []⟩,
 ⟨.load true 2, [.v 4], none, none, []⟩,
 ⟨.call false 10, [.p 0], none, none, []⟩,
 ⟨.alloc (.agg [.bool false, .slc true []]), [], some 10, none, []⟩,
 ⟨.mov, [.p 7], some 7, none, []⟩,
 ⟨.mov, [.p 6], some 8, none, []⟩,
 ⟨.mov, [.p 5], some 9, none, []⟩,
 ⟨.store 2, [.v 10, .p 4], none, none, []⟩] true)
(.seq (.region [⟨.mov, [.v 0], none, none, []⟩,
 ⟨.call false 11, [.p 0], none, none, []⟩,
 ⟨.alloc (.agg [.int .i64 0, .int .i64 0, .int .i64 0]), [], some 11, none, []⟩,
 ⟨.store 3, [.v 11, .p 1], none, none, []⟩] false)
(.seq (.region [⟨.mov, [.v 7], none, none, []⟩,
 ⟨.call false 12, [.p 0], none, none, []⟩,
 ⟨.mov, [.p 0], none, none, []⟩,
 ⟨.extract 0, [.p 0], none, none, []⟩,
 ⟨.extract 1, [.p 1], none, none, []⟩,
 ⟨.extract 2, [.p 2], none, none, []⟩,
 ⟨.mov, [.p 2], some 12, none, []⟩,
 ⟨.mov, [.p 2], some 13, none, []⟩,
 ⟨.mov, [.p 2], some 14, none, []⟩] false)
(.seq (.region [⟨.mov, [.v 6], none, none, []⟩,
 ⟨.mov, [.p 0], none, none, []⟩,
 ⟨.faddr 0, [.v 11], none, some (0, true), []⟩,
 ⟨.load false 1, [.p 0], none, some (1, true), []⟩,
 ⟨.mov, [.v 12], none, some (2, true), []⟩,
 ⟨.bin .eql, [.p 1, .p 0], none, some (3, true), []⟩,
 ⟨.pick, [.p 4, .p 0, .c (.bool false)], none, none, []⟩,
 ⟨.mov, [.p 0], none, none, []⟩,
 ⟨.faddr 1, [.v 11], none, some (0, true), []⟩,
 ⟨.load false 1, [.p 0], none, some (1, true), []⟩,
 ⟨.mov, [.v 13], none, some (2, true), []⟩,
 ⟨.bin .eql, [.p 1, .p 0], none, some (3, true), []⟩,
 ⟨.pick, [.p 4, .p 0, .c (.bool false)], none, none, []⟩,
 ⟨.mov, [.p 0], none, none, []⟩,
 ⟨.faddr 2, [.v 11], none, some (0, true), []⟩,
 ⟨.load false 1, [.p 0], none, some (1, true), []⟩,
 ⟨.mov, [.v 14], none, some (2, true), []⟩,
 ⟨.bin .eql, [.p 1, .p 0], none, some (3, true), []⟩,
 ⟨.pick, [.p 4, .p 0, .c (.bool false)], none, none, []⟩,
 ⟨.mov, [.p 0], none, none, []⟩,
 ⟨.mov, [.v 0], none, some (0, true), []⟩,
 ⟨.mov, [.v 1], none, some (1, true), []⟩,
 ⟨.load true 2, [.v 4], none, some (2, true), []⟩,
 ⟨.call false 13, [.p 2, .p 1, .p 0], none, some (3, true), []⟩,
 ⟨.mov, [.v 7], none, some (4, true), []⟩,
 ⟨.mov, [.v 8], none, some (5, true), []⟩,
 ⟨.load true 2, [.v 10], none, some (6, true), []⟩,
 ⟨.call false 14, [.p 2, .p 1, .p 0], none, some (7, true), []⟩,
 ⟨.bin .eql, [.p 4, .p 0], none, some (8, true), []⟩,
 ⟨.pick, [.p 9, .p 0, .c (.bool false)], none, none, []⟩,
 ⟨.mov, [.p 0], none, none, []⟩,
 ⟨.mov, [.v 0], none, some (0, true), []⟩,
 ⟨.mov, [.v 2], none, some (1, true), []⟩,
 ⟨.load true 2, [.v 4], none, some (2, true), []⟩,
 ⟨.call false 15, [.p 2, .p 1, .p 0], none, some (3, true), []⟩,
 ⟨.mov, [.v 7], none, some (4, true), []⟩,
 ⟨.mov, [.v 9], none, some (5, true), []⟩,
 ⟨.load true 2, [.v 10], none, some (6, true), []⟩,
 ⟨.call false 16, [.p 2, .p 1, .p 0], none, some (7, true), []⟩,
 ⟨.bin .eql, [.p 4, .p 0], none, some (8, true), []⟩,
 ⟨.pick, [.p 9, .p 0, .c (.bool false)], none, none, []⟩,
 ⟨.mov, [.p 0], none, none, []⟩,
 ⟨.mov, [.v 0], none, some (0, true), []⟩,
 ⟨.mov, [.v 1], none, some (1, true), []⟩,
 ⟨.load true 2, [.v 4], none, some (2, true), []⟩,
 ⟨.call false 17, [.p 2, .p 1, .p 0], none, some (3, true), []⟩,
 ⟨.mov, [.v 7], none, some (4, true), []⟩,
 ⟨.mov, [.v 8], none, some (5, true), []⟩,
 ⟨.load true 2, [.v 10], none, some (6, true), []⟩,
 ⟨.call false 18, [.p 2, .p 1, .p 0], none, some (7, true), []⟩,
 ⟨.bin .eql, [.p 4, .p 0], none, some (8, true), []⟩,
 ⟨.pick, [.p 9, .p 0, .c (.bool false)], none, none, []⟩,
 ⟨.mov, [.p 0], none, none, []⟩,
 ⟨.mov, [.v 0], none, some (0, true), []⟩,
 ⟨.mov, [.v 1], none, some (1, true), []⟩,
 ⟨.load true 2, [.v 4], none, some (2, true), []⟩,
 ⟨.call false 19, [.p 2, .p 1, .p 0], none, some (3, true), []⟩,
 ⟨.mov, [.v 7], none, some (4, true), []⟩,
 ⟨.mov, [.v 8], none, some (5, true), []⟩,
 ⟨.load true 2, [.v 10], none, some (6, true), []⟩,
 ⟨.call false 20, [.p 2, .p 1, .p 0], none, some (7, true), []⟩,
 ⟨.bin .eql, [.p 4, .p 0], none, some (8, true), []⟩,
 ⟨.pick, [.p 9, .p 0, .c (.bool false)], none, none, []⟩,
 ⟨.mov, [.p 0], some 5, none, []⟩] true)
.ret))))))),
[.v 5]⟩
def c_ashlarlaw9_begun : RFunc := ⟨0, [0, 1, 2, 3],
(.seq (.region [⟨.mov, [.c (.bool false)], some 0, none, []⟩] false)
(.seq (.region [⟨.bslice 1 (.int .i64 0) 1 [0], [.c (.int .i64 1)], none, none, []⟩,
 ⟨.call false 64, [.p 0], none, none, []⟩,
 ⟨.bslice 1 (.slc true []) 2 [0, 1], [.c (.slc true []), .p 0], none, none, []⟩,
 ⟨.call false 65, [.p 0], none, none, []⟩,
 ⟨.mov, [.p 0], some 1, none, []⟩] false)
(.seq (.region [⟨.bslice 1 (.int .i64 0) 2 [0, 1], [.c (.int .i64 1), .c (.int .i64 1)], none, none, []⟩,
 ⟨.call false 64, [.p 0], none, none, []⟩,
 ⟨.bslice 1 (.slc true []) 1 [0], [.p 0], none, none, []⟩,
 ⟨.call false 65, [.p 0], none, none, []⟩,
 ⟨.mov, [.p 0], some 2, none, []⟩] false)
(.seq (.region [⟨.mov, [.v 1], none, none, []⟩,
 ⟨.call false 11, [.p 0], none, none, []⟩,
 ⟨.alloc (.agg [.int .i64 0, .int .i64 0, .int .i64 0]), [], some 3, none, []⟩,
 ⟨.store 3, [.v 3, .p 1], none, none, []⟩] false)
(.seq (.region [⟨.mov, [.v 1], none, none, []⟩,
 ⟨.mov, [.v 2], none, none, []⟩,
 ⟨.build [.bool false, .slc true []] [], [], none, none, []⟩,
 ⟨.call false 13, [.p 2, .p 1, .p 0], none, none, []⟩,
 ⟨.bin .eql, [.p 0, .c (.int .i64 84)], none, none, []⟩,
 ⟨.mov, [.p 0], none, none, []⟩,
 ⟨.call false 3, [.c (.slc true [])], none, some (0, true), []⟩,
 ⟨.bin .eql, [.p 0, .c (.int .i64 1)], none, some (1, true), []⟩,
 ⟨.pick, [.p 2, .p 0, .c (.bool false)], none, none, []⟩,
 ⟨.mov, [.p 0], none, none, []⟩,
 ⟨.bslice 1 (.int .i64 0) 2 [0, 1], [.c (.int .i64 0), .c (.int .i64 5)], none, some (0, true), []⟩,
 ⟨.call false 3, [.p 0], none, some (1, true), []⟩,
 ⟨.bin .eql, [.p 0, .c (.int .i64 5)], none, some (2, true), []⟩,
 ⟨.pick, [.p 3, .p 0, .c (.bool false)], none, none, []⟩,
 ⟨.mov, [.p 0], none, none, []⟩,
 ⟨.faddr 0, [.v 3], none, some (0, true), []⟩,
 ⟨.load false 1, [.p 0], none, some (1, true), []⟩,
 ⟨.bin .eql, [.p 0, .c (.int .i64 1)], none, some (2, true), []⟩,
 ⟨.pick, [.p 3, .p 0, .c (.bool false)], none, none, []⟩,
 ⟨.mov, [.p 0], none, none, []⟩,
 ⟨.faddr 1, [.v 3], none, some (0, true), []⟩,
 ⟨.load false 1, [.p 0], none, some (1, true), []⟩,
 ⟨.bin .eql, [.p 0, .c (.int .i64 0)], none, some (2, true), []⟩,
 ⟨.pick, [.p 3, .p 0, .c (.bool false)], none, none, []⟩,
 ⟨.mov, [.p 0], none, none, []⟩,
 ⟨.faddr 2, [.v 3], none, some (0, true), []⟩,
 ⟨.load false 1, [.p 0], none, some (1, true), []⟩,
 ⟨.bin .eql, [.p 0, .c (.int .i64 1)], none, some (2, true), []⟩,
 ⟨.pick, [.p 3, .p 0, .c (.bool false)], none, none, []⟩,
 ⟨.mov, [.p 0], some 0, none, []⟩] false)
.ret))))),
[.v 0]⟩
def l_ashlarlaw8_Cut_0 : RCode := (.loop [true, true, true, true, false, true, true] (.seq (.seq (.region [⟨.mov, [.v 6], none, none, []⟩,
 ⟨.mov, [.v 0], none, none, []⟩,
 ⟨.len false, [.p 0], none, none, []⟩,
 ⟨.bin .lss, [.p 2, .p 0], none, none, []⟩,
 ⟨.mov, [.p 0], none, none, []⟩,
 ⟨.mov, [.v 6], none, some (0, true), []⟩,
 ⟨.mov, [.v 1], none, some (1, true), []⟩,
 ⟨.bin .leq, [.p 1, .p 0], none, some (2, true), []⟩,
 ⟨.pick, [.p 3, .p 0, .c (.bool false)], none, none, []⟩] false)
(.cond (.p 0) .skip (.exit 0)))
(.seq (.block 1 (.region [⟨.mov, [.v 5], none, none, []⟩,
 ⟨.mov, [.v 0], none, none, []⟩,
 ⟨.mov, [.v 6], none, none, []⟩,
 ⟨.iaddr 1, [.p 1, .p 0], none, none, []⟩,
 ⟨.load false 1, [.p 0], none, none, []⟩,
 ⟨.mov, [.v 2], none, none, []⟩,
 ⟨.mov, [.v 3], none, none, []⟩,
 ⟨.call false 7, [.p 2, .p 1, .p 0], none, none, []⟩,
 ⟨.bslice 1 (.slc true []) 1 [0], [.p 0], none, none, []⟩,
 ⟨.app 24 1, [.p 8, .p 0], none, none, []⟩,
 ⟨.mov, [.p 0], some 5, none, []⟩] false))
(.region [⟨.mov, [.v 6], none, none, []⟩,
 ⟨.bin .add, [.p 0, .c (.int .i64 1)], none, none, []⟩,
 ⟨.mov, [.p 0], some 6, none, []⟩] false))))
def c_ashlarlaw8_Cut : RFunc := ⟨4, [0, 1, 2, 3, 8, 9, 10],
(.seq (.region [⟨.mov, [.c (.slc true [])], some 4, none, []⟩] false)
(.seq (.region [⟨.mov, [.c (.slc true [])], some 5, none, []⟩] false)
(.seq (.seq (.region [⟨.mov, [.c (.int .i64 0)], some 6, none, []⟩] false)
(.block 0 l_ashlarlaw8_Cut_0))
(.seq (.region [⟨.mov, [.v 5], none, none, []⟩,
 ⟨.mov, [.p 0], some 4, none, []⟩] false)
.ret)))),
[.v 4]⟩
def l_ashlarlaw8_Op_0 : RCode := (.loop [true, false, true, true] (.seq (.seq (.region [⟨.mov, [.v 3], none, none, []⟩,
 ⟨.mov, [.v 0], none, none, []⟩,
 ⟨.len false, [.p 0], none, none, []⟩,
 ⟨.bin .lss, [.p 2, .p 0], none, none, []⟩] false)
(.cond (.p 0) .skip (.exit 0)))
(.seq (.block 1 (.region [⟨.mov, [.v 2], none, none, []⟩,
 ⟨.mov, [.v 0], none, none, []⟩,
 ⟨.mov, [.v 3], none, none, []⟩,
 ⟨.iaddr 1, [.p 1, .p 0], none, none, []⟩,
 ⟨.load false 1, [.p 0], none, none, []⟩,
 ⟨.bslice 1 (.slc true []) 1 [0], [.p 0], none, none, []⟩,
 ⟨.app 24 1, [.p 5, .p 0], none, none, []⟩,
 ⟨.mov, [.p 0], some 2, none, []⟩] false))
(.region [⟨.mov, [.v 3], none, none, []⟩,
 ⟨.bin .add, [.p 0, .c (.int .i64 1)], none, none, []⟩,
 ⟨.mov, [.p 0], some 3, none, []⟩] false))))
def c_ashlarlaw8_Op : RFunc := ⟨1, [0, 2, 3, 4],
(.seq (.region [⟨.mov, [.c (.slc true [])], some 1, none, []⟩] false)
(.seq (.region [⟨.mov, [.c (.slc true [])], some 2, none, []⟩] false)
(.seq (.seq (.region [⟨.mov, [.c (.int .i64 0)], some 3, none, []⟩] false)
(.block 0 l_ashlarlaw8_Op_0))
(.seq (.region [⟨.mov, [.v 2], none, none, []⟩,
 ⟨.call false 69, [.p 0], none, none, []⟩,
 ⟨.call false 103, [.p 0], none, none, []⟩,
 ⟨.mov, [.p 0], some 1, none, []⟩] false)
.ret)))),
[.v 1]⟩
def l_ashlarlaw3_Cut_0 : RCode := (.loop [true, true, true, false, true, true] (.seq (.seq (.region [⟨.mov, [.v 5], none, none, []⟩,
 ⟨.mov, [.v 0], none, none, []⟩,
 ⟨.len false, [.p 0], none, none, []⟩,
 ⟨.bin .lss, [.p 2, .p 0], none, none, []⟩,
 ⟨.mov, [.p 0], none, none, []⟩,
 ⟨.mov, [.v 5], none, some (0, true), []⟩,
 ⟨.mov, [.v 1], none, some (1, true), []⟩,
 ⟨.bin .lss, [.p 1, .p 0], none, some (2, true), []⟩,
 ⟨.pick, [.p 3, .p 0, .c (.bool false)], none, none, []⟩] false)
(.cond (.p 0) .skip (.exit 0)))
(.seq (.block 1 (.seq (.region [⟨.mov, [.v 0], none, none, []⟩,
 ⟨.mov, [.v 5], none, none, []⟩,
 ⟨.iaddr 2, [.p 1, .p 0], none, none, []⟩,
 ⟨.load true 2, [.p 0], none, none, []⟩,
 ⟨.call false 23, [.p 0], none, none, []⟩,
 ⟨.alloc (.agg [.bool false, .slc true []]), [], some 6, none, []⟩,
 ⟨.store 2, [.v 6, .p 1], none, none, []⟩] false)
(.seq (.seq (.region [⟨.faddr 1, [.v 6], none, none, []⟩,
 ⟨.load false 1, [.p 0], none, none, []⟩,
 ⟨.len false, [.p 0], none, none, []⟩,
 ⟨.mov, [.v 2], none, none, []⟩,
 ⟨.bin .gtr, [.p 1, .p 0], none, none, []⟩] false)
(.cond (.p 0) (.region [⟨.faddr 1, [.v 6], none, none, []⟩,
 ⟨.load false 1, [.p 0], none, none, []⟩,
 ⟨.mov, [.v 2], none, none, []⟩,
 ⟨.slice 1 false true false, [.p 1, .p 0], none, none, []⟩,
 ⟨.faddr 1, [.v 6], none, none, []⟩,
 ⟨.store 1, [.p 0, .p 1], none, none, []⟩] false) .skip))
(.region [⟨.mov, [.v 4], none, none, []⟩,
 ⟨.load true 2, [.v 6], none, none, []⟩,
 ⟨.bslice 2 (.agg [.bool false, .slc true []]) 1 [0], [.p 0], none, none, []⟩,
 ⟨.app 32 2, [.p 2, .p 0], none, none, []⟩,
 ⟨.mov, [.p 0], some 4, none, []⟩] false))))
(.region [⟨.mov, [.v 5], none, none, []⟩,
 ⟨.bin .add, [.p 0, .c (.int .i64 1)], none, none, []⟩,
 ⟨.mov, [.p 0], some 5, none, []⟩] false))))
def c_ashlarlaw3_Cut : RFunc := ⟨3, [0, 1, 2, 6, 7, 8, 9],
(.seq (.region [⟨.mov, [.c (.slc true [])], some 3, none, []⟩] false)
(.seq (.region [⟨.mov, [.c (.slc true [])], some 4, none, []⟩] false)
(.seq (.seq (.region [⟨.mov, [.c (.int .i64 0)], some 5, none, []⟩] false)
(.block 0 l_ashlarlaw3_Cut_0))
(.seq (.region [⟨.mov, [.v 4], none, none, []⟩,
 ⟨.mov, [.p 0], some 3, none, []⟩] false)
.ret)))),
[.v 3]⟩
class CodeGauge (F : Nat → Option RFunc) : Prop where
  gauge_Times : F 3 = some c_gauge_Times
  gauge_Of : F 11 = some c_gauge_Of
  gauge_Mul : F 13 = some c_gauge_Mul
  gauge_Apply : F 15 = some c_gauge_Apply
  gauge_Divide : F 17 = some c_gauge_Divide
  gauge_Common : F 19 = some c_gauge_Common
  gauge_each : F 67 = some c_gauge_each
  gauge_product_take : F 66 = some c_gauge_product_take
  zcost_Of : F 72 = some c_zcost_Of
  zcost_Product : F 76 = some c_zcost_Product
  zcost_Apply : F 78 = some c_zcost_Apply
  zcost_Add : F 81 = some c_zcost_Add
  zcost_Mul : F 82 = some c_zcost_Mul
  zcost_Times : F 106 = some c_zcost_Times
  upoly_Deg : F 104 = some c_upoly_Deg
  upoly_Bits : F 105 = some c_upoly_Bits
  upoly_cut : F 119 = some c_upoly_cut
  ashlarref3_From : F 9 = some c_ashlarref3_From
  ashlarref3_Of : F 64 = some c_ashlarref3_Of
  ashlarref3_Trim : F 70 = some c_ashlarref3_Trim
  ashlarref3_Deg : F 79 = some c_ashlarref3_Deg
  ashlarref3_Bits : F 80 = some c_ashlarref3_Bits
  ashlarref3_To : F 118 = some c_ashlarref3_To
  ashlarref8_From : F 8 = some c_ashlarref8_From
  ashlarref8_Trim : F 69 = some c_ashlarref8_Trim
  ashlarref8_Order : F 73 = some c_ashlarref8_Order
  ashlarref8_Degree : F 74 = some c_ashlarref8_Degree
  ashlarref8_Bits : F 75 = some c_ashlarref8_Bits
  ashlarref8_To : F 103 = some c_ashlarref8_To
  ashlarref9_Times : F 4 = some c_ashlarref9_Times
  ashlarref9_Size : F 12 = some c_ashlarref9_Size
  ashlarref9_Mul : F 14 = some c_ashlarref9_Mul
  ashlarref9_Apply : F 16 = some c_ashlarref9_Apply
  ashlarref9_Divide : F 18 = some c_ashlarref9_Divide
  ashlarref9_Common : F 20 = some c_ashlarref9_Common
  ashlarref9_By : F 68 = some c_ashlarref9_By
  ashlarref9_Sum : F 77 = some c_ashlarref9_Sum
  ashlarref9_Plus : F 83 = some c_ashlarref9_Plus
  ashlarlaw9_GaugeTimes : F 5 = some c_ashlarlaw9_GaugeTimes
  ashlarlaw9_GaugeOps : F 21 = some c_ashlarlaw9_GaugeOps
  ashlarlaw9_begun : F 2 = some c_ashlarlaw9_begun
  ashlarlaw8_Cut : F 6 = some c_ashlarlaw8_Cut
  ashlarlaw8_Op : F 65 = some c_ashlarlaw8_Op
  ashlarlaw3_Cut : F 7 = some c_ashlarlaw3_Cut
def tabCodeGauge : List (Nat × RFunc) := [(3, c_gauge_Times), (11, c_gauge_Of), (13, c_gauge_Mul), (15, c_gauge_Apply), (17, c_gauge_Divide), (19, c_gauge_Common), (67, c_gauge_each), (66, c_gauge_product_take), (72, c_zcost_Of), (76, c_zcost_Product), (78, c_zcost_Apply), (81, c_zcost_Add), (82, c_zcost_Mul), (106, c_zcost_Times), (104, c_upoly_Deg), (105, c_upoly_Bits), (119, c_upoly_cut), (9, c_ashlarref3_From), (64, c_ashlarref3_Of), (70, c_ashlarref3_Trim), (79, c_ashlarref3_Deg), (80, c_ashlarref3_Bits), (118, c_ashlarref3_To), (8, c_ashlarref8_From), (69, c_ashlarref8_Trim), (73, c_ashlarref8_Order), (74, c_ashlarref8_Degree), (75, c_ashlarref8_Bits), (103, c_ashlarref8_To), (4, c_ashlarref9_Times), (12, c_ashlarref9_Size), (14, c_ashlarref9_Mul), (16, c_ashlarref9_Apply), (18, c_ashlarref9_Divide), (20, c_ashlarref9_Common), (68, c_ashlarref9_By), (77, c_ashlarref9_Sum), (83, c_ashlarref9_Plus), (5, c_ashlarlaw9_GaugeTimes), (21, c_ashlarlaw9_GaugeOps), (2, c_ashlarlaw9_begun), (6, c_ashlarlaw8_Cut), (65, c_ashlarlaw8_Op), (7, c_ashlarlaw3_Cut)]
end Go.Ash
