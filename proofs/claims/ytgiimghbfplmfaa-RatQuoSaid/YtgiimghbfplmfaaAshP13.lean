/- The abstract interpreter of this work and its uses, part 13: AshDraw, AshLink, AshSeat2. -/
import Derived.Test.YtgiimghbfplmfaaProg
import Derived.KernelRfl
import Derived.Test.YtgiimghbfplmfaaAshP12
set_option linter.all false
/- A region whose order is drawn is sound. -/
namespace Go.Ash

theorem next_cut (rs : List ROp) : ∀ (d a : Nat), a + d = rs.length → ∃ c, a ≤ c ∧ c ≤ rs.length ∧ (c < rs.length → ∃ r, rs[c]? = some r ∧ isW r = true) ∧
    ∀ k r, a ≤ k → k < c → rs[k]? = some r → isW r = false
  | 0, a, h => ⟨a, Nat.le_refl _, by omega, fun h' => by omega, fun k r h1 h2 => by omega⟩
  | d + 1, a, h => by
    have ha : a < rs.length := by omega
    cases hw : isW rs[a] with
    | true => exact ⟨a, Nat.le_refl _, by omega, fun _ => ⟨_, List.getElem?_eq_getElem ha, hw⟩, fun k r h1 h2 => by omega⟩
    | false =>
      obtain ⟨c, h1, h2, h3, h4⟩ := next_cut rs d (a + 1) (by omega)
      refine ⟨c, by omega, h2, h3, ?_⟩
      intro k r hk1 hk2 hr
      by_cases hka : k = a
      · subst hka; rw [List.getElem?_eq_getElem ha] at hr; cases hr; exact hw
      · exact h4 k r (by omega) hk2 hr

section
variable {L : Link} {N : Nat → Prop} {okb : Nat → Bool} {slots : List Nat} {nt : Nat} {call : CallF} {ops : Array Oper} {rs : List ROp} {bt : BT} {stt : Nat → St} {val : Nat → AVal}
variable {U : List Nat} {c : Nat} {a : Act} {w : World} {m : PMap} {i : Nat} {o : Oper} {r : ROp} {Q : Exit → Act → World → Prop}

/-- One operation more that writes no block. -/
theorem J.step (j : J L N slots nt ops rs bt stt val U c a w m) (T : Tx L okb slots nt call ops rs bt stt val) (hl : LinkOk L okb) (hcall : CallOk L call) (hi : i ∈ U) (ho : ops[i]? = some o) (hr : rs[i]? = some r)
    (hbef : ∀ k ∈ befAt bt i, k ∉ U) (hw : isW r = false) {K : Act → World → Prop}
    (hK : ∀ a' w' m', J L N slots nt ops rs bt stt val (U.erase i) c a' w' m' → Fwd w (hU stt U c) m w' (hU stt (U.erase i) c) m' → (∀ k, k < (stt 0).heap.length → m' k = m k) → K a' w') :
    wpOp L.P ops Q i K a w := by
  have hin := lt_of_getx hr
  have hchk := T.chk i o r ho hr
  unfold chkROp at hchk
  simp only [Bool.and_eq_true] at hchk
  obtain ⟨⟨h1, h2⟩, h3⟩ := hchk
  obtain ⟨_, s2, s3, _⟩ := T.static ho hr
  have hlenn := T.lens (Nat.zero_le i) (by omega)
  have hleni := T.lens (i := i + 1) (j := rs.length) (by omega) (Nat.le_refl _)
  have hlen00 := T.lens (Nat.zero_le rs.length) (Nat.le_refl _)
  unfold wpOp
  simp only [ho]
  rcases T.text hr with ⟨hwt, hv, he⟩ | ⟨hwt, hap, H, hs, he⟩
  · have hwant := j.wanted (o := o) hbef h3 s3 hwt
    rw [hwant, if_neg (by simp)]
    have hheap : (stt (i + 1)).heap = (stt i).heap := by rw [he, put_heap]
    obtain ⟨j', f⟩ := j.next T hi ho hbef j.cutle j.cutW (j.cut_same hr hw) (Step.refl j.sim) (u := undef)
      (fun id k' hk' => ⟨k', j.shown hi (by rw [hheap]) hk', rfl, rfl, fun h => h⟩) (by rw [hv]; exact .tup #[] [] rfl (fun i c hc => by simp at hc)) j.dom j.hid_erase
    exact hK _ _ _ j' f (fun _ _ => rfl)
  · have hwant := j.wanted (o := o) hbef h3 s3 hwt
    rw [hwant, if_pos rfl]
    refine .inl ?_
    have hheap : (stt (i + 1)).heap = H := by rw [he, put_heap]
    cases hops : opsOf L.P L.fn L.ty okb o.op r.k with
    | none => rw [hops] at h1; simp at h1
    | some xs =>
      rw [hops] at h1
      have hargs := j.opds T hl hi hbef xs r.args h1 s2
      have hlist := j.list_at T
      cases hnc : notCall r.k with
      | true =>
        rcases j.sem T hi hr hbef hw hnc hargs hs with ⟨hsem, hH⟩ | ⟨esz, ys, hsem, hH, ha⟩
        · have hfr : hU stt U c (stt rs.length).heap.length = none := by
            rw [← hlist]; exact heap_at_none (by simp)
          have hmf : m (stt rs.length).heap.length = none := by
            cases h : m (stt rs.length).heap.length with
            | none => rfl
            | some p => exact absurd (j.dom _ _ h) (Nat.lt_irrefl _)
          obtain ⟨rr, w', m', hrun, hplain, hst, hm', hfn, hrep⟩ := (op_sound (N := N) (by rw [hlist]; exact j.sim) (by rw [hlist]; exact hfr) hmf (fun _ => rfl) hnc hl.ok hops (by rw [hlist]; exact hargs) hsem).does
          rw [hlist] at hst hfn hrep
          simp only [Eff.applyF] at hst hfn hrep
          have hmn := hfn hfr
          obtain ⟨j', f⟩ := j.next T hi ho hbef j.cutle j.cutW (j.cut_same hr hw) hst
            (fun id k' hk' => ⟨k', j.shown hi (by rw [hheap, hH]) hk', rfl, rfl, fun h => h⟩) hrep (by
              intro id p hp
              by_cases hid : id = (stt rs.length).heap.length
              · rw [hid, hmn] at hp; cases hp
              · rw [hm' id hid] at hp; exact j.dom id p hp) (by
              intro k hk id hk1 hk2
              have hkl := j.lt k (List.mem_of_mem_erase hk)
              have := T.lens (i := k + 1) (j := rs.length) (by omega) (Nat.le_refl _)
              rw [hm' id (by omega)]
              exact j.hid_erase k hk id hk1 hk2)
          have hfin := hK _ _ _ j' f (fun k hk => hm' k (by omega))
          unfold Oper.wp
          rw [hrun]
          cases rr <;> first | (exact hplain.elim) | exact hfin
        · have hlen1 : (stt (i + 1)).heap.length = (stt i).heap.length + 1 := by rw [hheap, hH]; simp [Eff.apply, newBlk]
          have hfr : hU stt U c (stt i).heap.length = none := hU_none hi (Nat.le_refl _) (by omega)
          have hmf : m (stt i).heap.length = none := j.hid i hi _ (Nat.le_refl _) (by omega)
          obtain ⟨rr, w', m', hrun, hplain, hst, hm', hfn, hrep⟩ := (op_sound (N := N) (by rw [hlist]; exact j.sim) (by rw [hlist]; exact hfr) hmf (fun _ => rfl) hnc hl.ok hops (by rw [hlist]; exact hargs) hsem).does
          rw [hlist] at hst hfn hrep
          simp only [Eff.applyF] at hst hfn hrep
          obtain ⟨j', f⟩ := j.next T hi ho hbef j.cutle j.cutW (j.cut_same hr hw) hst (by
              intro id k' hk'
              obtain ⟨hk1, hk2⟩ := hU_some hk'
              by_cases hid : id = (stt i).heap.length
              · have hpos := j.pos T hr ha
                have hg := ((j.growA T hi hr ha (.inl hpos)).2 hpos).agree id ⟨false, esz, ys⟩ (by
                  rw [hheap, hH, hid]
                  simp only [Eff.apply, newBlk]
                  rw [at_append, if_neg (by omega)]
                  simp [Heap.at])
                obtain ⟨b', hb', e1, e2, _⟩ := hg
                rw [hk1] at hb'
                cases hb'
                refine ⟨⟨false, esz, ys⟩, by rw [hid, upd_same], e1, e2, fun _ => rfl⟩
              · refine ⟨k', ?_, rfl, rfl, fun h => h⟩
                rw [upd_ne _ _ hid, ← hk1]
                refine hU_at fun k hk hka hkb => ?_
                by_cases hki : k = i
                · subst hki; omega
                · exact hk2 k ((j.und.mem_erase_iff).2 ⟨hki, hk⟩) hka hkb) hrep (by
              intro id p hp
              by_cases hid : id = (stt i).heap.length
              · omega
              · rw [hm' id hid] at hp; exact j.dom id p hp) (by
              intro k hk id hk1 hk2
              have hkl := j.lt k (List.mem_of_mem_erase hk)
              have hki : k ≠ i := ((j.und.mem_erase_iff).1 hk).1
              have hne : id ≠ (stt i).heap.length := by
                rcases Nat.lt_or_ge k i with h | h
                · have := T.lens (i := k + 1) (j := i) (by omega) (by omega); omega
                · have := T.lens (i := i + 1) (j := k) (by omega) (by omega); omega
              rw [hm' id hne]
              exact j.hid_erase k hk id hk1 hk2)
          have hfin := hK _ _ _ j' f (fun k hk => hm' k (by omega))
          unfold Oper.wp
          rw [hrun]
          cases rr <;> first | (exact hplain.elim) | exact hfin
      | false =>
        obtain ⟨hsame, H', hstep, hlen', hshow⟩ := j.pure T hi hr hw hnc hargs (by rw [hheap]; exact hs)
        have hlenl : ((List.range (stt rs.length).heap.length).map (hU stt U c)).length = (stt rs.length).heap.length := by simp
        refine opFull hl hcall (N := N) (m := m) (by rw [hlist]; exact j.sim) (fun id p hp => by rw [hlenl]; exact j.dom id p hp) hops (by rw [hlist]; exact hargs) hstep ?_
        intro u w' m' hst hd _ hpin hru
        rw [hlist] at hst
        rw [hlenl] at hpin
        obtain ⟨j', f⟩ := j.next T hi ho hbef j.cutle j.cutW (j.cut_same hr hw) hst hshow hru (fun id p hp => by rw [← hlen']; exact hd id p hp) (by
          intro k hk id hk1 hk2
          have hkl := j.lt k (List.mem_of_mem_erase hk)
          have := T.lens (i := k + 1) (j := rs.length) (by omega) (Nat.le_refl _)
          rw [hpin id (by omega)]
          exact j.hid_erase k hk id hk1 hk2)
        exact hK _ _ _ j' f (fun k hk => hpin k (by omega))

theorem Tx.sames (T : Tx L okb slots nt call ops rs bt stt val) {i j : Nat} (hij : i ≤ j) (hj : j ≤ rs.length) (hw : ∀ k r, i ≤ k → k < j → rs[k]? = some r → isW r = false ∧ isA r = false) :
    (stt j).heap = (stt i).heap := by
  induction j with
  | zero => rw [Nat.le_zero.1 hij]
  | succ j ih =>
    by_cases h : i = j + 1
    · rw [h]
    · obtain ⟨o, r, _, hr⟩ := T.getO (i := j) (by omega)
      obtain ⟨h1, h2⟩ := hw j r (by omega) (by omega) hr
      rw [T.same hr h1 h2]
      exact ih (by omega) (by omega) (fun k q h1 h2 => hw k q h1 (by omega))

/-- One operation more that writes a block. -/
theorem J.stepW (j : J L N slots nt ops rs bt stt val U c a w m) (T : Tx L okb slots nt call ops rs bt stt val) (hl : LinkOk L okb) (hcall : CallOk L call) (hi : i ∈ U) (ho : ops[i]? = some o) (hr : rs[i]? = some r)
    (hbef : ∀ k ∈ befAt bt i, k ∉ U) (hw : isW r = true) {K : Act → World → Prop}
    (hK : ∀ c' a' w' m', J L N slots nt ops rs bt stt val (U.erase i) c' a' w' m' → Fwd w (hU stt U c) m w' (hU stt (U.erase i) c') m' → (∀ k, k < (stt 0).heap.length → m' k = m k) → K a' w') :
    wpOp L.P ops Q i K a w := by
  have hin := lt_of_getx hr
  -- the cut is here
  have hci : c = i := by
    have h1 : ¬ i < c := fun h => (j.cut i r hr hw).2 h hi
    rcases Nat.lt_or_ge c i with h | h
    · exfalso
      obtain ⟨rc, hrc, hwc⟩ := j.cutW (by omega)
      have hcU : c ∈ U := by
        by_cases hcU : c ∈ U
        · exact hcU
        · exact absurd ((j.cut c rc hrc hwc).1 hcU) (Nat.lt_irrefl _)
      rcases T.pair hr hrc hwc (.inl hw) (by omega) with h1 | ⟨_, h1⟩ | ⟨h1, _⟩
      · have := T.bef_lt (by omega) h1; omega
      · exact hbef c h1 hcU
      · rw [isR_notW h1] at hw; cases hw
    · omega
  subst hci
  have noA : ∀ k q, rs[k]? = some q → isA q = true → k ∈ befAt bt c := by
    intro k q hq ha
    have hne : c ≠ k := by rintro rfl; rw [hr] at hq; cases hq; rw [isA_notW ha] at hw; cases hw
    rcases T.pair hq hr hw (.inr (.inl ha)) hne with h | ⟨h, _⟩ | ⟨h, _⟩
    · exact h
    · rw [ha] at h; cases h
    · rw [isA_notR ha] at h; cases h
  -- what may still be hidden lies beyond
  have beyond : ∀ k ∈ U, ∀ id, (stt k).heap.length ≤ id → id < (stt (k + 1)).heap.length → c ≤ k := by
    intro k hk id h1 h2
    obtain ⟨q, hq⟩ : ∃ q, rs[k]? = some q := ⟨_, List.getElem?_eq_getElem (j.lt k hk)⟩
    cases hqw : isW q with
    | true =>
      rcases Nat.lt_or_ge k c with h | h
      · exact absurd hk ((j.cut k q hq hqw).2 h)
      · exact h
    | false =>
      cases hqa : isA q with
      | true => exact absurd hk (hbef k (noA k q hq hqa))
      | false => rw [T.same hq hqw hqa] at h2; omega
  have hUc : hU stt U c = (stt c).heap.at := by
    funext id
    by_cases h : ∃ k ∈ U, (stt k).heap.length ≤ id ∧ id < (stt (k + 1)).heap.length
    · obtain ⟨k, hk, h1, h2⟩ := h
      rw [hU_none hk h1 h2]
      have h3 := beyond k hk id h1 h2
      have := T.lens h3 (by have := j.lt k hk; omega)
      exact (heap_at_none (by omega)).symm
    · exact hU_at fun k hk h1 h2 => h ⟨k, hk, h1, h2⟩
  have hdomc : Dom (stt c).heap m := by
    intro id p hp
    rcases Nat.lt_or_ge id (stt c).heap.length with h | h
    · exact h
    · exfalso
      -- the step that brings the number
      have : ∀ d, c + d ≤ rs.length → id < (stt (c + d)).heap.length → False := by
        intro d
        induction d with
        | zero => intro _ h'; simp only [Nat.add_zero] at h'; omega
        | succ d ih =>
          intro hd h'
          rcases Nat.lt_or_ge id (stt (c + d)).heap.length with h2 | h2
          · exact ih (by omega) h2
          · have hkU : c + d ∈ U := by
              by_cases hkU : c + d ∈ U
              · exact hkU
              · exfalso
                obtain ⟨q, hq⟩ : ∃ q, rs[c + d]? = some q := ⟨_, List.getElem?_eq_getElem (by omega)⟩
                cases hqw : isW q with
                | true => have := (j.cut _ q hq hqw).1 hkU; omega
                | false =>
                  cases hqa : isA q with
                  | true => have := T.bef_lt hin (noA _ q hq hqa); omega
                  | false => rw [show c + (d + 1) = c + d + 1 from rfl, T.same hq hqw hqa] at h'; omega
            rw [j.hid _ hkU id h2 h'] at hp; cases hp
      exact this (rs.length - c) (by omega) (by rw [show c + (rs.length - c) = rs.length from by omega]; exact j.dom id p hp)
  -- the next cut
  obtain ⟨c', hc1, hc2, hc3, hc4⟩ := next_cut rs (rs.length - (c + 1)) (c + 1) (by omega)
  have hnext : (stt c').heap = (stt (c + 1)).heap := T.sames hc1 hc2 fun k q h1 h2 hq => by
    refine ⟨hc4 k q h1 h2 hq, ?_⟩
    cases hqa : isA q with
    | false => rfl
    | true => have := T.bef_lt hin (noA k q hq hqa); omega
  have hcut : ∀ k q, rs[k]? = some q → isW q = true → ((k ∉ U ∨ k = c) ↔ k < c') := by
    intro k q hq hqw
    rw [j.cut k q hq hqw]
    constructor
    · rintro (h | h) <;> omega
    · intro h
      rcases Nat.lt_or_ge k (c + 1) with h' | h'
      · omega
      · have := hc4 k q h' h hq; rw [hqw] at this; cases this
  have shown : ∀ id k', hU stt (U.erase c) c' id = some k' → ∃ k, (stt (c + 1)).heap.at id = some k ∧ k'.esz = k.esz ∧ k'.elems = k.elems ∧ (k'.frozen = false → k.frozen = false) := by
    intro id k' hk'
    obtain ⟨h1, _⟩ := hU_some hk'
    rw [hnext] at h1
    exact ⟨k', h1, rfl, rfl, fun h => h⟩
  have hlen0 := T.lens (Nat.zero_le c) (by omega)
  have hlen1 := T.len1 hr
  have hleni := T.lens (i := c + 1) (j := rs.length) (by omega) (Nat.le_refl _)
  have hidden : ∀ (m' : PMap), Dom (stt (c + 1)).heap m' → ∀ k ∈ U.erase c, ∀ id, (stt k).heap.length ≤ id → id < (stt (k + 1)).heap.length → m' id = none := by
    intro m' hd k hk id h1 h2
    have hkc : k ≠ c := ((j.und.mem_erase_iff).1 hk).1
    have hkU := List.mem_of_mem_erase hk
    have := beyond k hkU id h1 h2
    have := T.lens (i := c + 1) (j := k) (by omega) (by have := j.lt k hkU; omega)
    cases h : m' id with
    | none => rfl
    | some p => have := hd id p h; omega
  have hchk := T.chk c o r ho hr
  unfold chkROp at hchk
  simp only [Bool.and_eq_true] at hchk
  obtain ⟨⟨h1, h2⟩, h3⟩ := hchk
  obtain ⟨_, s2, s3, _⟩ := T.static ho hr
  unfold wpOp
  simp only [ho]
  rcases T.text hr with ⟨hwt, hv, he⟩ | ⟨hwt, hap, H, hs, he⟩
  · have hwant := j.wanted (o := o) hbef h3 s3 hwt
    rw [hwant, if_neg (by simp)]
    have hheap : (stt (c + 1)).heap = (stt c).heap := by rw [he, put_heap]
    obtain ⟨j', f⟩ := j.next T hi ho hbef hc2 hc3 hcut (Step.refl j.sim) (u := undef) (by rw [hUc, ← hheap]; exact shown)
      (by rw [hv]; exact .tup #[] [] rfl (fun i c hc => by simp at hc)) j.dom (hidden m (by rw [hheap]; exact hdomc))
    exact hK _ _ _ _ j' f (fun _ _ => rfl)
  · have hwant := j.wanted (o := o) hbef h3 s3 hwt
    rw [hwant, if_pos rfl]
    refine .inl ?_
    have hheap : (stt (c + 1)).heap = H := by rw [he, put_heap]
    cases hops : opsOf L.P L.fn L.ty okb o.op r.k with
    | none => rw [hops] at h1; simp at h1
    | some xs =>
      rw [hops] at h1
      have hargs := j.opds T hl hi hbef xs r.args h1 s2
      refine opFull hl hcall (N := N) (m := m) (by rw [← hUc]; exact j.sim) hdomc hops (by rw [← hUc]; exact hargs) hs ?_
      intro u w' m' hst hd hlen hpin hru
      rw [← hUc, ← hheap] at hst
      rw [← hheap] at hd hru
      obtain ⟨j', f⟩ := j.next T hi ho hbef hc2 hc3 hcut hst shown hru (fun id p hp => Nat.lt_of_lt_of_le (hd id p hp) hleni) (hidden m' hd)
      exact hK _ _ _ _ j' f (fun k hk => hpin k (by omega))

theorem exists_least {U : List Nat} (h : U ≠ []) : ∃ i ∈ U, ∀ k, k < i → k ∉ U := by
  have : ∀ n, (∃ i ∈ U, i ≤ n) → ∃ i ∈ U, ∀ k, k < i → k ∉ U := by
    intro n
    induction n with
    | zero =>
      rintro ⟨i, hi, h0⟩
      exact ⟨i, hi, fun k hk => by omega⟩
    | succ n ih =>
      rintro ⟨i, hi, hle⟩
      by_cases h : ∃ k ∈ U, k ≤ n
      · exact ih h
      · exact ⟨i, hi, fun k hk hkU => h ⟨k, hkU, by omega⟩⟩
  cases U with
  | nil => exact absurd rfl h
  | cons x xs => exact this x ⟨x, by simp, Nat.le_refl _⟩

theorem mem_hardOn {o : Oper} {j : Nat} : j ∈ hardOn o ↔ ∃ e ∈ o.after, Region.binds .any e = true ∧ e.on = j := by
  unfold hardOn
  simp only [List.mem_filterMap, Array.mem_toList_iff, Option.ite_none_right_eq_some, Option.some.injEq]

theorem J.all (T : Tx L okb slots nt call ops rs bt stt val) (hl : LinkOk L okb) (hcall : CallOk L call) : ∀ (fuel : Nat) (U : List Nat) (c : Nat) (listed : Array Bool) (a : Act) (w : World) (m : PMap),
    J L N slots nt ops rs bt stt val U c a w m → (∀ k, k < rs.length → (listed.getD k true = false ↔ k ∈ U)) → listed.size = rs.length → U.length ≤ fuel →
    (∀ a' w' m', J L N slots nt ops rs bt stt val [] rs.length a' w' m' → Fwd w (hU stt U c) m w' (hU stt [] rs.length) m' → (∀ k, k < (stt 0).heap.length → m' k = m k) → Q .normal a' w') →
    wpAny L.P .any ops Q fuel listed a w := by
  intro fuel
  induction fuel with
  | zero =>
    intro U c listed a w m j hls hsz hf hQ
    have hnil : U = [] := List.length_eq_zero_iff.1 (by omega)
    subst hnil
    have hcn : c = rs.length := by
      rcases Nat.lt_or_ge c rs.length with h | h
      · obtain ⟨r, hr, hw⟩ := j.cutW h
        exact absurd ((j.cut c r hr hw).1 (by simp)) (Nat.lt_irrefl _)
      · have := j.cutle; omega
    subst hcn
    refine ⟨?_, hQ a w m j (Fwd.refl _ _ _) (fun _ _ => rfl)⟩
    refine List.eq_nil_iff_forall_not_mem.2 fun k hk => ?_
    obtain ⟨h0, o, ho, _⟩ := mem_ready.1 hk
    obtain ⟨r, hr⟩ := T.getR ho
    exact absurd ((hls k (lt_of_getx hr)).1 h0) (by simp)
  | succ fuel ih =>
    intro U c listed a w m j hls hsz hf hQ
    have listed' : ∀ k, k < rs.length → k ∉ U → listed.getD k false = true := by
      intro k hk hkU
      have h1 : ¬ listed.getD k true = false := fun h => hkU ((hls k hk).1 h)
      have hks : k < listed.size := by omega
      simp only [Array.getD_eq_getD_getElem?, Array.getElem?_eq_getElem hks, Option.getD_some] at h1 ⊢
      simpa using h1
    refine ⟨?_, ?_⟩
    · intro hnone
      have hnil : U = [] := by
        by_cases hne : U = []
        · exact hne
        · exfalso
          obtain ⟨i, hi, hmin⟩ := exists_least hne
          have hin := j.lt i hi
          obtain ⟨o, r, ho, hr⟩ := T.getO hin
          have hb := okBefAt_spec (T.static ho hr).1
          have : i ∈ Region.ready .any ops listed := by
            rw [mem_ready]
            refine ⟨(hls i hin).2 hi, o, ho, fun e he hbd => ?_⟩
            have hlt := hb.1 e.on (mem_hardOn.2 ⟨e, he, hbd, rfl⟩)
            exact listed' e.on (by omega) (hmin e.on hlt)
          rw [hnone] at this; cases this
      subst hnil
      have hcn : c = rs.length := by
        rcases Nat.lt_or_ge c rs.length with h | h
        · obtain ⟨r, hr, hw⟩ := j.cutW h
          exact absurd ((j.cut c r hr hw).1 (by simp)) (Nat.lt_irrefl _)
        · have := j.cutle; omega
      subst hcn
      exact hQ a w m j (Fwd.refl _ _ _) (fun _ _ => rfl)
    · intro i hir
      obtain ⟨h0, o, ho, hafter⟩ := mem_ready.1 hir
      obtain ⟨r, hr⟩ := T.getR ho
      have hin := lt_of_getx hr
      have hi := (hls i hin).1 h0
      have hb := okBefAt_spec (T.static ho hr).1
      have hard : ∀ k ∈ hardOn o, k ∉ U := by
        intro k hk hkU
        obtain ⟨e, he, hbd, rfl⟩ := mem_hardOn.1 hk
        have h1 := hafter e he hbd
        have hlt := hb.1 e.on hk
        have h2 := (hls e.on (by omega)).2 hkU
        have hks : e.on < listed.size := by omega
        simp only [Array.getD_eq_getD_getElem?, Array.getElem?_eq_getElem hks, Option.getD_some] at h1 h2
        rw [h1] at h2; cases h2
      have hbef : ∀ k ∈ befAt bt i, k ∉ U := by
        intro k hk
        obtain ⟨l, hl, h | h⟩ := hb.2 k hk
        · rw [h]; exact hard l hl
        · have hlt := hb.1 l hl
          exact j.closed l (hard l hl) (by omega) k h
      have hls' : ∀ k, k < rs.length → ((listed.setIfInBounds i true).getD k true = false ↔ k ∈ U.erase i) := by
        intro k hk
        rw [j.und.mem_erase_iff]
        by_cases hki : k = i
        · subst hki
          have hks : k < listed.size := by omega
          simp [hks]
        · rw [getD_set_ne true (Ne.symm hki), hls k hk]
          exact ⟨fun h => ⟨hki, h⟩, fun h => h.2⟩
      have hlen : (U.erase i).length ≤ fuel := by
        rw [List.length_erase_of_mem hi]; omega
      cases hw : isW r with
      | false =>
        refine j.step T hl hcall hi ho hr hbef hw ?_
        intro a' w' m' j' f hp
        refine ih (U.erase i) c _ a' w' m' j' hls' (by simpa using hsz) hlen ?_
        intro a2 w2 m2 j2 f2 hp2
        exact hQ a2 w2 m2 j2 (f.trans f2) (fun k hk => by rw [hp2 k hk, hp k hk])
      | true =>
        refine j.stepW T hl hcall hi ho hr hbef hw ?_
        intro c' a' w' m' j' f hp
        refine ih (U.erase i) c' _ a' w' m' j' hls' (by simpa using hsz) hlen ?_
        intro a2 w2 m2 j2 f2 hp2
        exact hQ a2 w2 m2 j2 (f.trans f2) (fun k hk => by rw [hp2 k hk, hp k hk])

end

/-- Regions whose order is drawn are sound. -/
theorem drawOk {L : Link} {okb : Nat → Bool} (hl : LinkOk L okb) (hmix : L.P.follows .mixedOrders = true) : DrawOk L okb drawC := by
  intro N slots nt call hn hcall id ops rs hchk hdraw st st' a w m Q hexec inv hpin hQ
  obtain ⟨stt, val, h0, hsteps, hend⟩ := trace rs [] st st' hexec
  obtain ⟨bt, T⟩ := tx_of hn hchk hdraw hsteps
  subst h0
  have hlen : ops.size = rs.length := T.len
  obtain ⟨c, _, hc2, hc3, hc4⟩ := next_cut rs rs.length 0 (by omega)
  have s1 : Step L N w (stt 0).heap.at m w.drew (stt 0).heap.at m := Step.world inv.sim (WExt.drew w)
  have grow : Grow (stt 0).heap (stt c).heap := T.grows (Nat.zero_le _) hc2 fun k r _ h2 hr => hc4 k r (Nat.zero_le _) h2 hr
  -- every number beyond the first ones has its maker
  have maker : ∀ d, d ≤ rs.length → ∀ id, (stt 0).heap.length ≤ id → id < (stt d).heap.length → ∃ i ∈ List.range rs.length, (stt i).heap.length ≤ id ∧ id < (stt (i + 1)).heap.length := by
    intro d
    induction d with
    | zero => intro _ id h1 h2; omega
    | succ d ih =>
      intro hd id h1 h2
      rcases Nat.lt_or_ge id (stt d).heap.length with h | h
      · exact ih (by omega) id h1 h
      · exact ⟨d, List.mem_range.2 (by omega), h, h2⟩
  have s2 : Step L N w.drew (stt 0).heap.at m w.drew (hU stt (List.range rs.length) c) m := by
    refine Step.less s1.sim ?_
    intro id k' hk'
    obtain ⟨h1, h2⟩ := hU_some hk'
    have hlt : id < (stt 0).heap.length := by
      rcases Nat.lt_or_ge id (stt 0).heap.length with h | h
      · exact h
      · obtain ⟨i, hi, ha, hb⟩ := maker c hc2 id h (heap_at_lt h1)
        exact absurd hb (h2 i hi ha)
    cases hb : (stt 0).heap.at id with
    | none => rw [(grow.2 id hlt).2 hb] at h1; cases h1
    | some b =>
      obtain ⟨b', hb', e1, e2, e3⟩ := (grow.2 id hlt).1 b hb
      rw [h1] at hb'; cases hb'
      refine ⟨b, rfl, e1, e2, fun h => ?_⟩
      cases hbf : b.frozen with
      | false => rfl
      | true => rw [e3 hbf] at h; cases h
  have s12 := s1.trans s2
  have j0 : J L N slots nt ops rs bt stt val (List.range rs.length) c a w.drew m := by
    refine ⟨List.nodup_range, fun k hk => List.mem_range.1 hk, fun k hk hkl => absurd (List.mem_range.2 hkl) hk, hc2, hc3, ?_, inv.size, inv.defers, ?_, ?_, s12.sim, ?_, ?_⟩
    · intro k r hr hw
      have hkl := lt_of_getx hr
      constructor
      · intro h; exact absurd (List.mem_range.2 hkl) h
      · intro h
        have := hc4 k r (Nat.zero_le _) h hr
        rw [hw] at this; cases this
    · intro k o t hk ho
      obtain ⟨r, hr⟩ := T.getR ho
      exact absurd (List.mem_range.2 (lt_of_getx hr)) hk
    · intro s t hs _
      exact (inv.vars s t hs).step s12
    · intro id p hp
      exact Nat.lt_of_lt_of_le (inv.dom id p hp) (T.lens (Nat.zero_le _) (Nat.le_refl _))
    · intro i hi id h1 h2
      cases h : m id with
      | none => rfl
      | some p =>
        have := inv.dom id p h
        have := T.lens (Nat.zero_le i) (by have := List.mem_range.1 hi; omega)
        omega
  refine wp_region_any hmix ?_
  rw [hlen]
  refine J.all T hl hcall rs.length (List.range rs.length) c _ a w.drew m j0 ?_ (by simp) (by simp) ?_
  · intro k hk
    simp [hk]
  · intro a' w' m' j' f hp
    have hfin : hU stt [] rs.length = (stt rs.length).heap.at := by
      funext id; exact hU_at fun i hi => by cases hi
    rw [hfin] at f
    have hst : st'.heap = (stt rs.length).heap := by rw [hend]
    refine hQ a' w' m' (by rw [hst]; exact s12.toFwd.trans f) (fun k hk => hp k (by omega)) ?_ ?_ ?_
    · rw [hend]; exact T.pins rs.length (Nat.le_refl _)
    · rw [hst]
      exact Nat.le_trans hpin (T.lens (Nat.zero_le _) (Nat.le_refl _))
    · have hsim := j'.sim
      have hdone := j'.done
      have hrest := j'.rest
      rw [hfin] at hsim hdone hrest
      refine ⟨j'.size, j'.defers, ?_, ?_, by rw [hst]; exact hsim, ?_⟩
      · intro s t hs
        rw [hend]
        simp only
        rcases T.slot hs rs.length (Nat.le_refl _) with ⟨k, o, hk, ho, hd, h | h⟩ | ⟨h1, h2⟩
        · rw [h]; exact hdone k o t (by simp) ho hd
        · rw [h]; exact .und _
        · rw [h2]
          refine hrest s t hs fun k o _ ho => ?_
          obtain ⟨r, hr⟩ := T.getR ho
          exact h1 k o (lt_of_getx hr) ho
      · intro jj t hj
        rw [dsts, envE_dsts] at hj
        obtain ⟨hlt, o, ho, hd⟩ := envE_get _ _ _ _ hj
        have hl' : ops.toList.length = rs.length := by simpa using hlen
        rw [hl'] at hlt ho
        rw [hend]
        simp only
        rw [gd_envA, if_pos hlt]
        exact hdone _ o t (by simp) (by simpa using ho) hd
      · intro id p hp
        rw [hst]; exact j'.dom id p hp
end Go.Ash
/- A table of code and a program: when the one is the other's. -/
namespace Go.Ash

def look {α : Type} : List (Nat × α) → Nat → Option α
  | [], _ => none
  | (k, v) :: l, i => if i = k then some v else look l i

def numOf (l : List (Nat × Nat)) (i : Nat) : Nat := (look l i).getD 0
def hasOf (l : List (Nat × Nat)) (i : Nat) : Bool := (look l i).isSome

theorem look_mem {α : Type} : ∀ {l : List (Nat × α)} {i : Nat} {v : α}, look l i = some v → (i, v) ∈ l
  | [], _, _, h => by simp [look] at h
  | (k, x) :: l, i, v, h => by
    simp only [look] at h
    split at h
    · rename_i hk; cases h; subst hk; simp
    · exact List.mem_cons_of_mem _ (look_mem h)

/-- One function of the table. -/
def Ties (P : Program) (ids tys : List (Nat × Nat)) (tab : List (Nat × RFunc)) (f n : Nat) : Prop :=
  ∃ gf r, P.funcs[n]? = some gf ∧ look tab f = some r ∧ chkF P (numOf ids) (numOf tys) (hasOf ids) drawC gf r = true

def theLink (P : Program) (ids tys : List (Nat × Nat)) : Link := ⟨P, numOf ids, numOf tys, fun g => hasOf ids g = true⟩

theorem linked_of {P : Program} {ids tys : List (Nat × Nat)} {tab : List (Nat × RFunc)} (hmix : P.follows .mixedOrders = true) (h : ∀ p ∈ ids, Ties P ids tys tab p.1 p.2) :
    Linked (theLink P ids tys) (hasOf ids) drawC (look tab) := by
  have fns : ∀ f, hasOf ids f = true → ∃ gf r, P.funcs[numOf ids f]? = some gf ∧ look tab f = some r ∧ chkF P (numOf ids) (numOf tys) (hasOf ids) drawC gf r = true := by
    intro f hf
    unfold hasOf at hf
    obtain ⟨n, hn⟩ := Option.isSome_iff_exists.1 hf
    have := h _ (look_mem hn)
    unfold numOf
    rw [hn]
    exact this
  have ok : LinkOk (theLink P ids tys) (hasOf ids) := by
    refine ⟨fun g hg => hg, fun f hf => ?_⟩
    obtain ⟨gf, r, h1, _, h3⟩ := fns f hf
    unfold chkF at h3
    simp only [Bool.and_eq_true] at h3
    obtain ⟨⟨⟨⟨_, _⟩, h4⟩, h5⟩, _⟩ := h3
    split at h5
    · rename_i c hc
      exact ⟨gf, c, h1, by simpa using h4, hc⟩
    · simp at h5
  exact ⟨fun _ => Iff.rfl, fns, drawOk ok hmix⟩
end Go.Ash
/- The code modules are the code of the seat's program: each function is checked against the dump, and the whole is linked. Printed by a program of this work (link.py). -/
namespace Go.Ash.Seat
open Go.Proofs
set_option maxRecDepth 100000
def ids : List (Nat × Nat) := [(24, 124), (32, 96), (36, 120), (38, 94), (40, 168), (43, 107), (46, 106), (49, 121), (51, 114), (52, 97), (53, 103), (56, 111), (57, 113), (84, 140), (85, 155), (86, 138), (87, 157), (88, 158), (89, 137), (95, 139), (96, 149), (97, 145), (98, 152), (100, 151), (107, 160), (109, 172), (110, 173), (111, 174), (112, 175), (113, 176), (115, 161), (116, 162), (99, 144), (108, 171), (10, 29), (25, 33), (28, 109), (27, 108), (26, 36), (29, 32), (30, 141), (34, 28), (37, 99), (44, 38), (48, 143), (50, 101), (54, 110), (58, 115), (59, 116), (62, 74), (71, 102), (90, 147), (91, 146), (92, 148), (93, 35), (94, 100), (101, 153), (114, 142), (120, 163), (23, 34), (194, 98), (129, 25), (130, 26), (132, 30), (143, 45), (136, 39), (196, 105), (138, 40), (135, 37), (141, 43), (124, 20), (145, 47), (149, 49), (131, 27), (123, 19), (193, 95), (125, 21), (139, 41), (140, 42), (142, 44), (127, 23), (144, 46), (126, 22), (146, 48), (195, 104), (133, 31), (128, 24), (122, 18), (121, 17), (147, 5), (134, 3), (148, 6), (137, 4)]
def tys : List (Nat × Nat) := []
def tab : List (Nat × RFunc) := tabCodeLimbs ++ tabCodeRef1 ++ tabCodeLaw1 ++ tabCodeRat
instance : CodeLimbs (look tab) := ⟨by kernel_rfl, by kernel_rfl, by kernel_rfl, by kernel_rfl, by kernel_rfl, by kernel_rfl, by kernel_rfl, by kernel_rfl, by kernel_rfl, by kernel_rfl, by kernel_rfl, by kernel_rfl, by kernel_rfl, by kernel_rfl, by kernel_rfl, by kernel_rfl, by kernel_rfl, by kernel_rfl, by kernel_rfl, by kernel_rfl, by kernel_rfl, by kernel_rfl, by kernel_rfl, by kernel_rfl, by kernel_rfl, by kernel_rfl, by kernel_rfl, by kernel_rfl, by kernel_rfl, by kernel_rfl, by kernel_rfl, by kernel_rfl, by kernel_rfl, by kernel_rfl, by kernel_rfl, by kernel_rfl, by kernel_rfl, by kernel_rfl⟩
instance : CodeRef1 (look tab) := ⟨by kernel_rfl, by kernel_rfl, by kernel_rfl, by kernel_rfl, by kernel_rfl, by kernel_rfl, by kernel_rfl, by kernel_rfl, by kernel_rfl, by kernel_rfl, by kernel_rfl, by kernel_rfl, by kernel_rfl, by kernel_rfl, by kernel_rfl, by kernel_rfl, by kernel_rfl, by kernel_rfl, by kernel_rfl, by kernel_rfl, by kernel_rfl, by kernel_rfl, by kernel_rfl, by kernel_rfl, by kernel_rfl, by kernel_rfl⟩
instance : CodeLaw1 (look tab) := ⟨by kernel_rfl, by kernel_rfl, by kernel_rfl, by kernel_rfl, by kernel_rfl, by kernel_rfl, by kernel_rfl, by kernel_rfl, by kernel_rfl, by kernel_rfl, by kernel_rfl⟩
instance : CodeRat (look tab) := ⟨by kernel_rfl, by kernel_rfl, by kernel_rfl, by kernel_rfl, by kernel_rfl, by kernel_rfl, by kernel_rfl, by kernel_rfl, by kernel_rfl, by kernel_rfl, by kernel_rfl, by kernel_rfl, by kernel_rfl, by kernel_rfl, by kernel_rfl, by kernel_rfl, by kernel_rfl, by kernel_rfl, by kernel_rfl, by kernel_rfl, by kernel_rfl, by kernel_rfl, by kernel_rfl, by kernel_rfl, by kernel_rfl, by kernel_rfl, by kernel_rfl, by kernel_rfl, by kernel_rfl, by kernel_rfl, by kernel_rfl, by kernel_rfl, by kernel_rfl⟩
theorem tie_24 : Ties Try.prog ids tys tab 24 124 := ⟨Try.f124, c_limbs_Quo, Try.func124, by kernel_rfl, by kernel_rfl⟩
theorem tie_32 : Ties Try.prog ids tys tab 32 96 := ⟨Try.f96, c_limbs_Of, Try.func96, by kernel_rfl, by kernel_rfl⟩
theorem tie_36 : Ties Try.prog ids tys tab 36 120 := ⟨Try.f120, c_limbs_Gcd, Try.func120, by kernel_rfl, by kernel_rfl⟩
theorem tie_38 : Ties Try.prog ids tys tab 38 94 := ⟨Try.f94, c_limbs_Mul, Try.func94, by kernel_rfl, by kernel_rfl⟩
theorem tie_40 : Ties Try.prog ids tys tab 40 168 := ⟨Try.f168, c_limbs_Mod, Try.func168, by kernel_rfl, by kernel_rfl⟩
theorem tie_43 : Ties Try.prog ids tys tab 43 107 := ⟨Try.f107, c_limbs_Add, Try.func107, by kernel_rfl, by kernel_rfl⟩
theorem tie_46 : Ties Try.prog ids tys tab 46 106 := ⟨Try.f106, c_limbs_Sub, Try.func106, by kernel_rfl, by kernel_rfl⟩
theorem tie_49 : Ties Try.prog ids tys tab 49 121 := ⟨Try.f121, c_limbs_Neg, Try.func121, by kernel_rfl, by kernel_rfl⟩
theorem tie_51 : Ties Try.prog ids tys tab 51 114 := ⟨Try.f114, c_limbs_Cmp, Try.func114, by kernel_rfl, by kernel_rfl⟩
theorem tie_52 : Ties Try.prog ids tys tab 52 97 := ⟨Try.f97, c_limbs_Sign, Try.func97, by kernel_rfl, by kernel_rfl⟩
theorem tie_53 : Ties Try.prog ids tys tab 53 103 := ⟨Try.f103, c_limbs_Bits, Try.func103, by kernel_rfl, by kernel_rfl⟩
theorem tie_56 : Ties Try.prog ids tys tab 56 111 := ⟨Try.f111, c_limbs_Text, Try.func111, by kernel_rfl, by kernel_rfl⟩
theorem tie_57 : Ties Try.prog ids tys tab 57 113 := ⟨Try.f113, c_limbs_Read, Try.func113, by kernel_rfl, by kernel_rfl⟩
theorem tie_84 : Ties Try.prog ids tys tab 84 140 := ⟨Try.f140, c_limbs_mag, Try.func140, by kernel_rfl, by kernel_rfl⟩
theorem tie_85 : Ties Try.prog ids tys tab 85 155 := ⟨Try.f155, c_limbs_divide, Try.func155, by kernel_rfl, by kernel_rfl⟩
theorem tie_86 : Ties Try.prog ids tys tab 86 138 := ⟨Try.f138, c_limbs_neg, Try.func138, by kernel_rfl, by kernel_rfl⟩
theorem tie_87 : Ties Try.prog ids tys tab 87 157 := ⟨Try.f157, c_limbs_plus, Try.func157, by kernel_rfl, by kernel_rfl⟩
theorem tie_88 : Ties Try.prog ids tys tab 88 158 := ⟨Try.f158, c_limbs_minus, Try.func158, by kernel_rfl, by kernel_rfl⟩
theorem tie_89 : Ties Try.prog ids tys tab 89 137 := ⟨Try.f137, c_limbs_made, Try.func137, by kernel_rfl, by kernel_rfl⟩
theorem tie_95 : Ties Try.prog ids tys tab 95 139 := ⟨Try.f139, c_limbs_times, Try.func139, by kernel_rfl, by kernel_rfl⟩
theorem tie_96 : Ties Try.prog ids tys tab 96 149 := ⟨Try.f149, c_limbs_small, Try.func149, by kernel_rfl, by kernel_rfl⟩
theorem tie_97 : Ties Try.prog ids tys tab 97 145 := ⟨Try.f145, c_limbs_sum, Try.func145, by kernel_rfl, by kernel_rfl⟩
theorem tie_98 : Ties Try.prog ids tys tab 98 152 := ⟨Try.f152, c_limbs_cmp, Try.func152, by kernel_rfl, by kernel_rfl⟩
theorem tie_100 : Ties Try.prog ids tys tab 100 151 := ⟨Try.f151, c_limbs_grow, Try.func151, by kernel_rfl, by kernel_rfl⟩
theorem tie_107 : Ties Try.prog ids tys tab 107 160 := ⟨Try.f160, c_limbs_trim, Try.func160, by kernel_rfl, by kernel_rfl⟩
theorem tie_109 : Ties Try.prog ids tys tab 109 172 := ⟨Try.f172, c_limbs_left, Try.func172, by kernel_rfl, by kernel_rfl⟩
theorem tie_110 : Ties Try.prog ids tys tab 110 173 := ⟨Try.f173, c_limbs_guess, Try.func173, by kernel_rfl, by kernel_rfl⟩
theorem tie_111 : Ties Try.prog ids tys tab 111 174 := ⟨Try.f174, c_limbs_takes, Try.func174, by kernel_rfl, by kernel_rfl⟩
theorem tie_112 : Ties Try.prog ids tys tab 112 175 := ⟨Try.f175, c_limbs_gives, Try.func175, by kernel_rfl, by kernel_rfl⟩
theorem tie_113 : Ties Try.prog ids tys tab 113 176 := ⟨Try.f176, c_limbs_right, Try.func176, by kernel_rfl, by kernel_rfl⟩
theorem tie_115 : Ties Try.prog ids tys tab 115 161 := ⟨Try.f161, c_limbs_school, Try.func161, by kernel_rfl, by kernel_rfl⟩
theorem tie_116 : Ties Try.prog ids tys tab 116 162 := ⟨Try.f162, c_limbs_up, Try.func162, by kernel_rfl, by kernel_rfl⟩
theorem tie_99 : Ties Try.prog ids tys tab 99 144 := ⟨Try.f144, c_bits_Len32, Try.func144, by kernel_rfl, by kernel_rfl⟩
theorem tie_108 : Ties Try.prog ids tys tab 108 171 := ⟨Try.f171, c_bits_LeadingZeros32, Try.func171, by kernel_rfl, by kernel_rfl⟩
theorem tie_10 : Ties Try.prog ids tys tab 10 29 := ⟨Try.f29, c_ashlarref1_From, Try.func29, by kernel_rfl, by kernel_rfl⟩
theorem tie_25 : Ties Try.prog ids tys tab 25 33 := ⟨Try.f33, c_ashlarref1_Sign, Try.func33, by kernel_rfl, by kernel_rfl⟩
theorem tie_28 : Ties Try.prog ids tys tab 28 109 := ⟨Try.f109, c_ashlarref1_Cmp, Try.func109, by kernel_rfl, by kernel_rfl⟩
theorem tie_27 : Ties Try.prog ids tys tab 27 108 := ⟨Try.f108, c_ashlarref1_Add, Try.func108, by kernel_rfl, by kernel_rfl⟩
theorem tie_26 : Ties Try.prog ids tys tab 26 36 := ⟨Try.f36, c_ashlarref1_Mul, Try.func36, by kernel_rfl, by kernel_rfl⟩
theorem tie_29 : Ties Try.prog ids tys tab 29 32 := ⟨Try.f32, c_ashlarref1_Is, Try.func32, by kernel_rfl, by kernel_rfl⟩
theorem tie_30 : Ties Try.prog ids tys tab 30 141 := ⟨Try.f141, c_ashlarref1_Abs, Try.func141, by kernel_rfl, by kernel_rfl⟩
theorem tie_34 : Ties Try.prog ids tys tab 34 28 := ⟨Try.f28, c_ashlarref1_Of, Try.func28, by kernel_rfl, by kernel_rfl⟩
theorem tie_37 : Ties Try.prog ids tys tab 37 99 := ⟨Try.f99, c_ashlarref1_Gcd, Try.func99, by kernel_rfl, by kernel_rfl⟩
theorem tie_44 : Ties Try.prog ids tys tab 44 38 := ⟨Try.f38, c_ashlarref1_Eq, Try.func38, by kernel_rfl, by kernel_rfl⟩
theorem tie_48 : Ties Try.prog ids tys tab 48 143 := ⟨Try.f143, c_ashlarref1_Sub, Try.func143, by kernel_rfl, by kernel_rfl⟩
theorem tie_50 : Ties Try.prog ids tys tab 50 101 := ⟨Try.f101, c_ashlarref1_Neg, Try.func101, by kernel_rfl, by kernel_rfl⟩
theorem tie_54 : Ties Try.prog ids tys tab 54 110 := ⟨Try.f110, c_ashlarref1_Bits, Try.func110, by kernel_rfl, by kernel_rfl⟩
theorem tie_58 : Ties Try.prog ids tys tab 58 115 := ⟨Try.f115, c_ashlarref1_Read, Try.func115, by kernel_rfl, by kernel_rfl⟩
theorem tie_59 : Ties Try.prog ids tys tab 59 116 := ⟨Try.f116, c_ashlarref1_Text, Try.func116, by kernel_rfl, by kernel_rfl⟩
theorem tie_62 : Ties Try.prog ids tys tab 62 74 := ⟨Try.f74, c_ashlarref1_Power, Try.func74, by kernel_rfl, by kernel_rfl⟩
theorem tie_71 : Ties Try.prog ids tys tab 71 102 := ⟨Try.f102, c_ashlarref1_trim, Try.func102, by kernel_rfl, by kernel_rfl⟩
theorem tie_90 : Ties Try.prog ids tys tab 90 147 := ⟨Try.f147, c_ashlarref1_cmp, Try.func147, by kernel_rfl, by kernel_rfl⟩
theorem tie_91 : Ties Try.prog ids tys tab 91 146 := ⟨Try.f146, c_ashlarref1_add, Try.func146, by kernel_rfl, by kernel_rfl⟩
theorem tie_92 : Ties Try.prog ids tys tab 92 148 := ⟨Try.f148, c_ashlarref1_sub, Try.func148, by kernel_rfl, by kernel_rfl⟩
theorem tie_93 : Ties Try.prog ids tys tab 93 35 := ⟨Try.f35, c_ashlarref1_To, Try.func35, by kernel_rfl, by kernel_rfl⟩
theorem tie_94 : Ties Try.prog ids tys tab 94 100 := ⟨Try.f100, c_ashlarref1_Quo, Try.func100, by kernel_rfl, by kernel_rfl⟩
theorem tie_101 : Ties Try.prog ids tys tab 101 153 := ⟨Try.f153, c_ashlarref1_small, Try.func153, by kernel_rfl, by kernel_rfl⟩
theorem tie_114 : Ties Try.prog ids tys tab 114 142 := ⟨Try.f142, c_ashlarref1_divide, Try.func142, by kernel_rfl, by kernel_rfl⟩
theorem tie_120 : Ties Try.prog ids tys tab 120 163 := ⟨Try.f163, c_ashlarref1_times, Try.func163, by kernel_rfl, by kernel_rfl⟩
theorem tie_23 : Ties Try.prog ids tys tab 23 34 := ⟨Try.f34, c_ashlarlaw1_Cut, Try.func34, by kernel_rfl, by kernel_rfl⟩
theorem tie_194 : Ties Try.prog ids tys tab 194 98 := ⟨Try.f98, c_rat_made, Try.func98, by kernel_rfl, by kernel_rfl⟩
theorem tie_129 : Ties Try.prog ids tys tab 129 25 := ⟨Try.f25, c_rat_Of, Try.func25, by kernel_rfl, by kernel_rfl⟩
theorem tie_130 : Ties Try.prog ids tys tab 130 26 := ⟨Try.f26, c_rat_Over, Try.func26, by kernel_rfl, by kernel_rfl⟩
theorem tie_132 : Ties Try.prog ids tys tab 132 30 := ⟨Try.f30, c_rat_Whole, Try.func30, by kernel_rfl, by kernel_rfl⟩
theorem tie_143 : Ties Try.prog ids tys tab 143 45 := ⟨Try.f45, c_rat_Norm, Try.func45, by kernel_rfl, by kernel_rfl⟩
theorem tie_136 : Ties Try.prog ids tys tab 136 39 := ⟨Try.f39, c_rat_Cmp, Try.func39, by kernel_rfl, by kernel_rfl⟩
theorem tie_196 : Ties Try.prog ids tys tab 196 105 := ⟨Try.f105, c_rat_sum, Try.func105, by kernel_rfl, by kernel_rfl⟩
theorem tie_138 : Ties Try.prog ids tys tab 138 40 := ⟨Try.f40, c_rat_Add, Try.func40, by kernel_rfl, by kernel_rfl⟩
theorem tie_135 : Ties Try.prog ids tys tab 135 37 := ⟨Try.f37, c_rat_Sub, Try.func37, by kernel_rfl, by kernel_rfl⟩
theorem tie_141 : Ties Try.prog ids tys tab 141 43 := ⟨Try.f43, c_rat_Mul, Try.func43, by kernel_rfl, by kernel_rfl⟩
theorem tie_124 : Ties Try.prog ids tys tab 124 20 := ⟨Try.f20, c_rat_Quo, Try.func20, by kernel_rfl, by kernel_rfl⟩
theorem tie_145 : Ties Try.prog ids tys tab 145 47 := ⟨Try.f47, c_rat_Bits, Try.func47, by kernel_rfl, by kernel_rfl⟩
theorem tie_149 : Ties Try.prog ids tys tab 149 49 := ⟨Try.f49, c_rat_Text, Try.func49, by kernel_rfl, by kernel_rfl⟩
theorem tie_131 : Ties Try.prog ids tys tab 131 27 := ⟨Try.f27, c_ashlarref2_Make, Try.func27, by kernel_rfl, by kernel_rfl⟩
theorem tie_123 : Ties Try.prog ids tys tab 123 19 := ⟨Try.f19, c_ashlarref2_From, Try.func19, by kernel_rfl, by kernel_rfl⟩
theorem tie_193 : Ties Try.prog ids tys tab 193 95 := ⟨Try.f95, c_ashlarref2_Int, Try.func95, by kernel_rfl, by kernel_rfl⟩
theorem tie_125 : Ties Try.prog ids tys tab 125 21 := ⟨Try.f21, c_ashlarref2_Of, Try.func21, by kernel_rfl, by kernel_rfl⟩
theorem tie_139 : Ties Try.prog ids tys tab 139 41 := ⟨Try.f41, c_ashlarref2_Add, Try.func41, by kernel_rfl, by kernel_rfl⟩
theorem tie_140 : Ties Try.prog ids tys tab 140 42 := ⟨Try.f42, c_ashlarref2_Neg, Try.func42, by kernel_rfl, by kernel_rfl⟩
theorem tie_142 : Ties Try.prog ids tys tab 142 44 := ⟨Try.f44, c_ashlarref2_Mul, Try.func44, by kernel_rfl, by kernel_rfl⟩
theorem tie_127 : Ties Try.prog ids tys tab 127 23 := ⟨Try.f23, c_ashlarref2_Quo, Try.func23, by kernel_rfl, by kernel_rfl⟩
theorem tie_144 : Ties Try.prog ids tys tab 144 46 := ⟨Try.f46, c_ashlarref2_Cmp, Try.func46, by kernel_rfl, by kernel_rfl⟩
theorem tie_126 : Ties Try.prog ids tys tab 126 22 := ⟨Try.f22, c_ashlarref2_Sign, Try.func22, by kernel_rfl, by kernel_rfl⟩
theorem tie_146 : Ties Try.prog ids tys tab 146 48 := ⟨Try.f48, c_ashlarref2_Bits, Try.func48, by kernel_rfl, by kernel_rfl⟩
theorem tie_195 : Ties Try.prog ids tys tab 195 104 := ⟨Try.f104, c_ashlarref2_whole, Try.func104, by kernel_rfl, by kernel_rfl⟩
theorem tie_133 : Ties Try.prog ids tys tab 133 31 := ⟨Try.f31, c_ashlarref2_Whole, Try.func31, by kernel_rfl, by kernel_rfl⟩
theorem tie_128 : Ties Try.prog ids tys tab 128 24 := ⟨Try.f24, c_ashlarref2_Is, Try.func24, by kernel_rfl, by kernel_rfl⟩
theorem tie_122 : Ties Try.prog ids tys tab 122 18 := ⟨Try.f18, c_ashlarlaw2_Cut, Try.func18, by kernel_rfl, by kernel_rfl⟩
theorem tie_121 : Ties Try.prog ids tys tab 121 17 := ⟨Try.f17, c_ashlarlaw2_begun, Try.func17, by kernel_rfl, by kernel_rfl⟩
theorem tie_147 : Ties Try.prog ids tys tab 147 5 := ⟨Try.f5, c_ashlarlaw2_RatSums, Try.func5, by kernel_rfl, by kernel_rfl⟩
theorem tie_134 : Ties Try.prog ids tys tab 134 3 := ⟨Try.f3, c_ashlarlaw2_RatQuo, Try.func3, by kernel_rfl, by kernel_rfl⟩
theorem tie_148 : Ties Try.prog ids tys tab 148 6 := ⟨Try.f6, c_ashlarlaw2_RatField, Try.func6, by kernel_rfl, by kernel_rfl⟩
theorem tie_137 : Ties Try.prog ids tys tab 137 4 := ⟨Try.f4, c_ashlarlaw2_RatScaled, Try.func4, by kernel_rfl, by kernel_rfl⟩
theorem forall_cons {α : Type} {Q : α → Prop} {a : α} {l : List α} (h : Q a) (t : ∀ p ∈ l, Q p) : ∀ p ∈ a :: l, Q p := List.forall_mem_cons.2 ⟨h, t⟩
theorem forall_nil {α : Type} {Q : α → Prop} : ∀ p ∈ ([] : List α), Q p := fun _ h => nomatch h
theorem ties : ∀ p ∈ ids, Ties Try.prog ids tys tab p.1 p.2 :=
  forall_cons tie_24 <| forall_cons tie_32 <| forall_cons tie_36 <| forall_cons tie_38 <| forall_cons tie_40 <| forall_cons tie_43 <| forall_cons tie_46 <| forall_cons tie_49 <| forall_cons tie_51 <| forall_cons tie_52 <| forall_cons tie_53 <| forall_cons tie_56 <| forall_cons tie_57 <| forall_cons tie_84 <| forall_cons tie_85 <| forall_cons tie_86 <| forall_cons tie_87 <| forall_cons tie_88 <| forall_cons tie_89 <| forall_cons tie_95 <| forall_cons tie_96 <| forall_cons tie_97 <| forall_cons tie_98 <| forall_cons tie_100 <| forall_cons tie_107 <| forall_cons tie_109 <| forall_cons tie_110 <| forall_cons tie_111 <| forall_cons tie_112 <| forall_cons tie_113 <| forall_cons tie_115 <| forall_cons tie_116 <| forall_cons tie_99 <| forall_cons tie_108 <| forall_cons tie_10 <| forall_cons tie_25 <| forall_cons tie_28 <| forall_cons tie_27 <| forall_cons tie_26 <| forall_cons tie_29 <| forall_cons tie_30 <| forall_cons tie_34 <| forall_cons tie_37 <| forall_cons tie_44 <| forall_cons tie_48 <| forall_cons tie_50 <| forall_cons tie_54 <| forall_cons tie_58 <| forall_cons tie_59 <| forall_cons tie_62 <| forall_cons tie_71 <| forall_cons tie_90 <| forall_cons tie_91 <| forall_cons tie_92 <| forall_cons tie_93 <| forall_cons tie_94 <| forall_cons tie_101 <| forall_cons tie_114 <| forall_cons tie_120 <| forall_cons tie_23 <| forall_cons tie_194 <| forall_cons tie_129 <| forall_cons tie_130 <| forall_cons tie_132 <| forall_cons tie_143 <| forall_cons tie_136 <| forall_cons tie_196 <| forall_cons tie_138 <| forall_cons tie_135 <| forall_cons tie_141 <| forall_cons tie_124 <| forall_cons tie_145 <| forall_cons tie_149 <| forall_cons tie_131 <| forall_cons tie_123 <| forall_cons tie_193 <| forall_cons tie_125 <| forall_cons tie_139 <| forall_cons tie_140 <| forall_cons tie_142 <| forall_cons tie_127 <| forall_cons tie_144 <| forall_cons tie_126 <| forall_cons tie_146 <| forall_cons tie_195 <| forall_cons tie_133 <| forall_cons tie_128 <| forall_cons tie_122 <| forall_cons tie_121 <| forall_cons tie_147 <| forall_cons tie_134 <| forall_cons tie_148 <| forall_cons tie_137 <| forall_nil
theorem linked : Linked (theLink Try.prog ids tys) (hasOf ids) drawC (look tab) := linked_of (by kernel_rfl) ties
theorem runs : CallOk (theLink Try.prog ids tys) (run (look tab)) := run_ok linked
end Go.Ash.Seat
