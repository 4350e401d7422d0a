/- A region whose order is drawn: the blocks along its text, and what is true on the way in any order. -/
import Derived.Test.YtaojijahpdnjhaaAshDraw1
set_option linter.all false
namespace Go.Ash

theorem apply_len {e : Eff} {H : Heap} : H.length ≤ (e.apply H).length := by cases e <;> simp [Eff.apply, newBlk]

theorem handOn_len {vs ts : List AVal} {H H' : Heap} (h : handOn vs H = some (ts, H')) : H'.length = H.length := by
  unfold handOn at h
  split at h
  · simp only [Option.some.injEq, Prod.mk.injEq] at h; rw [h.2]
  · simp only [Option.map_eq_some_iff, Prod.mk.injEq, Prod.exists] at h
    obtain ⟨_, _, _, _, rfl⟩ := h
    exact freeze_length _ _

theorem anyCall_len {call : CallF} {raw : Bool} {f : Nat} {args : List AVal} {H H' : Heap} {v : AVal} (h : anyCall call raw f args H = some (v, H')) : H.length ≤ H'.length := by
  unfold anyCall at h
  split at h
  · unfold rawCall at h
    simp only [Option.bind_eq_some_iff] at h
    obtain ⟨l, _, h⟩ := h
    split at h
    · simp only [Option.bind_eq_some_iff, Prod.exists, Option.some.injEq, Prod.mk.injEq] at h
      obtain ⟨_, _, _, _, rfl⟩ := h
      rw [List.length_append, putBack_length]; omega
    · simp at h
  · simp only [Option.bind_eq_some_iff, Option.map_eq_some_iff, Prod.exists, Prod.mk.injEq] at h
    obtain ⟨_, _, hh, _, _, _, rfl⟩ := h
    rw [handOn_len hh]; exact Nat.le_refl _

theorem call_cases {K : OpK} (h : notCall K = false) : (∃ raw f, K = .call raw f) ∨ (∃ raw, K = .callv raw) := by
  cases K <;> first | exact .inl ⟨_, _, rfl⟩ | exact .inr ⟨_, rfl⟩ | (simp [notCall] at h)

theorem stepOp_call {call : CallF} {K : OpK} {args : List AVal} {H H' : Heap} {v : AVal} (hc : notCall K = false) (h : stepOp call K args H = some (v, H')) :
    ∃ raw f as, anyCall call raw f as H = some (v, H') ∧ ((K = .call raw f ∧ as = args) ∨ (K = .callv raw ∧ ∃ first cap vs, args = .fn f first cap :: vs ∧ as = first ++ vs ++ cap)) := by
  rcases call_cases hc with ⟨raw, f, rfl⟩ | ⟨raw, rfl⟩
  · exact ⟨raw, f, args, h, .inl ⟨rfl, rfl⟩⟩
  · cases args with
    | nil => simp [stepOp, opSem] at h
    | cons x vs =>
      cases x <;> simp only [stepOp] at h <;> try (simp [opSem] at h; done)
      exact ⟨raw, _, _, h, .inr ⟨rfl, _, _, _, rfl, rfl⟩⟩

theorem stepOp_len {call : CallF} {K : OpK} {args : List AVal} {H H' : Heap} {v : AVal} (h : stepOp call K args H = some (v, H')) : H.length ≤ H'.length := by
  cases hc : notCall K with
  | true =>
    rw [stepOp_plain hc] at h
    simp only [Option.map_eq_some_iff, Prod.exists, Prod.mk.injEq] at h
    obtain ⟨_, e, _, _, rfl⟩ := h
    exact apply_len
  | false =>
    obtain ⟨_, _, _, h1, _⟩ := stepOp_call hc h
    exact anyCall_len h1

/-- Blocks grown: old ones the same, but for being frozen. -/
def Grow (H H' : Heap) : Prop := H.length ≤ H'.length ∧ ∀ id, id < H.length → AgreeAt H H' id ∧ (H.at id = none → H'.at id = none)

theorem Grow.refl (H : Heap) : Grow H H := ⟨Nat.le_refl _, fun id _ => ⟨.refl H id, fun h => h⟩⟩
theorem Grow.trans {H1 H2 H3 : Heap} (a : Grow H1 H2) (b : Grow H2 H3) : Grow H1 H3 :=
  ⟨Nat.le_trans a.1 b.1, fun id h => ⟨(a.2 id h).1.trans (b.2 id (Nat.lt_of_lt_of_le h a.1)).1, fun h1 => (b.2 id (Nat.lt_of_lt_of_le h a.1)).2 ((a.2 id h).2 h1)⟩⟩
theorem Grow.agree {H H' : Heap} (g : Grow H H') (id : Nat) : AgreeAt H H' id := fun b hb => (g.2 id (heap_at_lt hb)).1 b hb

theorem grow_freeze (H : Heap) (l : List Nat) : Grow H (freeze H l) := by
  refine ⟨by rw [freeze_length]; exact Nat.le_refl _, fun id _ => ⟨fun b hb => ?_, fun h => ?_⟩⟩
  · rw [freeze_at, hb]
    by_cases h : id ∈ l
    · rw [if_pos h]; exact ⟨_, rfl, rfl, rfl, fun _ => rfl⟩
    · rw [if_neg h]; exact ⟨_, rfl, rfl, rfl, fun h => h⟩
  · rw [freeze_at, h]; simp

theorem grow_handOn {vs ts : List AVal} {H H' : Heap} (h : handOn vs H = some (ts, H')) : Grow H H' := by
  unfold handOn at h
  split at h
  · simp only [Option.some.injEq, Prod.mk.injEq] at h; rw [h.2]; exact .refl _
  · simp only [Option.map_eq_some_iff, Prod.mk.injEq, Prod.exists] at h
    obtain ⟨_, _, _, _, rfl⟩ := h
    exact grow_freeze _ _

theorem grow_new (H : Heap) (esz : Nat) (xs : List AVal) : Grow H ((Eff.new esz xs).apply H) := by
  refine ⟨apply_len, fun id hid => ?_⟩
  have : Heap.at ((Eff.new esz xs).apply H) id = H.at id := by
    simp only [Eff.apply, newBlk]; rw [at_append, if_pos hid]
  exact ⟨fun b hb => ⟨b, by rw [this]; exact hb, rfl, rfl, fun h => h⟩, fun h => by rw [this]; exact h⟩

theorem isA_notW {r : ROp} (h : isA r = true) : isW r = false := by
  obtain ⟨k, as, d, g, ap⟩ := r
  cases k <;> simp_all [isA, isW]

theorem isR_notW {r : ROp} (h : isR r = true) : isW r = false := by
  obtain ⟨k, as, d, g, ap⟩ := r
  cases k <;> simp_all [isR, isW]

theorem isR_reads {r : ROp} (h : isR r = true) : reads r.k = true := by
  obtain ⟨k, as, d, g, ap⟩ := r
  cases k <;> simp_all [isR, reads]

theorem isR_plain {r : ROp} (h : isR r = true) : notCall r.k = true := by
  obtain ⟨k, as, d, g, ap⟩ := r
  cases k <;> simp_all [isR, notCall]

theorem call_pure {r : ROp} (hc : notCall r.k = false) (hw : isW r = false) : isA r = true ∧ ((∃ f, r.k = .call false f) ∨ r.k = .callv false) := by
  obtain ⟨k, as, d, g, ap⟩ := r
  cases k <;> simp_all [isA, isW, notCall]

theorem isA_makes {r : ROp} (h : isA r = true) (hc : notCall r.k = true) {args : List AVal} {st : St} {env : List AVal} (ha : args = r.args.map (st.opd env)) :
    makes r.k = true ∧ ∀ b e, r.k = .app b e → args.head? = some (.slc true []) := by
  obtain ⟨k, as, d, g, ap⟩ := r
  cases k <;> simp_all [isA, makes, notCall]
  case app b e =>
    simp only [isW] at h
    split at h
    · simp [St.opd]
    · simp at h

def stores : OpK → Bool
  | .store _ => true
  | _ => false

theorem opSem_store {K : OpK} {args : List AVal} {H : Heap} {f : Nat} (hK : stores K = true) {v : AVal} {e : Eff} (h : opSem K args H f = some (v, e)) :
    ∃ id i o x b, args = [.mptr id i o, x] ∧ e = .upd id b := by
  unfold opSem at h
  split at h <;> try (simp [stores] at hK; done)
  all_goals try (cases h; done)
  split at h
  · split at h
    · split at h
      · simp at h
      · split at h
        · simp only [Option.map_eq_some_iff, Prod.mk.injEq] at h
          obtain ⟨_, _, _, rfl⟩ := h
          exact ⟨_, _, _, _, _, rfl, rfl⟩
        · simp at h
    · simp at h
  · simp at h

section
variable {L : Link} {okb : Nat → Bool} {slots : List Nat} {nt : Nat} {call : CallF} {ops : Array Oper} {rs : List ROp} {bt : BT} {stt : Nat → St} {val : Nat → AVal}
variable (T : Tx L okb slots nt call ops rs bt stt val)
include T

theorem Tx.len1 {i : Nat} {r : ROp} (hr : rs[i]? = some r) : (stt i).heap.length ≤ (stt (i + 1)).heap.length := by
  rcases T.heap hr with h | h
  · rw [h]; exact Nat.le_refl _
  · exact stepOp_len h

theorem Tx.lens {i j : Nat} (hij : i ≤ j) (hj : j ≤ rs.length) : (stt i).heap.length ≤ (stt j).heap.length := by
  induction j with
  | zero => rw [Nat.le_zero.1 hij]; exact Nat.le_refl _
  | succ j ih =>
    by_cases h : i = j + 1
    · rw [h]; exact Nat.le_refl _
    · obtain ⟨o, r, _, hr⟩ := T.getO (i := j) (by omega)
      exact Nat.le_trans (ih (by omega) (by omega)) (T.len1 hr)

theorem Tx.same {i : Nat} {r : ROp} (hr : rs[i]? = some r) (hw : isW r = false) (ha : isA r = false) : (stt (i + 1)).heap = (stt i).heap := by
  rcases T.heap hr with h | h
  · exact h
  · have hnc : notCall r.k = true := by
      cases hc : notCall r.k with
      | true => rfl
      | false => have := (call_pure hc hw).1; rw [ha] at this; cases this
    rw [stepOp_plain hnc] at h
    simp only [Option.map_eq_some_iff, Prod.exists, Prod.mk.injEq] at h
    obtain ⟨v, e, hs, _, he⟩ := h
    have : e = .none := by
      cases hr' : isR r with
      | true => exact (opSem_reads (H' := (stt i).heap) (f' := 0) (isR_reads hr') (fun _ _ id _ => .refl _ id) hs).2
      | false => exact (opSem_indep (H' := (stt i).heap) (f' := 0) (quiet_of hnc hw ha hr') hs).2
    subst this
    exact he.symm

theorem Tx.grow {i : Nat} {r : ROp} (hr : rs[i]? = some r) (hw : isW r = false) : Grow (stt i).heap (stt (i + 1)).heap := by
  cases ha : isA r with
  | false => rw [T.same hr hw ha]; exact .refl _
  | true =>
    rcases T.heap hr with h | h
    · rw [h]; exact .refl _
    · cases hnc : notCall r.k with
      | true =>
        rw [stepOp_plain hnc] at h
        simp only [Option.map_eq_some_iff, Prod.exists, Prod.mk.injEq] at h
        obtain ⟨v, e, hs, _, he⟩ := h
        obtain ⟨h1, h2⟩ := isA_makes ha hnc rfl
        rcases opSem_makes (H' := (stt i).heap) (f' := 0) h1 h2 (fun _ _ id _ => .refl _ id) hs with ⟨rfl, _⟩ | ⟨⟨_, _, rfl⟩, _⟩
        · rw [← he]; exact .refl _
        · rw [← he]; exact grow_new _ _ _
      | false =>
        have hp := (call_pure hnc hw).2
        obtain ⟨raw, f, as, h1, h2⟩ := stepOp_call hnc h
        have : raw = false := by
          rcases hp with ⟨g, hg⟩ | hg <;> rcases h2 with ⟨h2, _⟩ | ⟨h2, _⟩ <;> rw [hg] at h2 <;> cases h2 <;> rfl
        subst this
        simp only [anyCall, Bool.false_eq_true, if_false, Option.bind_eq_some_iff, Option.map_eq_some_iff, Prod.exists, Prod.mk.injEq] at h1
        obtain ⟨_, _, hh, _, _, _, rfl⟩ := h1
        exact grow_handOn hh

theorem Tx.grows {i j : Nat} (hij : i ≤ j) (hj : j ≤ rs.length) (hw : ∀ k r, i ≤ k → k < j → rs[k]? = some r → isW r = false) : Grow (stt i).heap (stt j).heap := by
  induction j with
  | zero => rw [Nat.le_zero.1 hij]; exact .refl _
  | succ j ih =>
    by_cases h : i = j + 1
    · rw [h]; exact .refl _
    · obtain ⟨o, r, _, hr⟩ := T.getO (i := j) (by omega)
      exact (ih (by omega) (by omega) (fun k q h1 h2 => hw k q h1 (by omega))).trans (T.grow hr (hw j r (by omega) (by omega) hr))

theorem Tx.unwritten {s : Nat} (hs : ∀ q ∈ rs, q.dst ≠ some s) (i : Nat) (hi : i ≤ rs.length) : gd (stt i).vars s = gd (stt 0).vars s := by
  induction i with
  | zero => rfl
  | succ i ih =>
    obtain ⟨o, r, _, hr⟩ := T.getO (i := i) (by omega)
    rw [T.vars hr, ← ih (by omega)]
    have := hs r (List.mem_of_getElem? hr)
    cases hd : r.dst with
    | none => rfl
    | some s' => exact gd_sv_ne _ _ _ _ (by rintro rfl; exact this hd)

theorem Tx.static {i : Nat} {o : Oper} {r : ROp} (ho : ops[i]? = some o) (hr : rs[i]? = some r) :
    okBefAt bt i o = true ∧ r.args.all (okOpd rs bt i) = true ∧ okGrd bt i r.guard = true ∧ okPair rs bt i r = true := by
  have := T.stat i o r ho hr
  unfold okOp at this
  simp only [Bool.and_eq_true] at this
  exact ⟨this.1.1.1, this.1.1.2, this.1.2, this.2⟩

theorem Tx.pair {i k : Nat} {r rk : ROp} (hr : rs[i]? = some r) (hk : rs[k]? = some rk) (hw : isW rk = true) (h : isW r = true ∨ isA r = true ∨ isR r = true) (hne : k ≠ i) :
    i ∈ befAt bt k ∨ (isA r = false ∧ k ∈ befAt bt i) ∨ (isR r = true ∧ marked rs i k r rk = true) := by
  obtain ⟨o, ho⟩ : ∃ o, ops[i]? = some o := by
    obtain ⟨o, _, ho, _⟩ := T.getO (lt_of_getx hr)
    exact ⟨o, ho⟩
  have := (T.static ho hr).2.2.2
  unfold okPair at this
  rw [if_pos (by rcases h with h | h | h <;> simp [h])] at this
  simp only [List.all_eq_true, List.mem_range] at this
  have := this k (lt_of_getx hk)
  rw [hk] at this
  simp only [hw, Bool.not_true, Bool.false_or, Bool.or_eq_true, beq_iff_eq, hne, false_or, Bool.and_eq_true, Bool.not_eq_true', Mask.contains_iff_mem, or_assoc] at this
  exact this

theorem Tx.bef_lt {i : Nat} (hi : i < rs.length) {j : Nat} (hj : j ∈ befAt bt i) : j < i := by
  induction i using Nat.strongRecOn generalizing j with
  | ind i ih =>
    obtain ⟨o, r, ho, hr⟩ := T.getO hi
    obtain ⟨h1, h2⟩ := okBefAt_spec (T.static ho hr).1
    obtain ⟨l, hl, h | h⟩ := h2 j hj
    · rw [h]; exact h1 l hl
    · have hli := h1 l hl
      have := ih l hli (by omega) h
      omega

/-- The block of a load that is marked stays as it is. -/
theorem Tx.marked {i k : Nat} {r rk : ROp} (hr : rs[i]? = some r) (hk : rs[k]? = some rk) (hm : marked rs i k r rk = true) {x : AVal}
    (hx : x ∈ r.args.map ((stt i).opd (envA [] val i))) {id : Nat} (hid : headId x = some id) : AgreeAt (stt k).heap (stt (k + 1)).heap id := by
  unfold Ash.marked at hm
  simp only [Bool.and_eq_true, decide_eq_true_eq] at hm
  obtain ⟨⟨⟨hik, hl⟩, hst⟩, hm⟩ := hm
  have hkl := lt_of_getx hk
  have hin : x ∈ rk.apart.map ((stt k).opd (envA [] val k)) := by
    split at hm
    · rename_i j hargs
      rw [hargs] at hx
      simp only [List.map_cons, List.map_nil, List.mem_singleton, St.opd] at hx
      subst hx
      simp only [List.any_eq_true] at hm
      obtain ⟨y, hy, hyj⟩ := hm
      split at hyj
      · rename_i j'
        simp only [beq_iff_eq] at hyj
        refine List.mem_map.2 ⟨_, hy, ?_⟩
        simp only [St.opd, gd_envA]
        by_cases h : j < i
        · rw [if_pos h, if_pos (by omega)]; congr 1; omega
        · rw [if_neg h, if_neg (by omega)]
      · simp at hyj
    · rename_i s hargs
      rw [hargs] at hx
      simp only [List.map_cons, List.map_nil, List.mem_singleton, St.opd] at hx
      subst hx
      simp only [Bool.and_eq_true, List.all_eq_true, List.any_eq_true, bne_iff_ne] at hm
      obtain ⟨hno, y, hy, hys⟩ := hm
      split at hys
      · rename_i s'
        simp only [beq_iff_eq] at hys
        subst hys
        refine List.mem_map.2 ⟨_, hy, ?_⟩
        simp only [St.opd]
        rw [T.unwritten hno k (by omega), T.unwritten hno i (by omega)]
      · simp at hys
    · simp at hm
  rcases T.text hk with ⟨_, _, he⟩ | ⟨_, hap, H, hs, he⟩
  · rw [he, put_heap]; exact .refl _ _
  · rw [he, put_heap]
    simp only
    have hsk : ∃ sz, rk.k = .store sz := by
      unfold isStore at hst
      split at hst
      · rename_i sz h; exact ⟨sz, h⟩
      · simp at hst
    obtain ⟨sz, hsk⟩ := hsk
    rw [hsk, stepOp_plain rfl] at hs
    simp only [Option.map_eq_some_iff, Prod.exists, Prod.mk.injEq] at hs
    obtain ⟨v, e, hs, _, hH⟩ := hs
    generalize rk.args.map ((stt k).opd (envA [] val k)) = args at *
    generalize rk.apart.map ((stt k).opd (envA [] val k)) = oth at *
    obtain ⟨id', i', o', x', b', rfl, rfl⟩ := opSem_store rfl hs
    have hne : id' ≠ id := by
      unfold apartA at hap
      split at hap
      · simp at hin
      · simp only [gd, List.all_eq_true] at hap
        have := hap x hin
        cases x <;> simp only [headId, Option.some.injEq, reduceCtorEq] at hid
        · simp at this
        · subst hid; simpa using this
    subst hH
    intro b hb
    refine ⟨b, ?_, rfl, rfl, fun h => h⟩
    simp only [Eff.apply]
    rw [at_set, if_neg (fun h => hne h.1.symm)]
    exact hb

/-- The blocks that an operation reads are the same at the cut. -/
theorem Tx.stable {D : Nat → Prop} (hcl : ∀ k, D k → k < rs.length → ∀ j ∈ befAt bt k, D j) {i c : Nat} {r : ROp} (hr : rs[i]? = some r) (hk : isA r = true ∨ isR r = true) (hi : ¬ D i)
    (hic : i ≤ c) (hc : c ≤ rs.length) (hD : ∀ k q, i ≤ k → k < c → rs[k]? = some q → isW q = true → D k) {x : AVal}
    (hx : x ∈ r.args.map ((stt i).opd (envA [] val i))) {id : Nat} (hid : headId x = some id) : AgreeAt (stt i).heap (stt c).heap id := by
  induction c with
  | zero => rw [Nat.le_zero.1 hic]; exact .refl _ _
  | succ c ih =>
    by_cases h : i = c + 1
    · rw [h]; exact .refl _ _
    · have ih := ih (by omega) (by omega) (fun k q h1 h2 => hD k q h1 (by omega))
      obtain ⟨o, q, _, hq⟩ := T.getO (i := c) (by omega)
      refine ih.trans ?_
      cases hw : isW q with
      | false => exact (T.grow hq hw).agree id
      | true =>
        have hne : c ≠ i := by
          rintro rfl
          rw [hr] at hq; cases hq
          rcases hk with h | h
          · rw [isA_notW h] at hw; cases hw
          · rw [isR_notW h] at hw; cases hw
        have hDc := hD c q (by omega) (by omega) hq hw
        rcases T.pair hr hq hw (.inr hk) hne with h | ⟨_, h⟩ | ⟨_, h⟩
        · exact absurd (hcl c hDc (by omega) i h) hi
        · have := T.bef_lt (lt_of_getx hr) h; omega
        · exact T.marked hr hq h hx hid
end
end Go.Ash
