/- The abstract interpreter of this work and its uses, part 2: AshOps, AshRen, AshCall, AshRaw, AshStep, AshStep2. -/
import Derived.Test.YtaojijahpdnjhaaAshP01
set_option linter.all false
/- Each operation of the abstract code, but for calls, does in the model what it does here. -/
namespace Go.Ash
section
variable {L : Link} {N : Nat → Prop} {w : World} {H : Heap} {m : PMap} {ρ : Operand → Value} {o : Oper} {okb : Nat → Bool}

def Eff.applyF (h : HF) (fresh : Nat) : Eff → HF
  | .none => h
  | .new esz xs => Ash.upd h fresh (some ⟨false, esz, xs⟩)
  | .app id esz xs => Ash.upd (Ash.upd h id Option.none) fresh (some ⟨false, esz, xs⟩)
  | .upd id b => Ash.upd h id (some b)

theorem arr_one {α : Type} {a : Array α} (h : a.size = 1) : ∃ x, a = #[x] := by
  obtain ⟨l⟩ := a
  cases l with
  | nil => simp at h
  | cons x xs => cases xs with
    | nil => exact ⟨x, rfl⟩
    | cons y ys => simp at h
theorem arr_two {α : Type} {a : Array α} (h : a.size = 2) : ∃ x y, a = #[x, y] := by
  obtain ⟨l⟩ := a
  cases l with
  | nil => simp at h
  | cons x xs => cases xs with
    | nil => simp at h
    | cons y ys => cases ys with
      | nil => exact ⟨x, y, rfl⟩
      | cons z zs => simp at h

theorem bounds_zero {n : Nat} {hi mx : Bool} {vs : List AVal} {l h : Nat} (hb : bounds n false hi mx vs = some (l, h)) : l = 0 := by
  cases hi <;> cases mx <;> rcases vs with _ | ⟨a, _ | ⟨b, _ | ⟨c, d⟩⟩⟩ <;> simp only [bounds] at hb <;> try (simp at hb; done)
  · simp only [Option.some.injEq, Prod.mk.injEq] at hb; exact hb.1.symm
  · simp only [Option.map_eq_some_iff, Prod.mk.injEq] at hb; obtain ⟨_, _, h1, _⟩ := hb; exact h1.symm
  · simp only [Option.bind_eq_some_iff, Option.map_eq_some_iff, Prod.mk.injEq] at hb; obtain ⟨_, _, _, _, h1, _⟩ := hb; exact h1.symm

def notCall : OpK → Bool
  | .call .. | .callv .. => false
  | _ => true

set_option maxHeartbeats 1000000 in
theorem op_sound (s : Sim L N w H.at m) {fresh : Nat} (hf : H.at fresh = none) (hmf : m fresh = none) (hρ : ∀ v, ρ (.const v) = v) {K : OpK} (hnc : notCall K = true) {xs : List Operand}
    {args : List AVal} {v : AVal} {e : Eff} (hok : ∀ g, okb g = true → L.ok g) (hk : opsOf L.P L.fn L.ty okb o.op K = some xs) (hargs : Args L w (Bof N H.at m) m ρ xs args)
    (hsem : opSem K args H fresh = some (v, e)) : Does L N w H.at m ρ o v (e.applyF H.at fresh) fresh := by
  generalize hop : o.op = op at hk
  cases K with
  | mov =>
    have : ∃ x, xs = [x] ∧ (op = .move x ∨ op = .assign x) := by
      cases op <;> simp [opsOf] at hk <;> subst hk <;> exact ⟨_, rfl, by simp⟩
    obtain ⟨x, rfl, ho⟩ := this
    obtain ⟨a, rfl, hr⟩ := All2.one hargs
    simp [opSem] at hsem
    obtain ⟨rfl, rfl⟩ := hsem
    exact (gives_mov (by rw [hop]; exact ho) hr).does s hmf
  | pick =>
    have : ∃ c x y, xs = [c, x, y] ∧ op = .pick c x y := by
      cases op <;> simp [opsOf] at hk <;> subst hk <;> exact ⟨_, _, _, rfl, rfl⟩
    obtain ⟨c, x, y, rfl, rfl⟩ := this
    cases hargs with
    | cons h1 h2 =>
      obtain ⟨b1, b2, rfl, h3, h4⟩ := All2.two h2
      rename_i a0
      cases a0 <;> simp only [opSem] at hsem <;> try (simp at hsem; done)
      simp only [Option.some.injEq, Prod.mk.injEq] at hsem
      obtain ⟨rfl, rfl⟩ := hsem
      exact (gives_pick hop h1 h3 h4).does s hmf
  | box =>
    have : ∃ t x, xs = [x] ∧ op = .box t x := by
      cases op <;> simp [opsOf] at hk <;> subst hk <;> exact ⟨_, _, rfl, rfl⟩
    obtain ⟨t, x, rfl, rfl⟩ := this
    obtain ⟨a, rfl, hr⟩ := All2.one hargs
    simp only [opSem] at hsem
    split at hsem
    · rename_i hc
      simp only [Option.some.injEq, Prod.mk.injEq] at hsem
      obtain ⟨rfl, rfl⟩ := hsem
      exact does_box s hf hmf hop hr hc
    · simp at hsem
  | alloc zero =>
    cases op <;> simp only [opsOf] at hk <;> try (simp at hk; done)
    rename_i t
    split at hk
    · rename_i z hz
      split at hk
      · rename_i hzr
        simp only [Option.some.injEq] at hk
        subst hk
        cases hargs
        simp only [opSem] at hsem
        split at hsem
        · simp only [Option.some.injEq, Prod.mk.injEq] at hsem
          obtain ⟨rfl, rfl⟩ := hsem
          exact does_alloc s hf hmf hop hz hzr
        · simp at hsem
      · simp at hk
    · simp at hk
  | build zero ps =>
    cases op <;> simp only [opsOf] at hk <;> try (simp at hk; done)
    split at hk
    · rename_i z fields hz ht
      split at hk
      · rename_i hcond
        simp only [Option.some.injEq] at hk
        subst hk
        simp only [Bool.and_eq_true, decide_eq_true_eq] at hcond
        obtain ⟨⟨h1, h2⟩, h3⟩ := hcond
        simp only [opSem, Option.map_eq_some_iff] at hsem
        obtain ⟨cs, hcs, he⟩ := hsem
        simp only [Prod.mk.injEq] at he
        obtain ⟨rfl, rfl⟩ := he
        exact (gives_build hop hz ht h1 h2 h3 hargs hcs).does s hmf
      · simp at hk
    · simp at hk
  | bslice esz zero len idx =>
    cases op <;> simp only [opsOf] at hk <;> try (simp at hk; done)
    split at hk
    · rename_i e0 ht
      split at hk
      · rename_i i z hi hz
        split at hk
        · rename_i hcond
          simp only [Option.some.injEq] at hk
          subst hk
          simp only [Bool.and_eq_true, decide_eq_true_eq] at hcond
          obtain ⟨⟨⟨⟨⟨⟨⟨h1, h2⟩, h3⟩, h4⟩, h5⟩, h6⟩, h7⟩, h8⟩ := hcond
          subst h5
          simp only [opSem] at hsem
          split at hsem
          · rename_i hg
            simp only [Option.map_eq_some_iff] at hsem
            obtain ⟨xs', hxs, he⟩ := hsem
            simp only [Prod.mk.injEq] at he
            obtain ⟨rfl, rfl⟩ := he
            refine does_bslice s hf hmf hop ht hi hz h1 h2 h3 h4 h6 ?_ hargs hg (by rw [h7]; exact hxs)
            intro q hq
            have := List.all_eq_true.1 h8 q.1 (by rw [← h7]; exact List.mem_map.2 ⟨q, hq, rfl⟩)
            simpa using this
          · simp at hsem
        · simp at hk
      · simp at hk
    · simp at hk
  | load agg sz =>
    cases op <;> simp only [opsOf] at hk <;> try (simp at hk; done)
    rename_i t x
    split at hk
    · rename_i hcond
      simp only [Option.some.injEq] at hk
      subst hk
      obtain ⟨h1, h2, _⟩ := hcond
      obtain ⟨a, rfl, hr⟩ := All2.one hargs
      cases a <;> simp only [opSem] at hsem <;> try (simp at hsem; done)
      · simp only [Option.map_eq_some_iff] at hsem
        obtain ⟨u, hu, he⟩ := hsem
        simp only [Prod.mk.injEq] at he
        obtain ⟨rfl, rfl⟩ := he
        exact (gives_load_ptr hop h1 h2 hr hu).does s hmf
      · split at hsem
        · rename_i b hb
          split at hsem
          · rename_i el hel
            simp only [Option.map_eq_some_iff] at hsem
            obtain ⟨u, hu, he⟩ := hsem
            simp only [Prod.mk.injEq] at he
            obtain ⟨rfl, rfl⟩ := he
            exact (gives_load_mptr s hop h1 h2 hr hb hel hu).does s hmf
          · simp at hsem
        · simp at hsem
    · simp at hk
  | store sz =>
    cases op <;> simp only [opsOf] at hk <;> try (simp at hk; done)
    split at hk
    · rename_i hcond
      simp only [Option.some.injEq] at hk
      subst hk
      obtain ⟨a, b, rfl, hr, hr2⟩ := All2.two hargs
      cases a <;> simp only [opSem] at hsem <;> try (simp at hsem; done)
      split at hsem
      · rename_i bl hb
        split at hsem
        · rename_i el hel
          split at hsem
          · simp at hsem
          · rename_i hfz
            split at hsem
            · rename_i hc
              simp only [Option.map_eq_some_iff] at hsem
              obtain ⟨u, hu, he⟩ := hsem
              simp only [Prod.mk.injEq] at he
              obtain ⟨rfl, rfl⟩ := he
              exact does_store s hmf hop hcond.1 hcond.2 hr hr2 hb hel (by simpa using hfz) hc.1 hc.2 hu
            · simp at hsem
        · simp at hsem
      · simp at hsem
    · simp at hk
  | nilck =>
    have : ∃ x, xs = [x] ∧ op = .nilCheck x := by
      cases op <;> simp [opsOf] at hk <;> subst hk <;> exact ⟨_, rfl, rfl⟩
    obtain ⟨x, rfl, rfl⟩ := this
    obtain ⟨a, rfl, hr⟩ := All2.one hargs
    have : isRef a = true ∧ v = a ∧ e = .none := by
      cases a <;> simp [opSem] at hsem <;> simp [isRef, hsem]
    obtain ⟨h1, rfl, rfl⟩ := this
    exact (gives_nilck hop hr h1).does s hmf
  | bin op' =>
    cases op <;> simp only [opsOf] at hk <;> try (simp at hk; done)
    split at hk
    · rename_i he
      subst he
      simp only [Option.some.injEq] at hk
      subst hk
      obtain ⟨a, b, rfl, hr, hr2⟩ := All2.two hargs
      simp only [opSem, Option.map_eq_some_iff] at hsem
      obtain ⟨u, hu, he⟩ := hsem
      simp only [Prod.mk.injEq] at he
      obtain ⟨rfl, rfl⟩ := he
      exact (gives_bin hop hr hr2 hu).does s hmf
    · simp at hk
  | beq neg =>
    have : ∃ t x y u, xs = [x, y] ∧ op = .binOp (if neg then .neq else .eql) t x y u ∧ L.P.underlying t = some .bool := by
      cases op <;> simp only [opsOf] at hk <;> try (simp at hk; done)
      rename_i bo t x y u
      cases neg <;> cases bo <;> simp only [opsOf] at hk <;> try (simp at hk; done)
      all_goals
        split at hk
        · rename_i hb
          simp only [Option.some.injEq] at hk
          subst hk
          exact ⟨t, x, y, u, rfl, by simp, isBoolT_spec hb⟩
        · simp at hk
    obtain ⟨t, x, y, u, rfl, ho, ht⟩ := this
    obtain ⟨a, b, rfl, hr, hr2⟩ := All2.two hargs
    cases a <;> simp only [opSem] at hsem <;> try (simp at hsem; done)
    cases b <;> simp only [opSem] at hsem <;> try (simp at hsem; done)
    simp only [Option.some.injEq, Prod.mk.injEq] at hsem
    obtain ⟨rfl, rfl⟩ := hsem
    exact (gives_beq (by rw [hop]; exact ho) ht hr hr2).does s hmf
  | eqnil neg kd =>
    cases op <;> simp only [opsOf] at hk <;> try (simp at hk; done)
    rename_i bo t x y u
    by_cases hcond : bo = (if neg then BinOp.neq else .eql) ∧ nilKind L.P t = some kd ∧ nilOpd y = some kd
    · rw [if_pos hcond] at hk
      simp only [Option.some.injEq] at hk
      subst hk
      obtain ⟨h1, h2, h3⟩ := hcond
      obtain ⟨a, rfl, hr⟩ := All2.one hargs
      simp only [opSem, Option.map_eq_some_iff] at hsem
      obtain ⟨u, hu, he⟩ := hsem
      simp only [Prod.mk.injEq] at he
      obtain ⟨rfl, rfl⟩ := he
      exact (gives_eqnil (by rw [hop, h1]) hρ h2 h3 hr hu).does s hmf
    · rw [if_neg hcond] at hk; simp at hk
  | un op' =>
    cases op <;> simp only [opsOf] at hk <;> try (simp at hk; done)
    split at hk
    · rename_i he
      subst he
      simp only [Option.some.injEq] at hk
      subst hk
      obtain ⟨a, rfl, hr⟩ := All2.one hargs
      simp only [opSem, Option.map_eq_some_iff] at hsem
      obtain ⟨u, hu, he⟩ := hsem
      simp only [Prod.mk.injEq] at he
      obtain ⟨rfl, rfl⟩ := he
      exact (gives_un hop hr hu).does s hmf
    · simp at hk
  | conv k =>
    cases op <;> simp only [opsOf] at hk <;> try (simp at hk; done)
    split at hk
    · rename_i ds k' hs hd
      split at hk
      · rename_i he
        subst he
        simp only [Option.some.injEq] at hk
        subst hk
        obtain ⟨a, rfl, hr⟩ := All2.one hargs
        cases a <;> simp only [opSem] at hsem <;> try (simp at hsem; done)
        simp only [Option.some.injEq, Prod.mk.injEq] at hsem
        obtain ⟨rfl, rfl⟩ := hsem
        exact (gives_conv hop hs hd hr).does s hmf
      · simp at hk
    · simp at hk
  | bytesToStr =>
    cases op <;> simp only [opsOf] at hk <;> try (simp at hk; done)
    split at hk
    · rename_i e hs
      split at hk
      · rename_i he
        split at hk
        · rename_i hd
          simp only [Option.some.injEq] at hk
          subst hk
          obtain ⟨a, rfl, hr⟩ := All2.one hargs
          simp only [opSem] at hsem
          split at hsem
          · rename_i l hl
            simp only [Option.map_eq_some_iff, Prod.mk.injEq] at hsem
            obtain ⟨ns, hb, rfl, rfl⟩ := hsem
            exact (gives_b2s s hop hs he (isStrT_spec hd) hr hl hb).does s hmf
          · simp at hsem
        · simp at hk
      · simp at hk
    · simp at hk
  | mkif t =>
    cases op <;> simp only [opsOf] at hk <;> try (simp at hk; done)
    split at hk
    · simp at hk
    · rename_i d hni hd
      split at hk
      · rename_i he
        simp only [Option.some.injEq] at hk
        subst hk
        obtain ⟨a, rfl, hr⟩ := All2.one hargs
        simp only [opSem, Option.some.injEq, Prod.mk.injEq] at hsem
        obtain ⟨rfl, rfl⟩ := hsem
        exact (gives_mkif hop hd (fun ms h => hni ms (by rw [h])) he hr).does s hmf
      · simp at hk
    · simp at hk
  | mkfn f n =>
    cases op <;> try (simp [opsOf] at hk; done)
    rename_i fnn first cap
    cases fnn <;> simp only [opsOf] at hk <;> try (simp at hk; done)
    split at hk
    · rename_i hcond
      simp only [Option.some.injEq] at hk
      subst hk
      obtain ⟨h1, h2, rfl⟩ := hcond
      simp only [opSem, Option.some.injEq, Prod.mk.injEq] at hsem
      obtain ⟨rfl, rfl⟩ := hsem
      exact (gives_mkfn hop h1 (hok _ h2) hargs).does s hmf
    · simp at hk
  | mkslice esz zero bytes =>
    cases op <;> simp only [opsOf] at hk <;> try (simp at hk; done)
    split at hk
    · rename_i e0 ht
      split at hk
      · rename_i i z hi hz
        split at hk
        · rename_i hcond
          simp only [Option.some.injEq] at hk
          subst hk
          simp only [Bool.and_eq_true, decide_eq_true_eq] at hcond
          obtain ⟨⟨⟨⟨h1, h2⟩, h3⟩, h4⟩, h5⟩ := hcond
          obtain ⟨a, b, rfl, hr, hr2⟩ := All2.two hargs
          cases a <;> simp only [opSem] at hsem <;> try (simp at hsem; done)
          cases b <;> simp only [opSem] at hsem <;> try (simp at hsem; done)
          split at hsem
          · rename_i hc
            simp only [Option.some.injEq, Prod.mk.injEq] at hsem
            obtain ⟨rfl, rfl⟩ := hsem
            exact does_mkslice s hf hmf hop ht hi hz h1 h2 h3 h5 hr hr2 hc.1 hc.2.1 hc.2.2.1 hc.2.2.2
          · simp at hsem
        · simp at hk
      · simp at hk
    · simp at hk
  | slice esz bl bh bm =>
    cases op <;> simp only [opsOf] at hk <;> try (simp at hk; done)
    split at hk
    · rename_i hcond
      obtain ⟨rfl, rfl, rfl⟩ := hcond
      split at hk
      · rename_i e0 ht0
        have ht := sliceOf_spec ht0
        split at hk
        · rename_i hsz
          simp only [Option.some.injEq] at hk
          subst hk
          cases hargs with
          | cons hr hrest =>
            rename_i lo hi mx a vs
            cases a <;> simp only [opSem] at hsem <;> try (simp at hsem; done)
            · split at hsem
              · rename_i hsz2
                simp only [Option.map_eq_some_iff] at hsem
                obtain ⟨⟨l, h⟩, hb, he⟩ := hsem
                simp only [Prod.mk.injEq] at he
                obtain ⟨rfl, rfl⟩ := he
                refine (gives_slice hop ht hsz hr hrest hb ?_).does s hmf
                rcases hsz2 with h1 | h1
                · left
                  rw [h1] at hb
                  exact bounds_zero hb
                · right
                  intro x hx
                  have := List.all_eq_true.1 h1 x hx
                  simpa using this
              · simp at hsem
            · split at hsem
              · rename_i b hb0
                split at hsem
                · rename_i hes
                  simp only [Option.map_eq_some_iff] at hsem
                  obtain ⟨⟨l, h⟩, hb, he⟩ := hsem
                  simp only [Prod.mk.injEq] at he
                  obtain ⟨rfl, rfl⟩ := he
                  obtain ⟨p, _, _, hp, hpe, _⟩ := s.blk _ b hb0
                  exact (gives_slice_m hop ht hsz hr hp (by rw [hpe, hes]) hrest hb).does s hmf
                · simp at hsem
              · simp at hsem
        · simp at hk
      · simp at hk
    · simp at hk
  | slices bl bh =>
    cases op <;> try (simp [opsOf] at hk; done)
    rename_i t x lo hi mx
    cases mx <;> simp only [opsOf] at hk <;> try (simp at hk; done)
    split at hk
    · rename_i hcond
      obtain ⟨rfl, rfl, ht⟩ := hcond
      simp only [Option.some.injEq] at hk
      subst hk
      cases hargs with
      | cons hr hrest =>
        rename_i a vs
        cases a <;> simp only [opSem] at hsem <;> try (simp at hsem; done)
        simp only [Option.map_eq_some_iff] at hsem
        obtain ⟨⟨l, h⟩, hb, he⟩ := hsem
        simp only [Prod.mk.injEq] at he
        obtain ⟨rfl, rfl⟩ := he
        exact (gives_slice_s hop (isStrT_spec ht) hr hrest hb).does s hmf
    · simp at hk
  | faddr off =>
    cases op <;> simp only [opsOf] at hk <;> try (simp at hk; done)
    split at hk
    · rename_i fields ht
      split at hk
      · rename_i fd hfd
        split at hk
        · rename_i hcond
          simp only [Option.some.injEq] at hk
          subst hk
          obtain ⟨a, rfl, hr⟩ := All2.one hargs
          cases a <;> simp only [opSem] at hsem <;> try (simp at hsem; done)
          · simp only [Option.some.injEq, Prod.mk.injEq] at hsem
            obtain ⟨rfl, rfl⟩ := hsem
            exact (gives_faddr hop ht hfd hcond.1 hcond.2 hr (.inl ⟨_, rfl, rfl⟩)).does s hmf
          · simp only [Option.some.injEq, Prod.mk.injEq] at hsem
            obtain ⟨rfl, rfl⟩ := hsem
            exact (gives_faddr hop ht hfd hcond.1 hcond.2 hr (.inr ⟨_, _, _, rfl, rfl⟩)).does s hmf
        · simp at hk
      · simp at hk
    · simp at hk
  | fld agg off sz =>
    cases op <;> simp only [opsOf] at hk <;> try (simp at hk; done)
    split at hk
    · rename_i fields ht
      split at hk
      · rename_i fd hfd
        split at hk
        · rename_i hcond
          simp only [Option.some.injEq] at hk
          subst hk
          obtain ⟨a, rfl, hr⟩ := All2.one hargs
          cases a <;> simp only [opSem] at hsem <;> try (simp at hsem; done)
          simp only [Option.map_eq_some_iff] at hsem
          obtain ⟨u, hu, he⟩ := hsem
          simp only [Prod.mk.injEq] at he
          obtain ⟨rfl, rfl⟩ := he
          exact (gives_fld hop ht hfd hcond.1 hcond.2.2.1 hcond.2.1 hr hu).does s hmf
        · simp at hk
      · simp at hk
    · simp at hk
  | iaddr esz =>
    cases op <;> simp only [opsOf] at hk <;> try (simp at hk; done)
    split at hk
    · rename_i e0 ht
      split at hk
      · rename_i hsz
        simp only [Option.some.injEq] at hk
        subst hk
        obtain ⟨a, b, rfl, hr, hr2⟩ := All2.two hargs
        cases a <;> simp only [opSem] at hsem <;> try (simp at hsem; done)
        · cases b <;> simp only [opSem] at hsem <;> try (simp at hsem; done)
          split at hsem
          · rename_i hb
            split at hsem
            · rename_i hcl
              simp only [Option.some.injEq, Prod.mk.injEq] at hsem
              obtain ⟨rfl, rfl⟩ := hsem
              exact (gives_iaddr hop ht hsz hr hr2 hb.1 hb.2 hcl).does s hmf
            · simp at hsem
          · simp at hsem
        · cases b <;> simp only [opSem] at hsem <;> try (simp at hsem; done)
          split at hsem
          · rename_i hb
            split at hsem
            · rename_i bl hbl
              split at hsem
              · rename_i hes
                simp only [Option.some.injEq, Prod.mk.injEq] at hsem
                obtain ⟨rfl, rfl⟩ := hsem
                exact (gives_iaddr_m s hop ht hsz hr hr2 hb.1 hb.2 hbl hes).does s hmf
              · simp at hsem
            · simp at hsem
          · simp at hsem
      · simp at hk
    · simp at hk
  | idx =>
    cases op <;> simp only [opsOf] at hk <;> try (simp at hk; done)
    split at hk
    · rename_i hb
      simp only [Option.some.injEq] at hk
      subst hk
      have ht := isStrT_spec hb
      obtain ⟨a, b, rfl, hr, hr2⟩ := All2.two hargs
      cases a <;> simp only [opSem] at hsem <;> try (simp at hsem; done)
      cases b <;> simp only [opSem] at hsem <;> try (simp at hsem; done)
      split at hsem
      · rename_i hb
        simp only [Option.some.injEq, Prod.mk.injEq] at hsem
        obtain ⟨rfl, rfl⟩ := hsem
        exact (gives_idx hop ht hr hr2 hb.1 hb.2).does s hmf
      · simp at hsem
    · simp at hk
  | extract i =>
    cases op <;> simp only [opsOf] at hk <;> try (simp at hk; done)
    split at hk
    · rename_i he
      subst he
      simp only [Option.some.injEq] at hk
      subst hk
      obtain ⟨a, rfl, hr⟩ := All2.one hargs
      cases a <;> simp only [opSem] at hsem <;> try (simp at hsem; done)
      simp only [Option.map_eq_some_iff] at hsem
      obtain ⟨u, hu, he⟩ := hsem
      simp only [Prod.mk.injEq] at he
      obtain ⟨rfl, rfl⟩ := he
      exact (gives_extract hop hr hu).does s hmf
    · simp at hk
  | tassert t agg =>
    cases op <;> simp only [opsOf] at hk <;> try (simp at hk; done)
    rename_i x s0 t0 ok0
    cases ok0 <;> simp only [opsOf] at hk <;> try (simp at hk; done)
    split at hk
    · simp at hk
    · rename_i d hni hd
      split at hk
      · rename_i he
        simp only [Option.some.injEq] at hk
        subst hk
        obtain ⟨a, rfl, hr⟩ := All2.one hargs
        cases a <;> simp only [opSem] at hsem <;> try (simp at hsem; done)
        split at hsem
        · rename_i htt
          subst htt
          simp only [Option.some.injEq, Prod.mk.injEq] at hsem
          obtain ⟨rfl, rfl⟩ := hsem
          exact (gives_tassert hop hd (fun ms h => hni ms (by rw [h])) he hr).does s hmf
        · simp at hsem
      · simp at hk
    · simp at hk
  | len str =>
    have : ∃ c x t, op = .call c ∧ c.callee = .builtin .len ∧ c.args = #[x] ∧ xs = [x] ∧ c.argTypes[0]? = some t ∧ (if str then isStrT L.P t else (sliceOf L.P t).isSome) = true := by
      cases op <;> simp only [opsOf] at hk <;> try (simp at hk; done)
      rename_i c
      split at hk
      · rename_i b hb
        cases b <;> simp only [builtinOps] at hk <;> try (simp at hk; done)
        split at hk
        · rename_i t ht
          by_cases hc : (if str then isStrT L.P t else (sliceOf L.P t).isSome) = true ∧ c.args.size = 1
          · rw [if_pos hc] at hk
            simp only [Option.some.injEq] at hk
            obtain ⟨x, hx⟩ := arr_one hc.2
            exact ⟨c, x, t, rfl, hb, hx, by rw [← hk, hx], ht, hc.1⟩
          · rw [if_neg hc] at hk; simp at hk
        · simp at hk
      · simp at hk
    obtain ⟨c, x, t, rfl, hc, hca, rfl, htt, ht⟩ := this
    obtain ⟨a, rfl, hr⟩ := All2.one hargs
    have hsl : str = false → ∃ e0, L.P.underlying t = some (.slice e0) := by
      intro hs
      subst hs
      simp only [Bool.false_eq_true, if_false] at ht
      obtain ⟨e0, he0⟩ := Option.isSome_iff_exists.1 ht
      exact ⟨e0, sliceOf_spec he0⟩
    cases a <;> simp only [opSem] at hsem <;> try (simp at hsem; done)
    · split at hsem
      · rename_i hs
        simp only [Option.some.injEq, Prod.mk.injEq] at hsem
        obtain ⟨rfl, rfl⟩ := hsem
        subst hs
        exact (gives_len_str hop hc hca htt (isStrT_spec (by simpa using ht)) hr).does s hmf
      · simp at hsem
    · split at hsem
      · simp at hsem
      · rename_i hs
        simp only [Option.some.injEq, Prod.mk.injEq] at hsem
        obtain ⟨rfl, rfl⟩ := hsem
        obtain ⟨e0, he0⟩ := hsl (by simpa using hs)
        exact (gives_len hop hc hca htt he0 hr rfl).does s hmf
    · split at hsem
      · simp at hsem
      · rename_i hs
        simp only [Option.some.injEq, Prod.mk.injEq] at hsem
        obtain ⟨rfl, rfl⟩ := hsem
        obtain ⟨e0, he0⟩ := hsl (by simpa using hs)
        exact (gives_len hop hc hca htt he0 hr rfl).does s hmf
  | app bytes esz =>
    have : ∃ c x y t e0 i z, op = .call c ∧ c.callee = .builtin .append ∧ c.args = #[x, y] ∧ xs = [x, y] ∧ ApTys L.P c t ∧ L.P.underlying t = some (.slice e0) ∧
        L.P.info? e0 = some i ∧ zeroOf L.P e0 = some z ∧ i.size = esz ∧ 0 < esz ∧ z.cells.size = esz ∧ i.bytes = bytes := by
      cases op <;> simp only [opsOf] at hk <;> try (simp at hk; done)
      rename_i c
      split at hk
      · rename_i b hb
        cases b <;> simp only [builtinOps] at hk <;> try (simp at hk; done)
        split at hk
        · rename_i t ht
          split at hk
          · rename_i hc
            split at hk
            · rename_i e0 he0
              split at hk
              · rename_i i z hi hz
                split at hk
                · rename_i hcc
                  simp only [Option.some.injEq] at hk
                  obtain ⟨x, y, hx⟩ := arr_two hc.2.2
                  exact ⟨c, x, y, t, e0, i, z, rfl, hb, hx, by rw [← hk, hx], argTypes_two ht hc.1 hc.2.1 (sliceOf_spec he0), sliceOf_spec he0, hi, hz, hcc.1, hcc.2.1, hcc.2.2.1, hcc.2.2.2⟩
                · simp at hk
              · simp at hk
            · simp at hk
          · simp at hk
        · simp at hk
      · simp at hk
    obtain ⟨c, x, y, t, e0, i, z, rfl, hc, hca, rfl, htt, ht, hi, hz, his, he, hzs, hb⟩ := this
    obtain ⟨a, b, rfl, hr, hr2⟩ := All2.two hargs
    simp only [opSem] at hsem
    split at hsem
    · simp at hsem
    · rename_i new hel
      split at hsem
      · simp at hsem
      · rename_i hg
        have hg' : goodElems esz new = true := by simpa using hg
        split at hsem
        · split at hsem
          · rename_i hn
            simp only [Option.some.injEq, Prod.mk.injEq] at hsem
            obtain ⟨rfl, rfl⟩ := hsem
            subst hn
            exact (gives_app_none s hop hc hca htt ht hi he hr hr2 hel).does s hmf
          · rename_i hn
            split at hsem
            · rename_i hm
              simp only [Option.some.injEq, Prod.mk.injEq] at hsem
              obtain ⟨rfl, rfl⟩ := hsem
              exact does_app_nil s hf hmf hop hc hca htt ht hi hz hzs his he hb hr hr2 hel hg' hn hm.1 hm.2
            · simp at hsem
        · split at hsem
          · rename_i bl hbl
            split at hsem
            · rename_i hm
              simp only [Option.some.injEq, Prod.mk.injEq] at hsem
              obtain ⟨rfl, rfl⟩ := hsem
              exact does_app s hf hmf hop hc hca htt ht hi hz hzs his he hb hr hr2 hel hg' hbl hm.1 hm.2.1 hm.2.2.1 hm.2.2.2.1 hm.2.2.2.2
            · simp at hsem
          · simp at hsem
        · simp at hsem
  | max =>
    have : ∃ c x y, op = .call c ∧ c.callee = .builtin .max ∧ c.args = #[x, y] ∧ xs = [x, y] := by
      cases op <;> simp only [opsOf] at hk <;> try (simp at hk; done)
      rename_i c
      split at hk
      · rename_i b hb
        cases b <;> simp only [builtinOps] at hk <;> try (simp at hk; done)
        split at hk
        · rename_i hc
          simp only [Option.some.injEq] at hk
          obtain ⟨x, y, hx⟩ := arr_two hc
          exact ⟨c, x, y, rfl, hb, hx, by rw [← hk, hx]⟩
        · simp at hk
      · simp at hk
    obtain ⟨c, x, y, rfl, hc, hca, rfl⟩ := this
    obtain ⟨a, b, rfl, hr, hr2⟩ := All2.two hargs
    cases a <;> simp only [opSem] at hsem <;> try (simp at hsem; done)
    cases b <;> simp only [opSem] at hsem <;> try (simp at hsem; done)
    split at hsem
    · rename_i hkk
      subst hkk
      simp only [Option.some.injEq, Prod.mk.injEq] at hsem
      obtain ⟨rfl, rfl⟩ := hsem
      exact (gives_max hop hc hca hr hr2).does s hmf
    · simp at hsem
  | min =>
    have : ∃ c x y, op = .call c ∧ c.callee = .builtin .min ∧ c.args = #[x, y] ∧ xs = [x, y] := by
      cases op <;> simp only [opsOf] at hk <;> try (simp at hk; done)
      rename_i c
      split at hk
      · rename_i b hb
        cases b <;> simp only [builtinOps] at hk <;> try (simp at hk; done)
        split at hk
        · rename_i hc
          simp only [Option.some.injEq] at hk
          obtain ⟨x, y, hx⟩ := arr_two hc
          exact ⟨c, x, y, rfl, hb, hx, by rw [← hk, hx]⟩
        · simp at hk
      · simp at hk
    obtain ⟨c, x, y, rfl, hc, hca, rfl⟩ := this
    obtain ⟨a, b, rfl, hr, hr2⟩ := All2.two hargs
    cases a <;> simp only [opSem] at hsem <;> try (simp at hsem; done)
    cases b <;> simp only [opSem] at hsem <;> try (simp at hsem; done)
    split at hsem
    · rename_i hkk
      subst hkk
      simp only [Option.some.injEq, Prod.mk.injEq] at hsem
      obtain ⟨rfl, rfl⟩ := hsem
      exact (gives_min hop hc hca hr hr2).does s hmf
    · simp at hsem
  | call raw f => simp [notCall] at hnc
  | callv raw => simp [notCall] at hnc
end
end Go.Ash
/- The blocks that are reached, numbered anew. -/
namespace Go.Ash

theorem reach_spec {H : Heap} : ∀ (n : Nat) (todo seen l : List Nat), reach H n todo seen = some l →
    (∃ ext, l = seen ++ ext) ∧ (∀ x ∈ todo, x ∈ l) ∧ (seen.Nodup → l.Nodup) ∧
    (∀ x ∈ l, x ∉ seen → ∀ b, H.at x = some b → ∀ y ∈ idsL b.elems, y ∈ l)
  | 0, _, _, _, h => by simp [reach] at h
  | n + 1, [], seen, l, h => by
    simp [reach] at h; subst h
    exact ⟨⟨[], by simp⟩, by simp, fun h => h, fun x hx hn => absurd hx hn⟩
  | n + 1, id :: rest, seen, l, h => by
    simp only [reach] at h
    split at h
    · rename_i hc
      have hin : id ∈ seen := by simpa using hc
      obtain ⟨⟨ext, h1⟩, h2, h3, h4⟩ := reach_spec n rest seen l h
      refine ⟨⟨ext, h1⟩, ?_, h3, h4⟩
      intro x hx
      rcases List.mem_cons.1 hx with rfl | hx
      · rw [h1]; exact List.mem_append_left _ hin
      · exact h2 x hx
    · rename_i hc
      have hin : id ∉ seen := by simpa using hc
      have key : ∀ rest', (∀ x ∈ rest, x ∈ rest') → (∀ b, H.at id = some b → ∀ y ∈ idsL b.elems, y ∈ rest') → reach H n rest' (seen ++ [id]) = some l →
          (∃ ext, l = seen ++ ext) ∧ (∀ x ∈ id :: rest, x ∈ l) ∧ (seen.Nodup → l.Nodup) ∧ (∀ x ∈ l, x ∉ seen → ∀ b, H.at x = some b → ∀ y ∈ idsL b.elems, y ∈ l) := by
        intro rest' hr hb hre
        obtain ⟨⟨ext, h1⟩, h2, h3, h4⟩ := reach_spec n rest' (seen ++ [id]) l hre
        refine ⟨⟨id :: ext, by rw [h1]; simp⟩, ?_, ?_, ?_⟩
        · intro x hx
          rcases List.mem_cons.1 hx with rfl | hx
          · rw [h1]; simp
          · exact h2 x (hr x hx)
        · intro hn
          refine h3 ?_
          rw [List.nodup_append]
          refine ⟨hn, by simp, ?_⟩
          intro a ha b hb
          simp at hb
          subst hb
          rintro rfl
          exact hin ha
        · intro x hx hns b hbx y hy
          by_cases hxi : x = id
          · subst hxi; exact h2 y (hb b hbx y hy)
          · exact h4 x hx (by simp [hns, hxi]) b hbx y hy
      split at h
      · rename_i b hb
        refine key _ (fun x hx => List.mem_append_left _ hx) ?_ h
        intro b' hb' y hy
        rw [hb] at hb'; cases hb'
        exact List.mem_append_right _ hy
      · rename_i hb
        refine key _ (fun x hx => hx) ?_ h
        intro b' hb'
        rw [hb] at hb'; cases hb'

theorem reach_first {H : Heap} : ∀ (A : List Nat) (n : Nat) (T seen l : List Nat), (seen ++ A).Nodup → reach H n (A ++ T) seen = some l → ∃ ext, l = seen ++ A ++ ext
  | [], n, T, seen, l, _, h => by
    obtain ⟨⟨ext, h1⟩, _⟩ := reach_spec n T seen l (by simpa using h)
    exact ⟨ext, by simpa using h1⟩
  | id :: A, 0, T, seen, l, _, h => by simp [reach] at h
  | id :: A, n + 1, T, seen, l, hn, h => by
    simp only [List.cons_append, reach] at h
    have hin : id ∉ seen := by
      intro hin
      rw [List.nodup_append] at hn
      exact hn.2.2 id hin id (by simp) rfl
    rw [if_neg (by simpa using hin)] at h
    have hn' : (seen ++ [id] ++ A).Nodup := by simpa using hn
    split at h
    · rw [List.append_assoc] at h
      obtain ⟨ext, h1⟩ := reach_first A n _ (seen ++ [id]) l hn' h
      exact ⟨ext, by rw [h1]; simp⟩
    · obtain ⟨ext, h1⟩ := reach_first A n _ (seen ++ [id]) l hn' h
      exact ⟨ext, by rw [h1]; simp⟩

theorem heap_at_eq (H : Heap) (id : Nat) : H.at id = (H[id]?).join := by
  induction H generalizing id with
  | nil => simp [Heap.at]
  | cons b H ih => cases id with
    | zero => simp [Heap.at]
    | succ id => simp [Heap.at, ih]

theorem heap_at_none {H : Heap} {id : Nat} (h : H.length ≤ id) : H.at id = none := by
  rw [heap_at_eq, List.getElem?_eq_none h]; rfl

theorem heap_at_lt {H : Heap} {id : Nat} {b : Blk} (h : H.at id = some b) : id < H.length := by
  rcases Nat.lt_or_ge id H.length with h' | h'
  · exact h'
  · rw [heap_at_none h'] at h; cases h

theorem pack_at (H : Heap) (l : List Nat) (k : Nat) : (pack H l).at k = (l[k]?).bind fun id => (H.at id).map (Blk.ren (place l)) := by
  rw [heap_at_eq, pack, List.getElem?_map]
  cases l[k]? <;> rfl

theorem place_get {l : List Nat} {id : Nat} (h : id ∈ l) : l[place l id]? = some id := by
  unfold place
  have hlt := List.idxOf_lt_length_of_mem h
  rw [List.getElem?_eq_getElem hlt, List.getElem_idxOf hlt]

theorem place_of {l : List Nat} (hn : l.Nodup) {k id : Nat} (h : l[k]? = some id) : place l id = k := by
  have hm : id ∈ l := List.mem_of_getElem? h
  have hlt := List.idxOf_lt_length_of_mem hm
  have hk : k < l.length := by
    rcases Nat.lt_or_ge k l.length with h' | h'
    · exact h'
    · simp [List.getElem?_eq_none h'] at h
  have h2 := place_get hm
  unfold place at *
  exact (List.getElem_inj (h₀ := hlt) (h₁ := hk) hn).1 (by
    rw [List.getElem?_eq_getElem hlt] at h2
    rw [List.getElem?_eq_getElem hk] at h
    exact (Option.some.inj h2).trans (Option.some.inj h).symm)

def Dom (H : Heap) (m : PMap) : Prop := ∀ id p, m id = some p → id < H.length

section
variable {L : Link} {N N' : Nat → Prop} {w : World} {H : Heap} {m : PMap}

def packM (m : PMap) (l : List Nat) : PMap := fun k => (l[k]?).bind m

theorem renL_get (ρ : Nat → Nat) (cs : List AVal) (i : Nat) : (renL ρ cs)[i]? = (cs[i]?).map (AVal.ren ρ) := by
  induction cs generalizing i with
  | nil => simp [renL]
  | cons c cs ih => cases i <;> simp [renL, ih]

theorem renL_length (ρ : Nat → Nat) (cs : List AVal) : (renL ρ cs).length = cs.length := by
  induction cs with
  | nil => rfl
  | cons c cs ih => simp [renL, ih]

theorem cells_ren (ρ : Nat → Nat) (x : AVal) : (x.ren ρ).cells = renL ρ x.cells := by
  cases x <;> simp [AVal.ren, AVal.cells, renL]

theorem idsL_mem_of {l : List AVal} {i : Nat} {x : AVal} (h : l[i]? = some x) {id : Nat} (hi : id ∈ x.ids) : id ∈ idsL l := by
  induction l generalizing i with
  | nil => simp at h
  | cons y ys ih =>
    simp only [idsL, List.mem_append]
    cases i with
    | zero => simp at h; subst h; exact .inl hi
    | succ i => simp at h; exact .inr (ih h)

theorem cells_ids {x c : AVal} {j : Nat} (h : x.cells[j]? = some c) {id : Nat} (hi : id ∈ c.ids) : id ∈ x.ids := by
  have := idsL_mem_of h hi
  cases x <;> simpa [AVal.cells, idsL, AVal.ids] using this

theorem Reps.pack {B : Nat → Prop} {v : Value} {a : AVal} {l : List Nat} (h : Reps L w B m v a) (hl : ∀ id ∈ a.ids, id ∈ l) : Reps L w B (packM m l) v (a.ren (place l)) :=
  h.ren _ fun id hid p hp => by simp [packM, place_get (hl id hid), hp]

/-- The blocks of a list that is closed, numbered anew. -/
theorem Sim.pack (s : Sim L N w H.at m) {l : List Nat} (hn : l.Nodup) (hcl : ∀ x ∈ l, ∀ b, H.at x = some b → ∀ y ∈ idsL b.elems, y ∈ l)
    (hN1 : ∀ b, N' b → Bof N H.at m b) (hN2 : ∀ id ∈ l, ∀ k p, H.at id = some k → m id = some p → ¬ N' p.blk) :
    Sim L N' w (pack H l).at (packM m l) ∧ Dom (pack H l) (packM m l) ∧ (∀ b, BM (pack H l).at (packM m l) b → BM H.at m b) := by
  have hget : ∀ k kb, (Go.Ash.pack H l).at k = some kb → ∃ id b, l[k]? = some id ∧ H.at id = some b ∧ kb = b.ren (place l) := by
    intro k kb hk
    rw [pack_at] at hk
    cases hlk : l[k]? with
    | none => rw [hlk] at hk; simp at hk
    | some id =>
      rw [hlk] at hk
      simp only [Option.bind_some, Option.map_eq_some_iff] at hk
      obtain ⟨b, hb, rfl⟩ := hk
      exact ⟨id, b, rfl, hb, rfl⟩
  have hBM : ∀ b, BM (Go.Ash.pack H l).at (packM m l) b → BM H.at m b := by
    rintro b ⟨k, kb, p, hk, hf, hp, rfl⟩
    obtain ⟨id, bb, hlk, hb, rfl⟩ := hget k kb hk
    simp only [packM, hlk, Option.bind_some] at hp
    exact ⟨id, bb, p, hb, hf, hp, rfl⟩
  have hB : ∀ b, Bof N' (Go.Ash.pack H l).at (packM m l) b → Bof N H.at m b := by
    rintro b (h | h)
    · exact hN1 b h
    · exact .inr (hBM b h)
  refine ⟨⟨?_, ?_, ?_⟩, ?_, hBM⟩
  · intro b hb
    rcases hN1 b hb with h | ⟨id, k, p, hk, _, hp, rfl⟩
    · exact s.nlt b h
    · obtain ⟨q, arr, el, hq, _, _, ha, _⟩ := s.blk id k hk
      rw [hp] at hq; cases hq
      exact heap_lt ha
  · intro k kb hk
    obtain ⟨id, bb, hlk, hb, rfl⟩ := hget k kb hk
    obtain ⟨p, arr, el, hp, hes, hnn, ha, hsz, hc⟩ := s.blk id bb hb
    have hmem := List.mem_of_getElem? hlk
    refine ⟨p, arr, el, by simp [packM, hlk, hp], hes, hN2 id hmem bb p hb hp, ha, ?_, ?_⟩
    · intro i x hx
      simp only [Blk.ren] at hx
      rw [renL_get] at hx
      cases he : bb.elems[i]? with
      | none => rw [he] at hx; simp at hx
      | some x0 =>
        rw [he] at hx; simp at hx; subst hx
        rw [cells_ren, renL_length]; exact hsz i x0 he
    · intro i x j c hx hj
      simp only [Blk.ren] at hx
      rw [renL_get] at hx
      cases he : bb.elems[i]? with
      | none => rw [he] at hx; simp at hx
      | some x0 =>
        rw [he] at hx; simp at hx; subst hx
        rw [cells_ren, renL_get] at hj
        cases hjc : x0.cells[j]? with
        | none => rw [hjc] at hj; simp at hj
        | some c0 =>
          rw [hjc] at hj; simp at hj; subst hj
          obtain ⟨v, hv, hr⟩ := hc i x0 j c0 he hjc
          refine ⟨v, hv, (hr.pack ?_).less hB⟩
          intro y hy
          exact hcl id hmem bb hb y (idsL_mem_of he (cells_ids hjc hy))
  · intro k1 k2 b1 b2 p1 p2 h1 h2 hp1 hp2 hb
    obtain ⟨id1, bb1, hlk1, hb1, rfl⟩ := hget k1 b1 h1
    obtain ⟨id2, bb2, hlk2, hb2, rfl⟩ := hget k2 b2 h2
    simp only [packM, hlk1, hlk2, Option.bind_some] at hp1 hp2
    have := s.inj _ _ _ _ _ _ hb1 hb2 hp1 hp2 hb
    subst this
    rw [← place_of hn hlk1, place_of hn hlk2]
  · intro k p hp
    simp only [packM] at hp
    cases hlk : l[k]? with
    | none => rw [hlk] at hp; simp at hp
    | some id =>
      simp only [Go.Ash.pack, List.length_map]
      rcases Nat.lt_or_ge k l.length with h' | h'
      · exact h'
      · simp [List.getElem?_eq_none h'] at hlk

theorem pack_alv {l : List Nat} (k : Nat) (kb : Blk) (p : Pl) (hk : (pack H l).at k = some kb) (hp : packM m l k = some p) :
    ∃ id b, H.at id = some b ∧ m id = some p := by
  rw [pack_at] at hk
  cases hlk : l[k]? with
  | none => rw [hlk] at hk; simp at hk
  | some id =>
    rw [hlk] at hk
    simp only [Option.bind_some, Option.map_eq_some_iff] at hk
    obtain ⟨b, hb, rfl⟩ := hk
    simp only [packM, hlk, Option.bind_some] at hp
    exact ⟨id, b, hb, hp⟩

theorem pack_fwd {l : List Nat} (hBM : ∀ b, BM (pack H l).at (packM m l) b → BM H.at m b) : Fwd w H.at m w (pack H l).at (packM m l) :=
  ⟨WExt.refl _ _, fun b hb => .inl (hBM b hb), fun k kb p hk hp => let ⟨id, b, hb, hm⟩ := pack_alv k kb p hk hp; .inl ⟨id, b, p, hb, hm, rfl⟩⟩

end
end Go.Ash
/- Calls: handing on trees, and handing on blocks. -/
namespace Go.Ash
section
variable {L : Link} {N : Nat → Prop} {w : World} {H : Heap} {m : PMap}

/-- What a table's calls are good for. -/
def CallOk (L : Link) (call : CallF) : Prop :=
  ∀ (f : Nat) (args : List AVal) (H : Heap) (v : AVal) (H' : Heap), call f args H = some (v, H') → L.ok f →
    ∀ (N : Nat → Prop) (w : World) (m : PMap) (us : Array Value), Sim L N w H.at m → Dom H m → us.size = args.length →
    (∀ (i : Nat) (a : AVal), args[i]? = some a → Reps L w (Bof N H.at m) m (us.getD i undef) a) →
    Calls L.P (L.fn f) us w fun e w' => ∃ u m', e = .returned u ∧ Sim L N w' H'.at m' ∧ Dom H' m' ∧ Fwd w H.at m w' H'.at m' ∧ H.length ≤ H'.length ∧
      (∀ j, j < H.length → m' j = m j) ∧ Reps L w' (Bof N H'.at m') m' u v

theorem Reps.free {B : Nat → Prop} {m' : PMap} {v : Value} {a : AVal} (h : Reps L w B m v a) (hi : a.ids = []) : Reps L w B m' v a := by
  have := h.ren (m' := m') id (fun x hx => by rw [hi] at hx; cases hx)
  rwa [ren_self _ _ hi] at this

theorem lt_of_getx {α : Type} {l : List α} {i : Nat} {a : α} (h : l[i]? = some a) : i < l.length := by
  rcases Nat.lt_or_ge i l.length with h' | h'
  · exact h'
  · simp [List.getElem?_eq_none h'] at h

theorem tree_alive {H : Heap} : ∀ n : Nat,
    (∀ (c t : AVal) (is : List Nat), c.tree H n = some (t, is) → ∀ id ∈ is, ∃ b, H.at id = some b) ∧
    (∀ (l ts : List AVal) (is : List Nat), treeL H n l = some (ts, is) → ∀ id ∈ is, ∃ b, H.at id = some b)
  | 0 => ⟨fun _ _ _ h => by simp [AVal.tree] at h, fun _ _ _ h => by simp [treeL] at h⟩
  | n + 1 => by
    obtain ⟨ihv, ihl⟩ := tree_alive (H := H) n
    constructor
    · intro c t is hc
      cases c <;> simp only [AVal.tree] at hc
      case mslc id off len =>
        split at hc
        · rename_i b hb
          split at hc
          · simp only [Option.map_eq_some_iff] at hc
            obtain ⟨⟨ts, js⟩, htl, he⟩ := hc
            simp only [Prod.mk.injEq] at he
            obtain ⟨rfl, rfl⟩ := he
            intro x hx
            rcases List.mem_cons.1 hx with rfl | hx
            · exact ⟨b, hb⟩
            · exact ihl _ _ _ htl x hx
          · simp at hc
        · simp at hc
      case mptr id i o =>
        split at hc
        · rename_i b hb
          split at hc
          · simp only [Option.map_eq_some_iff] at hc
            obtain ⟨⟨ts, js⟩, htl, he⟩ := hc
            simp only [Prod.mk.injEq] at he
            obtain ⟨rfl, rfl⟩ := he
            intro x hx
            rcases List.mem_cons.1 hx with rfl | hx
            · exact ⟨b, hb⟩
            · exact ihl _ _ _ htl x hx
          · simp at hc
        · simp at hc
      case agg cs =>
        simp only [Option.map_eq_some_iff] at hc
        obtain ⟨⟨ts, js⟩, htl, he⟩ := hc
        simp only [Prod.mk.injEq] at he
        obtain ⟨rfl, rfl⟩ := he
        exact ihl _ _ _ htl
      case tup cs =>
        simp only [Option.map_eq_some_iff] at hc
        obtain ⟨⟨ts, js⟩, htl, he⟩ := hc
        simp only [Prod.mk.injEq] at he
        obtain ⟨rfl, rfl⟩ := he
        exact ihl _ _ _ htl
      case ifc ty v =>
        simp only [Option.map_eq_some_iff] at hc
        obtain ⟨⟨ts, js⟩, htl, he⟩ := hc
        simp only [Prod.mk.injEq] at he
        obtain ⟨rfl, rfl⟩ := he
        exact ihv _ _ _ htl
      case fn f a b =>
        simp only [Option.bind_eq_some_iff, Option.map_eq_some_iff] at hc
        obtain ⟨⟨ta, ja⟩, hta, ⟨tb, jb⟩, htb, he⟩ := hc
        simp only [Prod.mk.injEq] at he
        obtain ⟨rfl, rfl⟩ := he
        intro x hx
        rcases List.mem_append.1 hx with h | h
        · exact ihl _ _ _ hta x h
        · exact ihl _ _ _ htb x h
      all_goals
        simp only [Option.some.injEq, Prod.mk.injEq] at hc
        obtain ⟨rfl, rfl⟩ := hc
        intro x hx; cases hx
    · intro l ts is hl
      unfold treeL at hl
      split at hl
      · simp only [Option.some.injEq, Prod.mk.injEq] at hl
        obtain ⟨rfl, rfl⟩ := hl
        intro x hx; cases hx
      · cases l with
        | nil => rename_i hids; exact absurd rfl hids
        | cons v vs =>
          simp only [Option.bind_eq_some_iff, Option.map_eq_some_iff] at hl
          obtain ⟨⟨tv, ja⟩, htv, ⟨tvs, jb⟩, htvs, he⟩ := hl
          simp only [Prod.mk.injEq] at he
          obtain ⟨rfl, rfl⟩ := he
          intro x hx
          rcases List.mem_append.1 hx with h | h
          · exact ihv _ _ _ htv x h
          · exact ihl _ _ _ htvs x h

theorem at_set (H : Heap) (id : Nat) (b : Option Blk) (j : Nat) : Heap.at (H.set id b) j = if j = id ∧ id < H.length then b else H.at j := by
  rw [heap_at_eq, heap_at_eq]
  by_cases h : j = id
  · subst h
    by_cases hl : j < H.length
    · rw [List.getElem?_set_self hl, if_pos ⟨rfl, hl⟩]; rfl
    · rw [if_neg (by omega), List.getElem?_eq_none (by simp; omega), List.getElem?_eq_none (by omega)]
  · rw [List.getElem?_set_ne (Ne.symm h), if_neg (fun h' => h h'.1)]

theorem freeze_length (l : List Nat) : ∀ H : Heap, (freeze H l).length = H.length := by
  induction l with
  | nil => intro H; rfl
  | cons id l ih => intro H; simp only [freeze, List.foldl_cons]; rw [← freeze, ih]; simp

theorem freeze_at (l : List Nat) : ∀ (H : Heap) (id : Nat), (freeze H l).at id = if id ∈ l then (H.at id).map fun b => { b with frozen := true } else H.at id := by
  induction l with
  | nil => intro H id; simp [freeze]
  | cons i l ih =>
    intro H id
    simp only [freeze, List.foldl_cons]
    rw [← freeze, ih, at_set]
    by_cases h2 : id ∈ l
    · rw [if_pos h2, if_pos (List.mem_cons_of_mem _ h2)]
      by_cases h1 : id = i ∧ i < H.length
      · rw [if_pos h1, h1.1]; cases H.at i <;> rfl
      · rw [if_neg h1]
    · rw [if_neg h2]
      by_cases h1 : id = i
      · subst h1
        rw [if_pos (List.mem_cons_self)]
        by_cases hl : id < H.length
        · rw [if_pos ⟨rfl, hl⟩]
        · rw [if_neg (fun h => hl h.2), heap_at_none (by omega)]; rfl
      · rw [if_neg (fun h => h1 h.1), if_neg (fun h => (List.mem_cons.1 h).elim h1 h2)]

theorem reps_arr {B : Nat → Prop} {us : Array Value} {args : List AVal} (_hl : us.size = args.length)
    (h : ∀ (i : Nat) (a : AVal), args[i]? = some a → Reps L w B m (us.getD i undef) a) {i : Nat} {a : AVal} (ha : args[i]? = some a) : Reps L w B m (us.getD i undef) a := h i a ha

theorem handOn_ok (s : Sim L N w H.at m) {args ts : List AVal} {H' : Heap} (hh : handOn args H = some (ts, H')) {us : Array Value}
    (hr : ∀ (i : Nat) (a : AVal), args[i]? = some a → Reps L w (Bof N H.at m) m (us.getD i undef) a) :
    Step L N w H.at m w H'.at m ∧ H'.length = H.length ∧ ts.length = args.length ∧ idsL ts = [] ∧
    ∀ (i : Nat) (a : AVal), ts[i]? = some a → Reps L w (Bof N H'.at m) m (us.getD i undef) a := by
  unfold handOn at hh
  split at hh
  · rename_i hids
    simp only [Option.some.injEq, Prod.mk.injEq] at hh
    obtain ⟨rfl, rfl⟩ := hh
    exact ⟨Step.refl s, rfl, rfl, hids, hr⟩
  · simp only [Option.map_eq_some_iff] at hh
    obtain ⟨⟨ts', is⟩, ht, he⟩ := hh
    simp only [Prod.mk.injEq] at he
    obtain ⟨rfl, rfl⟩ := he
    obtain ⟨hlen, hall⟩ := (tree_ok s fuelTree).2 _ _ _ ht
    have hal := (tree_alive (H := H) fuelTree).2 _ _ _ ht
    have hstep : Step L N w H.at m w (freeze H is).at m := Step.less s (by
      intro id k' hk'
      rw [freeze_at] at hk'
      split at hk'
      · simp only [Option.map_eq_some_iff] at hk'
        obtain ⟨k, hk, rfl⟩ := hk'
        exact ⟨k, hk, rfl, rfl, fun h => by simp at h⟩
      · exact ⟨k', hk', rfl, rfl, fun h => h⟩)
    have hB1 : ∀ b, Bof N (freeze H is).at m b → Bof N H.at m b := by
      rintro b (h | ⟨id, k', p, hk', hf, hp, rfl⟩)
      · exact .inl h
      · rw [freeze_at] at hk'
        split at hk'
        · simp only [Option.map_eq_some_iff] at hk'
          obtain ⟨k, hk, rfl⟩ := hk'
          simp at hf
        · exact .inr ⟨id, k', p, hk', hf, hp, rfl⟩
    have hB2 : ∀ id ∈ is, ∀ p, m id = some p → ¬ Bof N (freeze H is).at m p.blk := by
      intro id hid p hp
      obtain ⟨b, hb⟩ := hal id hid
      obtain ⟨q, _, _, hq, _, hn, _⟩ := s.blk id b hb
      rw [hp] at hq; cases hq
      rintro (h | ⟨id2, k', p2, hk', hf, hp2, he⟩)
      · exact hn h
      · rw [freeze_at] at hk'
        split at hk'
        · simp only [Option.map_eq_some_iff] at hk'
          obtain ⟨k, hk, rfl⟩ := hk'
          simp at hf
        · rename_i hni
          have := s.inj _ _ _ _ _ _ hk' hb hp2 hp he
          subst this
          exact hni hid
    refine ⟨hstep, freeze_length _ _, hlen, ?_, ?_⟩
    · refine ids_of_mem fun i t hti => ?_
      have hi := lt_of_getx hti
      rw [hlen] at hi
      obtain ⟨t', ht', hok, _⟩ := hall i _ (List.getElem?_eq_getElem hi)
      rw [hti] at ht'; cases ht'
      exact hok.1
    · intro i t hti
      have hi := lt_of_getx hti
      rw [hlen] at hi
      obtain ⟨t', ht', hok, _⟩ := hall i _ (List.getElem?_eq_getElem hi)
      rw [hti] at ht'; cases ht'
      exact hok.2 _ hB1 hB2 _ (hr i _ (List.getElem?_eq_getElem hi))

theorem pureCall_ok {call : CallF} (hc : CallOk L call) {f : Nat} {args : List AVal} {t : AVal} (hp : pureCall call f args = some t) (hok : L.ok f) {h : HF} (s : Sim L N w h m)
    (hids : idsL args = []) {us : Array Value} (hl : us.size = args.length) (hr : ∀ (i : Nat) (a : AVal), args[i]? = some a → Reps L w (Bof N h m) m (us.getD i undef) a) :
    Calls L.P (L.fn f) us w fun e w' => ∃ u, e = .returned u ∧ WExt (fun _ => False) w w' ∧ Reps L w' (Bof N h m) m u t := by
  unfold pureCall at hp
  simp only [Option.bind_eq_some_iff] at hp
  obtain ⟨⟨v, H'⟩, hcall, ⟨ts, is⟩, htree, hhead⟩ := hp
  have s0 : Sim L (Bof N h m) w (Heap.at []) (fun _ => none) := by
    refine ⟨?_, fun id k hk => by simp [Heap.at] at hk, fun id1 id2 k1 k2 p1 p2 h1 => by simp [Heap.at] at h1⟩
    rintro b (hb | ⟨id, k, p, hk, _, hpp, rfl⟩)
    · exact s.nlt b hb
    · obtain ⟨q, _, _, hq, _, _, ha, _⟩ := s.blk id k hk
      rw [hpp] at hq; cases hq
      exact heap_lt ha
  have hBM0 : ∀ b, ¬ BM (Heap.at []) (fun _ => none) b := by rintro b ⟨id, k, p, hk, _⟩; simp [Heap.at] at hk
  have := hc f args [] v H' hcall hok (Bof N h m) w (fun _ => none) us s0 (fun _ _ h => by cases h) hl (by
    intro i a ha
    have h1 := (hr i a ha).free (m' := fun _ => none) (idsL_mem hids ha)
    exact h1.less (fun b hb => hb.elim (fun h => h) (fun h => absurd h (hBM0 b))))
  refine this.mono ?_
  rintro e w' ⟨u, m', rfl, s', _, f', _, _, hru⟩
  have hext : WExt (fun _ => False) w w' := f'.ext.mono (fun b hb => absurd hb (hBM0 b))
  refine ⟨u, rfl, hext, ?_⟩
  obtain ⟨hlen, hall⟩ := (tree_ok s' fuelTree).2 _ _ _ htree
  have hal := (tree_alive (H := H') fuelTree).2 _ _ _ htree
  obtain ⟨t', ht', hto, _⟩ := hall 0 v rfl
  cases ts with
  | nil => simp at hhead
  | cons t0 ts =>
    simp at hhead ht'
    subst hhead; subst ht'
    have := hto.2 (Bof N h m) (fun b hb => .inl hb) (by
      intro id hid p hpp
      obtain ⟨b, hb⟩ := hal id hid
      obtain ⟨q, _, _, hq, _, hn, _⟩ := s'.blk id b hb
      rw [hpp] at hq; cases hq
      exact hn) u hru
    exact this.free hto.1

end
end Go.Ash
/- Calls that hand on blocks. -/
namespace Go.Ash

theorem back_lt : ∀ (l : List Nat) (n j : Nat), j < l.length → l[j]? = some (back l n j)
  | [], _, _, h => by simp at h
  | i :: l, n, 0, _ => rfl
  | i :: l, n, j + 1, h => by simp only [back, List.getElem?_cons_succ]; exact back_lt l n j (by simpa using h)

theorem back_ge : ∀ (l : List Nat) (n j : Nat), l.length ≤ j → back l n j = n + (j - l.length)
  | [], _, _, _ => by simp [back]
  | i :: l, n, 0, h => by simp at h
  | i :: l, n, j + 1, h => by simp only [back]; rw [back_ge l n j (by simpa using h)]; simp

theorem putBack_length (ρ : Nat → Nat) : ∀ (H : Heap) (l : List Nat) (H' : Heap), (putBack ρ H l H').length = H.length
  | H, [], _ => by simp [putBack]
  | H, _ :: _, [] => by simp [putBack]
  | H, id :: l, b :: H' => by simp only [putBack]; rw [putBack_length ρ _ l H']; simp

theorem putBack_at (ρ : Nat → Nat) : ∀ (l : List Nat) (H H' : Heap) (id : Nat), l.Nodup → (∀ i ∈ l, i < H.length) → l.length ≤ H'.length →
    (putBack ρ H l H').at id = if id ∈ l then (H'.at (place l id)).map (Blk.ren ρ) else H.at id
  | [], H, H', id, _, _, _ => by simp [putBack]
  | i :: l, H, [], id, _, _, h => by simp at h
  | i :: l, H, b :: H', id, hn, hlt, hlen => by
    simp only [putBack]
    rw [List.nodup_cons] at hn
    rw [putBack_at ρ l _ H' id hn.2 (fun x hx => by simpa using hlt x (List.mem_cons_of_mem _ hx)) (by simpa using hlen)]
    by_cases h1 : id = i
    · subst h1
      rw [if_neg hn.1, if_pos List.mem_cons_self, at_set, if_pos ⟨rfl, hlt id List.mem_cons_self⟩]
      simp [place, Heap.at]
    · by_cases h2 : id ∈ l
      · rw [if_pos h2, if_pos (List.mem_cons_of_mem _ h2)]
        have : place (i :: l) id = place l id + 1 := by
          simp only [place, List.idxOf_cons]
          have : (i == id) = false := by simpa using Ne.symm h1
          simp [this]
        rw [this]; rfl
      · rw [if_neg h2, if_neg (fun h => (List.mem_cons.1 h).elim h1 h2), at_set, if_neg (fun h => h1 h.1)]

section
variable {L : Link} {N : Nat → Prop} {w : World} {H : Heap} {m : PMap}

theorem at_append (A B : Heap) (id : Nat) : Heap.at (A ++ B) id = if id < A.length then A.at id else B.at (id - A.length) := by
  rw [heap_at_eq, heap_at_eq, heap_at_eq]
  by_cases h : id < A.length
  · rw [if_pos h, List.getElem?_append_left h]
  · rw [if_neg h, List.getElem?_append_right (by omega)]

theorem at_map (H : Heap) (ρ : Nat → Nat) (id : Nat) : Heap.at (H.map (Option.map (Blk.ren ρ))) id = (H.at id).map (Blk.ren ρ) := by
  rw [heap_at_eq, heap_at_eq, List.getElem?_map]
  cases H[id]? with
  | none => rfl
  | some b => cases b <;> rfl

theorem at_drop (H : Heap) (k id : Nat) : Heap.at (H.drop k) id = H.at (k + id) := by
  rw [heap_at_eq, heap_at_eq, List.getElem?_drop]

theorem rawCall_ok {call : CallF} (hc : CallOk L call) {f : Nat} {args : List AVal} {v : AVal} {Hn : Heap} (hp : rawCall call f args H = some (v, Hn)) (hok : L.ok f)
    (s : Sim L N w H.at m) (hdom : Dom H m) {us : Array Value} (hl : us.size = args.length)
    (hr : ∀ (i : Nat) (a : AVal), args[i]? = some a → Reps L w (Bof N H.at m) m (us.getD i undef) a) :
    Calls L.P (L.fn f) us w fun e w' => ∃ u m', e = .returned u ∧ Step L N w H.at m w' Hn.at m' ∧ Dom Hn m' ∧ H.length ≤ Hn.length ∧ (∀ j, j < H.length → m' j = m j) ∧
      Reps L w' (Bof N Hn.at m') m' u v := by
  unfold rawCall at hp
  simp only [Option.bind_eq_some_iff] at hp
  obtain ⟨l, hreach, hp⟩ := hp
  split at hp
  case isFalse => simp at hp
  case isTrue hall =>
  simp only [Option.bind_eq_some_iff, Option.some.injEq, Prod.mk.injEq] at hp
  obtain ⟨⟨v0, H'⟩, hcall, rfl, rfl⟩ := hp
  have hlt : ∀ i ∈ l, i < H.length := fun i hi => by simpa using List.all_eq_true.1 hall i hi
  obtain ⟨_, hin, hnd, hcl⟩ := reach_spec _ _ _ _ hreach
  have hnodup : l.Nodup := hnd List.nodup_nil
  have hclosed : ∀ x ∈ l, ∀ b, H.at x = some b → ∀ y ∈ idsL b.elems, y ∈ l := fun x hx => hcl x hx (by simp)
  let N' : Nat → Prop := fun b => N b ∨ ∃ id k p, H.at id = some k ∧ k.frozen = false ∧ id ∉ l ∧ m id = some p ∧ p.blk = b
  have hN1 : ∀ b, N' b → Bof N H.at m b := by
    rintro b (h | ⟨id, k, p, hk, hf, _, hp, rfl⟩)
    · exact .inl h
    · exact .inr ⟨id, k, p, hk, hf, hp, rfl⟩
  have hN2 : ∀ id ∈ l, ∀ k p, H.at id = some k → m id = some p → ¬ N' p.blk := by
    rintro id hid k p hk hp (h | ⟨id2, k2, p2, hk2, hf2, hni, hp2, he⟩)
    · obtain ⟨q, _, _, hq, _, hn, _⟩ := s.blk id k hk
      rw [hp] at hq; cases hq
      exact hn h
    · have := s.inj _ _ _ _ _ _ hk2 hk hp2 hp he
      subst this
      exact hni hid
  obtain ⟨sp, dp, hBMp⟩ := s.pack (N' := N') hnodup hclosed hN1 hN2
  have hBp : ∀ b, Bof N' (pack H l).at (packM m l) b → Bof N H.at m b := by
    rintro b (h | h)
    · exact hN1 b h
    · exact .inr (hBMp b h)
  have := hc f _ _ v0 H' hcall hok N' w (packM m l) us sp dp (by rw [renL_length]; exact hl) (by
    intro i a ha
    rw [renL_get] at ha
    cases hai : args[i]? with
    | none => rw [hai] at ha; simp at ha
    | some a0 =>
      rw [hai] at ha; simp at ha; subst ha
      exact ((hr i a0 hai).pack (fun id hid => hin id (idsL_mem_of hai hid))).less hBp)
  refine this.mono ?_
  rintro e w' ⟨u, m', rfl, s', d', f', hlen, hpin, hru⟩
  have hplen : (pack H l).length = l.length := by simp [pack]
  rw [hplen] at hlen hpin
  have hlenH : (putBack (back l H.length) H l H').length = H.length := putBack_length _ _ _ _
  -- the blocks behind the call
  have hat : ∀ id, Heap.at (putBack (back l H.length) H l H' ++ (H'.drop l.length).map (Option.map (Blk.ren (back l H.length)))) id =
      if id < H.length then (if id ∈ l then (H'.at (place l id)).map (Blk.ren (back l H.length)) else H.at id) else (H'.at (l.length + (id - H.length))).map (Blk.ren (back l H.length)) := by
    intro id
    rw [at_append, hlenH]
    by_cases h1 : id < H.length
    · rw [if_pos h1, if_pos h1, putBack_at _ _ _ _ _ hnodup hlt hlen]
    · rw [if_neg h1, if_neg h1, at_map, at_drop]
  let m2 : PMap := fun id => if id < H.length then m id else m' (l.length + (id - H.length))
  have hm2 : ∀ id p, m id = some p → m2 id = some p := fun id p hp => by simp only [m2]; rw [if_pos (hdom id p hp)]; exact hp
  have hback : ∀ j p, m' j = some p → m2 (back l H.length j) = some p := by
    intro j p hj
    rcases Nat.lt_or_ge j l.length with h | h
    · have hb := back_lt l H.length j h
      have hmem := List.mem_of_getElem? hb
      simp only [m2]
      rw [if_pos (hlt _ hmem)]
      rw [hpin j h] at hj
      simpa [packM, hb] using hj
    · simp only [m2]
      rw [back_ge _ _ _ h, if_neg (by omega)]
      have : l.length + (H.length + (j - l.length) - H.length) = j := by omega
      rw [this]; exact hj
  -- where a block of the caller comes from
  have hsrc : ∀ id k, Heap.at (putBack (back l H.length) H l H' ++ (H'.drop l.length).map (Option.map (Blk.ren (back l H.length)))) id = some k →
      (∃ j k', H'.at j = some k' ∧ k = k'.ren (back l H.length) ∧ back l H.length j = id) ∨ (id ∉ l ∧ H.at id = some k) := by
    intro id k hk
    rw [hat] at hk
    by_cases h1 : id < H.length
    · rw [if_pos h1] at hk
      by_cases h2 : id ∈ l
      · rw [if_pos h2] at hk
        simp only [Option.map_eq_some_iff] at hk
        obtain ⟨k', hk', rfl⟩ := hk
        have hpl := place_get h2
        have hjl : place l id < l.length := lt_of_getx hpl
        have := back_lt l H.length (place l id) hjl
        rw [hpl] at this
        exact .inl ⟨place l id, k', hk', rfl, (Option.some.inj this).symm⟩
      · rw [if_neg h2] at hk
        exact .inr ⟨h2, hk⟩
    · rw [if_neg h1] at hk
      simp only [Option.map_eq_some_iff] at hk
      obtain ⟨k', hk', rfl⟩ := hk
      exact .inl ⟨_, k', hk', rfl, by rw [back_ge _ _ _ (by omega)]; omega⟩
  have hBM2 : ∀ b, BM (Heap.at (putBack (back l H.length) H l H' ++ (H'.drop l.length).map (Option.map (Blk.ren (back l H.length))))) m2 b →
      BM H'.at m' b ∨ ∃ id k p, H.at id = some k ∧ k.frozen = false ∧ id ∉ l ∧ m id = some p ∧ p.blk = b := by
    rintro b ⟨id, k, p, hk, hf, hp, rfl⟩
    rcases hsrc id k hk with ⟨j, k', hj, rfl, hbj⟩ | ⟨hni, hko⟩
    · obtain ⟨q, _, _, hq, _⟩ := s'.blk j k' hj
      have := hback j q hq
      rw [hbj, hp] at this
      cases this
      exact .inl ⟨j, k', p, hj, hf, hq, rfl⟩
    · obtain ⟨q, _, _, hq, _⟩ := s.blk id k hko
      have := hm2 id q hq
      rw [hp] at this
      cases this
      exact .inr ⟨id, k, p, hko, hf, hni, hq, rfl⟩
  have hsub : ∀ b, BM (Heap.at (putBack (back l H.length) H l H' ++ (H'.drop l.length).map (Option.map (Blk.ren (back l H.length))))) m2 b → BM H.at m b ∨ w.heap.size ≤ b := by
    intro b hb
    rcases hBM2 b hb with h | ⟨id, k, p, hk, hf, _, hp, rfl⟩
    · exact (f'.sub b h).imp (hBMp b) (fun h => h)
    · exact .inl ⟨id, k, p, hk, hf, hp, rfl⟩
  have hB2 : ∀ b, Bof N (Heap.at (putBack (back l H.length) H l H' ++ (H'.drop l.length).map (Option.map (Blk.ren (back l H.length))))) m2 b → Bof N' H'.at m' b := by
    rintro b (h | h)
    · exact .inl (.inl h)
    · rcases hBM2 b h with h | h
      · exact .inr h
      · exact .inl (.inr h)
  have fwd : Fwd w H.at m w' (Heap.at (putBack (back l H.length) H l H' ++ (H'.drop l.length).map (Option.map (Blk.ren (back l H.length))))) m2 := by
    refine ⟨f'.ext.mono hBMp, hsub, ?_⟩
    intro id k p hk hp
    rcases hsrc id k hk with ⟨j, k', hj, rfl, hbj⟩ | ⟨hni, hko⟩
    · obtain ⟨q, _, _, hq, _⟩ := s'.blk j k' hj
      have := hback j q hq
      rw [hbj, hp] at this
      cases this
      rcases f'.alv j k' p hj hq with ⟨id0, k0, p0, h0, hp0, he⟩ | h
      · obtain ⟨id1, b1, hb1, hm1⟩ := pack_alv id0 k0 p0 h0 hp0
        exact .inl ⟨id1, b1, p0, hb1, hm1, he⟩
      · exact .inr h
    · obtain ⟨q, _, _, hq, _⟩ := s.blk id k hko
      have := hm2 id q hq
      rw [hp] at this
      cases this
      exact .inl ⟨id, k, p, hko, hq, rfl⟩
  have hrepB : ∀ (x : Value) (c : AVal), Reps L w' (Bof N' H'.at m') m' x c →
      Reps L w' (Bof N (Heap.at (putBack (back l H.length) H l H' ++ (H'.drop l.length).map (Option.map (Blk.ren (back l H.length))))) m2) m2 x (c.ren (back l H.length)) :=
    fun x c hx => (hx.ren _ (fun j _ p hj => hback j p hj)).less hB2
  have sim : Sim L N w' (Heap.at (putBack (back l H.length) H l H' ++ (H'.drop l.length).map (Option.map (Blk.ren (back l H.length))))) m2 := by
    refine ⟨fun b hb => Nat.lt_of_lt_of_le (s.nlt b hb) f'.ext.size, ?_, ?_⟩
    · intro id k hk
      rcases hsrc id k hk with ⟨j, k', hj, rfl, hbj⟩ | ⟨hni, hko⟩
      · obtain ⟨q, arr, el, hq, hes, hn, ha, hsz, hcell⟩ := s'.blk j k' hj
        refine ⟨q, arr, el, by rw [← hbj]; exact hback j q hq, hes, fun h => hn (.inl h), ha, ?_, ?_⟩
        · intro i x hx
          simp only [Blk.ren] at hx
          rw [renL_get] at hx
          cases he : k'.elems[i]? with
          | none => rw [he] at hx; simp at hx
          | some x0 =>
            rw [he] at hx; simp at hx; subst hx
            rw [cells_ren, renL_length]; exact hsz i x0 he
        · intro i x jj c hx hjj
          simp only [Blk.ren] at hx
          rw [renL_get] at hx
          cases he : k'.elems[i]? with
          | none => rw [he] at hx; simp at hx
          | some x0 =>
            rw [he] at hx; simp at hx; subst hx
            rw [cells_ren, renL_get] at hjj
            cases hjc : x0.cells[jj]? with
            | none => rw [hjc] at hjj; simp at hjj
            | some c0 =>
              rw [hjc] at hjj; simp at hjj; subst hjj
              obtain ⟨x1, hx1, hr1⟩ := hcell i x0 jj c0 he hjc
              exact ⟨x1, hx1, hrepB _ _ hr1⟩
      · obtain ⟨q, arr, el, hq, hes, hn, ha, hsz, hcell⟩ := s.blk id k hko
        have hne : ¬ BM (pack H l).at (packM m l) q.blk := by
          rintro ⟨k2, kb, p2, hk2, hf2, hp2, he⟩
          rw [pack_at] at hk2
          cases hlk : l[k2]? with
          | none => rw [hlk] at hk2; simp at hk2
          | some id2 =>
            rw [hlk] at hk2
            simp only [Option.bind_some, Option.map_eq_some_iff] at hk2
            obtain ⟨b2, hb2, rfl⟩ := hk2
            simp only [packM, hlk, Option.bind_some] at hp2
            have := s.inj _ _ _ _ _ _ hb2 hko hp2 hq he
            subst this
            exact hni (List.mem_of_getElem? hlk)
        refine ⟨q, arr, el, hm2 id q hq, hes, hn, (f'.ext.old _ (heap_lt ha) hne).trans ha, hsz, ?_⟩
        intro i x jj c hx hjj
        obtain ⟨x1, hx1, hr1⟩ := hcell i x jj c hx hjj
        exact ⟨x1, hx1, hr1.fwd fwd hm2⟩
    · intro id1 id2 k1 k2 p1 p2 hk1 hk2 hp1 hp2 hb
      rcases hsrc id1 k1 hk1 with ⟨j1, k1', hj1, rfl, hbj1⟩ | ⟨hni1, hko1⟩
      · obtain ⟨q1, _, _, hq1, _⟩ := s'.blk j1 k1' hj1
        have e1 := hback j1 q1 hq1
        rw [hbj1, hp1] at e1
        cases e1
        rcases hsrc id2 k2 hk2 with ⟨j2, k2', hj2, rfl, hbj2⟩ | ⟨hni2, hko2⟩
        · obtain ⟨q2, _, _, hq2, _⟩ := s'.blk j2 k2' hj2
          have e2 := hback j2 q2 hq2
          rw [hbj2, hp2] at e2
          cases e2
          have := s'.inj _ _ _ _ _ _ hj1 hj2 hq1 hq2 hb
          rw [← hbj1, ← hbj2, this]
        · exfalso
          obtain ⟨q2, _, _, hq2, _, _, ha2, _⟩ := s.blk id2 k2 hko2
          have e2 := hm2 id2 q2 hq2
          rw [hp2] at e2
          cases e2
          rcases f'.alv j1 k1' p1 hj1 hq1 with ⟨id0, k0, p0, h0, hp0, he⟩ | h
          · rw [pack_at] at h0
            cases hlk : l[id0]? with
            | none => rw [hlk] at h0; simp at h0
            | some idx =>
              rw [hlk] at h0
              simp only [Option.bind_some, Option.map_eq_some_iff] at h0
              obtain ⟨b2, hb2, rfl⟩ := h0
              simp only [packM, hlk, Option.bind_some] at hp0
              have := s.inj _ _ _ _ _ _ hb2 hko2 hp0 hq2 (he.trans hb)
              subst this
              exact hni2 (List.mem_of_getElem? hlk)
          · rw [hb] at h
            exact absurd (heap_lt ha2) (by omega)
      · obtain ⟨q1, _, _, hq1, _, _, ha1, _⟩ := s.blk id1 k1 hko1
        have e1 := hm2 id1 q1 hq1
        rw [hp1] at e1
        cases e1
        rcases hsrc id2 k2 hk2 with ⟨j2, k2', hj2, rfl, hbj2⟩ | ⟨hni2, hko2⟩
        · exfalso
          obtain ⟨q2, _, _, hq2, _⟩ := s'.blk j2 k2' hj2
          have e2 := hback j2 q2 hq2
          rw [hbj2, hp2] at e2
          cases e2
          rcases f'.alv j2 k2' p2 hj2 hq2 with ⟨id0, k0, p0, h0, hp0, he⟩ | h
          · rw [pack_at] at h0
            cases hlk : l[id0]? with
            | none => rw [hlk] at h0; simp at h0
            | some idx =>
              rw [hlk] at h0
              simp only [Option.bind_some, Option.map_eq_some_iff] at h0
              obtain ⟨b2, hb2, rfl⟩ := h0
              simp only [packM, hlk, Option.bind_some] at hp0
              have := s.inj _ _ _ _ _ _ hb2 hko1 hp0 hq1 (he.trans hb.symm)
              subst this
              exact hni1 (List.mem_of_getElem? hlk)
          · rw [← hb] at h
            exact absurd (heap_lt ha1) (by omega)
        · obtain ⟨q2, _, _, hq2, _⟩ := s.blk id2 k2 hko2
          have e2 := hm2 id2 q2 hq2
          rw [hp2] at e2
          cases e2
          exact s.inj _ _ _ _ _ _ hko1 hko2 hq1 hq2 hb
  refine ⟨u, m2, rfl, ⟨fwd, sim, hm2⟩, ?_, by simp [hlenH], fun j hj => by simp only [m2]; rw [if_pos hj], hrepB _ _ hru⟩
  intro id p hp
  simp only [List.length_append, hlenH, List.length_map, List.length_drop]
  simp only [m2] at hp
  split at hp
  · omega
  · have := d' _ _ hp
    omega
end
end Go.Ash
/- One operation of a region, calls included, is sound. -/
namespace Go.Ash

def chkOpd (fn : Nat → Nat) (okb : Nat → Bool) (slots : List Nat) (E : List (Option Nat)) : Operand → Opd → Bool
  | .tmp t, .v i => decide (slots[i]? = some t)
  | .tmp t, .p j => decide (E[j]? = some (some t))
  | .const v, .c a => constRep a v
  | .func f, .c (.fn g [] []) => decide (fn g = f) && okb g
  | _, _ => false

def chkOpds (fn : Nat → Nat) (okb : Nat → Bool) (slots : List Nat) (E : List (Option Nat)) : List Operand → List Opd → Bool
  | [], [] => true
  | x :: xs, r :: rs => chkOpd fn okb slots E x r && chkOpds fn okb slots E xs rs
  | _, _ => false

def chkDst (slots : List Nat) (nt : Nat) (E : List (Option Nat)) : Option Tmp → Option Nat → Bool
  | none, none => true
  | some t, none => decide (t < nt) && !slots.contains t && !E.contains (some t)
  | some t, some i => decide (t < nt) && decide (slots[i]? = some t) && !E.contains (some t)
  | none, some _ => false

def chkGuard (E : List (Option Nat)) (ops : Array Oper) : Option (Nat × Bool) → Option (Nat × Bool) → Bool
  | none, none => true
  | some (j, want), some (k, want') => want == want' && (match E[k]? with
    | some (some t) => decide ((ops[j]?).bind (·.dst) = some t)
    | _ => false)
  | _, _ => false

def chkROp (P : Program) (fn ty : Nat → Nat) (okb : Nat → Bool) (slots : List Nat) (nt : Nat) (ops : Array Oper) (E : List (Option Nat)) (o : Oper) (r : ROp) : Bool :=
  (match opsOf P fn ty okb o.op r.k with
   | some xs => chkOpds fn okb slots E xs r.args
   | none => false) && chkDst slots nt E o.dst r.dst && chkGuard E ops o.guard r.guard

structure LinkOk (L : Link) (okb : Nat → Bool) : Prop where
  ok : ∀ g, okb g = true → L.ok g
  fns : ∀ f, L.ok f → ∃ gf c, L.P.funcs[L.fn f]? = some gf ∧ gf.name ≠ "runtime.NumGoroutine" ∧ gf.body = some c

structure Inv (L : Link) (N : Nat → Prop) (slots : List Nat) (nt : Nat) (E : List (Option Nat)) (a : Act) (w : World) (m : PMap) (st : St) (env : List AVal) : Prop where
  size : a.tmps.size = nt
  defers : a.defers = []
  vars : ∀ (i t : Nat), slots[i]? = some t → Reps L w (Bof N st.heap.at m) m (a.tmps.getD t undef) (gd st.vars i)
  env : ∀ (j t : Nat), E[j]? = some (some t) → Reps L w (Bof N st.heap.at m) m (a.tmps.getD t undef) (gd env j)
  sim : Sim L N w st.heap.at m
  dom : Dom st.heap m

section
variable {L : Link} {N : Nat → Prop} {w : World} {m : PMap} {okb : Nat → Bool} {slots : List Nat} {nt : Nat} {E : List (Option Nat)} {a : Act} {st : St} {env : List AVal}

theorem gd_reps_none {B : Nat → Prop} {v : Value} : Reps L w B m v .und := .und v

theorem chkOpd_ok (hl : LinkOk L okb) (i : Inv L N slots nt E a w m st env) {x : Operand} {r : Opd} (h : chkOpd L.fn okb slots E x r = true) :
    Reps L w (Bof N st.heap.at m) m (a.eval x) (st.opd env r) := by
  unfold chkOpd at h
  split at h
  · exact i.vars _ _ (by simpa using h)
  · exact i.env _ _ (by simpa using h)
  · exact constRep_reps _ _ h
  · rename_i f g
    simp only [Bool.and_eq_true, decide_eq_true_eq] at h
    obtain ⟨rfl, h2⟩ := h
    exact .fn g [] [] #[] #[] (hl.ok _ h2) rfl rfl (fun i c hc => by simp at hc) (fun i c hc => by simp at hc)
  · simp at h

theorem chkOpds_ok (hl : LinkOk L okb) (i : Inv L N slots nt E a w m st env) : ∀ (xs : List Operand) (rs : List Opd), chkOpds L.fn okb slots E xs rs = true →
    Args L w (Bof N st.heap.at m) m a.eval xs (rs.map (st.opd env))
  | [], [], _ => .nil
  | x :: xs, r :: rs, h => by
    simp only [chkOpds, Bool.and_eq_true] at h
    exact .cons (chkOpd_ok hl i h.1) (chkOpds_ok hl i xs rs h.2)
  | [], _ :: _, h => by simp [chkOpds] at h
  | _ :: _, [], h => by simp [chkOpds] at h

theorem getD_set {tmps : Array Value} {t d : Nat} {v : Value} (h : t ≠ d) : (tmps.setIfInBounds d v).getD t undef = tmps.getD t undef := by
  simp only [Array.getD_eq_getD_getElem?]
  rw [Array.getElem?_setIfInBounds_ne (Ne.symm h)]

theorem getD_set_same {tmps : Array Value} {t : Nat} {v : Value} (h : t < tmps.size) : (tmps.setIfInBounds t v).getD t undef = v := by
  simp only [Array.getD_eq_getD_getElem?]
  rw [Array.getElem?_setIfInBounds_self_of_lt h]; rfl

theorem gd_sv_ne : ∀ (vs : List AVal) (i j : Nat) (x : AVal), j ≠ i → gd (sv vs i x) j = gd vs j
  | [], _, _, _, _ => rfl
  | v :: vs, 0, 0, _, h => absurd rfl h
  | v :: vs, 0, j + 1, _, _ => rfl
  | v :: vs, i + 1, 0, _, _ => rfl
  | v :: vs, i + 1, j + 1, x, h => by simp only [sv, gd]; exact gd_sv_ne vs i j x (by omega)

theorem gd_sv_same : ∀ (vs : List AVal) (i : Nat) (x : AVal), gd (sv vs i x) i = x ∨ gd (sv vs i x) i = .und
  | [], _, _ => .inr rfl
  | v :: vs, 0, x => .inl rfl
  | v :: vs, i + 1, x => by simp only [sv, gd]; exact gd_sv_same vs i x

/-- The invariant behind an operation that gave a value. -/
theorem Inv.put (hn : slots.Nodup) (i : Inv L N slots nt E a w m st env) {dst : Option Tmp} {rd : Option Nat} (hd : chkDst slots nt E dst rd = true) {w' : World} {m' : PMap} {H' : Heap}
    {u : Value} {v : AVal} (s : Step L N w st.heap.at m w' H'.at m') (d : Dom H' m') (hr : Reps L w' (Bof N H'.at m') m' u v) :
    Inv L N slots nt (dst :: E) (a.put dst u) w' m' ({ st with heap := H' }.put rd v) (v :: env) := by
  have hheap : ∀ (x : Option Nat), ({ st with heap := H' }.put x v).heap = H' := by intro x; cases x <;> rfl
  unfold chkDst at hd
  split at hd
  · refine ⟨i.size, i.defers, ?_, ?_, s.sim, d⟩
    · intro k t hk; exact (i.vars k t hk).step s
    · intro j t hj
      cases j with
      | zero => simp at hj
      | succ j => simp at hj; exact (i.env j t hj).step s
  · rename_i t
    simp only [Bool.and_eq_true, decide_eq_true_eq, Bool.not_eq_true'] at hd
    obtain ⟨⟨h1, h2⟩, h3⟩ := hd
    refine ⟨by simp [Act.put, i.size], i.defers, ?_, ?_, s.sim, d⟩
    · intro k t' hk
      have hne : t' ≠ t := by
        rintro rfl
        have := List.mem_of_getElem? hk
        simp at h2; exact h2 this
      simp only [Act.put, St.put]
      rw [getD_set hne]
      exact (i.vars k t' hk).step s
    · intro j t' hj
      simp only [Act.put]
      cases j with
      | zero =>
        simp at hj; subst hj
        rw [getD_set_same (by rw [i.size]; exact h1)]
        exact hr
      | succ j =>
        simp at hj
        have hne : t' ≠ t := by
          rintro rfl
          have := List.mem_of_getElem? hj
          simp at h3; exact h3 this
        rw [getD_set hne]
        exact (i.env j t' hj).step s
  · rename_i t k0
    simp only [Bool.and_eq_true, decide_eq_true_eq, Bool.not_eq_true'] at hd
    obtain ⟨⟨h1, h2⟩, h3⟩ := hd
    refine ⟨by simp [Act.put, i.size], i.defers, ?_, ?_, s.sim, d⟩
    · intro k t' hk
      simp only [Act.put, St.put]
      by_cases hkk : k = k0
      · subst hkk
        rw [h2] at hk; cases hk
        rw [getD_set_same (by rw [i.size]; exact h1)]
        rcases gd_sv_same st.vars k v with h | h
        · rw [h]; exact hr
        · rw [h]; exact .und _
      · have hne : t' ≠ t := by
          rintro rfl
          have hk1 : k < slots.length := lt_of_getx hk
          have hk2 : k0 < slots.length := lt_of_getx h2
          rw [List.getElem?_eq_getElem hk1] at hk
          rw [List.getElem?_eq_getElem hk2] at h2
          exact hkk ((List.getElem_inj (h₀ := hk1) (h₁ := hk2) hn).1 ((Option.some.inj hk).trans (Option.some.inj h2).symm))
        rw [getD_set hne, gd_sv_ne _ _ _ _ hkk]
        exact (i.vars k t' hk).step s
    · intro j t' hj
      simp only [Act.put]
      cases j with
      | zero =>
        simp at hj; subst hj
        rw [getD_set_same (by rw [i.size]; exact h1)]
        exact hr
      | succ j =>
        simp at hj
        have hne : t' ≠ t := by
          rintro rfl
          have := List.mem_of_getElem? hj
          simp at h3; exact h3 this
        rw [getD_set hne]
        exact (i.env j t' hj).step s
  · simp at hd

/-- An effect on the blocks, as a list and as a function. -/
def Eff.fits (H : Heap) : Eff → Prop
  | .app id _ _ => id < H.length
  | .upd id _ => id < H.length
  | _ => True

theorem opSem_fits {K : OpK} {args : List AVal} {H : Heap} {fresh : Nat} {v : AVal} {e : Eff} (h : opSem K args H fresh = some (v, e)) : e.fits H := by
  unfold opSem at h
  split at h <;> try (simp only [Option.some.injEq, Prod.mk.injEq, Option.map_eq_some_iff, Prod.exists, Option.ite_none_right_eq_some, Option.ite_none_left_eq_some] at h)
  all_goals try (obtain ⟨_, rfl⟩ := h; trivial)
  all_goals try (obtain ⟨_, _, rfl⟩ := h; trivial)
  all_goals try (obtain ⟨_, _, _, rfl⟩ := h; trivial)
  all_goals try (obtain ⟨_, _, _, _, rfl⟩ := h; trivial)
  all_goals try (obtain ⟨_, _, _, _, _, rfl⟩ := h; trivial)
  all_goals try (cases h; done)
  all_goals try (replace h := h.2)
  all_goals (repeat' (split at h))
  all_goals try (cases h; done)
  all_goals try (simp only [Option.some.injEq, Prod.mk.injEq, Option.map_eq_some_iff, Prod.exists] at h)
  all_goals first
    | (obtain ⟨_, rfl⟩ := h; first | trivial | exact heap_at_lt (by assumption))
    | (obtain ⟨_, _, _, rfl⟩ := h; first | trivial | exact heap_at_lt (by assumption))
    | (obtain ⟨_, _, _, _, rfl⟩ := h; first | trivial | exact heap_at_lt (by assumption))

theorem apply_at {H : Heap} {e : Eff} (h : e.fits H) : (e.apply H).at = e.applyF H.at H.length := by
  funext j
  cases e with
  | none => rfl
  | new esz xs =>
    simp only [Eff.apply, Eff.applyF, newBlk, upd]
    rw [at_append]
    by_cases h1 : j < H.length
    · rw [if_pos h1, if_neg (by omega)]
    · rw [if_neg h1]
      by_cases h2 : j = H.length
      · subst h2; simp [Heap.at]
      · rw [if_neg h2, heap_at_none (by simp; omega), heap_at_none (by omega)]
  | app id esz xs =>
    simp only [Eff.fits] at h
    simp only [Eff.apply, Eff.applyF, newBlk, upd]
    rw [at_append]
    simp only [List.length_set]
    by_cases h1 : j < H.length
    · rw [if_pos h1, if_neg (by omega), at_set]
      by_cases h2 : j = id
      · rw [if_pos ⟨h2, h⟩, if_pos h2]
      · rw [if_neg (fun h => h2 h.1), if_neg h2]
    · rw [if_neg h1]
      by_cases h2 : j = H.length
      · subst h2; simp [Heap.at]
      · rw [if_neg h2, heap_at_none (by simp; omega)]
        rw [if_neg (by omega), heap_at_none (by omega)]
  | upd id b =>
    simp only [Eff.fits] at h
    simp only [Eff.apply, Eff.applyF, upd]
    rw [at_set]
    by_cases h2 : j = id
    · rw [if_pos ⟨h2, h⟩, if_pos h2]
    · rw [if_neg (fun h => h2 h.1), if_neg h2]
end
end Go.Ash
/- One operation of a region, calls included, is sound: the step. -/
namespace Go.Ash
section
variable {L : Link} {N : Nat → Prop} {w : World} {m : PMap} {okb : Nat → Bool} {slots : List Nat} {nt : Nat} {E : List (Option Nat)} {a : Act} {st : St} {env : List AVal}

theorem wanted_ok (i : Inv L N slots nt E a w m st env) {o : Oper} {g : Option (Nat × Bool)} {ops : Array Oper} (hc : chkGuard E ops o.guard g = true) {b : Bool}
    (hw : wantedA env g = some b) : Region.wanted o (yielded ops a.tmps) = b := by
  unfold chkGuard at hc
  split at hc
  · rename_i h1
    simp [wantedA] at hw; subst hw
    simp [Region.wanted, h1]
  · rename_i j want k want' h1
    simp only [Bool.and_eq_true, beq_iff_eq] at hc
    obtain ⟨rfl, hc⟩ := hc
    split at hc
    · rename_i t ht
      simp only [decide_eq_true_eq] at hc
      have hr := i.env k t ht
      simp only [wantedA] at hw
      have hy : yielded ops a.tmps j = match a.tmps[t]? with | some (.bool b) => some b | _ => none := by
        unfold yielded
        rw [hc]; rfl
      simp only [Region.wanted, h1, hy]
      cases hg : gd env k <;> rw [hg] at hw hr <;> try (simp at hw; done)
      · rename_i b'
        have hv := hr.bool_inv
        simp only [Option.some.injEq] at hw
        subst hw
        have : a.tmps[t]? = some (.bool b') := by
          rw [Array.getD_eq_getD_getElem?] at hv
          cases h : a.tmps[t]? with
          | none => rw [h] at hv; simp [undef] at hv
          | some x => rw [h] at hv; simp at hv; rw [hv]
        rw [this]
        cases b' <;> cases want <;> rfl
      · rename_i vs
        cases vs with
        | nil =>
          simp only [Option.some.injEq] at hw
          subst hw
          rw [Array.getD_eq_getD_getElem?] at hr
          cases h : a.tmps[t]? with
          | none => rfl
          | some x =>
            rw [h] at hr; simp at hr
            cases hr; rfl
        | cons x xs => simp at hw
    · simp at hc
  · simp at hc

theorem run_callFunc (hl : LinkOk L okb) {f : Nat} (hok : L.ok f) (args : Array Value) (w : World) : (callFunc (L.fn f) args).run L.P w = .ok (.enter (L.fn f) args) w := by
  obtain ⟨gf, c, h1, h2, h3⟩ := hl.fns f hok
  simp [callFunc, h1, h2, h3]

theorem run_call_value (hl : LinkOk L okb) {o : Oper} {c : Call} {x : Operand} {f : Nat} {first cap : Array Value} {ρ : Operand → Value} (ho : o.op = .call c)
    (hc : c.callee = .value x) (hx : ρ x = .func (.func (L.fn f)) first cap) (hok : L.ok f) (w : World) :
    (execOp ρ o).run L.P w = .ok (.enter (L.fn f) (first ++ c.args.map ρ ++ cap)) w := by
  have := run_callFunc hl hok (first ++ c.args.map ρ ++ cap) w
  simp only [execOp, ho, resolve, hc, hx, Deferred.ofValue, Sem.run_bind, Sem.run_pure, Result.andThen_ok, invoke, this]

theorem args_reps {B : Nat → Prop} {ρ : Operand → Value} {xs : Array Operand} {vs : List AVal} (h : Args L w B m ρ xs.toList vs) :
    (xs.map ρ).size = vs.length ∧ ∀ (i : Nat) (c : AVal), vs[i]? = some c → Reps L w B m ((xs.map ρ).getD i undef) c := args_arr h

theorem reps_append {B : Nat → Prop} {as bs : Array Value} {vs us : List AVal} (hl : as.size = vs.length)
    (ha : ∀ (i : Nat) (c : AVal), vs[i]? = some c → Reps L w B m (as.getD i undef) c) (hb : ∀ (i : Nat) (c : AVal), us[i]? = some c → Reps L w B m (bs.getD i undef) c) :
    ∀ (i : Nat) (c : AVal), (vs ++ us)[i]? = some c → Reps L w B m ((as ++ bs).getD i undef) c := by
  intro i c hc
  rw [Array.getD_eq_getD_getElem?]
  by_cases h : i < vs.length
  · rw [List.getElem?_append_left h] at hc
    rw [Array.getElem?_append_left (by omega)]
    have := ha i c hc
    rwa [Array.getD_eq_getD_getElem?] at this
  · rw [List.getElem?_append_right (by omega)] at hc
    rw [Array.getElem?_append_right (by omega), hl]
    have := hb _ c hc
    rwa [Array.getD_eq_getD_getElem?] at this

theorem anyCall_ok {call : CallF} (hcall : CallOk L call) {raw : Bool} {f : Nat} {args : List AVal} {H H' : Heap} {v : AVal} (hs : anyCall call raw f args H = some (v, H')) (hok : L.ok f)
    (s : Sim L N w H.at m) (d : Dom H m) {us : Array Value} (hl : us.size = args.length) (hr : ∀ (i : Nat) (c : AVal), args[i]? = some c → Reps L w (Bof N H.at m) m (us.getD i undef) c) :
    Calls L.P (L.fn f) us w fun e w' => ∃ u m', e = .returned u ∧ Step L N w H.at m w' H'.at m' ∧ Dom H' m' ∧ H.length ≤ H'.length ∧ (∀ j, j < H.length → m' j = m j) ∧
      Reps L w' (Bof N H'.at m') m' u v := by
  unfold anyCall at hs
  split at hs
  · exact rawCall_ok hcall hs hok s d hl hr
  · simp only [Option.bind_eq_some_iff, Option.map_eq_some_iff] at hs
    obtain ⟨⟨ts, H1⟩, hh, t, ht, he⟩ := hs
    simp only [Prod.mk.injEq] at he
    obtain ⟨rfl, rfl⟩ := he
    obtain ⟨st1, hlen1, hlen2, hids, hr1⟩ := handOn_ok s hh hr
    refine (pureCall_ok hcall ht hok st1.sim hids (by rw [hlen2]; exact hl) hr1).mono ?_
    rintro e w' ⟨u, rfl, hext, hru⟩
    have st2 := Step.world st1.sim hext
    exact ⟨u, m, rfl, st1.trans st2, fun id p hp => by rw [hlen1]; exact d id p hp, by rw [hlen1]; exact Nat.le_refl _, fun _ _ => rfl, hru⟩

theorem stepOp_plain {call : CallF} {K : OpK} {vs : List AVal} {H : Heap} (h : notCall K = true) :
    stepOp call K vs H = (opSem K vs H H.length).map fun (v, e) => (v, e.apply H) := by
  cases K <;> first | rfl | (simp [notCall] at h)

theorem opStep (hn : slots.Nodup) (hl : LinkOk L okb) {call : CallF} (hcall : CallOk L call) (i : Inv L N slots nt E a w m st env) {o : Oper} {r : ROp} {ops : Array Oper}
    (hchk : chkROp L.P L.fn L.ty okb slots nt ops E o r = true) {v : AVal} {st' : St} (hs : stepROp call r env st = some (v, st')) {K : Act → World → Prop} {Q : Exit → Act → World → Prop}
    (hK : ∀ u w' m', Fwd w st.heap.at m w' st'.heap.at m' → (∀ j, j < st.heap.length → m' j = m j) → st.heap.length ≤ st'.heap.length →
      Inv L N slots nt (o.dst :: E) (a.put o.dst u) w' m' st' (v :: env) → K (a.put o.dst u) w') :
    if Region.wanted o (yielded ops a.tmps) then o.wp L.P a w K Q else K (a.put o.dst undef) w := by
  unfold chkROp at hchk
  simp only [Bool.and_eq_true] at hchk
  obtain ⟨⟨h1, h2⟩, h3⟩ := hchk
  unfold stepROp at hs
  cases hw : wantedA env r.guard with
  | none => rw [hw] at hs; simp at hs
  | some b =>
    rw [hw] at hs
    have hwant := wanted_ok i h3 hw
    cases b with
    | false =>
      rw [hwant, if_neg (by simp)]
      simp only [Option.some.injEq, Prod.mk.injEq] at hs
      obtain ⟨rfl, rfl⟩ := hs
      have hst : st.put r.dst (.tup []) = { st with heap := st.heap }.put r.dst (.tup []) := rfl
      have hheap : (st.put r.dst (.tup [])).heap = st.heap := by cases r.dst <;> rfl
      refine hK undef w m (by rw [hheap]; exact Fwd.refl _ _ _) (fun _ _ => rfl) (by rw [hheap]; exact Nat.le_refl _) ?_
      rw [hst]
      exact i.put hn h2 (Step.refl i.sim) i.dom (.tup #[] [] rfl (fun i c hc => by simp at hc))
    | true =>
      rw [hwant, if_pos rfl]
      simp only at hs
      split at hs
      case isFalse => simp at hs
      case isTrue hap =>
      split at hs
      case h_2 => simp at hs
      case h_1 x v0 H' hstep =>
      simp only [Option.some.injEq, Prod.mk.injEq] at hs
      obtain ⟨rfl, rfl⟩ := hs
      have hheap : ({ st with heap := H' }.put r.dst v0).heap = H' := by cases r.dst <;> rfl
      -- what is left, once the operation has given its value
      have fin : ∀ u w' m', Step L N w st.heap.at m w' H'.at m' → Dom H' m' → st.heap.length ≤ H'.length → (∀ j, j < st.heap.length → m' j = m j) →
          Reps L w' (Bof N H'.at m') m' u v0 → K (a.put o.dst u) w' := by
        intro u w' m' hst hd hlen hpin hr
        exact hK u w' m' (by rw [hheap]; exact hst.toFwd) hpin (by rw [hheap]; exact hlen) (i.put hn h2 hst hd hr)
      cases hops : opsOf L.P L.fn L.ty okb o.op r.k with
      | none => rw [hops] at h1; simp at h1
      | some xs =>
        rw [hops] at h1
        simp only at h1
        have hargs := chkOpds_ok hl i xs r.args h1
        by_cases hnc : notCall r.k = true
        · -- no call
          have hsem : ∃ e, opSem r.k (r.args.map (st.opd env)) st.heap st.heap.length = some (v0, e) ∧ H' = e.apply st.heap := by
            rw [stepOp_plain hnc] at hstep
            simp only [Option.map_eq_some_iff] at hstep
            obtain ⟨⟨v1, e⟩, he1, he2⟩ := hstep
            simp only [Prod.mk.injEq] at he2
            obtain ⟨rfl, rfl⟩ := he2
            exact ⟨e, he1, rfl⟩
          obtain ⟨e, hsem, rfl⟩ := hsem
          have hfit := opSem_fits hsem
          have hfr : st.heap.at st.heap.length = none := heap_at_none (Nat.le_refl _)
          have hmf : m st.heap.length = none := by
            cases h : m st.heap.length with
            | none => rfl
            | some p => exact absurd (i.dom _ _ h) (Nat.lt_irrefl _)
          obtain ⟨rr, w', m', hrun, hplain, hst, hm', hfn, hrep⟩ := (op_sound i.sim hfr hmf (fun _ => rfl) hnc hl.ok hops hargs hsem).does
          rw [← apply_at hfit] at hst hrep hfn
          have hlen : st.heap.length ≤ (e.apply st.heap).length := by
            cases e <;> simp [Eff.apply, newBlk]
          have hdom : Dom (e.apply st.heap) m' := by
            intro id p hp
            by_cases hid : id = st.heap.length
            · rcases Nat.lt_or_ge id (e.apply st.heap).length with h | h
              · exact h
              · have := hfn (heap_at_none (by omega))
                rw [hid, this] at hp; cases hp
            · rw [hm' id hid] at hp
              exact Nat.lt_of_lt_of_le (i.dom id p hp) hlen
          have hfin := fin (nextVal rr) w' m' hst hdom hlen (fun j hj => hm' j (by omega)) hrep
          unfold Oper.wp
          rw [hrun]
          cases rr <;> first | (exact hplain.elim) | exact hfin
        · -- a call
          have hk : (∃ raw f, r.k = .call raw f) ∨ (∃ raw, r.k = .callv raw) := by
            cases hk : r.k <;> rw [hk] at hnc <;> first | exact .inl ⟨_, _, rfl⟩ | exact .inr ⟨_, rfl⟩ | (simp [notCall] at hnc)
          rcases hk with ⟨raw, f, hk⟩ | ⟨raw, hk⟩
          · rw [hk] at hops hstep
            cases hop : o.op <;> rw [hop] at hops <;> simp only [opsOf] at hops <;> try (simp at hops; done)
            rename_i c
            split at hops
            · rename_i g hcal
              split at hops
              · rename_i hcond
                simp only [Option.some.injEq] at hops
                subst hops
                obtain ⟨rfl, hokb⟩ := hcond
                have hok := hl.ok f hokb
                have hrun := run_call_value (ρ := a.eval) hl hop hcal (f := f) (first := #[]) (cap := #[]) rfl hok w
                simp only [Array.empty_append, Array.append_empty] at hrun
                obtain ⟨hsz, hreps⟩ := args_reps hargs
                have hc := anyCall_ok hcall hstep hok i.sim i.dom hsz hreps
                unfold Oper.wp
                rw [hrun]
                refine hc.mono ?_
                rintro e w' ⟨u, m', rfl, hst, hd, hlen, hpin, hru⟩
                exact fin u w' m' hst hd hlen hpin hru
              · simp at hops
            · simp at hops
          · rw [hk] at hops hstep
            cases hop : o.op <;> rw [hop] at hops <;> simp only [opsOf] at hops <;> try (simp at hops; done)
            rename_i c
            split at hops
            · rename_i x hcal
              simp only [Option.some.injEq] at hops
              subst hops
              cases hra : r.args.map (st.opd env) with
              | nil => rw [hra] at hargs; cases hargs
              | cons fv vs =>
                rw [hra] at hargs hstep
                cases hargs with
                | cons hf hargs =>
                  have hfn : ∃ f first cap, fv = .fn f first cap ∧ anyCall call raw f (first ++ vs ++ cap) st.heap = some (v0, H') := by
                    cases fv <;> first | exact ⟨_, _, _, rfl, hstep⟩ | (simp [stepOp, opSem] at hstep)
                  obtain ⟨f, first, cap, rfl, hany⟩ := hfn
                  generalize hxv : a.eval x = fx at hf
                  cases hf with
                  | fn _ _ _ vf vc hok hf1 hc1 rf rc =>
                    have hrun := run_call_value (ρ := a.eval) hl hop hcal (f := f) hxv hok w
                    obtain ⟨hsz, hreps⟩ := args_reps hargs
                    have hr1 := reps_append hf1 rf hreps
                    have hsz1 : (vf ++ c.args.map a.eval).size = (first ++ vs).length := by simp only [Array.size_append, List.length_append, hf1, hsz]
                    have hr2 := reps_append hsz1 hr1 rc
                    have hsz2 : (vf ++ c.args.map a.eval ++ vc).size = (first ++ vs ++ cap).length := by simp only [Array.size_append, List.length_append, hf1, hsz, hc1]
                    have hc := anyCall_ok hcall hany hok i.sim i.dom hsz2 hr2
                    unfold Oper.wp
                    rw [hrun]
                    refine hc.mono ?_
                    rintro e w' ⟨u, m', rfl, hst, hd, hlen, hpin, hru⟩
                    exact fin u w' m' hst hd hlen hpin hru
            · simp at hops
end
end Go.Ash
