/- Each operation of the abstract code, but for calls, does in the model what it does here. -/
import Derived.Test.YtaojijahpdnjhaaAshOps5
set_option linter.all false
namespace Go.Ash
section
variable {L : Link} {N : Nat → Prop} {w : World} {H : Heap} {m : PMap} {ρ : Operand → Value} {o : Oper} {okb : Nat → Bool}

def Eff.applyF (h : HF) (fresh : Nat) : Eff → HF
  | .none => h
  | .new esz xs => Ash.upd h fresh (some ⟨false, esz, xs⟩)
  | .app id esz xs => Ash.upd (Ash.upd h id Option.none) fresh (some ⟨false, esz, xs⟩)
  | .upd id b => Ash.upd h id (some b)

theorem arr_one {α : Type} {a : Array α} (h : a.size = 1) : ∃ x, a = #[x] := by
  obtain ⟨l⟩ := a
  cases l with
  | nil => simp at h
  | cons x xs => cases xs with
    | nil => exact ⟨x, rfl⟩
    | cons y ys => simp at h
theorem arr_two {α : Type} {a : Array α} (h : a.size = 2) : ∃ x y, a = #[x, y] := by
  obtain ⟨l⟩ := a
  cases l with
  | nil => simp at h
  | cons x xs => cases xs with
    | nil => simp at h
    | cons y ys => cases ys with
      | nil => exact ⟨x, y, rfl⟩
      | cons z zs => simp at h

theorem bounds_zero {n : Nat} {hi mx : Bool} {vs : List AVal} {l h : Nat} (hb : bounds n false hi mx vs = some (l, h)) : l = 0 := by
  cases hi <;> cases mx <;> rcases vs with _ | ⟨a, _ | ⟨b, _ | ⟨c, d⟩⟩⟩ <;> simp only [bounds] at hb <;> try (simp at hb; done)
  · simp only [Option.some.injEq, Prod.mk.injEq] at hb; exact hb.1.symm
  · simp only [Option.map_eq_some_iff, Prod.mk.injEq] at hb; obtain ⟨_, _, h1, _⟩ := hb; exact h1.symm
  · simp only [Option.bind_eq_some_iff, Option.map_eq_some_iff, Prod.mk.injEq] at hb; obtain ⟨_, _, _, _, h1, _⟩ := hb; exact h1.symm

def notCall : OpK → Bool
  | .call .. | .callv .. => false
  | _ => true

set_option maxHeartbeats 1000000 in
theorem op_sound (s : Sim L N w H.at m) {fresh : Nat} (hf : H.at fresh = none) (hmf : m fresh = none) (hρ : ∀ v, ρ (.const v) = v) {K : OpK} (hnc : notCall K = true) {xs : List Operand}
    {args : List AVal} {v : AVal} {e : Eff} (hok : ∀ g, okb g = true → L.ok g) (hk : opsOf L.P L.fn L.ty okb o.op K = some xs) (hargs : Args L w (Bof N H.at m) m ρ xs args)
    (hsem : opSem K args H fresh = some (v, e)) : Does L N w H.at m ρ o v (e.applyF H.at fresh) fresh := by
  generalize hop : o.op = op at hk
  cases K with
  | mov =>
    have : ∃ x, xs = [x] ∧ (op = .move x ∨ op = .assign x) := by
      cases op <;> simp [opsOf] at hk <;> subst hk <;> exact ⟨_, rfl, by simp⟩
    obtain ⟨x, rfl, ho⟩ := this
    obtain ⟨a, rfl, hr⟩ := All2.one hargs
    simp [opSem] at hsem
    obtain ⟨rfl, rfl⟩ := hsem
    exact (gives_mov (by rw [hop]; exact ho) hr).does s hmf
  | pick =>
    have : ∃ c x y, xs = [c, x, y] ∧ op = .pick c x y := by
      cases op <;> simp [opsOf] at hk <;> subst hk <;> exact ⟨_, _, _, rfl, rfl⟩
    obtain ⟨c, x, y, rfl, rfl⟩ := this
    cases hargs with
    | cons h1 h2 =>
      obtain ⟨b1, b2, rfl, h3, h4⟩ := All2.two h2
      rename_i a0
      cases a0 <;> simp only [opSem] at hsem <;> try (simp at hsem; done)
      simp only [Option.some.injEq, Prod.mk.injEq] at hsem
      obtain ⟨rfl, rfl⟩ := hsem
      exact (gives_pick hop h1 h3 h4).does s hmf
  | box =>
    have : ∃ t x, xs = [x] ∧ op = .box t x := by
      cases op <;> simp [opsOf] at hk <;> subst hk <;> exact ⟨_, _, rfl, rfl⟩
    obtain ⟨t, x, rfl, rfl⟩ := this
    obtain ⟨a, rfl, hr⟩ := All2.one hargs
    simp only [opSem] at hsem
    split at hsem
    · rename_i hc
      simp only [Option.some.injEq, Prod.mk.injEq] at hsem
      obtain ⟨rfl, rfl⟩ := hsem
      exact does_box s hf hmf hop hr hc
    · simp at hsem
  | alloc zero =>
    cases op <;> simp only [opsOf] at hk <;> try (simp at hk; done)
    rename_i t
    split at hk
    · rename_i z hz
      split at hk
      · rename_i hzr
        simp only [Option.some.injEq] at hk
        subst hk
        cases hargs
        simp only [opSem] at hsem
        split at hsem
        · simp only [Option.some.injEq, Prod.mk.injEq] at hsem
          obtain ⟨rfl, rfl⟩ := hsem
          exact does_alloc s hf hmf hop hz hzr
        · simp at hsem
      · simp at hk
    · simp at hk
  | build zero ps =>
    cases op <;> simp only [opsOf] at hk <;> try (simp at hk; done)
    split at hk
    · rename_i z fields hz ht
      split at hk
      · rename_i hcond
        simp only [Option.some.injEq] at hk
        subst hk
        simp only [Bool.and_eq_true, decide_eq_true_eq] at hcond
        obtain ⟨⟨h1, h2⟩, h3⟩ := hcond
        simp only [opSem, Option.map_eq_some_iff] at hsem
        obtain ⟨cs, hcs, he⟩ := hsem
        simp only [Prod.mk.injEq] at he
        obtain ⟨rfl, rfl⟩ := he
        exact (gives_build hop hz ht h1 h2 h3 hargs hcs).does s hmf
      · simp at hk
    · simp at hk
  | bslice esz zero len idx =>
    cases op <;> simp only [opsOf] at hk <;> try (simp at hk; done)
    split at hk
    · rename_i e0 ht
      split at hk
      · rename_i i z hi hz
        split at hk
        · rename_i hcond
          simp only [Option.some.injEq] at hk
          subst hk
          simp only [Bool.and_eq_true, decide_eq_true_eq] at hcond
          obtain ⟨⟨⟨⟨⟨⟨⟨h1, h2⟩, h3⟩, h4⟩, h5⟩, h6⟩, h7⟩, h8⟩ := hcond
          subst h5
          simp only [opSem] at hsem
          split at hsem
          · rename_i hg
            simp only [Option.map_eq_some_iff] at hsem
            obtain ⟨xs', hxs, he⟩ := hsem
            simp only [Prod.mk.injEq] at he
            obtain ⟨rfl, rfl⟩ := he
            refine does_bslice s hf hmf hop ht hi hz h1 h2 h3 h4 h6 ?_ hargs hg (by rw [h7]; exact hxs)
            intro q hq
            have := List.all_eq_true.1 h8 q.1 (by rw [← h7]; exact List.mem_map.2 ⟨q, hq, rfl⟩)
            simpa using this
          · simp at hsem
        · simp at hk
      · simp at hk
    · simp at hk
  | load agg sz =>
    cases op <;> simp only [opsOf] at hk <;> try (simp at hk; done)
    rename_i t x
    split at hk
    · rename_i hcond
      simp only [Option.some.injEq] at hk
      subst hk
      obtain ⟨h1, h2, _⟩ := hcond
      obtain ⟨a, rfl, hr⟩ := All2.one hargs
      cases a <;> simp only [opSem] at hsem <;> try (simp at hsem; done)
      · simp only [Option.map_eq_some_iff] at hsem
        obtain ⟨u, hu, he⟩ := hsem
        simp only [Prod.mk.injEq] at he
        obtain ⟨rfl, rfl⟩ := he
        exact (gives_load_ptr hop h1 h2 hr hu).does s hmf
      · split at hsem
        · rename_i b hb
          split at hsem
          · rename_i el hel
            simp only [Option.map_eq_some_iff] at hsem
            obtain ⟨u, hu, he⟩ := hsem
            simp only [Prod.mk.injEq] at he
            obtain ⟨rfl, rfl⟩ := he
            exact (gives_load_mptr s hop h1 h2 hr hb hel hu).does s hmf
          · simp at hsem
        · simp at hsem
    · simp at hk
  | store sz =>
    cases op <;> simp only [opsOf] at hk <;> try (simp at hk; done)
    split at hk
    · rename_i hcond
      simp only [Option.some.injEq] at hk
      subst hk
      obtain ⟨a, b, rfl, hr, hr2⟩ := All2.two hargs
      cases a <;> simp only [opSem] at hsem <;> try (simp at hsem; done)
      split at hsem
      · rename_i bl hb
        split at hsem
        · rename_i el hel
          split at hsem
          · simp at hsem
          · rename_i hfz
            split at hsem
            · rename_i hc
              simp only [Option.map_eq_some_iff] at hsem
              obtain ⟨u, hu, he⟩ := hsem
              simp only [Prod.mk.injEq] at he
              obtain ⟨rfl, rfl⟩ := he
              exact does_store s hmf hop hcond.1 hcond.2 hr hr2 hb hel (by simpa using hfz) hc.1 hc.2 hu
            · simp at hsem
        · simp at hsem
      · simp at hsem
    · simp at hk
  | nilck =>
    have : ∃ x, xs = [x] ∧ op = .nilCheck x := by
      cases op <;> simp [opsOf] at hk <;> subst hk <;> exact ⟨_, rfl, rfl⟩
    obtain ⟨x, rfl, rfl⟩ := this
    obtain ⟨a, rfl, hr⟩ := All2.one hargs
    have : isRef a = true ∧ v = a ∧ e = .none := by
      cases a <;> simp [opSem] at hsem <;> simp [isRef, hsem]
    obtain ⟨h1, rfl, rfl⟩ := this
    exact (gives_nilck hop hr h1).does s hmf
  | bin op' =>
    cases op <;> simp only [opsOf] at hk <;> try (simp at hk; done)
    split at hk
    · rename_i he
      subst he
      simp only [Option.some.injEq] at hk
      subst hk
      obtain ⟨a, b, rfl, hr, hr2⟩ := All2.two hargs
      simp only [opSem, Option.map_eq_some_iff] at hsem
      obtain ⟨u, hu, he⟩ := hsem
      simp only [Prod.mk.injEq] at he
      obtain ⟨rfl, rfl⟩ := he
      exact (gives_bin hop hr hr2 hu).does s hmf
    · simp at hk
  | beq neg =>
    have : ∃ t x y u, xs = [x, y] ∧ op = .binOp (if neg then .neq else .eql) t x y u ∧ L.P.underlying t = some .bool := by
      cases op <;> simp only [opsOf] at hk <;> try (simp at hk; done)
      rename_i bo t x y u
      cases neg <;> cases bo <;> simp only [opsOf] at hk <;> try (simp at hk; done)
      all_goals
        split at hk
        · rename_i hb
          simp only [Option.some.injEq] at hk
          subst hk
          exact ⟨t, x, y, u, rfl, by simp, isBoolT_spec hb⟩
        · simp at hk
    obtain ⟨t, x, y, u, rfl, ho, ht⟩ := this
    obtain ⟨a, b, rfl, hr, hr2⟩ := All2.two hargs
    cases a <;> simp only [opSem] at hsem <;> try (simp at hsem; done)
    cases b <;> simp only [opSem] at hsem <;> try (simp at hsem; done)
    simp only [Option.some.injEq, Prod.mk.injEq] at hsem
    obtain ⟨rfl, rfl⟩ := hsem
    exact (gives_beq (by rw [hop]; exact ho) ht hr hr2).does s hmf
  | eqnil neg kd =>
    cases op <;> simp only [opsOf] at hk <;> try (simp at hk; done)
    rename_i bo t x y u
    by_cases hcond : bo = (if neg then BinOp.neq else .eql) ∧ nilKind L.P t = some kd ∧ nilOpd y = some kd
    · rw [if_pos hcond] at hk
      simp only [Option.some.injEq] at hk
      subst hk
      obtain ⟨h1, h2, h3⟩ := hcond
      obtain ⟨a, rfl, hr⟩ := All2.one hargs
      simp only [opSem, Option.map_eq_some_iff] at hsem
      obtain ⟨u, hu, he⟩ := hsem
      simp only [Prod.mk.injEq] at he
      obtain ⟨rfl, rfl⟩ := he
      exact (gives_eqnil (by rw [hop, h1]) hρ h2 h3 hr hu).does s hmf
    · rw [if_neg hcond] at hk; simp at hk
  | un op' =>
    cases op <;> simp only [opsOf] at hk <;> try (simp at hk; done)
    split at hk
    · rename_i he
      subst he
      simp only [Option.some.injEq] at hk
      subst hk
      obtain ⟨a, rfl, hr⟩ := All2.one hargs
      simp only [opSem, Option.map_eq_some_iff] at hsem
      obtain ⟨u, hu, he⟩ := hsem
      simp only [Prod.mk.injEq] at he
      obtain ⟨rfl, rfl⟩ := he
      exact (gives_un hop hr hu).does s hmf
    · simp at hk
  | conv k =>
    cases op <;> simp only [opsOf] at hk <;> try (simp at hk; done)
    split at hk
    · rename_i ds k' hs hd
      split at hk
      · rename_i he
        subst he
        simp only [Option.some.injEq] at hk
        subst hk
        obtain ⟨a, rfl, hr⟩ := All2.one hargs
        cases a <;> simp only [opSem] at hsem <;> try (simp at hsem; done)
        simp only [Option.some.injEq, Prod.mk.injEq] at hsem
        obtain ⟨rfl, rfl⟩ := hsem
        exact (gives_conv hop hs hd hr).does s hmf
      · simp at hk
    · simp at hk
  | bytesToStr =>
    cases op <;> simp only [opsOf] at hk <;> try (simp at hk; done)
    split at hk
    · rename_i e hs
      split at hk
      · rename_i he
        split at hk
        · rename_i hd
          simp only [Option.some.injEq] at hk
          subst hk
          obtain ⟨a, rfl, hr⟩ := All2.one hargs
          simp only [opSem] at hsem
          split at hsem
          · rename_i l hl
            simp only [Option.map_eq_some_iff, Prod.mk.injEq] at hsem
            obtain ⟨ns, hb, rfl, rfl⟩ := hsem
            exact (gives_b2s s hop hs he (isStrT_spec hd) hr hl hb).does s hmf
          · simp at hsem
        · simp at hk
      · simp at hk
    · simp at hk
  | mkif t =>
    cases op <;> simp only [opsOf] at hk <;> try (simp at hk; done)
    split at hk
    · simp at hk
    · rename_i d hni hd
      split at hk
      · rename_i he
        simp only [Option.some.injEq] at hk
        subst hk
        obtain ⟨a, rfl, hr⟩ := All2.one hargs
        simp only [opSem, Option.some.injEq, Prod.mk.injEq] at hsem
        obtain ⟨rfl, rfl⟩ := hsem
        exact (gives_mkif hop hd (fun ms h => hni ms (by rw [h])) he hr).does s hmf
      · simp at hk
    · simp at hk
  | mkfn f n =>
    cases op <;> try (simp [opsOf] at hk; done)
    rename_i fnn first cap
    cases fnn <;> simp only [opsOf] at hk <;> try (simp at hk; done)
    split at hk
    · rename_i hcond
      simp only [Option.some.injEq] at hk
      subst hk
      obtain ⟨h1, h2, rfl⟩ := hcond
      simp only [opSem, Option.some.injEq, Prod.mk.injEq] at hsem
      obtain ⟨rfl, rfl⟩ := hsem
      exact (gives_mkfn hop h1 (hok _ h2) hargs).does s hmf
    · simp at hk
  | mkslice esz zero bytes =>
    cases op <;> simp only [opsOf] at hk <;> try (simp at hk; done)
    split at hk
    · rename_i e0 ht
      split at hk
      · rename_i i z hi hz
        split at hk
        · rename_i hcond
          simp only [Option.some.injEq] at hk
          subst hk
          simp only [Bool.and_eq_true, decide_eq_true_eq] at hcond
          obtain ⟨⟨⟨⟨h1, h2⟩, h3⟩, h4⟩, h5⟩ := hcond
          obtain ⟨a, b, rfl, hr, hr2⟩ := All2.two hargs
          cases a <;> simp only [opSem] at hsem <;> try (simp at hsem; done)
          cases b <;> simp only [opSem] at hsem <;> try (simp at hsem; done)
          split at hsem
          · rename_i hc
            simp only [Option.some.injEq, Prod.mk.injEq] at hsem
            obtain ⟨rfl, rfl⟩ := hsem
            exact does_mkslice s hf hmf hop ht hi hz h1 h2 h3 h5 hr hr2 hc.1 hc.2.1 hc.2.2.1 hc.2.2.2
          · simp at hsem
        · simp at hk
      · simp at hk
    · simp at hk
  | slice esz bl bh bm =>
    cases op <;> simp only [opsOf] at hk <;> try (simp at hk; done)
    split at hk
    · rename_i hcond
      obtain ⟨rfl, rfl, rfl⟩ := hcond
      split at hk
      · rename_i e0 ht0
        have ht := sliceOf_spec ht0
        split at hk
        · rename_i hsz
          simp only [Option.some.injEq] at hk
          subst hk
          cases hargs with
          | cons hr hrest =>
            rename_i lo hi mx a vs
            cases a <;> simp only [opSem] at hsem <;> try (simp at hsem; done)
            · split at hsem
              · rename_i hsz2
                simp only [Option.map_eq_some_iff] at hsem
                obtain ⟨⟨l, h⟩, hb, he⟩ := hsem
                simp only [Prod.mk.injEq] at he
                obtain ⟨rfl, rfl⟩ := he
                refine (gives_slice hop ht hsz hr hrest hb ?_).does s hmf
                rcases hsz2 with h1 | h1
                · left
                  rw [h1] at hb
                  exact bounds_zero hb
                · right
                  intro x hx
                  have := List.all_eq_true.1 h1 x hx
                  simpa using this
              · simp at hsem
            · split at hsem
              · rename_i b hb0
                split at hsem
                · rename_i hes
                  simp only [Option.map_eq_some_iff] at hsem
                  obtain ⟨⟨l, h⟩, hb, he⟩ := hsem
                  simp only [Prod.mk.injEq] at he
                  obtain ⟨rfl, rfl⟩ := he
                  obtain ⟨p, _, _, hp, hpe, _⟩ := s.blk _ b hb0
                  exact (gives_slice_m hop ht hsz hr hp (by rw [hpe, hes]) hrest hb).does s hmf
                · simp at hsem
              · simp at hsem
        · simp at hk
      · simp at hk
    · simp at hk
  | slices bl bh =>
    cases op <;> try (simp [opsOf] at hk; done)
    rename_i t x lo hi mx
    cases mx <;> simp only [opsOf] at hk <;> try (simp at hk; done)
    split at hk
    · rename_i hcond
      obtain ⟨rfl, rfl, ht⟩ := hcond
      simp only [Option.some.injEq] at hk
      subst hk
      cases hargs with
      | cons hr hrest =>
        rename_i a vs
        cases a <;> simp only [opSem] at hsem <;> try (simp at hsem; done)
        simp only [Option.map_eq_some_iff] at hsem
        obtain ⟨⟨l, h⟩, hb, he⟩ := hsem
        simp only [Prod.mk.injEq] at he
        obtain ⟨rfl, rfl⟩ := he
        exact (gives_slice_s hop (isStrT_spec ht) hr hrest hb).does s hmf
    · simp at hk
  | faddr off =>
    cases op <;> simp only [opsOf] at hk <;> try (simp at hk; done)
    split at hk
    · rename_i fields ht
      split at hk
      · rename_i fd hfd
        split at hk
        · rename_i hcond
          simp only [Option.some.injEq] at hk
          subst hk
          obtain ⟨a, rfl, hr⟩ := All2.one hargs
          cases a <;> simp only [opSem] at hsem <;> try (simp at hsem; done)
          · simp only [Option.some.injEq, Prod.mk.injEq] at hsem
            obtain ⟨rfl, rfl⟩ := hsem
            exact (gives_faddr hop ht hfd hcond.1 hcond.2 hr (.inl ⟨_, rfl, rfl⟩)).does s hmf
          · simp only [Option.some.injEq, Prod.mk.injEq] at hsem
            obtain ⟨rfl, rfl⟩ := hsem
            exact (gives_faddr hop ht hfd hcond.1 hcond.2 hr (.inr ⟨_, _, _, rfl, rfl⟩)).does s hmf
        · simp at hk
      · simp at hk
    · simp at hk
  | fld agg off sz =>
    cases op <;> simp only [opsOf] at hk <;> try (simp at hk; done)
    split at hk
    · rename_i fields ht
      split at hk
      · rename_i fd hfd
        split at hk
        · rename_i hcond
          simp only [Option.some.injEq] at hk
          subst hk
          obtain ⟨a, rfl, hr⟩ := All2.one hargs
          cases a <;> simp only [opSem] at hsem <;> try (simp at hsem; done)
          simp only [Option.map_eq_some_iff] at hsem
          obtain ⟨u, hu, he⟩ := hsem
          simp only [Prod.mk.injEq] at he
          obtain ⟨rfl, rfl⟩ := he
          exact (gives_fld hop ht hfd hcond.1 hcond.2.2.1 hcond.2.1 hr hu).does s hmf
        · simp at hk
      · simp at hk
    · simp at hk
  | iaddr esz =>
    cases op <;> simp only [opsOf] at hk <;> try (simp at hk; done)
    split at hk
    · rename_i e0 ht
      split at hk
      · rename_i hsz
        simp only [Option.some.injEq] at hk
        subst hk
        obtain ⟨a, b, rfl, hr, hr2⟩ := All2.two hargs
        cases a <;> simp only [opSem] at hsem <;> try (simp at hsem; done)
        · cases b <;> simp only [opSem] at hsem <;> try (simp at hsem; done)
          split at hsem
          · rename_i hb
            split at hsem
            · rename_i hcl
              simp only [Option.some.injEq, Prod.mk.injEq] at hsem
              obtain ⟨rfl, rfl⟩ := hsem
              exact (gives_iaddr hop ht hsz hr hr2 hb.1 hb.2 hcl).does s hmf
            · simp at hsem
          · simp at hsem
        · cases b <;> simp only [opSem] at hsem <;> try (simp at hsem; done)
          split at hsem
          · rename_i hb
            split at hsem
            · rename_i bl hbl
              split at hsem
              · rename_i hes
                simp only [Option.some.injEq, Prod.mk.injEq] at hsem
                obtain ⟨rfl, rfl⟩ := hsem
                exact (gives_iaddr_m s hop ht hsz hr hr2 hb.1 hb.2 hbl hes).does s hmf
              · simp at hsem
            · simp at hsem
          · simp at hsem
      · simp at hk
    · simp at hk
  | idx =>
    cases op <;> simp only [opsOf] at hk <;> try (simp at hk; done)
    split at hk
    · rename_i hb
      simp only [Option.some.injEq] at hk
      subst hk
      have ht := isStrT_spec hb
      obtain ⟨a, b, rfl, hr, hr2⟩ := All2.two hargs
      cases a <;> simp only [opSem] at hsem <;> try (simp at hsem; done)
      cases b <;> simp only [opSem] at hsem <;> try (simp at hsem; done)
      split at hsem
      · rename_i hb
        simp only [Option.some.injEq, Prod.mk.injEq] at hsem
        obtain ⟨rfl, rfl⟩ := hsem
        exact (gives_idx hop ht hr hr2 hb.1 hb.2).does s hmf
      · simp at hsem
    · simp at hk
  | extract i =>
    cases op <;> simp only [opsOf] at hk <;> try (simp at hk; done)
    split at hk
    · rename_i he
      subst he
      simp only [Option.some.injEq] at hk
      subst hk
      obtain ⟨a, rfl, hr⟩ := All2.one hargs
      cases a <;> simp only [opSem] at hsem <;> try (simp at hsem; done)
      simp only [Option.map_eq_some_iff] at hsem
      obtain ⟨u, hu, he⟩ := hsem
      simp only [Prod.mk.injEq] at he
      obtain ⟨rfl, rfl⟩ := he
      exact (gives_extract hop hr hu).does s hmf
    · simp at hk
  | tassert t agg =>
    cases op <;> simp only [opsOf] at hk <;> try (simp at hk; done)
    rename_i x s0 t0 ok0
    cases ok0 <;> simp only [opsOf] at hk <;> try (simp at hk; done)
    split at hk
    · simp at hk
    · rename_i d hni hd
      split at hk
      · rename_i he
        simp only [Option.some.injEq] at hk
        subst hk
        obtain ⟨a, rfl, hr⟩ := All2.one hargs
        cases a <;> simp only [opSem] at hsem <;> try (simp at hsem; done)
        split at hsem
        · rename_i htt
          subst htt
          simp only [Option.some.injEq, Prod.mk.injEq] at hsem
          obtain ⟨rfl, rfl⟩ := hsem
          exact (gives_tassert hop hd (fun ms h => hni ms (by rw [h])) he hr).does s hmf
        · simp at hsem
      · simp at hk
    · simp at hk
  | len str =>
    have : ∃ c x t, op = .call c ∧ c.callee = .builtin .len ∧ c.args = #[x] ∧ xs = [x] ∧ c.argTypes[0]? = some t ∧ (if str then isStrT L.P t else (sliceOf L.P t).isSome) = true := by
      cases op <;> simp only [opsOf] at hk <;> try (simp at hk; done)
      rename_i c
      split at hk
      · rename_i b hb
        cases b <;> simp only [builtinOps] at hk <;> try (simp at hk; done)
        split at hk
        · rename_i t ht
          by_cases hc : (if str then isStrT L.P t else (sliceOf L.P t).isSome) = true ∧ c.args.size = 1
          · rw [if_pos hc] at hk
            simp only [Option.some.injEq] at hk
            obtain ⟨x, hx⟩ := arr_one hc.2
            exact ⟨c, x, t, rfl, hb, hx, by rw [← hk, hx], ht, hc.1⟩
          · rw [if_neg hc] at hk; simp at hk
        · simp at hk
      · simp at hk
    obtain ⟨c, x, t, rfl, hc, hca, rfl, htt, ht⟩ := this
    obtain ⟨a, rfl, hr⟩ := All2.one hargs
    have hsl : str = false → ∃ e0, L.P.underlying t = some (.slice e0) := by
      intro hs
      subst hs
      simp only [Bool.false_eq_true, if_false] at ht
      obtain ⟨e0, he0⟩ := Option.isSome_iff_exists.1 ht
      exact ⟨e0, sliceOf_spec he0⟩
    cases a <;> simp only [opSem] at hsem <;> try (simp at hsem; done)
    · split at hsem
      · rename_i hs
        simp only [Option.some.injEq, Prod.mk.injEq] at hsem
        obtain ⟨rfl, rfl⟩ := hsem
        subst hs
        exact (gives_len_str hop hc hca htt (isStrT_spec (by simpa using ht)) hr).does s hmf
      · simp at hsem
    · split at hsem
      · simp at hsem
      · rename_i hs
        simp only [Option.some.injEq, Prod.mk.injEq] at hsem
        obtain ⟨rfl, rfl⟩ := hsem
        obtain ⟨e0, he0⟩ := hsl (by simpa using hs)
        exact (gives_len hop hc hca htt he0 hr rfl).does s hmf
    · split at hsem
      · simp at hsem
      · rename_i hs
        simp only [Option.some.injEq, Prod.mk.injEq] at hsem
        obtain ⟨rfl, rfl⟩ := hsem
        obtain ⟨e0, he0⟩ := hsl (by simpa using hs)
        exact (gives_len hop hc hca htt he0 hr rfl).does s hmf
  | app bytes esz =>
    have : ∃ c x y t e0 i z, op = .call c ∧ c.callee = .builtin .append ∧ c.args = #[x, y] ∧ xs = [x, y] ∧ ApTys L.P c t ∧ L.P.underlying t = some (.slice e0) ∧
        L.P.info? e0 = some i ∧ zeroOf L.P e0 = some z ∧ i.size = esz ∧ 0 < esz ∧ z.cells.size = esz ∧ i.bytes = bytes := by
      cases op <;> simp only [opsOf] at hk <;> try (simp at hk; done)
      rename_i c
      split at hk
      · rename_i b hb
        cases b <;> simp only [builtinOps] at hk <;> try (simp at hk; done)
        split at hk
        · rename_i t ht
          split at hk
          · rename_i hc
            split at hk
            · rename_i e0 he0
              split at hk
              · rename_i i z hi hz
                split at hk
                · rename_i hcc
                  simp only [Option.some.injEq] at hk
                  obtain ⟨x, y, hx⟩ := arr_two hc.2.2
                  exact ⟨c, x, y, t, e0, i, z, rfl, hb, hx, by rw [← hk, hx], argTypes_two ht hc.1 hc.2.1 (sliceOf_spec he0), sliceOf_spec he0, hi, hz, hcc.1, hcc.2.1, hcc.2.2.1, hcc.2.2.2⟩
                · simp at hk
              · simp at hk
            · simp at hk
          · simp at hk
        · simp at hk
      · simp at hk
    obtain ⟨c, x, y, t, e0, i, z, rfl, hc, hca, rfl, htt, ht, hi, hz, his, he, hzs, hb⟩ := this
    obtain ⟨a, b, rfl, hr, hr2⟩ := All2.two hargs
    simp only [opSem] at hsem
    split at hsem
    · simp at hsem
    · rename_i new hel
      split at hsem
      · simp at hsem
      · rename_i hg
        have hg' : goodElems esz new = true := by simpa using hg
        split at hsem
        · split at hsem
          · rename_i hn
            simp only [Option.some.injEq, Prod.mk.injEq] at hsem
            obtain ⟨rfl, rfl⟩ := hsem
            subst hn
            exact (gives_app_none s hop hc hca htt ht hi he hr hr2 hel).does s hmf
          · rename_i hn
            split at hsem
            · rename_i hm
              simp only [Option.some.injEq, Prod.mk.injEq] at hsem
              obtain ⟨rfl, rfl⟩ := hsem
              exact does_app_nil s hf hmf hop hc hca htt ht hi hz hzs his he hb hr hr2 hel hg' hn hm.1 hm.2
            · simp at hsem
        · split at hsem
          · rename_i bl hbl
            split at hsem
            · rename_i hm
              simp only [Option.some.injEq, Prod.mk.injEq] at hsem
              obtain ⟨rfl, rfl⟩ := hsem
              exact does_app s hf hmf hop hc hca htt ht hi hz hzs his he hb hr hr2 hel hg' hbl hm.1 hm.2.1 hm.2.2.1 hm.2.2.2.1 hm.2.2.2.2
            · simp at hsem
          · simp at hsem
        · simp at hsem
  | max =>
    have : ∃ c x y, op = .call c ∧ c.callee = .builtin .max ∧ c.args = #[x, y] ∧ xs = [x, y] := by
      cases op <;> simp only [opsOf] at hk <;> try (simp at hk; done)
      rename_i c
      split at hk
      · rename_i b hb
        cases b <;> simp only [builtinOps] at hk <;> try (simp at hk; done)
        split at hk
        · rename_i hc
          simp only [Option.some.injEq] at hk
          obtain ⟨x, y, hx⟩ := arr_two hc
          exact ⟨c, x, y, rfl, hb, hx, by rw [← hk, hx]⟩
        · simp at hk
      · simp at hk
    obtain ⟨c, x, y, rfl, hc, hca, rfl⟩ := this
    obtain ⟨a, b, rfl, hr, hr2⟩ := All2.two hargs
    cases a <;> simp only [opSem] at hsem <;> try (simp at hsem; done)
    cases b <;> simp only [opSem] at hsem <;> try (simp at hsem; done)
    split at hsem
    · rename_i hkk
      subst hkk
      simp only [Option.some.injEq, Prod.mk.injEq] at hsem
      obtain ⟨rfl, rfl⟩ := hsem
      exact (gives_max hop hc hca hr hr2).does s hmf
    · simp at hsem
  | min =>
    have : ∃ c x y, op = .call c ∧ c.callee = .builtin .min ∧ c.args = #[x, y] ∧ xs = [x, y] := by
      cases op <;> simp only [opsOf] at hk <;> try (simp at hk; done)
      rename_i c
      split at hk
      · rename_i b hb
        cases b <;> simp only [builtinOps] at hk <;> try (simp at hk; done)
        split at hk
        · rename_i hc
          simp only [Option.some.injEq] at hk
          obtain ⟨x, y, hx⟩ := arr_two hc
          exact ⟨c, x, y, rfl, hb, hx, by rw [← hk, hx]⟩
        · simp at hk
      · simp at hk
    obtain ⟨c, x, y, rfl, hc, hca, rfl⟩ := this
    obtain ⟨a, b, rfl, hr, hr2⟩ := All2.two hargs
    cases a <;> simp only [opSem] at hsem <;> try (simp at hsem; done)
    cases b <;> simp only [opSem] at hsem <;> try (simp at hsem; done)
    split at hsem
    · rename_i hkk
      subst hkk
      simp only [Option.some.injEq, Prod.mk.injEq] at hsem
      obtain ⟨rfl, rfl⟩ := hsem
      exact (gives_min hop hc hca hr hr2).does s hmf
    · simp at hsem
  | call raw f => simp [notCall] at hnc
  | callv raw => simp [notCall] at hnc
end
end Go.Ash
