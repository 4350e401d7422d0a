/- Code is sound: what the abstract run gives, the model's code comes to. -/
import Derived.Test.YtaojijahpdnjhaaAshStep2
set_option linter.all false
namespace Go.Ash

def chkOps (P : Program) (fn ty : Nat → Nat) (okb : Nat → Bool) (slots : List Nat) (nt : Nat) (ops : Array Oper) : List (Option Nat) → List Oper → List ROp → Bool
  | _, [], [] => true
  | E, o :: os, r :: rs => chkROp P fn ty okb slots nt ops E o r && chkOps P fn ty okb slots nt ops (o.dst :: E) os rs
  | _, _, _ => false

def dsts (os : List Oper) : List (Option Nat) := os.foldl (fun E o => o.dst :: E) []

section
variable (P : Program) (fn ty : Nat → Nat) (okb : Nat → Bool) (draw : List Nat → Nat → Array Oper → List ROp → Bool) (slots : List Nat) (nt : Nat)
def chkC : List (Option Nat) → Code → RCode → Option (List (Option Nat))
  | E, .skip, .skip => some E
  | _, .region _ ops false, .region rs false => if chkOps P fn ty okb slots nt ops [] ops.toList rs then some (dsts ops.toList) else none
  | _, .region _ ops true, .region rs true => if chkOps P fn ty okb slots nt ops [] ops.toList rs && draw slots nt ops rs then some (dsts ops.toList) else none
  | E, .seq a b, .seq ra rb => match chkC E a ra with
    | some E1 => chkC E1 b rb
    | none => none
  | E, .cond c t e, .cond rc rt re => if chkOpd fn okb slots E c rc then
      match chkC E t rt with
      | some _ => match chkC E e re with
        | some _ => some []
        | none => none
      | none => none
    else none
  | E, .block id b, .block id' rb => if id = id' then
      match chkC E b rb with
      | some _ => some []
      | none => none
    else none
  | _, .loop b, .loop _ rb => match chkC [] b rb with
    | some _ => some []
    | none => none
  | _, .exit id, .exit id' => if id = id' then some [] else none
  | _, .ret, .ret => some []
  | _, _, _ => none
end

def exRel : Ex → Exit → Prop
  | .normal, .normal => True
  | .exit i, .exit j => i = j
  | .ret, .ret => True
  | _, _ => False

structure Post (L : Link) (N : Nat → Prop) (slots : List Nat) (nt : Nat) (w0 : World) (st0 : St) (m0 : PMap) (E : List (Option Nat)) (st : St) (a : Act) (w : World) : Prop where
  post : ∃ m, Inv L N slots nt E a w m st st.env ∧ Fwd w0 st0.heap.at m0 w st.heap.at m ∧ (∀ j, j < st0.pin → m j = m0 j) ∧ st.pin = st0.pin ∧ st0.pin ≤ st.heap.length

section
variable {L : Link} {N : Nat → Prop} {okb : Nat → Bool} {slots : List Nat} {nt : Nat} {draw : List Nat → Nat → Array Oper → List ROp → Bool}

theorem Inv.forget {E : List (Option Nat)} {a : Act} {w : World} {m : PMap} {st : St} {env env' : List AVal} (i : Inv L N slots nt E a w m st env) : Inv L N slots nt [] a w m st env' :=
  ⟨i.size, i.defers, i.vars, fun j t h => by simp at h, i.sim, i.dom⟩

theorem Post.forget {w0 : World} {st0 : St} {m0 : PMap} {E : List (Option Nat)} {st : St} {a : Act} {w : World} (p : Post L N slots nt w0 st0 m0 E st a w) : Post L N slots nt w0 st0 m0 [] st a w := by
  obtain ⟨m, h1, h2⟩ := p.post
  exact ⟨m, h1.forget, h2⟩

theorem Post.bare {w0 : World} {st0 : St} {m0 : PMap} {E : List (Option Nat)} {st : St} {a : Act} {w : World} (p : Post L N slots nt w0 st0 m0 E st a w) : Post L N slots nt w0 st0 m0 [] { st with env := [] } a w := by
  obtain ⟨m, h1, h2⟩ := p.post
  exact ⟨m, ⟨h1.size, h1.defers, h1.vars, fun j t h => by simp at h, h1.sim, h1.dom⟩, h2⟩

theorem Inv.env' {E : List (Option Nat)} {a : Act} {w : World} {m : PMap} {st : St} {env env' : List AVal} (i : Inv L N slots nt E a w m st env) : Inv L N slots nt E a w m { st with env := env' } env :=
  ⟨i.size, i.defers, i.vars, i.env, i.sim, i.dom⟩

theorem put_pin {st : St} {d : Option Nat} {v : AVal} : (st.put d v).pin = st.pin := by cases d <;> rfl

theorem stepROp_pin {call : CallF} {r : ROp} {env : List AVal} {st st' : St} {v : AVal} (h : stepROp call r env st = some (v, st')) : st'.pin = st.pin := by
  unfold stepROp at h
  split at h
  · simp at h
  · simp only [Option.some.injEq, Prod.mk.injEq] at h
    obtain ⟨_, rfl⟩ := h
    exact put_pin
  · split at h
    · split at h
      · simp only [Option.some.injEq, Prod.mk.injEq] at h
        obtain ⟨_, rfl⟩ := h
        exact put_pin
      · simp at h
    · simp at h

/-- A region in the order of its text. -/
theorem region_text (hn : slots.Nodup) (hl : LinkOk L okb) {call : CallF} (hcall : CallOk L call) {ops : Array Oper} {Q : Exit → Act → World → Prop} : ∀ (rs : List ROp) (os : List Oper) (E : List (Option Nat))
    (env : List AVal) (st st' : St) (a : Act) (w : World) (m : PMap), chkOps L.P L.fn L.ty okb slots nt ops E os rs = true → execOps call rs env st = some st' → Inv L N slots nt E a w m st env →
    st.pin ≤ st.heap.length →
    (∀ a' w' m', Fwd w st.heap.at m w' st'.heap.at m' → (∀ j, j < st.pin → m' j = m j) → st'.pin = st.pin → st.pin ≤ st'.heap.length →
      Inv L N slots nt (os.foldl (fun E o => o.dst :: E) E) a' w' m' st' st'.env → Q .normal a' w') → wpList L.P ops Q os a w
  | [], [], E, env, st, st', a, w, m, _, he, i, hp, hQ => by
    simp only [execOps, Option.some.injEq] at he
    subst he
    exact hQ a w m (Fwd.refl _ _ _) (fun _ _ => rfl) rfl hp i.env'
  | r :: rs, o :: os, E, env, st, st', a, w, m, hc, he, i, hp, hQ => by
    simp only [chkOps, Bool.and_eq_true] at hc
    simp only [execOps] at he
    cases hs : stepROp call r env st with
    | none => rw [hs] at he; simp at he
    | some x =>
      obtain ⟨v, st1⟩ := x
      rw [hs] at he
      simp only at he
      have hpin1 := stepROp_pin hs
      have key := opStep (K := wpList L.P ops Q os) (Q := Q) hn hl hcall i hc.1 hs (by
        intro u w' m' hf hpin hlen hi
        refine region_text hn hl hcall rs os _ _ st1 st' _ w' m' hc.2 he hi (by rw [hpin1]; omega) ?_
        intro a' w2 m2 hf2 hpin2 hp2 hl2 hi2
        exact hQ a' w2 m2 (hf.trans hf2) (fun j hj => by rw [hpin2 j (by rw [hpin1]; exact hj), hpin j (by omega)]) (by rw [hp2, hpin1]) (by rw [← hpin1]; exact hl2) hi2)
      unfold wpList
      split
      · rename_i hw
        rw [if_pos hw] at key
        exact .inl key
      · rename_i hw
        rw [if_neg hw] at key
        exact key
  | [], _ :: _, _, _, _, _, _, _, _, hc, _, _, _, _ => by simp [chkOps] at hc
  | _ :: _, [], _, _, _, _, _, _, _, hc, _, _, _, _ => by simp [chkOps] at hc

/-- What is asked of a region that draws its order. -/
def DrawOk (L : Link) (okb : Nat → Bool) (draw : List Nat → Nat → Array Oper → List ROp → Bool) : Prop :=
  ∀ (N : Nat → Prop) (slots : List Nat) (nt : Nat) (call : CallF), slots.Nodup → CallOk L call → ∀ (id : Nat) (ops : Array Oper) (rs : List ROp),
    chkOps L.P L.fn L.ty okb slots nt ops [] ops.toList rs = true → draw slots nt ops rs = true → ∀ (st st' : St) (a : Act) (w : World) (m : PMap) (Q : Exit → Act → World → Prop),
    execOps call rs [] st = some st' → Inv L N slots nt [] a w m st [] → st.pin ≤ st.heap.length →
    (∀ a' w' m', Fwd w st.heap.at m w' st'.heap.at m' → (∀ j, j < st.pin → m' j = m j) → st'.pin = st.pin → st.pin ≤ st'.heap.length →
      Inv L N slots nt (dsts ops.toList) a' w' m' st' st'.env → Q .normal a' w') → (Code.region id ops true).wp L.P Q a w

theorem mask_gd : ∀ (live : List Bool) (vs : List AVal) (i : Nat), gd (mask live vs) i = gd vs i ∨ gd (mask live vs) i = .und
  | [], vs, i => .inr (by
      have : ∀ (l : List AVal) (i : Nat), gd (l.map fun _ => AVal.und) i = .und := by
        intro l
        induction l with
        | nil => intro i; rfl
        | cons x xs ih => intro i; cases i with
          | zero => rfl
          | succ i => exact ih i
      exact this vs i)
  | true :: ms, [], i => .inr rfl
  | false :: ms, [], i => .inr rfl
  | true :: ms, v :: vs, 0 => .inl rfl
  | false :: ms, v :: vs, 0 => .inr rfl
  | true :: ms, v :: vs, i + 1 => mask_gd ms vs i
  | false :: ms, v :: vs, i + 1 => mask_gd ms vs i

theorem gd_renL (ρ : Nat → Nat) : ∀ (vs : List AVal) (i : Nat), gd (renL ρ vs) i = (gd vs i).ren ρ
  | [], _ => rfl
  | v :: vs, 0 => rfl
  | v :: vs, i + 1 => by simp only [renL, gd]; exact gd_renL ρ vs i

theorem gd_ids : ∀ (vs : List AVal) (i : Nat) (id : Nat), id ∈ (gd vs i).ids → id ∈ idsL vs
  | [], _, _, h => by simp [gd, AVal.ids] at h
  | v :: vs, 0, id, h => by simp only [gd] at h; simp only [idsL, List.mem_append]; exact .inl h
  | v :: vs, i + 1, id, h => by simp only [gd] at h; simp only [idsL, List.mem_append]; exact .inr (gd_ids vs i id h)

theorem nodup_range (n : Nat) : (List.range n).Nodup := List.nodup_range

theorem tidy_ok {live : List Bool} {E : List (Option Nat)} {a : Act} {w : World} {m : PMap} {st st1 : St} {env : List AVal} (i : Inv L N slots nt E a w m st env) (hp : st.pin ≤ st.heap.length)
    (ht : tidy live st = some st1) : ∃ m1, Inv L N slots nt [] a w m1 st1 st1.env ∧ Fwd w st.heap.at m w st1.heap.at m1 ∧ (∀ j, j < st.pin → m1 j = m j) ∧ st1.pin = st.pin ∧ st.pin ≤ st1.heap.length := by
  unfold tidy at ht
  split at ht
  · simp only [Option.some.injEq] at ht
    subst ht
    refine ⟨m, ⟨i.size, i.defers, ?_, fun j t h => by simp at h, i.sim, i.dom⟩, Fwd.refl _ _ _, fun _ _ => rfl, rfl, hp⟩
    intro k t hk
    rcases mask_gd live st.vars k with h | h
    · simp only [h]; exact i.vars k t hk
    · simp only [h]; exact .und _
  · simp only [Option.map_eq_some_iff] at ht
    obtain ⟨l, hreach, rfl⟩ := ht
    obtain ⟨_, hin, hnd, hcl⟩ := reach_spec _ _ _ _ hreach
    obtain ⟨ext, hext⟩ := reach_first (List.range st.pin) _ _ [] l (by simpa using nodup_range st.pin) hreach
    simp only [List.nil_append] at hext
    have hnodup := hnd List.nodup_nil
    have hclosed : ∀ x ∈ l, ∀ b, st.heap.at x = some b → ∀ y ∈ idsL b.elems, y ∈ l := fun x hx => hcl x hx (by simp)
    obtain ⟨sp, dp, hBM⟩ := i.sim.pack (N' := N) hnodup hclosed (fun b hb => .inl hb) (by
      intro id _ k p hk hpp
      obtain ⟨q, _, _, hq, _, hn, _⟩ := i.sim.blk id k hk
      rw [hpp] at hq; cases hq
      exact hn)
    have hget : ∀ j, j < st.pin → l[j]? = some j := by
      intro j hj
      rw [hext, List.getElem?_append_left (by simpa using hj)]
      simp [hj]
    refine ⟨packM m l, ⟨i.size, i.defers, ?_, fun j t h => by simp at h, sp, dp⟩, pack_fwd hBM, ?_, rfl, ?_⟩
    · intro k t hk
      simp only [gd_renL]
      have hr : Reps L w (Bof N st.heap.at m) m (a.tmps.getD t undef) (gd (mask live st.vars) k) := by
        rcases mask_gd live st.vars k with h | h
        · rw [h]; exact i.vars k t hk
        · rw [h]; exact .und _
      exact (hr.pack (fun id hid => hin id (List.mem_append_right _ (gd_ids _ _ _ hid)))).less (fun b hb => hb.imp (fun h => h) (hBM b))
    · intro j hj
      simp only [packM, hget j hj, Option.bind_some]
    · simp only [pack, List.length_map]
      rw [hext]; simp

/-- Rounds of a loop that are told by the abstract run. -/
def AgainOk (L : Link) (okb : Nat → Bool) (draw : List Nat → Nat → Array Oper → List ROp → Bool) (again : RCode → St → Option (Ex × St)) : Prop :=
  ∀ (slots : List Nat) (nt : Nat), slots.Nodup → ∀ (live : List Bool) (rb : RCode) (st st' : St) (ex : Ex), again (.loop live rb) st = some (ex, st') →
    ∀ (c : Code) (E' : List (Option Nat)), chkC L.P L.fn L.ty okb draw slots nt [] c rb = some E' → ∃ k, ∀ (N : Nat → Prop) (a : Act) (w : World) (m : PMap) (Q : Exit → Act → World → Prop) (E : List (Option Nat)) (env : List AVal),
      Inv L N slots nt E a w m st env → st.pin ≤ st.heap.length → (∀ e a' w', exRel ex e → Post L N slots nt w st m [] st' a' w' → Q e a' w') → Code.rounds L.P c Q k a w

theorem Post.trans {w0 w1 : World} {st0 st1 st2 : St} {m0 m1 : PMap} {E : List (Option Nat)} {a : Act} {w : World} (hf : Fwd w0 st0.heap.at m0 w1 st1.heap.at m1) (hpin : ∀ j, j < st0.pin → m1 j = m0 j)
    (hpp : st1.pin = st0.pin) (p : Post L N slots nt w1 st1 m1 E st2 a w) : Post L N slots nt w0 st0 m0 E st2 a w := by
  obtain ⟨m, h1, h2, h3, h4, h5⟩ := p.post
  exact ⟨m, h1, hf.trans h2, fun j hj => by rw [h3 j (by rw [hpp]; exact hj), hpin j hj], h4.trans hpp, by rw [← hpp]; exact h5⟩

theorem exRel_loop {c : Code} {P : Program} {Q : Exit → Act → World → Prop} {k : Nat} : True := trivial

theorem code_sound (hn : slots.Nodup) (hl : LinkOk L okb) (hd : DrawOk L okb draw) {call : CallF} (hcall : CallOk L call) {again : RCode → St → Option (Ex × St)} (hag : AgainOk L okb draw again) :
    ∀ (r : RCode) (c : Code) (E E' : List (Option Nat)) (st st' : St) (ex : Ex), chkC L.P L.fn L.ty okb draw slots nt E c r = some E' → execC call again r st = some (ex, st') →
    ∀ (N : Nat → Prop) (a : Act) (w : World) (m : PMap) (Q : Exit → Act → World → Prop), Inv L N slots nt E a w m st st.env → st.pin ≤ st.heap.length →
    (∀ e a' w', exRel ex e → Post L N slots nt w st m (if ex = .normal then E' else []) st' a' w' → Q e a' w') → c.wp L.P Q a w := by
  intro r
  induction r with
  | skip =>
    intro c E E' st st' ex hc he N a w m Q i hp hQ
    cases c <;> simp only [chkC] at hc <;> try (simp at hc; done)
    simp only [execC, Option.some.injEq, Prod.mk.injEq] at he hc
    obtain ⟨rfl, rfl⟩ := he
    subst hc
    exact wp_skip (hQ .normal a w trivial ⟨m, i, Fwd.refl _ _ _, fun _ _ => rfl, rfl, hp⟩)
  | ret =>
    intro c E E' st st' ex hc he N a w m Q i hp hQ
    cases c <;> simp only [chkC] at hc <;> try (simp at hc; done)
    simp only [execC, Option.some.injEq, Prod.mk.injEq] at he
    obtain ⟨rfl, rfl⟩ := he
    exact wp_ret (hQ .ret a w trivial ⟨m, i.forget, Fwd.refl _ _ _, fun _ _ => rfl, rfl, hp⟩)
  | exit id =>
    intro c E E' st st' ex hc he N a w m Q i hp hQ
    cases c <;> simp only [chkC] at hc <;> try (simp at hc; done)
    split at hc
    · rename_i hid
      simp only [execC, Option.some.injEq, Prod.mk.injEq] at he
      obtain ⟨rfl, rfl⟩ := he
      exact wp_exit (hQ (.exit _) a w hid.symm ⟨m, i.forget, Fwd.refl _ _ _, fun _ _ => rfl, rfl, hp⟩)
    · simp at hc
  | region rs d =>
    intro c E E' st st' ex hc he N a w m Q i hp hQ
    simp only [execC] at he
    cases hx : execOps call rs [] st with
    | none => rw [hx] at he; simp at he
    | some s1 =>
      rw [hx] at he
      simp only [Option.some.injEq, Prod.mk.injEq] at he
      obtain ⟨rfl, rfl⟩ := he
      cases c <;> try (simp [chkC] at hc; done)
      rename_i rid ops dd
      cases dd <;> cases d <;> simp only [chkC] at hc <;> try (simp at hc; done)
      · split at hc
        · rename_i hco
          simp only [Option.some.injEq] at hc
          subst hc
          refine wp_region_list ?_
          refine region_text hn hl hcall rs ops.toList [] [] st s1 a w m hco hx (i.forget) hp ?_
          intro a' w' m' hf hpin hpp hlen hi
          exact hQ .normal a' w' trivial ⟨m', hi, hf, hpin, hpp, hlen⟩
        · simp at hc
      · split at hc
        · rename_i hco
          simp only [Bool.and_eq_true] at hco
          simp only [Option.some.injEq] at hc
          subst hc
          refine hd N slots nt call hn hcall rid ops rs hco.1 hco.2 st s1 a w m Q hx (i.forget) hp ?_
          intro a' w' m' hf hpin hpp hlen hi
          exact hQ .normal a' w' trivial ⟨m', hi, hf, hpin, hpp, hlen⟩
        · simp at hc
  | seq ra rb iha ihb =>
    intro c E E' st st' ex hc he N a w m Q i hp hQ
    cases c <;> simp only [chkC] at hc <;> try (simp at hc; done)
    rename_i ca cb
    cases h1 : chkC L.P L.fn L.ty okb draw slots nt E ca ra with
    | none => rw [h1] at hc; simp at hc
    | some E1 =>
      rw [h1] at hc
      simp only at hc
      simp only [execC] at he
      cases hx : execC call again ra st with
      | none => rw [hx] at he; simp at he
      | some x =>
        obtain ⟨e1, s1⟩ := x
        rw [hx] at he
        refine wp_seq (iha ca E E1 st s1 e1 h1 hx N a w m _ i hp ?_)
        intro e a' w' hrel hpost
        cases e1 with
        | normal =>
          simp only at he
          cases e <;> simp only [exRel] at hrel
          simp only [if_true] at hpost
          obtain ⟨m1, hi1, hf1, hpin1, hpp1, hlen1⟩ := hpost.post
          simp only [Exit.then]
          refine ihb cb E1 E' s1 st' ex hc he N a' w' m1 Q hi1 (by rw [hpp1]; exact hlen1) ?_
          intro e2 a2 w2 hrel2 hpost2
          exact hQ e2 a2 w2 hrel2 (Post.trans hf1 hpin1 hpp1 hpost2)
        | exit id =>
          simp only [Option.some.injEq, Prod.mk.injEq] at he
          obtain ⟨rfl, rfl⟩ := he
          cases e <;> simp only [exRel] at hrel
          exact hQ _ a' w' hrel hpost
        | ret =>
          simp only [Option.some.injEq, Prod.mk.injEq] at he
          obtain ⟨rfl, rfl⟩ := he
          cases e <;> simp only [exRel] at hrel
          exact hQ _ a' w' trivial hpost
  | cond rc rt re iht ihe =>
    intro c E E' st st' ex hc he N a w m Q i hp hQ
    cases c <;> simp only [chkC] at hc <;> try (simp at hc; done)
    rename_i cc ct ce
    split at hc
    case isFalse => simp at hc
    case isTrue hco =>
    cases h1 : chkC L.P L.fn L.ty okb draw slots nt E ct rt with
    | none => rw [h1] at hc; simp at hc
    | some E1 =>
      rw [h1] at hc
      simp only at hc
      cases h2 : chkC L.P L.fn L.ty okb draw slots nt E ce re with
      | none => rw [h2] at hc; simp at hc
      | some E2 =>
        rw [h2] at hc
        simp only [Option.some.injEq] at hc
        subst hc
        have hr := chkOpd_ok hl i hco
        simp only [execC] at he
        split at he
        · rename_i b hb
          rw [hb] at hr
          have hv := hr.bool_inv
          refine wp_cond hv ?_
          by_cases hbt : b = true
          · subst hbt
            simp only [if_true] at he ⊢
            refine iht ct E E1 st st' ex h1 he N a w m Q i hp ?_
            intro e a' w' hrel hpost
            refine hQ e a' w' hrel ?_
            split
            · exact hpost.forget
            · exact hpost.forget
          · have hbf : b = false := by cases b <;> simp_all
            subst hbf
            simp only [Bool.false_eq_true, if_false] at he ⊢
            refine ihe ce E E2 st st' ex h2 he N a w m Q i hp ?_
            intro e a' w' hrel hpost
            refine hQ e a' w' hrel ?_
            split
            · exact hpost.forget
            · exact hpost.forget
        · simp at he
  | block id rb ih =>
    intro c E E' st st' ex hc he N a w m Q i hp hQ
    cases c <;> simp only [chkC] at hc <;> try (simp at hc; done)
    rename_i cid cb
    split at hc
    case isFalse => simp at hc
    case isTrue hid =>
    subst hid
    cases h1 : chkC L.P L.fn L.ty okb draw slots nt E cb rb with
    | none => rw [h1] at hc; simp at hc
    | some E1 =>
      rw [h1] at hc
      simp only [Option.some.injEq] at hc
      subst hc
      simp only [execC] at he
      cases hx : execC call again rb st with
      | none => rw [hx] at he; simp at he
      | some x =>
        obtain ⟨e1, s1⟩ := x
        rw [hx] at he
        refine wp_block (ih cb E E1 st s1 e1 h1 hx N a w m _ i hp ?_)
        intro e a' w' hrel hpost
        cases e1 with
        | normal =>
          simp only [Option.some.injEq, Prod.mk.injEq] at he
          obtain ⟨rfl, rfl⟩ := he
          cases e <;> simp only [exRel] at hrel
          exact hQ .normal a' w' trivial (by simpa using hpost.forget)
        | exit j =>
          cases e <;> simp only [exRel] at hrel
          rename_i j'
          subst hrel
          simp only at he
          by_cases hj : j = cid
          · subst hj
            simp only [if_true, Option.some.injEq, Prod.mk.injEq] at he
            obtain ⟨rfl, rfl⟩ := he
            simp only [Exit.inBlock, if_true]
            exact hQ .normal a' w' trivial (by simpa using hpost)
          · rw [if_neg hj] at he
            simp only [Option.some.injEq, Prod.mk.injEq] at he
            obtain ⟨rfl, rfl⟩ := he
            simp only [Exit.inBlock, if_neg hj]
            exact hQ (.exit j) a' w' rfl hpost
        | ret =>
          simp only [Option.some.injEq, Prod.mk.injEq] at he
          obtain ⟨rfl, rfl⟩ := he
          cases e <;> simp only [exRel] at hrel
          exact hQ .ret a' w' trivial hpost
  | loop live rb ih =>
    intro c E E' st st' ex hc he N a w m Q i hp hQ
    cases c <;> simp only [chkC] at hc <;> try (simp at hc; done)
    rename_i cb
    cases h1 : chkC L.P L.fn L.ty okb draw slots nt [] cb rb with
    | none => rw [h1] at hc; simp at hc
    | some E1 =>
      rw [h1] at hc
      simp only [Option.some.injEq] at hc
      subst hc
      simp only [execC] at he
      cases ht : tidy live st with
      | none => rw [ht] at he; simp at he
      | some st1 =>
        rw [ht] at he
        simp only at he
        cases hx : execC call again rb st1 with
        | none => rw [hx] at he; simp at he
        | some x =>
          obtain ⟨e1, s2⟩ := x
          rw [hx] at he
          obtain ⟨m1, hi1, hf1, hpin1, hpp1, hlen1⟩ := tidy_ok i hp ht
          cases e1 with
          | normal =>
            simp only at he
            obtain ⟨k, hk⟩ := hag slots nt hn live rb s2 st' ex he cb E1 h1
            refine wp_loop_rounds (k + 1) ?_
            rw [rounds_succ]
            refine ih cb [] E1 st1 s2 .normal h1 hx N a w m1 _ hi1 (by rw [hpp1]; exact hlen1) ?_
            intro e a' w' hrel hpost
            cases e <;> simp only [exRel] at hrel
            obtain ⟨m2, hi2, hf2, hpin2, hpp2, hlen2⟩ := hpost.post
            simp only [Exit.then]
            refine hk N a' w' m2 Q _ _ hi2 (by rw [hpp2]; exact hlen2) ?_
            intro e3 a3 w3 hrel3 hpost3
            refine hQ e3 a3 w3 hrel3 ?_
            have p2 := Post.trans hf2 hpin2 hpp2 hpost3
            have p1 := Post.trans hf1 hpin1 hpp1 p2
            split
            · exact p1
            · exact p1
          | exit id =>
            simp only [Option.some.injEq, Prod.mk.injEq] at he
            obtain ⟨rfl, rfl⟩ := he
            refine wp_loop_rounds 1 ?_
            rw [rounds_succ]
            refine ih cb [] E1 st1 s2 (.exit id) h1 hx N a w m1 _ hi1 (by rw [hpp1]; exact hlen1) ?_
            intro e a' w' hrel hpost
            cases e <;> simp only [exRel] at hrel
            exact hQ _ a' w' hrel (Post.trans hf1 hpin1 hpp1 hpost).bare
          | ret =>
            simp only [Option.some.injEq, Prod.mk.injEq] at he
            obtain ⟨rfl, rfl⟩ := he
            refine wp_loop_rounds 1 ?_
            rw [rounds_succ]
            refine ih cb [] E1 st1 s2 .ret h1 hx N a w m1 _ hi1 (by rw [hpp1]; exact hlen1) ?_
            intro e a' w' hrel hpost
            cases e <;> simp only [exRel] at hrel
            exact hQ _ a' w' trivial (Post.trans hf1 hpin1 hpp1 hpost).bare

/-- The rounds of a loop, by the soundness of its body. -/
theorem again_succ (hl : LinkOk L okb) (hd : DrawOk L okb draw) {call : CallF} (hcall : CallOk L call) {again : RCode → St → Option (Ex × St)} (hag : AgainOk L okb draw again) :
    AgainOk L okb draw (execC call again) := by
  intro slots nt hn live rb st st' ex he c E' hc
  simp only [execC] at he
  cases ht : tidy live st with
  | none => rw [ht] at he; simp at he
  | some st1 =>
    rw [ht] at he
    simp only at he
    cases hx : execC call again rb st1 with
    | none => rw [hx] at he; simp at he
    | some x =>
      obtain ⟨e1, s2⟩ := x
      rw [hx] at he
      cases e1 with
      | normal =>
        simp only at he
        obtain ⟨k, hk⟩ := hag slots nt hn live rb s2 st' ex he c E' hc
        refine ⟨k + 1, ?_⟩
        intro N a w m Q E env i hp hQ
        obtain ⟨m1, hi1, hf1, hpin1, hpp1, hlen1⟩ := tidy_ok i hp ht
        rw [rounds_succ]
        refine code_sound hn hl hd hcall hag rb c [] E' st1 s2 .normal hc hx N a w m1 _ hi1 (by rw [hpp1]; exact hlen1) ?_
        intro e a' w' hrel hpost
        cases e <;> simp only [exRel] at hrel
        obtain ⟨m2, hi2, hf2, hpin2, hpp2, hlen2⟩ := hpost.post
        simp only [Exit.then]
        refine hk N a' w' m2 Q _ _ hi2 (by rw [hpp2]; exact hlen2) ?_
        intro e3 a3 w3 hrel3 hpost3
        exact hQ e3 a3 w3 hrel3 (Post.trans hf1 hpin1 hpp1 (Post.trans hf2 hpin2 hpp2 hpost3))
      | exit id =>
        simp only [Option.some.injEq, Prod.mk.injEq] at he
        obtain ⟨rfl, rfl⟩ := he
        refine ⟨1, ?_⟩
        intro N a w m Q E env i hp hQ
        obtain ⟨m1, hi1, hf1, hpin1, hpp1, hlen1⟩ := tidy_ok i hp ht
        rw [rounds_succ]
        refine code_sound hn hl hd hcall hag rb c [] E' st1 s2 (.exit id) hc hx N a w m1 _ hi1 (by rw [hpp1]; exact hlen1) ?_
        intro e a' w' hrel hpost
        cases e <;> simp only [exRel] at hrel
        exact hQ _ a' w' hrel (Post.trans hf1 hpin1 hpp1 hpost).bare
      | ret =>
        simp only [Option.some.injEq, Prod.mk.injEq] at he
        obtain ⟨rfl, rfl⟩ := he
        refine ⟨1, ?_⟩
        intro N a w m Q E env i hp hQ
        obtain ⟨m1, hi1, hf1, hpin1, hpp1, hlen1⟩ := tidy_ok i hp ht
        rw [rounds_succ]
        refine code_sound hn hl hd hcall hag rb c [] E' st1 s2 .ret hc hx N a w m1 _ hi1 (by rw [hpp1]; exact hlen1) ?_
        intro e a' w' hrel hpost
        cases e <;> simp only [exRel] at hrel
        exact hQ _ a' w' trivial (Post.trans hf1 hpin1 hpp1 hpost).bare
end
end Go.Ash
