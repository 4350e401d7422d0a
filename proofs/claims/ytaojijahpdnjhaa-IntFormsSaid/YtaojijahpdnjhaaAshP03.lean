/- The abstract interpreter of this work and its uses, part 3: AshCode, AshRun, AshOpen, AshUse, AshNum, AshTools. -/
import Derived.ChangeArms
import Derived.ChangeSlices
import Derived.Carry
import Derived.Test.YtaojijahpdnjhaaAshP02
set_option linter.all false
/- Code is sound: what the abstract run gives, the model's code comes to. -/
namespace Go.Ash

def chkOps (P : Program) (fn ty : Nat → Nat) (okb : Nat → Bool) (slots : List Nat) (nt : Nat) (ops : Array Oper) : List (Option Nat) → List Oper → List ROp → Bool
  | _, [], [] => true
  | E, o :: os, r :: rs => chkROp P fn ty okb slots nt ops E o r && chkOps P fn ty okb slots nt ops (o.dst :: E) os rs
  | _, _, _ => false

def dsts (os : List Oper) : List (Option Nat) := os.foldl (fun E o => o.dst :: E) []

section
variable (P : Program) (fn ty : Nat → Nat) (okb : Nat → Bool) (draw : List Nat → Nat → Array Oper → List ROp → Bool) (slots : List Nat) (nt : Nat)
def chkC : List (Option Nat) → Code → RCode → Option (List (Option Nat))
  | E, .skip, .skip => some E
  | _, .region _ ops false, .region rs false => if chkOps P fn ty okb slots nt ops [] ops.toList rs then some (dsts ops.toList) else none
  | _, .region _ ops true, .region rs true => if chkOps P fn ty okb slots nt ops [] ops.toList rs && draw slots nt ops rs then some (dsts ops.toList) else none
  | E, .seq a b, .seq ra rb => match chkC E a ra with
    | some E1 => chkC E1 b rb
    | none => none
  | E, .cond c t e, .cond rc rt re => if chkOpd fn okb slots E c rc then
      match chkC E t rt with
      | some _ => match chkC E e re with
        | some _ => some []
        | none => none
      | none => none
    else none
  | E, .block id b, .block id' rb => if id = id' then
      match chkC E b rb with
      | some _ => some []
      | none => none
    else none
  | _, .loop b, .loop _ rb => match chkC [] b rb with
    | some _ => some []
    | none => none
  | _, .exit id, .exit id' => if id = id' then some [] else none
  | _, .ret, .ret => some []
  | _, _, _ => none
end

def exRel : Ex → Exit → Prop
  | .normal, .normal => True
  | .exit i, .exit j => i = j
  | .ret, .ret => True
  | _, _ => False

structure Post (L : Link) (N : Nat → Prop) (slots : List Nat) (nt : Nat) (w0 : World) (st0 : St) (m0 : PMap) (E : List (Option Nat)) (st : St) (a : Act) (w : World) : Prop where
  post : ∃ m, Inv L N slots nt E a w m st st.env ∧ Fwd w0 st0.heap.at m0 w st.heap.at m ∧ (∀ j, j < st0.pin → m j = m0 j) ∧ st.pin = st0.pin ∧ st0.pin ≤ st.heap.length

section
variable {L : Link} {N : Nat → Prop} {okb : Nat → Bool} {slots : List Nat} {nt : Nat} {draw : List Nat → Nat → Array Oper → List ROp → Bool}

theorem Inv.forget {E : List (Option Nat)} {a : Act} {w : World} {m : PMap} {st : St} {env env' : List AVal} (i : Inv L N slots nt E a w m st env) : Inv L N slots nt [] a w m st env' :=
  ⟨i.size, i.defers, i.vars, fun j t h => by simp at h, i.sim, i.dom⟩

theorem Post.forget {w0 : World} {st0 : St} {m0 : PMap} {E : List (Option Nat)} {st : St} {a : Act} {w : World} (p : Post L N slots nt w0 st0 m0 E st a w) : Post L N slots nt w0 st0 m0 [] st a w := by
  obtain ⟨m, h1, h2⟩ := p.post
  exact ⟨m, h1.forget, h2⟩

theorem Post.bare {w0 : World} {st0 : St} {m0 : PMap} {E : List (Option Nat)} {st : St} {a : Act} {w : World} (p : Post L N slots nt w0 st0 m0 E st a w) : Post L N slots nt w0 st0 m0 [] { st with env := [] } a w := by
  obtain ⟨m, h1, h2⟩ := p.post
  exact ⟨m, ⟨h1.size, h1.defers, h1.vars, fun j t h => by simp at h, h1.sim, h1.dom⟩, h2⟩

theorem Inv.env' {E : List (Option Nat)} {a : Act} {w : World} {m : PMap} {st : St} {env env' : List AVal} (i : Inv L N slots nt E a w m st env) : Inv L N slots nt E a w m { st with env := env' } env :=
  ⟨i.size, i.defers, i.vars, i.env, i.sim, i.dom⟩

theorem put_pin {st : St} {d : Option Nat} {v : AVal} : (st.put d v).pin = st.pin := by cases d <;> rfl

theorem stepROp_pin {call : CallF} {r : ROp} {env : List AVal} {st st' : St} {v : AVal} (h : stepROp call r env st = some (v, st')) : st'.pin = st.pin := by
  unfold stepROp at h
  split at h
  · simp at h
  · simp only [Option.some.injEq, Prod.mk.injEq] at h
    obtain ⟨_, rfl⟩ := h
    exact put_pin
  · split at h
    · split at h
      · simp only [Option.some.injEq, Prod.mk.injEq] at h
        obtain ⟨_, rfl⟩ := h
        exact put_pin
      · simp at h
    · simp at h

/-- A region in the order of its text. -/
theorem region_text (hn : slots.Nodup) (hl : LinkOk L okb) {call : CallF} (hcall : CallOk L call) {ops : Array Oper} {Q : Exit → Act → World → Prop} : ∀ (rs : List ROp) (os : List Oper) (E : List (Option Nat))
    (env : List AVal) (st st' : St) (a : Act) (w : World) (m : PMap), chkOps L.P L.fn L.ty okb slots nt ops E os rs = true → execOps call rs env st = some st' → Inv L N slots nt E a w m st env →
    st.pin ≤ st.heap.length →
    (∀ a' w' m', Fwd w st.heap.at m w' st'.heap.at m' → (∀ j, j < st.pin → m' j = m j) → st'.pin = st.pin → st.pin ≤ st'.heap.length →
      Inv L N slots nt (os.foldl (fun E o => o.dst :: E) E) a' w' m' st' st'.env → Q .normal a' w') → wpList L.P ops Q os a w
  | [], [], E, env, st, st', a, w, m, _, he, i, hp, hQ => by
    simp only [execOps, Option.some.injEq] at he
    subst he
    exact hQ a w m (Fwd.refl _ _ _) (fun _ _ => rfl) rfl hp i.env'
  | r :: rs, o :: os, E, env, st, st', a, w, m, hc, he, i, hp, hQ => by
    simp only [chkOps, Bool.and_eq_true] at hc
    simp only [execOps] at he
    cases hs : stepROp call r env st with
    | none => rw [hs] at he; simp at he
    | some x =>
      obtain ⟨v, st1⟩ := x
      rw [hs] at he
      simp only at he
      have hpin1 := stepROp_pin hs
      have key := opStep (K := wpList L.P ops Q os) (Q := Q) hn hl hcall i hc.1 hs (by
        intro u w' m' hf hpin hlen hi
        refine region_text hn hl hcall rs os _ _ st1 st' _ w' m' hc.2 he hi (by rw [hpin1]; omega) ?_
        intro a' w2 m2 hf2 hpin2 hp2 hl2 hi2
        exact hQ a' w2 m2 (hf.trans hf2) (fun j hj => by rw [hpin2 j (by rw [hpin1]; exact hj), hpin j (by omega)]) (by rw [hp2, hpin1]) (by rw [← hpin1]; exact hl2) hi2)
      unfold wpList
      split
      · rename_i hw
        rw [if_pos hw] at key
        exact .inl key
      · rename_i hw
        rw [if_neg hw] at key
        exact key
  | [], _ :: _, _, _, _, _, _, _, _, hc, _, _, _, _ => by simp [chkOps] at hc
  | _ :: _, [], _, _, _, _, _, _, _, hc, _, _, _, _ => by simp [chkOps] at hc

/-- What is asked of a region that draws its order. -/
def DrawOk (L : Link) (okb : Nat → Bool) (draw : List Nat → Nat → Array Oper → List ROp → Bool) : Prop :=
  ∀ (N : Nat → Prop) (slots : List Nat) (nt : Nat) (call : CallF), slots.Nodup → CallOk L call → ∀ (id : Nat) (ops : Array Oper) (rs : List ROp),
    chkOps L.P L.fn L.ty okb slots nt ops [] ops.toList rs = true → draw slots nt ops rs = true → ∀ (st st' : St) (a : Act) (w : World) (m : PMap) (Q : Exit → Act → World → Prop),
    execOps call rs [] st = some st' → Inv L N slots nt [] a w m st [] → st.pin ≤ st.heap.length →
    (∀ a' w' m', Fwd w st.heap.at m w' st'.heap.at m' → (∀ j, j < st.pin → m' j = m j) → st'.pin = st.pin → st.pin ≤ st'.heap.length →
      Inv L N slots nt (dsts ops.toList) a' w' m' st' st'.env → Q .normal a' w') → (Code.region id ops true).wp L.P Q a w

theorem mask_gd : ∀ (live : List Bool) (vs : List AVal) (i : Nat), gd (mask live vs) i = gd vs i ∨ gd (mask live vs) i = .und
  | [], vs, i => .inr (by
      have : ∀ (l : List AVal) (i : Nat), gd (l.map fun _ => AVal.und) i = .und := by
        intro l
        induction l with
        | nil => intro i; rfl
        | cons x xs ih => intro i; cases i with
          | zero => rfl
          | succ i => exact ih i
      exact this vs i)
  | true :: ms, [], i => .inr rfl
  | false :: ms, [], i => .inr rfl
  | true :: ms, v :: vs, 0 => .inl rfl
  | false :: ms, v :: vs, 0 => .inr rfl
  | true :: ms, v :: vs, i + 1 => mask_gd ms vs i
  | false :: ms, v :: vs, i + 1 => mask_gd ms vs i

theorem gd_renL (ρ : Nat → Nat) : ∀ (vs : List AVal) (i : Nat), gd (renL ρ vs) i = (gd vs i).ren ρ
  | [], _ => rfl
  | v :: vs, 0 => rfl
  | v :: vs, i + 1 => by simp only [renL, gd]; exact gd_renL ρ vs i

theorem gd_ids : ∀ (vs : List AVal) (i : Nat) (id : Nat), id ∈ (gd vs i).ids → id ∈ idsL vs
  | [], _, _, h => by simp [gd, AVal.ids] at h
  | v :: vs, 0, id, h => by simp only [gd] at h; simp only [idsL, List.mem_append]; exact .inl h
  | v :: vs, i + 1, id, h => by simp only [gd] at h; simp only [idsL, List.mem_append]; exact .inr (gd_ids vs i id h)

theorem nodup_range (n : Nat) : (List.range n).Nodup := List.nodup_range

theorem tidy_ok {live : List Bool} {E : List (Option Nat)} {a : Act} {w : World} {m : PMap} {st st1 : St} {env : List AVal} (i : Inv L N slots nt E a w m st env) (hp : st.pin ≤ st.heap.length)
    (ht : tidy live st = some st1) : ∃ m1, Inv L N slots nt [] a w m1 st1 st1.env ∧ Fwd w st.heap.at m w st1.heap.at m1 ∧ (∀ j, j < st.pin → m1 j = m j) ∧ st1.pin = st.pin ∧ st.pin ≤ st1.heap.length := by
  unfold tidy at ht
  split at ht
  · simp only [Option.some.injEq] at ht
    subst ht
    refine ⟨m, ⟨i.size, i.defers, ?_, fun j t h => by simp at h, i.sim, i.dom⟩, Fwd.refl _ _ _, fun _ _ => rfl, rfl, hp⟩
    intro k t hk
    rcases mask_gd live st.vars k with h | h
    · simp only [h]; exact i.vars k t hk
    · simp only [h]; exact .und _
  · simp only [Option.map_eq_some_iff] at ht
    obtain ⟨l, hreach, rfl⟩ := ht
    obtain ⟨_, hin, hnd, hcl⟩ := reach_spec _ _ _ _ hreach
    obtain ⟨ext, hext⟩ := reach_first (List.range st.pin) _ _ [] l (by simpa using nodup_range st.pin) hreach
    simp only [List.nil_append] at hext
    have hnodup := hnd List.nodup_nil
    have hclosed : ∀ x ∈ l, ∀ b, st.heap.at x = some b → ∀ y ∈ idsL b.elems, y ∈ l := fun x hx => hcl x hx (by simp)
    obtain ⟨sp, dp, hBM⟩ := i.sim.pack (N' := N) hnodup hclosed (fun b hb => .inl hb) (by
      intro id _ k p hk hpp
      obtain ⟨q, _, _, hq, _, hn, _⟩ := i.sim.blk id k hk
      rw [hpp] at hq; cases hq
      exact hn)
    have hget : ∀ j, j < st.pin → l[j]? = some j := by
      intro j hj
      rw [hext, List.getElem?_append_left (by simpa using hj)]
      simp [hj]
    refine ⟨packM m l, ⟨i.size, i.defers, ?_, fun j t h => by simp at h, sp, dp⟩, pack_fwd hBM, ?_, rfl, ?_⟩
    · intro k t hk
      simp only [gd_renL]
      have hr : Reps L w (Bof N st.heap.at m) m (a.tmps.getD t undef) (gd (mask live st.vars) k) := by
        rcases mask_gd live st.vars k with h | h
        · rw [h]; exact i.vars k t hk
        · rw [h]; exact .und _
      exact (hr.pack (fun id hid => hin id (List.mem_append_right _ (gd_ids _ _ _ hid)))).less (fun b hb => hb.imp (fun h => h) (hBM b))
    · intro j hj
      simp only [packM, hget j hj, Option.bind_some]
    · simp only [pack, List.length_map]
      rw [hext]; simp

/-- Rounds of a loop that are told by the abstract run. -/
def AgainOk (L : Link) (okb : Nat → Bool) (draw : List Nat → Nat → Array Oper → List ROp → Bool) (again : RCode → St → Option (Ex × St)) : Prop :=
  ∀ (slots : List Nat) (nt : Nat), slots.Nodup → ∀ (live : List Bool) (rb : RCode) (st st' : St) (ex : Ex), again (.loop live rb) st = some (ex, st') →
    ∀ (c : Code) (E' : List (Option Nat)), chkC L.P L.fn L.ty okb draw slots nt [] c rb = some E' → ∃ k, ∀ (N : Nat → Prop) (a : Act) (w : World) (m : PMap) (Q : Exit → Act → World → Prop) (E : List (Option Nat)) (env : List AVal),
      Inv L N slots nt E a w m st env → st.pin ≤ st.heap.length → (∀ e a' w', exRel ex e → Post L N slots nt w st m [] st' a' w' → Q e a' w') → Code.rounds L.P c Q k a w

theorem Post.trans {w0 w1 : World} {st0 st1 st2 : St} {m0 m1 : PMap} {E : List (Option Nat)} {a : Act} {w : World} (hf : Fwd w0 st0.heap.at m0 w1 st1.heap.at m1) (hpin : ∀ j, j < st0.pin → m1 j = m0 j)
    (hpp : st1.pin = st0.pin) (p : Post L N slots nt w1 st1 m1 E st2 a w) : Post L N slots nt w0 st0 m0 E st2 a w := by
  obtain ⟨m, h1, h2, h3, h4, h5⟩ := p.post
  exact ⟨m, h1, hf.trans h2, fun j hj => by rw [h3 j (by rw [hpp]; exact hj), hpin j hj], h4.trans hpp, by rw [← hpp]; exact h5⟩

theorem exRel_loop {c : Code} {P : Program} {Q : Exit → Act → World → Prop} {k : Nat} : True := trivial

theorem code_sound (hn : slots.Nodup) (hl : LinkOk L okb) (hd : DrawOk L okb draw) {call : CallF} (hcall : CallOk L call) {again : RCode → St → Option (Ex × St)} (hag : AgainOk L okb draw again) :
    ∀ (r : RCode) (c : Code) (E E' : List (Option Nat)) (st st' : St) (ex : Ex), chkC L.P L.fn L.ty okb draw slots nt E c r = some E' → execC call again r st = some (ex, st') →
    ∀ (N : Nat → Prop) (a : Act) (w : World) (m : PMap) (Q : Exit → Act → World → Prop), Inv L N slots nt E a w m st st.env → st.pin ≤ st.heap.length →
    (∀ e a' w', exRel ex e → Post L N slots nt w st m (if ex = .normal then E' else []) st' a' w' → Q e a' w') → c.wp L.P Q a w := by
  intro r
  induction r with
  | skip =>
    intro c E E' st st' ex hc he N a w m Q i hp hQ
    cases c <;> simp only [chkC] at hc <;> try (simp at hc; done)
    simp only [execC, Option.some.injEq, Prod.mk.injEq] at he hc
    obtain ⟨rfl, rfl⟩ := he
    subst hc
    exact wp_skip (hQ .normal a w trivial ⟨m, i, Fwd.refl _ _ _, fun _ _ => rfl, rfl, hp⟩)
  | ret =>
    intro c E E' st st' ex hc he N a w m Q i hp hQ
    cases c <;> simp only [chkC] at hc <;> try (simp at hc; done)
    simp only [execC, Option.some.injEq, Prod.mk.injEq] at he
    obtain ⟨rfl, rfl⟩ := he
    exact wp_ret (hQ .ret a w trivial ⟨m, i.forget, Fwd.refl _ _ _, fun _ _ => rfl, rfl, hp⟩)
  | exit id =>
    intro c E E' st st' ex hc he N a w m Q i hp hQ
    cases c <;> simp only [chkC] at hc <;> try (simp at hc; done)
    split at hc
    · rename_i hid
      simp only [execC, Option.some.injEq, Prod.mk.injEq] at he
      obtain ⟨rfl, rfl⟩ := he
      exact wp_exit (hQ (.exit _) a w hid.symm ⟨m, i.forget, Fwd.refl _ _ _, fun _ _ => rfl, rfl, hp⟩)
    · simp at hc
  | region rs d =>
    intro c E E' st st' ex hc he N a w m Q i hp hQ
    simp only [execC] at he
    cases hx : execOps call rs [] st with
    | none => rw [hx] at he; simp at he
    | some s1 =>
      rw [hx] at he
      simp only [Option.some.injEq, Prod.mk.injEq] at he
      obtain ⟨rfl, rfl⟩ := he
      cases c <;> try (simp [chkC] at hc; done)
      rename_i rid ops dd
      cases dd <;> cases d <;> simp only [chkC] at hc <;> try (simp at hc; done)
      · split at hc
        · rename_i hco
          simp only [Option.some.injEq] at hc
          subst hc
          refine wp_region_list ?_
          refine region_text hn hl hcall rs ops.toList [] [] st s1 a w m hco hx (i.forget) hp ?_
          intro a' w' m' hf hpin hpp hlen hi
          exact hQ .normal a' w' trivial ⟨m', hi, hf, hpin, hpp, hlen⟩
        · simp at hc
      · split at hc
        · rename_i hco
          simp only [Bool.and_eq_true] at hco
          simp only [Option.some.injEq] at hc
          subst hc
          refine hd N slots nt call hn hcall rid ops rs hco.1 hco.2 st s1 a w m Q hx (i.forget) hp ?_
          intro a' w' m' hf hpin hpp hlen hi
          exact hQ .normal a' w' trivial ⟨m', hi, hf, hpin, hpp, hlen⟩
        · simp at hc
  | seq ra rb iha ihb =>
    intro c E E' st st' ex hc he N a w m Q i hp hQ
    cases c <;> simp only [chkC] at hc <;> try (simp at hc; done)
    rename_i ca cb
    cases h1 : chkC L.P L.fn L.ty okb draw slots nt E ca ra with
    | none => rw [h1] at hc; simp at hc
    | some E1 =>
      rw [h1] at hc
      simp only at hc
      simp only [execC] at he
      cases hx : execC call again ra st with
      | none => rw [hx] at he; simp at he
      | some x =>
        obtain ⟨e1, s1⟩ := x
        rw [hx] at he
        refine wp_seq (iha ca E E1 st s1 e1 h1 hx N a w m _ i hp ?_)
        intro e a' w' hrel hpost
        cases e1 with
        | normal =>
          simp only at he
          cases e <;> simp only [exRel] at hrel
          simp only [if_true] at hpost
          obtain ⟨m1, hi1, hf1, hpin1, hpp1, hlen1⟩ := hpost.post
          simp only [Exit.then]
          refine ihb cb E1 E' s1 st' ex hc he N a' w' m1 Q hi1 (by rw [hpp1]; exact hlen1) ?_
          intro e2 a2 w2 hrel2 hpost2
          exact hQ e2 a2 w2 hrel2 (Post.trans hf1 hpin1 hpp1 hpost2)
        | exit id =>
          simp only [Option.some.injEq, Prod.mk.injEq] at he
          obtain ⟨rfl, rfl⟩ := he
          cases e <;> simp only [exRel] at hrel
          exact hQ _ a' w' hrel hpost
        | ret =>
          simp only [Option.some.injEq, Prod.mk.injEq] at he
          obtain ⟨rfl, rfl⟩ := he
          cases e <;> simp only [exRel] at hrel
          exact hQ _ a' w' trivial hpost
  | cond rc rt re iht ihe =>
    intro c E E' st st' ex hc he N a w m Q i hp hQ
    cases c <;> simp only [chkC] at hc <;> try (simp at hc; done)
    rename_i cc ct ce
    split at hc
    case isFalse => simp at hc
    case isTrue hco =>
    cases h1 : chkC L.P L.fn L.ty okb draw slots nt E ct rt with
    | none => rw [h1] at hc; simp at hc
    | some E1 =>
      rw [h1] at hc
      simp only at hc
      cases h2 : chkC L.P L.fn L.ty okb draw slots nt E ce re with
      | none => rw [h2] at hc; simp at hc
      | some E2 =>
        rw [h2] at hc
        simp only [Option.some.injEq] at hc
        subst hc
        have hr := chkOpd_ok hl i hco
        simp only [execC] at he
        split at he
        · rename_i b hb
          rw [hb] at hr
          have hv := hr.bool_inv
          refine wp_cond hv ?_
          by_cases hbt : b = true
          · subst hbt
            simp only [if_true] at he ⊢
            refine iht ct E E1 st st' ex h1 he N a w m Q i hp ?_
            intro e a' w' hrel hpost
            refine hQ e a' w' hrel ?_
            split
            · exact hpost.forget
            · exact hpost.forget
          · have hbf : b = false := by cases b <;> simp_all
            subst hbf
            simp only [Bool.false_eq_true, if_false] at he ⊢
            refine ihe ce E E2 st st' ex h2 he N a w m Q i hp ?_
            intro e a' w' hrel hpost
            refine hQ e a' w' hrel ?_
            split
            · exact hpost.forget
            · exact hpost.forget
        · simp at he
  | block id rb ih =>
    intro c E E' st st' ex hc he N a w m Q i hp hQ
    cases c <;> simp only [chkC] at hc <;> try (simp at hc; done)
    rename_i cid cb
    split at hc
    case isFalse => simp at hc
    case isTrue hid =>
    subst hid
    cases h1 : chkC L.P L.fn L.ty okb draw slots nt E cb rb with
    | none => rw [h1] at hc; simp at hc
    | some E1 =>
      rw [h1] at hc
      simp only [Option.some.injEq] at hc
      subst hc
      simp only [execC] at he
      cases hx : execC call again rb st with
      | none => rw [hx] at he; simp at he
      | some x =>
        obtain ⟨e1, s1⟩ := x
        rw [hx] at he
        refine wp_block (ih cb E E1 st s1 e1 h1 hx N a w m _ i hp ?_)
        intro e a' w' hrel hpost
        cases e1 with
        | normal =>
          simp only [Option.some.injEq, Prod.mk.injEq] at he
          obtain ⟨rfl, rfl⟩ := he
          cases e <;> simp only [exRel] at hrel
          exact hQ .normal a' w' trivial (by simpa using hpost.forget)
        | exit j =>
          cases e <;> simp only [exRel] at hrel
          rename_i j'
          subst hrel
          simp only at he
          by_cases hj : j = cid
          · subst hj
            simp only [if_true, Option.some.injEq, Prod.mk.injEq] at he
            obtain ⟨rfl, rfl⟩ := he
            simp only [Exit.inBlock, if_true]
            exact hQ .normal a' w' trivial (by simpa using hpost)
          · rw [if_neg hj] at he
            simp only [Option.some.injEq, Prod.mk.injEq] at he
            obtain ⟨rfl, rfl⟩ := he
            simp only [Exit.inBlock, if_neg hj]
            exact hQ (.exit j) a' w' rfl hpost
        | ret =>
          simp only [Option.some.injEq, Prod.mk.injEq] at he
          obtain ⟨rfl, rfl⟩ := he
          cases e <;> simp only [exRel] at hrel
          exact hQ .ret a' w' trivial hpost
  | loop live rb ih =>
    intro c E E' st st' ex hc he N a w m Q i hp hQ
    cases c <;> simp only [chkC] at hc <;> try (simp at hc; done)
    rename_i cb
    cases h1 : chkC L.P L.fn L.ty okb draw slots nt [] cb rb with
    | none => rw [h1] at hc; simp at hc
    | some E1 =>
      rw [h1] at hc
      simp only [Option.some.injEq] at hc
      subst hc
      simp only [execC] at he
      cases ht : tidy live st with
      | none => rw [ht] at he; simp at he
      | some st1 =>
        rw [ht] at he
        simp only at he
        cases hx : execC call again rb st1 with
        | none => rw [hx] at he; simp at he
        | some x =>
          obtain ⟨e1, s2⟩ := x
          rw [hx] at he
          obtain ⟨m1, hi1, hf1, hpin1, hpp1, hlen1⟩ := tidy_ok i hp ht
          cases e1 with
          | normal =>
            simp only at he
            obtain ⟨k, hk⟩ := hag slots nt hn live rb s2 st' ex he cb E1 h1
            refine wp_loop_rounds (k + 1) ?_
            rw [rounds_succ]
            refine ih cb [] E1 st1 s2 .normal h1 hx N a w m1 _ hi1 (by rw [hpp1]; exact hlen1) ?_
            intro e a' w' hrel hpost
            cases e <;> simp only [exRel] at hrel
            obtain ⟨m2, hi2, hf2, hpin2, hpp2, hlen2⟩ := hpost.post
            simp only [Exit.then]
            refine hk N a' w' m2 Q _ _ hi2 (by rw [hpp2]; exact hlen2) ?_
            intro e3 a3 w3 hrel3 hpost3
            refine hQ e3 a3 w3 hrel3 ?_
            have p2 := Post.trans hf2 hpin2 hpp2 hpost3
            have p1 := Post.trans hf1 hpin1 hpp1 p2
            split
            · exact p1
            · exact p1
          | exit id =>
            simp only [Option.some.injEq, Prod.mk.injEq] at he
            obtain ⟨rfl, rfl⟩ := he
            refine wp_loop_rounds 1 ?_
            rw [rounds_succ]
            refine ih cb [] E1 st1 s2 (.exit id) h1 hx N a w m1 _ hi1 (by rw [hpp1]; exact hlen1) ?_
            intro e a' w' hrel hpost
            cases e <;> simp only [exRel] at hrel
            exact hQ _ a' w' hrel (Post.trans hf1 hpin1 hpp1 hpost).bare
          | ret =>
            simp only [Option.some.injEq, Prod.mk.injEq] at he
            obtain ⟨rfl, rfl⟩ := he
            refine wp_loop_rounds 1 ?_
            rw [rounds_succ]
            refine ih cb [] E1 st1 s2 .ret h1 hx N a w m1 _ hi1 (by rw [hpp1]; exact hlen1) ?_
            intro e a' w' hrel hpost
            cases e <;> simp only [exRel] at hrel
            exact hQ _ a' w' trivial (Post.trans hf1 hpin1 hpp1 hpost).bare

/-- The rounds of a loop, by the soundness of its body. -/
theorem again_succ (hl : LinkOk L okb) (hd : DrawOk L okb draw) {call : CallF} (hcall : CallOk L call) {again : RCode → St → Option (Ex × St)} (hag : AgainOk L okb draw again) :
    AgainOk L okb draw (execC call again) := by
  intro slots nt hn live rb st st' ex he c E' hc
  simp only [execC] at he
  cases ht : tidy live st with
  | none => rw [ht] at he; simp at he
  | some st1 =>
    rw [ht] at he
    simp only at he
    cases hx : execC call again rb st1 with
    | none => rw [hx] at he; simp at he
    | some x =>
      obtain ⟨e1, s2⟩ := x
      rw [hx] at he
      cases e1 with
      | normal =>
        simp only at he
        obtain ⟨k, hk⟩ := hag slots nt hn live rb s2 st' ex he c E' hc
        refine ⟨k + 1, ?_⟩
        intro N a w m Q E env i hp hQ
        obtain ⟨m1, hi1, hf1, hpin1, hpp1, hlen1⟩ := tidy_ok i hp ht
        rw [rounds_succ]
        refine code_sound hn hl hd hcall hag rb c [] E' st1 s2 .normal hc hx N a w m1 _ hi1 (by rw [hpp1]; exact hlen1) ?_
        intro e a' w' hrel hpost
        cases e <;> simp only [exRel] at hrel
        obtain ⟨m2, hi2, hf2, hpin2, hpp2, hlen2⟩ := hpost.post
        simp only [Exit.then]
        refine hk N a' w' m2 Q _ _ hi2 (by rw [hpp2]; exact hlen2) ?_
        intro e3 a3 w3 hrel3 hpost3
        exact hQ e3 a3 w3 hrel3 (Post.trans hf1 hpin1 hpp1 (Post.trans hf2 hpin2 hpp2 hpost3))
      | exit id =>
        simp only [Option.some.injEq, Prod.mk.injEq] at he
        obtain ⟨rfl, rfl⟩ := he
        refine ⟨1, ?_⟩
        intro N a w m Q E env i hp hQ
        obtain ⟨m1, hi1, hf1, hpin1, hpp1, hlen1⟩ := tidy_ok i hp ht
        rw [rounds_succ]
        refine code_sound hn hl hd hcall hag rb c [] E' st1 s2 (.exit id) hc hx N a w m1 _ hi1 (by rw [hpp1]; exact hlen1) ?_
        intro e a' w' hrel hpost
        cases e <;> simp only [exRel] at hrel
        exact hQ _ a' w' hrel (Post.trans hf1 hpin1 hpp1 hpost).bare
      | ret =>
        simp only [Option.some.injEq, Prod.mk.injEq] at he
        obtain ⟨rfl, rfl⟩ := he
        refine ⟨1, ?_⟩
        intro N a w m Q E env i hp hQ
        obtain ⟨m1, hi1, hf1, hpin1, hpp1, hlen1⟩ := tidy_ok i hp ht
        rw [rounds_succ]
        refine code_sound hn hl hd hcall hag rb c [] E' st1 s2 .ret hc hx N a w m1 _ hi1 (by rw [hpp1]; exact hlen1) ?_
        intro e a' w' hrel hpost
        cases e <;> simp only [exRel] at hrel
        exact hQ _ a' w' trivial (Post.trans hf1 hpin1 hpp1 hpost).bare
end
end Go.Ash
/- Functions are sound: what a call gives here, the model's call comes to. -/
namespace Go.Ash

def chkRes (P : Program) (slots : List Nat) : List ResultVar → List RRes → Bool
  | [], [] => true
  | .tmp t :: gs, .v i :: rs => decide (slots[i]? = some t) && chkRes P slots gs rs
  | .cell t ty :: gs, .cell i agg sz :: rs => decide (slots[i]? = some t) && decide (aggOf P ty = some agg) && decide (szOf P ty = some sz) && chkRes P slots gs rs
  | _, _ => false

/-- A function's code is the model's. -/
def chkF (P : Program) (fn ty : Nat → Nat) (okb : Nat → Bool) (draw : List Nat → Nat → Array Oper → List ROp → Bool) (gf : Func) (r : RFunc) : Bool :=
  decide r.slots.Nodup && decide (r.npar ≤ gf.ntmps) && (gf.name != "runtime.NumGoroutine") &&
  (match gf.body with
   | some c => (chkC P fn ty okb draw r.slots gf.ntmps [] c r.body).isSome
   | none => false) && chkRes P r.slots gf.results.toList r.res

structure Linked (L : Link) (okb : Nat → Bool) (draw : List Nat → Nat → Array Oper → List ROp → Bool) (F : Nat → Option RFunc) : Prop where
  ok : ∀ g, L.ok g ↔ okb g = true
  fns : ∀ f, okb f = true → ∃ gf r, L.P.funcs[L.fn f]? = some gf ∧ F f = some r ∧ chkF L.P L.fn L.ty okb draw gf r = true
  draw : DrawOk L okb draw

section
variable {L : Link} {N : Nat → Prop} {okb : Nat → Bool} {slots : List Nat} {nt : Nat} {draw : List Nat → Nat → Array Oper → List ROp → Bool} {F : Nat → Option RFunc}

theorem Linked.linkOk (k : Linked L okb draw F) : LinkOk L okb := by
  refine ⟨fun g hg => (k.ok g).2 hg, fun f hf => ?_⟩
  obtain ⟨gf, r, h1, _, h3⟩ := k.fns f ((k.ok f).1 hf)
  unfold chkF at h3
  simp only [Bool.and_eq_true] at h3
  obtain ⟨⟨⟨⟨_, _⟩, h4⟩, h5⟩, _⟩ := h3
  split at h5
  · rename_i c hc
    exact ⟨gf, c, h1, by simpa using h4, hc⟩
  · simp at h5

theorem load_run {w : World} {h : Heap} {m : PMap} (s : Sim L N w h.at m) {t : TypeId} {agg : Bool} {sz fr : Nat} {u : Value} {a v : AVal} {e : Eff} (hag : aggOf L.P t = some agg) (hsz : szOf L.P t = some sz)
    (ha : Reps L w (Bof N h.at m) m u a) (hv : opSem (.load agg sz) [a] h fr = some (v, e)) : ∃ r, (do loadVar t (← asAddr u) : Sem Value).run L.P w = .ok r w ∧ Reps L w (Bof N h.at m) m r v := by
  cases a <;> simp only [opSem] at hv <;> try (simp at hv; done)
  · simp only [Option.map_eq_some_iff] at hv
    obtain ⟨x, hx, he⟩ := hv
    simp only [Prod.mk.injEq] at he
    obtain ⟨rfl, _⟩ := he
    cases ha with
    | ptr ad _ vs hspot hids hcell hrep hB =>
      obtain ⟨r, h1, h2⟩ := run_loadVar_part (a := ad) hag hsz (fun j c hc => ⟨vs j, by rw [addr_add hspot]; exact hcell j c hc, hrep j c hc⟩) hx
      exact ⟨r, by simpa [asAddr] using h1, h2⟩
  · rename_i id i oo
    split at hv
    · rename_i b hb
      split at hv
      · rename_i el hel
        simp only [Option.map_eq_some_iff] at hv
        obtain ⟨x, hx, he⟩ := hv
        simp only [Prod.mk.injEq] at he
        obtain ⟨rfl, _⟩ := he
        cases ha with
        | mptr _ _ _ p hm =>
          obtain ⟨q, arr, el', hq, hes, hn, harr, hszs, hcell⟩ := s.blk _ b hb
          rw [hm] at hq; cases hq
          obtain ⟨r, h1, h2⟩ := run_loadVar_part (a := ⟨p.blk, p.base + i * p.esz + oo, none⟩) (B := Bof N h.at m) (m := m) hag hsz (fun j c hc => by
            rw [List.getElem?_drop] at hc
            obtain ⟨v, hv, hr⟩ := hcell i el (oo + j) c hel hc
            refine ⟨v, ?_, hr⟩
            rw [Addr.add_lit, cells_eq harr]
            rw [← hv]; congr 1; omega) hx
          exact ⟨r, by simpa [asAddr] using h1, h2⟩
      · simp at hv
    · simp at hv

def readRes (tmps : Array Value) : ResultVar → Sem Value
  | .tmp t => pure (tmps.getD t undef)
  | .cell c t => do loadVar t (← asAddr (tmps.getD c undef))

theorem results_eq (gf : Func) (tmps : Array Value) : results gf tmps = (do
    let vs ← gf.results.mapM (readRes tmps)
    pure (if h : vs.size = 1 then vs[0] else .tuple vs)) := rfl

theorem results_ok {E : List (Option Nat)} {a : Act} {w : World} {m : PMap} {st : St} {env : List AVal} (i : Inv L N slots nt E a w m st env) : ∀ (gs : List ResultVar) (rs : List RRes) (vs : List AVal),
    chkRes L.P slots gs rs = true → resL st rs = some vs → ∃ us : List Value, (gs.mapM (readRes a.tmps) : Sem (List Value)).run L.P w = .ok us w ∧ All2 (fun u v => Reps L w (Bof N st.heap.at m) m u v) us vs
  | [], [], vs, _, h => by
    simp only [resL, Option.some.injEq] at h
    subst h
    exact ⟨[], by simp, .nil⟩
  | .tmp t :: gs, .v k :: rs, vs, hc, h => by
    simp only [chkRes, Bool.and_eq_true, decide_eq_true_eq] at hc
    simp only [resL, resA] at h
    split at h
    · rename_i vs' hvs
      simp only [Option.some.injEq] at h
      subst h
      obtain ⟨us, h1, h2⟩ := results_ok i gs rs vs' hc.2 hvs
      exact ⟨a.tmps.getD t undef :: us, by simp only [List.mapM_cons, readRes, Sem.run_bind, Sem.run_pure, Result.andThen_ok, h1], .cons (i.vars k t hc.1) h2⟩
    · simp at h
  | .cell t ty :: gs, .cell k agg sz :: rs, vs, hc, h => by
    simp only [chkRes, Bool.and_eq_true, decide_eq_true_eq] at hc
    obtain ⟨⟨⟨hc1, hc2⟩, hc3⟩, hc4⟩ := hc
    simp only [resL, resA] at h
    split at h
    · rename_i v hv
      simp only [Option.map_eq_some_iff] at hv
      obtain ⟨⟨v', e⟩, hv1, rfl⟩ := hv
      split at h
      · rename_i vs' hvs
        simp only [Option.some.injEq] at h
        subst h
        obtain ⟨us, h1, h2⟩ := results_ok i gs rs vs' hc4 hvs
        obtain ⟨r, h3, h4⟩ := load_run i.sim hc2 hc3 (i.vars k t hc1) hv1
        exact ⟨r :: us, by 
          have h3' : (readRes a.tmps (.cell t ty)).run L.P w = .ok r w := h3
          simp only [List.mapM_cons, Sem.run_bind, h3', Result.andThen_ok, h1, Sem.run_pure], .cons h4 h2⟩
      · simp at h
    · simp at h
  | [], _ :: _, _, hc, _ => by simp [chkRes] at hc
  | .tmp _ :: _, [], _, hc, _ => by simp [chkRes] at hc
  | .cell _ _ :: _, [], _, hc, _ => by simp [chkRes] at hc
  | .tmp _ :: _, .cell _ _ _ :: _, _, hc, _ => by simp [chkRes] at hc
  | .cell _ _ :: _, .v _ :: _, _, hc, _ => by simp [chkRes] at hc

theorem tupled_ok {w : World} {B : Nat → Prop} {m : PMap} {us : List Value} {vs : List AVal} (h : All2 (fun u v => Reps L w B m u v) us vs) :
    Reps L w B m (if h : us.toArray.size = 1 then us.toArray[0] else .tuple us.toArray) (tupled vs) := by
  have tup : us.length ≠ 1 → Reps L w B m (if h : us.toArray.size = 1 then us.toArray[0] else .tuple us.toArray) (.tup vs) := by
    intro hne
    rw [dif_neg (by simpa using hne)]
    have hl := h.length
    refine .tup _ _ (by simpa using hl) fun i c hc => ?_
    have hi : i < us.length := by rw [hl]; exact lt_of_getx hc
    have := h.get (List.getElem?_eq_getElem hi) hc
    simpa [Array.getD, hi] using this
  cases h with
  | nil => exact tup (by simp)
  | cons h1 h2 =>
    cases h2 with
    | nil => simpa [tupled] using h1
    | cons h3 h4 => exact tup (by simp)

theorem leave_ok {E : List (Option Nat)} {a : Act} {w : World} {m : PMap} {st : St} {env : List AVal} (i : Inv L N slots nt E a w m st env) {r : RFunc} {v : AVal} {H' : Heap} {gf : Func}
    (hp : st.pin ≤ st.heap.length) (hc : chkRes L.P slots gf.results.toList r.res = true) (hl : r.leave st = some (v, H')) :
    ∃ u m', (results gf a.tmps).run L.P w = .ok u w ∧ Sim L N w H'.at m' ∧ Dom H' m' ∧ Fwd w st.heap.at m w H'.at m' ∧ st.pin ≤ H'.length ∧ (∀ j, j < st.pin → m' j = m j) ∧ Reps L w (Bof N H'.at m') m' u v := by
  unfold RFunc.leave at hl
  simp only [Option.bind_eq_some_iff] at hl
  obtain ⟨vs, hvs, hl⟩ := hl
  obtain ⟨us, h1, h2⟩ := results_ok i gf.results.toList r.res vs hc hvs
  have hrun : (results gf a.tmps).run L.P w = .ok (if h : us.toArray.size = 1 then us.toArray[0] else .tuple us.toArray) w := by
    rw [results_eq, Array.mapM_eq_mapM_toList]
    simp only [Sem.run_bind, Sem.run_map]
    rw [h1]
    simp only [Result.andThen_ok, Sem.run_pure]
  have hrep := tupled_ok h2
  split at hl
  · simp only [Option.some.injEq, Prod.mk.injEq] at hl
    obtain ⟨rfl, rfl⟩ := hl
    exact ⟨_, m, hrun, i.sim, i.dom, Fwd.refl _ _ _, hp, fun _ _ => rfl, hrep⟩
  · simp only [Option.map_eq_some_iff, Prod.mk.injEq] at hl
    obtain ⟨l, hreach, rfl, rfl⟩ := hl
    obtain ⟨_, hin, hnd, hcl⟩ := reach_spec _ _ _ _ hreach
    obtain ⟨ext, hext⟩ := reach_first (List.range st.pin) _ _ [] l (by simpa using nodup_range st.pin) hreach
    simp only [List.nil_append] at hext
    have hnodup := hnd List.nodup_nil
    have hclosed : ∀ x ∈ l, ∀ b, st.heap.at x = some b → ∀ y ∈ idsL b.elems, y ∈ l := fun x hx => hcl x hx (by simp)
    obtain ⟨sp, dp, hBM⟩ := i.sim.pack (N' := N) hnodup hclosed (fun b hb => .inl hb) (by
      intro id _ k p hk hpp
      obtain ⟨q, _, _, hq, _, hn, _⟩ := i.sim.blk id k hk
      rw [hpp] at hq; cases hq
      exact hn)
    refine ⟨_, packM m l, hrun, sp, dp, pack_fwd hBM, ?_, ?_, (hrep.pack (fun id hid => hin id (List.mem_append_right _ hid))).less (fun b hb => hb.imp (fun h => h) (hBM b))⟩
    · simp only [pack, List.length_map]
      rw [hext]; simp
    · intro j hj
      have : l[j]? = some j := by
        rw [hext, List.getElem?_append_left (by simpa using hj)]
        simp [hj]
      simp only [packM, this, Option.bind_some]

theorem enter_vars (npar : Nat) (args : List AVal) : ∀ (sl : List Nat) (i t : Nat), sl[i]? = some t →
    gd (sl.map fun t => if t < npar then gd args t else .und) i = if t < npar then gd args t else .und
  | [], _, _, h => by simp at h
  | s :: sl, 0, t, h => by simp at h; subst h; rfl
  | s :: sl, i + 1, t, h => by simp at h; simp only [List.map_cons, gd]; exact enter_vars npar args sl i t h

theorem run_step (k : Linked L okb draw F) {ex : RCode → St → Option (Ex × St)}
    (hex : ∀ (slots : List Nat) (nt : Nat), slots.Nodup → ∀ (r : RCode) (c : Code) (E' : List (Option Nat)) (st st' : St) (e : Ex), chkC L.P L.fn L.ty okb draw slots nt [] c r = some E' → ex r st = some (e, st') →
      ∀ (N : Nat → Prop) (a : Act) (w : World) (m : PMap) (Q : Exit → Act → World → Prop), Inv L N slots nt [] a w m st st.env → st.pin ≤ st.heap.length →
      (∀ e' a' w', exRel e e' → Post L N slots nt w st m (if e = .normal then E' else []) st' a' w' → Q e' a' w') → c.wp L.P Q a w) : CallOk L (runWith F ex) := by
  intro f args H v H' hr hok N w m us s d hl hreps
  obtain ⟨gf, r, hgf, hF, hchk⟩ := k.fns f ((k.ok f).1 hok)
  unfold runWith at hr
  rw [hF] at hr
  simp only at hr
  split at hr
  case isFalse => simp at hr
  case isTrue hnp =>
  cases hx : ex r.body (r.enter args H) with
  | none => rw [hx] at hr; simp at hr
  | some x =>
    obtain ⟨e, st⟩ := x
    rw [hx] at hr
    have hne : ∀ id, e ≠ .exit id := by rintro id rfl; simp at hr
    have hlv : r.leave st = some (v, H') := by
      cases e with
      | normal => exact hr
      | exit id => exact absurd rfl (hne id)
      | ret => exact hr
    unfold chkF at hchk
    simp only [Bool.and_eq_true, decide_eq_true_eq] at hchk
    obtain ⟨⟨⟨⟨hnd, hnt⟩, _⟩, hbody⟩, hres⟩ := hchk
    split at hbody
    case h_2 => simp at hbody
    case h_1 c hc =>
    obtain ⟨E', hE⟩ := Option.isSome_iff_exists.1 hbody
    refine calls_of_wp hgf hc ?_
    have hsz : (us ++ Array.replicate (gf.ntmps - us.size) undef).size = gf.ntmps := by simp; omega
    have inv : Inv L N r.slots gf.ntmps [] { tmps := us ++ Array.replicate (gf.ntmps - us.size) undef, defers := [] } w m (r.enter args H) (r.enter args H).env := by
      refine ⟨hsz, rfl, ?_, fun j t h => by simp at h, s, d⟩
      intro i t hi
      simp only [RFunc.enter]
      rw [enter_vars r.npar args r.slots i t hi]
      split
      · rename_i ht
        have hta : t < args.length := by omega
        have := hreps t (gd args t) (gd_get hta)
        have e1 : (us ++ Array.replicate (gf.ntmps - us.size) undef).getD t undef = us.getD t undef := by
          rw [Array.getD_eq_getD_getElem?, Array.getD_eq_getD_getElem?, Array.getElem?_append_left (by omega)]
        rw [e1]; exact this
      · exact .und _
    refine hex r.slots gf.ntmps hnd r.body c E' _ st e hE hx N _ w m _ inv (Nat.le_refl _) ?_
    intro e' a' w' hrel hpost
    obtain ⟨m1, hi1, hf1, hpin1, hpp1, hlen1⟩ := hpost.post
    obtain ⟨u, m2, hrun, s2, d2, f2, hl2, hp2, hr2⟩ := leave_ok hi1 (by rw [hpp1]; exact hlen1) hres hlv
    have hpin : (r.enter args H).pin = H.length := rfl
    have hheap : (r.enter args H).heap = H := rfl
    have fin : bodyPost L.P gf (fun e w' => ∃ u m', e = .returned u ∧ Sim L N w' H'.at m' ∧ Dom H' m' ∧ Fwd w H.at m w' H'.at m' ∧ H.length ≤ H'.length ∧
        (∀ j, j < H.length → m' j = m j) ∧ Reps L w' (Bof N H'.at m') m' u v) .ret a' w' := by
      refine ⟨hi1.defers, u, hrun, u, m2, rfl, s2, d2, hf1.trans f2, by rw [hpp1, hpin] at hl2; exact hl2, ?_, hr2⟩
      intro j hj
      rw [hp2 j (by rw [hpp1, hpin]; exact hj), hpin1 j (by rw [hpin]; exact hj)]
    cases e with
    | normal => cases e' <;> simp only [exRel] at hrel; exact fin
    | exit id => exact absurd rfl (hne id)
    | ret => cases e' <;> simp only [exRel] at hrel; exact fin

theorem both_ok (k : Linked L okb draw F) : ∀ n, CallOk L (runN F n) ∧ AgainOk L okb draw (execN F n)
  | 0 => by
    refine ⟨?_, ?_⟩
    · intro f args H v H' hr
      unfold runN runWith at hr
      split at hr
      · split at hr
        · simp [execN] at hr
        · simp at hr
      · simp at hr
    · intro slots nt hn live rb st st' ex he
      simp [execN] at he
  | n + 1 => by
    obtain ⟨ihc, iha⟩ := both_ok k n
    refine ⟨?_, ?_⟩
    · refine run_step k ?_
      intro slots nt hn r c E' st st' e hc he N a w m Q i hp hQ
      exact code_sound hn k.linkOk k.draw ihc iha r c [] E' st st' e hc he N a w m Q i hp hQ
    · exact again_succ k.linkOk k.draw ihc iha

/-- What a run of the table gives, the model's call comes to. -/
theorem run_ok (k : Linked L okb draw F) : CallOk L (run F) := by
  intro f args H v H' hr
  obtain ⟨n, hn⟩ := run_iff.1 hr
  exact (both_ok k n).1 f args H v H' hn
end
end Go.Ash
/- What a law is handed, as trees: plain data of any shape. -/
namespace Go.Ash
open Go.RowKit

def isStructT (P : Program) (t : TypeId) : Bool := match P.underlying t with | some (.struct _) => true | _ => false

/-- Fields that lie one behind the other. -/
def tiles (P : Program) : Nat → List Field → Option Nat
  | o, [] => some o
  | o, f :: fs => if f.offset = o then tiles P (o + P.cellsOf f.type) fs else none

def plainTy (P : Program) : Nat → TypeId → Bool
  | 0, _ => false
  | k + 1, t => match P.underlying t with
    | some .bool | some (.int _) | some .string => true
    | some (.slice e) => plainTy P k e && decide (0 < P.cellsOf e)
    | some (.struct fs) => fs.toList.all (fun f => plainTy P k f.type) && decide (tiles P 0 fs.toList = some (P.cellsOf t))
    | _ => false

def mkA (agg : Bool) (ys : List AVal) : AVal := if agg then .agg ys else ys.headD .und

/-- What the cells of a type show. -/
def ShapeC (P : Program) : Nat → TypeId → List AVal → Prop
  | 0, _, _ => False
  | k + 1, t, as => match P.underlying t with
    | some .bool => ∃ b, as = [.bool b]
    | some (.int kd) => ∃ n, as = [.int kd n] ∧ kd.min ≤ n ∧ n ≤ kd.max
    | some .string => ∃ s : ByteArray, as = [.str s] ∧ s.size ≤ maxLen
    | some (.slice e) => as = [.slc true []] ∨ ∃ xs, as = [.slc false xs] ∧ xs.length ≤ maxLen ∧ ∀ x ∈ xs, ∃ ys, x = mkA (isStructT P e) ys ∧ ShapeC P k e ys
    | some (.struct fs) => as.length = P.cellsOf t ∧ ∀ f ∈ fs.toList, ShapeC P k f.type ((as.drop f.offset).take (P.cellsOf f.type))
    | _ => False

theorem shape_one {P : Program} {k : Nat} {t : TypeId} {ys : List AVal} (h : ShapeC P k t ys) (hs : isStructT P t = false) : ∃ c, ys = [c] ∧ c.cells = [c] := by
  cases k with
  | zero => exact h.elim
  | succ k =>
    unfold ShapeC at h
    unfold isStructT at hs
    split at h
    · obtain ⟨b, rfl⟩ := h; exact ⟨_, rfl, rfl⟩
    · obtain ⟨n, rfl, _⟩ := h; exact ⟨_, rfl, rfl⟩
    · obtain ⟨s, rfl, _⟩ := h; exact ⟨_, rfl, rfl⟩
    · rcases h with rfl | ⟨xs, rfl, _⟩ <;> exact ⟨_, rfl, rfl⟩
    · rename_i ht; rw [ht] at hs; simp at hs
    · exact h.elim

theorem mkA_cells {P : Program} {k : Nat} {t : TypeId} {ys : List AVal} (h : ShapeC P k t ys) : (mkA (isStructT P t) ys).cells = ys := by
  unfold mkA
  split
  · rfl
  · rename_i hs
    obtain ⟨c, rfl, hc⟩ := shape_one h (by simpa using hs)
    exact hc

theorem mkA_ids {agg : Bool} {ys : List AVal} (h : idsL ys = []) : (mkA agg ys).ids = [] := by
  unfold mkA
  split
  · exact h
  · cases ys with
    | nil => rfl
    | cons y ys => simp only [idsL, List.append_eq_nil_iff] at h; exact h.1

section
variable {L : Link} {H : Type} {enc : TypeId × Value → H} {w : World} {base : Nat} {spare : Nat → Bool} {held : Bool}

def RowRead (L : Link) (w : World) (cs : List Value) (as : List AVal) : Prop :=
  as.length = cs.length ∧ idsL as = [] ∧ ∀ (i : Nat) (c : AVal) (u : Value), as[i]? = some c → cs[i]? = some u → Reps L w (fun _ => False) (fun _ => none) u c

theorem idsL_append : ∀ (a b : List AVal), idsL (a ++ b) = idsL a ++ idsL b
  | [], b => rfl
  | x :: a, b => by simp only [List.cons_append, idsL, idsL_append a b, List.append_assoc]

theorem RowRead.append {c1 c2 : List Value} {a1 a2 : List AVal} (h1 : RowRead L w c1 a1) (h2 : RowRead L w c2 a2) : RowRead L w (c1 ++ c2) (a1 ++ a2) := by
  obtain ⟨l1, i1, r1⟩ := h1
  obtain ⟨l2, i2, r2⟩ := h2
  refine ⟨by simp [l1, l2], by rw [idsL_append, i1, i2]; rfl, ?_⟩
  intro i c u hc hu
  by_cases hi : i < a1.length
  · rw [List.getElem?_append_left hi] at hc
    rw [List.getElem?_append_left (by omega)] at hu
    exact r1 i c u hc hu
  · rw [List.getElem?_append_right (by omega)] at hc
    rw [List.getElem?_append_right (by omega), ← l1] at hu
    exact r2 _ c u hc hu

theorem rowRead_one {u : Value} {c : AVal} (hi : c.ids = []) (h : Reps L w (fun _ => False) (fun _ => none) u c) : RowRead L w [u] [c] := by
  refine ⟨rfl, by simp [idsL, hi], ?_⟩
  intro i c' u' hc hu
  cases i with
  | zero => simp at hc hu; subst hc; subst hu; exact h
  | succ i => simp at hc

theorem cell_spot_none {a : Addr} {i s j : Nat} {u : Value} (h0 : a.spot = none) (h : w.cell? ((a.add (i * s)).add j) = some u) : w.cell? ⟨a.block, a.off + (i * s + j), none⟩ = some u := by
  rw [addr_add h0, Addr.add_lit] at h
  rw [← Nat.add_assoc]; exact h

theorem open_cells : ∀ (k : Nat) (t : TypeId), plainTy L.P k t = true → ∀ (fuel : Nat) (cs : List Value) (x : DataW H × List MemPlace), DataW.trod enc L.P w base spare held fuel t cs = some x →
    ∃ as, RowRead L w cs as ∧ ShapeC L.P k t as
  | 0, _, h => by simp [plainTy] at h
  | k + 1, t, hp => by
    intro fuel cs x hx
    unfold plainTy at hp
    split at hp
    · rename_i ht
      obtain ⟨b, rfl, _⟩ := DataW.trod_bool ht hx
      exact ⟨[.bool b], rowRead_one rfl (.bool b), by unfold ShapeC; rw [ht]; exact ⟨b, rfl⟩⟩
    · rename_i kd ht
      obtain ⟨n, rfl, _, hw⟩ := DataW.trod_int ht hx
      simp only [Lit.wf, Bool.and_eq_true, decide_eq_true_eq] at hw
      exact ⟨[.int kd n], rowRead_one rfl (.int kd n), by unfold ShapeC; rw [ht]; exact ⟨n, rfl, hw.1, hw.2⟩⟩
    · rename_i ht
      obtain ⟨s, rfl, _, hs⟩ := DataW.trod_string ht hx
      exact ⟨[.str s], rowRead_one rfl (.str s), by unfold ShapeC; rw [ht]; exact ⟨s, rfl, hs⟩⟩
    · rename_i e ht
      simp only [Bool.and_eq_true, decide_eq_true_eq] at hp
      obtain ⟨hpe, hpos⟩ := hp
      rcases DataW.trod_slice ht hx with ⟨rfl, _⟩ | ⟨a, len, cap, elems, rest, n, _, rfl, _, hb, hl, hm, hlen, hel, _, _⟩
      · exact ⟨[.slc true []], rowRead_one rfl .nils, by unfold ShapeC; rw [ht]; exact .inl rfl⟩
      · have each : ∀ i, i < len → ∃ ci as, (∀ j, j < L.P.cellsOf e → w.cell? ((a.add (i * L.P.cellsOf e)).add j) = ci[j]?) ∧ ci.length = L.P.cellsOf e ∧ RowRead L w ci as ∧ ShapeC L.P k e as := by
          intro i hi
          have h1 := hel i hi
          rw [List.getElem?_eq_getElem (by omega), Option.bind_eq_some_iff] at h1
          obtain ⟨ci, hci, htr⟩ := h1
          obtain ⟨_, hcl, hcell⟩ := World.cells?_some hci
          obtain ⟨as, hr, hs⟩ := open_cells k e hpe n ci _ htr
          exact ⟨ci, as, hcell, hcl, hr, hs⟩
        have hch : ∃ f : Nat → List AVal, ∀ i, i < len → ∃ ci, (∀ j, j < L.P.cellsOf e → w.cell? ((a.add (i * L.P.cellsOf e)).add j) = ci[j]?) ∧ ci.length = L.P.cellsOf e ∧ RowRead L w ci (f i) ∧ ShapeC L.P k e (f i) := by
          refine ⟨fun i => if h : i < len then Classical.choose (Classical.choose_spec (each i h)) else [], fun i h => ?_⟩
          simp only [dif_pos h]
          exact ⟨_, Classical.choose_spec (Classical.choose_spec (each i h))⟩
        obtain ⟨f, hf⟩ := hch
        have hxl : ((List.range len).map fun i => mkA (isStructT L.P e) (f i)).length = len := by simp
        have hget : ∀ (i : Nat) (y : AVal), ((List.range len).map fun i => mkA (isStructT L.P e) (f i))[i]? = some y → i < len ∧ y = mkA (isStructT L.P e) (f i) := by
          intro i y hy
          have hi : i < len := by have := lt_of_getx hy; rw [hxl] at this; exact this
          simp [hi] at hy
          exact ⟨hi, hy.symm⟩
        have hspot : 0 < len → a.spot = none := by
          intro h0
          obtain ⟨ci, hc, hcl, _, _⟩ := hf 0 h0
          have := hc 0 hpos
          rw [List.getElem?_eq_getElem (by omega)] at this
          have h2 := World.cell?_spot this
          simpa [Addr.add] using h2
        have hcell : ∀ (i : Nat) (y : AVal) (j : Nat) (c : AVal), ((List.range len).map fun i => mkA (isStructT L.P e) (f i))[i]? = some y → y.cells[j]? = some c →
            ∃ u, w.cell? ⟨a.block, a.off + (i * L.P.cellsOf e + j), none⟩ = some u ∧ Reps L w (fun _ => False) (fun _ => none) u c := by
          intro i y j c hy hj
          obtain ⟨hi, rfl⟩ := hget i y hy
          obtain ⟨ci, hc, hcl, ⟨hl1, _, hrep⟩, hs⟩ := hf i hi
          rw [mkA_cells hs] at hj
          have hjl : j < L.P.cellsOf e := by have := lt_of_getx hj; omega
          have h1 := hc j hjl
          rw [List.getElem?_eq_getElem (by omega)] at h1
          exact ⟨_, cell_spot_none (hspot (by omega)) h1, hrep j c _ hj (List.getElem?_eq_getElem (by omega))⟩
        refine ⟨[.slc false ((List.range len).map fun i => mkA (isStructT L.P e) (f i))], rowRead_one rfl ?_, ?_⟩
        · have := Reps.slc (L := L) (w := w) (B := fun _ => False) (m := fun _ => none) a (L.P.cellsOf e) cap ((List.range len).map fun i => mkA (isStructT L.P e) (f i))
            (fun i j => (w.cell? ⟨a.block, a.off + (i * L.P.cellsOf e + j), none⟩).getD undef) (fun hne => hspot (by
              rcases Nat.eq_zero_or_pos len with h | h
              · subst h; simp at hne
              · exact h)) (by rw [hxl]; exact hl) (by
              intro i y hy
              obtain ⟨hi, rfl⟩ := hget i y hy
              obtain ⟨ci, _, hcl, ⟨hl1, _, _⟩, hs⟩ := hf i hi
              rw [mkA_cells hs]; omega) (ids_of_mem fun i y hy => by
              obtain ⟨hi, rfl⟩ := hget i y hy
              obtain ⟨ci, _, _, ⟨_, hids, _⟩, _⟩ := hf i hi
              exact mkA_ids hids) (by
              intro i y j c hy hj
              obtain ⟨u, hu, _⟩ := hcell i y j c hy hj
              rw [hu]; rfl) (by
              intro i y j c hy hj
              obtain ⟨u, hu, hr⟩ := hcell i y j c hy hj
              rw [hu]; exact hr) (by
              intro hne
              refine ⟨fun h => h, ?_⟩
              have h0 : 0 < len := by
                rcases Nat.eq_zero_or_pos len with h | h
                · subst h; simp at hne
                · exact h
              obtain ⟨ci, hc, hcl, _, _⟩ := hf 0 h0
              have h1 := hc 0 hpos
              rw [List.getElem?_eq_getElem (by omega)] at h1
              have hblk : ((a.add (0 * L.P.cellsOf e)).add 0).block = a.block := by rw [ChangeShapes.block_add, ChangeShapes.block_add]
              unfold World.cell? at h1
              rw [hblk] at h1
              rcases Nat.lt_or_ge a.block w.heap.size with h | h
              · exact h
              · rw [Array.getElem?_eq_none h] at h1; simp at h1)
          rw [hxl] at this
          exact this
        · unfold ShapeC
          rw [ht]
          refine .inr ⟨_, rfl, by rw [hxl]; omega, ?_⟩
          intro y hy
          obtain ⟨i, hi⟩ := List.mem_iff_getElem?.1 hy
          obtain ⟨hil, rfl⟩ := hget i y hi
          obtain ⟨_, _, _, _, hs⟩ := hf i hil
          exact ⟨f i, rfl, hs⟩
    · rename_i fs ht
      simp only [Bool.and_eq_true, decide_eq_true_eq, List.all_eq_true] at hp
      obtain ⟨hpf, htile⟩ := hp
      obtain ⟨xs, n, _, _, hcl, hxl, hfd⟩ := DataW.trod_struct ht hx
      have each : ∀ f ∈ fs.toList, ∃ as, RowRead L w ((cs.drop f.offset).take (L.P.cellsOf f.type)) as ∧ ShapeC L.P k f.type as := by
        intro f hf
        obtain ⟨i, hi⟩ := List.mem_iff_getElem?.1 hf
        have h1 := hfd i f (by simpa using hi)
        have hil : i < xs.length := by
          rw [hxl]
          have := lt_of_getx hi
          simpa using this
        rw [List.getElem?_eq_getElem hil] at h1
        exact open_cells k f.type (hpf f hf) n _ _ h1
      -- one field behind the other
      have build : ∀ (l : List Field) (o top : Nat), tiles L.P o l = some top → o ≤ cs.length → top = cs.length → (∀ f ∈ l, ∃ as, RowRead L w ((cs.drop f.offset).take (L.P.cellsOf f.type)) as ∧ ShapeC L.P k f.type as) →
          ∃ as, RowRead L w (cs.drop o) as ∧ ∀ f ∈ l, o ≤ f.offset ∧ ShapeC L.P k f.type ((as.drop (f.offset - o)).take (L.P.cellsOf f.type)) := by
        intro l
        induction l with
        | nil =>
          intro o top hti ho htop _
          simp only [tiles, Option.some.injEq] at hti
          refine ⟨[], ⟨?_, rfl, fun i c u hc => by simp at hc⟩, fun f hf => by cases hf⟩
          simp; omega
        | cons f l ih =>
          intro o top hti ho htop hall
          simp only [tiles] at hti
          split at hti
          · rename_i hfo
            obtain ⟨a1, hr1, hs1⟩ := hall f (by simp)
            have hle : o + L.P.cellsOf f.type ≤ cs.length := by
              have : ∀ (l : List Field) (p q : Nat), tiles L.P p l = some q → p ≤ q := by
                intro l
                induction l with
                | nil => intro p q h; simp only [tiles, Option.some.injEq] at h; omega
                | cons g l ih => intro p q h; simp only [tiles] at h; split at h; · have := ih _ _ h; omega
                                 · simp at h
              have := this _ _ _ hti; omega
            obtain ⟨a2, hr2, hs2⟩ := ih _ top hti hle htop (fun g hg => hall g (by simp [hg]))
            rw [hfo] at hr1
            have hl1 : a1.length = L.P.cellsOf f.type := by rw [hr1.1]; simp; omega
            have hsplit : cs.drop o = (cs.drop o).take (L.P.cellsOf f.type) ++ cs.drop (o + L.P.cellsOf f.type) := by
              rw [← List.drop_drop, List.take_append_drop]
            refine ⟨a1 ++ a2, by rw [hsplit]; exact hr1.append hr2, ?_⟩
            intro g hg
            rcases List.mem_cons.1 hg with rfl | hg
            · refine ⟨by omega, ?_⟩
              rw [hfo, Nat.sub_self, List.drop_zero, List.take_append_of_le_length (by omega), List.take_of_length_le (by omega)]
              exact hs1
            · obtain ⟨h1, h2⟩ := hs2 g hg
              refine ⟨by omega, ?_⟩
              rw [List.drop_append, List.drop_of_length_le (by omega), List.nil_append]
              rw [show g.offset - o - a1.length = g.offset - (o + L.P.cellsOf f.type) from by omega]
              exact h2
          · simp at hti
      obtain ⟨as, hr, hs⟩ := build fs.toList 0 _ htile (by omega) hcl.symm each
      simp only [List.drop_zero] at hr
      refine ⟨as, hr, ?_⟩
      unfold ShapeC
      rw [ht]
      refine ⟨by rw [hr.1, hcl], fun f hf => ?_⟩
      have := (hs f hf).2
      simpa using this
    · simp at hp

/-- An argument as a tree. -/
theorem open_arg {r : Reach} {b0 k : Nat} {t : TypeId} {v : Value} {d : DataW H} {ps : List MemPlace} (hp : plainTy L.P k t = true) (hval : Value.okWide L.P w r b0 t v)
    (hd : DataW.Trod enc L.P w base spare held t v d ps) : ∃ ys, Reps L w (fun _ => False) (fun _ => none) v (mkA (isStructT L.P t) ys) ∧ (mkA (isStructT L.P t) ys).ids = [] ∧ ShapeC L.P k t ys := by
  obtain ⟨fuel, hx⟩ := hd
  obtain ⟨as, ⟨hl, hids, hrep⟩, hs⟩ := open_cells k t hp fuel _ _ hx
  refine ⟨as, ?_, mkA_ids hids, hs⟩
  unfold mkA
  split
  · rename_i hst
    unfold isStructT at hst
    unfold Value.okWide at hval
    split at hst
    · rename_i fs ht
      rw [ht] at hval
      obtain ⟨cs, rfl, _, _⟩ := hval
      have hcs : (Value.agg cs).cells.toList = cs.toList := rfl
      rw [hcs] at hl hrep
      refine .agg cs as (by simpa using hl.symm) fun i c hc => ?_
      have hi : i < cs.size := by have := lt_of_getx hc; simp at hl; omega
      refine hrep i c _ hc ?_
      simp [Array.getD, hi]
    · simp at hst
  · rename_i hst
    obtain ⟨c, rfl, hc⟩ := shape_one hs (by simpa using hst)
    have hone : v.cells.toList = [v] := by
      cases v <;> first | rfl | skip
      rename_i vs
      exfalso
      unfold Value.okWide at hval
      unfold isStructT at hst
      cases ht : L.P.underlying t with
      | none => rw [ht] at hval; simp [Cell.okWide, ht, Cell.ok] at hval
      | some d =>
        rw [ht] at hval hst
        cases d <;> simp [Cell.okWide, ht, Cell.ok] at hval hst
        cases k with
        | zero => simp [plainTy] at hp
        | succ k => unfold plainTy at hp; rw [ht] at hp; simp at hp
    rw [hone] at hrep
    exact hrep 0 c v rfl rfl
end

/-- A law's call: it answers true, and nothing that was there is touched. -/
theorem law_calls {L : Link} {call : CallF} (hcall : CallOk L call) {f : Nat} (hok : L.ok f) {args : Array Value} {as : List AVal} {H : Heap} (hc : call f as [] = some (.bool true, H)) {W : World}
    (hl : args.size = as.length) (hr : ∀ (i : Nat) (a : AVal), as[i]? = some a → Reps L W (fun _ => False) (fun _ => none) (args.getD i undef) a) :
    Calls L.P (L.fn f) args W fun e W' => e = .returned (.bool true) ∧ Below W.heap.size W W' := by
  have hB : ∀ b, ¬ Bof (fun _ => False) (Heap.at []) (fun _ => none) b := by
    rintro b (h | ⟨id, k, p, hk, _⟩)
    · exact h
    · simp [Heap.at] at hk
  have s0 : Sim L (fun _ => False) W (Heap.at []) (fun _ => none) :=
    ⟨fun b hb => hb.elim, fun id k hk => by simp [Heap.at] at hk, fun id1 id2 k1 k2 p1 p2 h1 => by simp [Heap.at] at h1⟩
  refine (hcall f as [] _ H hc hok (fun _ => False) W (fun _ => none) args s0 (fun _ _ h => by cases h) hl (fun i a ha => (hr i a ha).less (fun b hb => hB b hb))).mono ?_
  rintro e W' ⟨u, m', rfl, _, _, hf, _, _, hru⟩
  have := hru.bool_inv
  subst this
  exact ⟨rfl, ⟨hf.ext.rest.1, hf.ext.rest.2.1, hf.ext.rest.2.2, hf.ext.size, fun k hk => hf.ext.old k hk (by
    rintro ⟨id, kb, p, hk', _⟩
    simp [Heap.at] at hk')⟩⟩
end Go.Ash
/- The abstract interpreter: the equations by which its runs are reckoned. -/
namespace Go.Ash
variable {F : Nat → Option RFunc} {call : CallF} {st : St} {env : List AVal} {os : List ROp}

attribute [simp] exec_skip exec_exit exec_ret exec_seq exec_cond exec_block
attribute [simp] mask AVal.ids idsL AVal.ren renL partA isShift binA unA nilA

@[simp] theorem cells_agg {cs} : (AVal.agg cs).cells = cs := rfl
@[simp] theorem isCell_agg {cs} : (AVal.agg cs).isCell = false := rfl
@[simp] theorem cells_bool {b} : (AVal.bool b).cells = [.bool b] := rfl
@[simp] theorem isCell_bool {b} : (AVal.bool b).isCell = true := rfl
@[simp] theorem cells_int {k n} : (AVal.int k n).cells = [.int k n] := rfl
@[simp] theorem isCell_int {k n} : (AVal.int k n).isCell = true := rfl
@[simp] theorem cells_str {s} : (AVal.str s).cells = [.str s] := rfl
@[simp] theorem isCell_str {s} : (AVal.str s).isCell = true := rfl
@[simp] theorem cells_slc {n xs} : (AVal.slc n xs).cells = [.slc n xs] := rfl
@[simp] theorem isCell_slc {n xs} : (AVal.slc n xs).isCell = true := rfl
@[simp] theorem cells_ptr {cs} : (AVal.ptr cs).cells = [.ptr cs] := rfl
@[simp] theorem isCell_ptr {cs} : (AVal.ptr cs).isCell = true := rfl
@[simp] theorem cells_nilp  : (AVal.nilp ).cells = [.nilp ] := rfl
@[simp] theorem isCell_nilp  : (AVal.nilp ).isCell = true := rfl
@[simp] theorem cells_mslc {i o l} : (AVal.mslc i o l).cells = [.mslc i o l] := rfl
@[simp] theorem isCell_mslc {i o l} : (AVal.mslc i o l).isCell = true := rfl
@[simp] theorem cells_mptr {i j o} : (AVal.mptr i j o).cells = [.mptr i j o] := rfl
@[simp] theorem isCell_mptr {i j o} : (AVal.mptr i j o).isCell = true := rfl
@[simp] theorem cells_fn {f a b} : (AVal.fn f a b).cells = [.fn f a b] := rfl
@[simp] theorem isCell_fn {f a b} : (AVal.fn f a b).isCell = true := rfl
@[simp] theorem cells_nilfn  : (AVal.nilfn ).cells = [.nilfn ] := rfl
@[simp] theorem isCell_nilfn  : (AVal.nilfn ).isCell = true := rfl
@[simp] theorem cells_ifc {t v} : (AVal.ifc t v).cells = [.ifc t v] := rfl
@[simp] theorem isCell_ifc {t v} : (AVal.ifc t v).isCell = true := rfl
@[simp] theorem cells_nilif  : (AVal.nilif ).cells = [.nilif ] := rfl
@[simp] theorem isCell_nilif  : (AVal.nilif ).isCell = true := rfl
/-- Are all cells of a value single ones? -/
def AVal.flat (v : AVal) : Bool := v.cells.all AVal.isCell
@[simp] theorem flat_agg {cs} : (AVal.agg cs).flat = cs.all AVal.isCell := rfl
@[simp] theorem flat_bool {b} : (AVal.bool b).flat = true := rfl
@[simp] theorem flat_int {k n} : (AVal.int k n).flat = true := rfl
@[simp] theorem flat_str {s} : (AVal.str s).flat = true := rfl
@[simp] theorem flat_slc {n xs} : (AVal.slc n xs).flat = true := rfl
@[simp] theorem flat_ptr {cs} : (AVal.ptr cs).flat = true := rfl
@[simp] theorem flat_nilp  : (AVal.nilp ).flat = true := rfl
@[simp] theorem flat_mslc {i o l} : (AVal.mslc i o l).flat = true := rfl
@[simp] theorem flat_mptr {i j o} : (AVal.mptr i j o).flat = true := rfl
@[simp] theorem flat_fn {f a b} : (AVal.fn f a b).flat = true := rfl
@[simp] theorem flat_nilfn  : (AVal.nilfn ).flat = true := rfl
@[simp] theorem flat_ifc {t v} : (AVal.ifc t v).flat = true := rfl
@[simp] theorem flat_nilif  : (AVal.nilif ).flat = true := rfl

theorem opd_v {i} : st.opd env (.v i) = gd st.vars i := rfl
theorem opd_p {j} : st.opd env (.p j) = gd env j := rfl
theorem opd_c {a} : st.opd env (.c a) = a := rfl
attribute [simp] opd_v opd_p opd_c
@[simp] theorem put_none {v} : st.put none v = st := rfl
@[simp] theorem put_some {i v} : st.put (some i) v = { st with vars := sv st.vars i v } := rfl

@[simp] theorem step_free {k args dst} : stepROp call ⟨k, args, dst, none, []⟩ env st =
    match stepOp call k (args.map (st.opd env)) st.heap with
    | some (v, H) => some (v, { st with heap := H }.put dst v)
    | none => none := rfl

theorem step_wanted {k args dst j want} (h : gd env j = .bool want) : stepROp call ⟨k, args, dst, some (j, want), []⟩ env st =
    stepROp call ⟨k, args, dst, none, []⟩ env st := by
  simp [stepROp, wantedA, h, apartA]

@[simp] theorem step_guard {k args dst j want} : stepROp call ⟨k, args, dst, some (j, want), []⟩ env st =
    match gd env j with
    | .bool b => if b = want then stepROp call ⟨k, args, dst, none, []⟩ env st else some (.tup [], st.put dst (.tup []))
    | .tup [] => some (.tup [], st.put dst (.tup []))
    | _ => none := by
  unfold stepROp wantedA
  simp only
  generalize gd env j = x
  cases x <;> simp [apartA]
  · rename_i b
    by_cases hb : b = want
    · simp [hb]
    · have : (b == want) = false := by simpa using hb
      simp [hb, this]
  · rename_i vs
    cases vs <;> simp

/-- The same as execOps, shut against the kernel's unfolding. -/
theorem opsL_ex : ∃ f : CallF → List ROp → List AVal → St → Option St, f = execOps := ⟨_, rfl⟩
noncomputable def opsL : CallF → List ROp → List AVal → St → Option St := opsL_ex.choose
theorem opsL_eq : opsL = execOps := opsL_ex.choose_spec
@[simp] theorem opsL_nil : opsL call [] env st = some { st with env } := by rw [opsL_eq]; rfl
theorem opsL_cons {o : ROp} : opsL call (o :: os) env st = match stepROp call o env st with
    | some (v, st') => opsL call os (v :: env) st'
    | none => none := by rw [opsL_eq]; rfl
@[simp] theorem opsL_free {k args dst} : opsL call (⟨k, args, dst, none, []⟩ :: os) env st = match stepOp call k (args.map (st.opd env)) st.heap with
    | some (v, H) => opsL call os (v :: env) ({ st with heap := H }.put dst v)
    | none => none := by
  rw [opsL_cons, step_free]
  cases stepOp call k (args.map (st.opd env)) st.heap with
  | none => rfl
  | some x => rfl
@[simp] theorem opsL_guard {k args dst j want} : opsL call (⟨k, args, dst, some (j, want), []⟩ :: os) env st = match gd env j with
    | .bool b => if b = want then opsL call (⟨k, args, dst, none, []⟩ :: os) env st else opsL call os (.tup [] :: env) (st.put dst (.tup []))
    | .tup [] => opsL call os (.tup [] :: env) (st.put dst (.tup []))
    | _ => none := by
  rw [opsL_cons, step_guard]
  generalize gd env j = x
  cases x with
  | bool b =>
    simp only
    by_cases hb : b = want
    · rw [if_pos hb, if_pos hb, opsL_cons]
    · rw [if_neg hb, if_neg hb]
  | tup vs => cases vs <;> rfl
  | _ => rfl
@[simp] theorem opsL_apart {k args dst a as} : opsL call (⟨k, args, dst, none, a :: as⟩ :: os) env st = match stepROp call ⟨k, args, dst, none, a :: as⟩ env st with
    | some (v, st') => opsL call os (v :: env) st'
    | none => none := opsL_cons
@[simp] theorem exec_region' {ops : List ROp} {d : Bool} : exec F (.region ops d) st = match opsL (run F) ops [] st with
    | some st' => some (.normal, st')
    | none => none := by
  rw [exec_region, opsL_eq]
  cases execOps (run F) ops [] st <;> rfl

section
variable {H : Heap}
@[simp] theorem so_call {raw f vs} : stepOp call (.call raw f) vs H = anyCall call raw f vs H := rfl
@[simp] theorem so_callv {raw f first cap vs} : stepOp call (.callv raw) (.fn f first cap :: vs) H = anyCall call raw f (first ++ vs ++ cap) H := rfl
@[simp] theorem so_mov {a} : stepOp call .mov [a] H = some (a, H) := rfl
@[simp] theorem so_pick {c a b} : stepOp call .pick [.bool c, a, b] H = some (if c then a else b, H) := rfl
@[simp] theorem so_box {v} : stepOp call .box [v] H = if v.flat then some (.mptr H.length 0 0, newBlk H v.cells.length [v]) else none := by
  show Option.map _ (if v.flat = true then _ else _) = _
  split <;> rfl
@[simp] theorem so_alloc {z} : stepOp call (.alloc z) [] H = if z.flat then some (.mptr H.length 0 0, newBlk H z.cells.length [z]) else none := by
  show Option.map _ (if z.flat = true then _ else _) = _
  split <;> rfl
@[simp] theorem so_build {zero parts vs} : stepOp call (.build zero parts) vs H = (fillA zero parts vs).map fun cs => (.agg cs, H) := by
  simp only [stepOp, opSem, Option.map_map]; rfl
@[simp] theorem so_bslice {esz zero len idx vs} : stepOp call (.bslice esz zero len idx) vs H =
    if goodElems esz vs then (placeAll (List.replicate len zero) idx vs).map fun xs => (.mslc H.length 0 len, newBlk H esz xs) else none := by
  simp only [stepOp, opSem]; split
  · simp only [Option.map_map]; rfl
  · rfl
@[simp] theorem so_nilck_mptr {id i o} : stepOp call .nilck [.mptr id i o] H = some (.mptr id i o, H) := rfl
@[simp] theorem so_nilck_ptr {cs} : stepOp call .nilck [.ptr cs] H = some (.ptr cs, H) := rfl
@[simp] theorem so_bin {op a b} : stepOp call (.bin op) [a, b] H = (binA op a b).map fun v => (v, H) := by
  simp only [stepOp, opSem, Option.map_map]; rfl
@[simp] theorem so_un {op a} : stepOp call (.un op) [a] H = (unA op a).map fun v => (v, H) := by
  simp only [stepOp, opSem, Option.map_map]; rfl
@[simp] theorem so_conv {k k' n} : stepOp call (.conv k) [.int k' n] H = some (.int k (k.wrap n), H) := rfl
@[simp] theorem so_mkif {t v} : stepOp call (.mkif t) [v] H = some (.ifc t v, H) := rfl
@[simp] theorem so_mkfn {f n vs} : stepOp call (.mkfn f n) vs H = some (.fn f (vs.take n) (vs.drop n), H) := by
  simp only [stepOp, opSem]; rfl
@[simp] theorem so_load_ptr {agg sz cs} : stepOp call (.load agg sz) [.ptr cs] H = (partA agg sz cs).map fun v => (v, H) := by
  simp only [stepOp, opSem, Option.map_map]; rfl
@[simp] theorem so_load_mptr {agg sz id i o} : stepOp call (.load agg sz) [.mptr id i o] H = match H.at id with
    | some b =>
      match b.elems[i]? with
      | some e => (partA agg sz (e.cells.drop o)).map fun v => (v, H)
      | none => none
    | none => none := by
  simp only [stepOp, opSem]
  cases H.at id with
  | none => rfl
  | some b =>
    simp only
    cases b.elems[i]? with
    | none => rfl
    | some e => simp only [Option.map_map]; rfl
@[simp] theorem so_store {sz id i o v} : stepOp call (.store sz) [.mptr id i o, v] H = match H.at id with
    | some b =>
      match b.elems[i]? with
      | some e =>
        if b.frozen then none
        else if v.cells.length = sz ∧ v.flat then
          (putElem e o v).map fun e' => (.tup [], H.set id (some { b with elems := b.elems.set i e' }))
        else none
      | none => none
    | none => none := by
  simp only [stepOp, opSem]
  cases H.at id with
  | none => rfl
  | some b =>
    simp only
    cases b.elems[i]? with
    | none => rfl
    | some e =>
      simp only
      split
      · rfl
      · show Option.map _ (if v.cells.length = sz ∧ v.flat = true then _ else _) = _
        split
        · simp only [Option.map_map]; rfl
        · rfl
@[simp] theorem so_iaddr {esz n xs k i} : stepOp call (.iaddr esz) [.slc n xs, .int k i] H =
    if 0 ≤ i ∧ i < xs.length then
      if (gd xs i.toNat).cells.length = esz then some (.ptr (gd xs i.toNat).cells, H) else none
    else none := by
  simp only [stepOp, opSem]; split
  · split <;> rfl
  · rfl
@[simp] theorem so_iaddr_m {esz id off len k i} : stepOp call (.iaddr esz) [.mslc id off len, .int k i] H =
    if 0 ≤ i ∧ i < len then
      match H.at id with
      | some b => if b.esz = esz then some (.mptr id (off + i.toNat) 0, H) else none
      | none => none
    else none := by
  simp only [stepOp, opSem]; split
  · cases H.at id with
    | none => rfl
    | some b => simp only; split <;> rfl
  · rfl
@[simp] theorem so_beq {neg x y} : stepOp call (.beq neg) [.bool x, .bool y] H = some (.bool (if neg then !(x == y) else x == y), H) := rfl
@[simp] theorem so_eqnil {neg kd a} : stepOp call (.eqnil neg kd) [a] H = (nilA kd a).map fun b => (.bool (if neg then !b else b), H) := by
  simp only [stepOp, opSem, Option.map_map]; rfl
@[simp] theorem so_len_slc {n xs} : stepOp call (.len false) [.slc n xs] H = some (.int .i64 xs.length, H) := rfl
@[simp] theorem so_len_mslc {id off len} : stepOp call (.len false) [.mslc id off len] H = some (.int .i64 len, H) := rfl
@[simp] theorem so_len_str {s} : stepOp call (.len true) [.str s] H = some (.int .i64 s.size, H) := rfl
@[simp] theorem so_slice {esz hi mx n xs vs} : stepOp call (.slice esz false hi mx) (.slc n xs :: vs) H =
    (bounds xs.length false hi mx vs).map fun (l, h) => (.slc n ((xs.take h).drop l), H) := by
  simp only [stepOp, opSem, Option.map_map, true_or, if_true]; rfl
@[simp] theorem so_slice_l {esz hi mx n xs vs} : stepOp call (.slice esz true hi mx) (.slc n xs :: vs) H =
    if allSz esz xs = true then (bounds xs.length true hi mx vs).map fun (l, h) => (.slc n ((xs.take h).drop l), H) else none := by
  simp only [stepOp, opSem, Bool.true_eq_false, false_or]; split
  · simp only [Option.map_map]; rfl
  · rfl
@[simp] theorem so_slice_m {esz lo hi mx id off len vs} : stepOp call (.slice esz lo hi mx) (.mslc id off len :: vs) H =
    match H.at id with
    | some b =>
      if b.esz = esz then (bounds len lo hi mx vs).map fun (l, h) =>
        (if l = 0 then .mslc id off h else if l = h then .slc false [] else .mslc id (off + l) (h - l), H)
      else none
    | none => none := by
  simp only [stepOp, opSem]
  cases H.at id with
  | none => rfl
  | some b =>
    simp only
    split
    · simp only [Option.map_map]; rfl
    · rfl
@[simp] theorem so_slice_s {lo hi s vs} : stepOp call (.slices lo hi) (.str s :: vs) H =
    (bounds s.size lo hi false vs).map fun (l, h) => (.str (s.extract l h), H) := by
  simp only [stepOp, opSem, Option.map_map]; rfl
@[simp] theorem so_faddr_ptr {off cs} : stepOp call (.faddr off) [.ptr cs] H = some (.ptr (cs.drop off), H) := rfl
@[simp] theorem so_faddr_mptr {off id i o} : stepOp call (.faddr off) [.mptr id i o] H = some (.mptr id i (o + off), H) := rfl
@[simp] theorem so_fld {agg off sz cs} : stepOp call (.fld agg off sz) [.agg cs] H = (partA agg sz (cs.drop off)).map fun v => (v, H) := by
  simp only [stepOp, opSem, Option.map_map]; rfl
@[simp] theorem so_extract {i vs} : stepOp call (.extract i) [.tup vs] H = (vs[i]?).map fun v => (v, H) := by
  simp only [stepOp, opSem, Option.map_map]; rfl
@[simp] theorem so_idx {s k i} : stepOp call .idx [.str s, .int k i] H = if 0 ≤ i ∧ i < s.size then some (.int .u8 (s.data.getD i.toNat 0).toNat, H) else none := by
  simp only [stepOp, opSem]; split <;> rfl
@[simp] theorem so_mkslice {esz zero bytes k k' l c} : stepOp call (.mkslice esz zero bytes) [.int k l, .int k' c] H =
    if 0 ≤ l ∧ l ≤ c ∧ c * bytes ≤ maxBytes ∧ c ≤ maxBytes then
      some (.mslc H.length 0 l.toNat, newBlk H esz (List.replicate l.toNat zero)) else none := by
  simp only [stepOp, opSem]; split <;> rfl
@[simp] theorem so_max {k k' x y} : stepOp call .max [.int k x, .int k' y] H = if k = k' then some (.int k (if x < y then y else x), H) else none := by
  simp only [stepOp, opSem]; split <;> rfl
@[simp] theorem so_min {k k' x y} : stepOp call .min [.int k x, .int k' y] H = if k = k' then some (.int k (if y < x then y else x), H) else none := by
  simp only [stepOp, opSem]; split <;> rfl
@[simp] theorem so_tassert {t agg t' v} : stepOp call (.tassert t agg) [.ifc t' v] H = if t = t' then some (v, H) else none := by
  simp only [stepOp, opSem]; split <;> rfl
@[simp] theorem so_app_nil {bytes esz x} : stepOp call (.app bytes esz) [.slc true [], x] H =
    match elemsOf H esz x with
    | none => none
    | some new =>
      if !goodElems esz new then none
      else if new = [] then some (.slc true [], H)
      else if new.length * bytes ≤ maxBytes ∧ new.length ≤ maxBytes then some (.mslc H.length 0 new.length, newBlk H esz new) else none := by
  simp only [stepOp, opSem]
  cases elemsOf H esz x with
  | none => rfl
  | some new =>
    simp only
    split
    · rfl
    · split
      · rfl
      · split <;> rfl
@[simp] theorem so_app {bytes esz id off len x} : stepOp call (.app bytes esz) [.mslc id off len, x] H =
    match elemsOf H esz x with
    | none => none
    | some new =>
      if !goodElems esz new then none
      else match H.at id with
        | some b =>
          if b.frozen = false ∧ b.esz = esz ∧ off + len ≤ b.elems.length ∧ (len + new.length) * bytes ≤ maxBytes ∧ len + new.length ≤ maxBytes then
            some (.mslc H.length 0 (len + new.length), newBlk (H.set id none) esz ((b.elems.drop off).take len ++ new)) else none
        | none => none := by
  simp only [stepOp, opSem]
  cases elemsOf H esz x with
  | none => rfl
  | some new =>
    simp only
    split
    · rfl
    · cases H.at id with
      | none => rfl
      | some b => simp only; split <;> rfl
end

@[simp] theorem intA_add {k x y} : intA .add k x y = some (.int k (k.wrap (x + y))) := rfl
@[simp] theorem intA_sub {k x y} : intA .sub k x y = some (.int k (k.wrap (x - y))) := rfl
@[simp] theorem intA_mul {k x y} : intA .mul k x y = some (.int k (k.wrap (x * y))) := rfl
@[simp] theorem intA_quo {k x y} : intA .quo k x y = if y = 0 then none else some (.int k (k.wrap (x.tdiv y))) := rfl
@[simp] theorem intA_rem {k x y} : intA .rem k x y = if y = 0 then none else some (.int k (x.tmod y)) := rfl
@[simp] theorem intA_eql {k x y} : intA .eql k x y = some (.bool (decide (x = y))) := rfl
@[simp] theorem intA_neq {k x y} : intA .neq k x y = some (.bool (!decide (x = y))) := rfl
@[simp] theorem intA_lss {k x y} : intA .lss k x y = some (.bool (decide (x < y))) := rfl
@[simp] theorem intA_leq {k x y} : intA .leq k x y = some (.bool (decide (x ≤ y))) := rfl
@[simp] theorem intA_gtr {k x y} : intA .gtr k x y = some (.bool (decide (y < x))) := rfl
@[simp] theorem intA_geq {k x y} : intA .geq k x y = some (.bool (decide (y ≤ x))) := rfl
@[simp] theorem shiftA_shl {k x y} : shiftA .shl k x y = if y < 0 then none else some (.int k (k.wrap (x * 2 ^ (Nat.min y.toNat k.bits)))) := rfl
@[simp] theorem shiftA_shr {k x y} : shiftA .shr k x y = if y < 0 then none else some (.int k (x.fdiv (2 ^ (Nat.min y.toNat k.bits)))) := rfl

@[simp] theorem bounds_ff {n} : bounds n false false false [] = some (0, n) := rfl
@[simp] theorem bounds_tf {n k l} : bounds n true false false [.int k l] = if 0 ≤ l ∧ l ≤ n then some (l.toNat, n) else none := by
  simp only [bounds]; split <;> simp_all
@[simp] theorem bounds_ft {n k h} : bounds n false true false [.int k h] = if 0 ≤ h ∧ h ≤ n then some (0, h.toNat) else none := by
  simp only [bounds]; split <;> simp_all

attribute [simp] Heap.at gd sv

theorem tidy_dry {live} (h : st.heap.length = st.pin) (hi : idsL (mask live st.vars) = []) : tidy live st = some { st with vars := mask live st.vars, env := [] } := by
  unfold tidy; rw [if_pos ⟨h, hi⟩]

theorem wrap_i64 {n : Int} (h0 : -9223372036854775808 ≤ n) (h : n < 9223372036854775808) : IntKind.i64.wrap n = n := by
  simp only [IntKind.wrap, IntKind.bits, IntKind.signed]; simp; omega
theorem wrap_u64 {n : Int} (h0 : 0 ≤ n) (h : n < 18446744073709551616) : IntKind.u64.wrap n = n := by
  simp only [IntKind.wrap, IntKind.bits, IntKind.signed]; simp; omega
theorem wrap_u32 {n : Int} (h0 : 0 ≤ n) (h : n < 4294967296) : IntKind.u32.wrap n = n := by
  simp only [IntKind.wrap, IntKind.bits, IntKind.signed]; simp; omega
theorem wrap_u32' {n : Int} : IntKind.u32.wrap n = n % 4294967296 := by
  simp only [IntKind.wrap, IntKind.bits, IntKind.signed]; simp
theorem wrap_u64' {n : Int} : IntKind.u64.wrap n = n % 18446744073709551616 := by
  simp only [IntKind.wrap, IntKind.bits, IntKind.signed]; simp

end Go.Ash
/- Numbers as lists of limbs: plain arithmetic. -/
namespace Go.Ash

abbrev B32 : Nat := 4294967296

/-- The value of limbs, the lowest first. -/
def ev : List Nat → Nat
  | [] => 0
  | x :: l => x + B32 * ev l

/-- The limbs of a number, none at the end that is 0. -/
def D (n : Nat) : List Nat := if h : n = 0 then [] else n % B32 :: D (n / B32)
termination_by n
decreasing_by exact Nat.div_lt_self (Nat.pos_of_ne_zero h) (by decide)

@[simp] theorem D_zero : D 0 = [] := by unfold D; simp
theorem D_pos {n : Nat} (h : n ≠ 0) : D n = n % B32 :: D (n / B32) := by rw [D]; simp [h]

theorem ev_D (n : Nat) : ev (D n) = n := by
  induction n using Nat.strongRecOn with
  | ind n ih =>
    by_cases h : n = 0
    · subst h; rw [D_zero]; rfl
    · rw [D_pos h]
      simp only [ev]
      rw [ih _ (Nat.div_lt_self (Nat.pos_of_ne_zero h) (by decide))]
      have := Nat.div_add_mod n B32
      omega

def Lim (l : List Nat) : Prop := ∀ x ∈ l, x < B32

theorem lim_D (n : Nat) : Lim (D n) := by
  induction n using Nat.strongRecOn with
  | ind n ih =>
    by_cases h : n = 0
    · subst h; rw [D_zero]; intro x hx; cases hx
    · rw [D_pos h]
      intro x hx
      rcases List.mem_cons.1 hx with rfl | hx
      · exact Nat.mod_lt _ (by decide)
      · exact ih _ (Nat.div_lt_self (Nat.pos_of_ne_zero h) (by decide)) x hx

theorem Lim.get {l : List Nat} (h : Lim l) {i : Nat} (hi : i < l.length) : l[i] < 4294967296 := h _ (List.getElem_mem hi)

@[simp] theorem D_ne_nil {n : Nat} : D n = [] ↔ n = 0 := by
  constructor
  · intro h
    have := ev_D n
    rw [h] at this; simpa [ev] using this.symm
  · rintro rfl; exact D_zero

theorem ev_append : ∀ (a b : List Nat), ev (a ++ b) = ev a + B32 ^ a.length * ev b
  | [], b => by simp [ev]
  | x :: a, b => by
    simp only [List.cons_append, ev, ev_append a b, List.length_cons, Nat.pow_succ, Nat.mul_add]
    rw [Nat.mul_comm (B32 ^ a.length) B32, Nat.mul_assoc, Nat.add_assoc]

theorem ev_snoc (a : List Nat) (x : Nat) : ev (a ++ [x]) = ev a + B32 ^ a.length * x := by rw [ev_append]; simp [ev]

theorem ev_lt : ∀ {l : List Nat}, Lim l → ev l < B32 ^ l.length
  | [], _ => by simp [ev]
  | x :: l, h => by
    have h1 : x < B32 := h x (by simp)
    have h2 := ev_lt (l := l) (fun y hy => h y (by simp [hy]))
    simp only [ev, List.length_cons, Nat.pow_succ]
    have h3 : B32 * (ev l + 1) ≤ B32 * B32 ^ l.length := Nat.mul_le_mul_left _ h2
    rw [Nat.mul_comm (B32 ^ l.length)]
    rw [Nat.mul_add, Nat.mul_one] at h3
    omega

/-- Limbs without noughts at the end are those of their number. -/
theorem D_ev : ∀ {l : List Nat}, Lim l → (∀ h : l ≠ [], l.getLast h ≠ 0) → D (ev l) = l
  | [], _, _ => D_zero
  | x :: l, hl, hn => by
    have h1 : x < B32 := hl x (by simp)
    have hl' : Lim l := fun y hy => hl y (by simp [hy])
    have hn' : ∀ h : l ≠ [], l.getLast h ≠ 0 := fun h => by have := hn (by simp); rwa [List.getLast_cons h] at this
    have ih := D_ev hl' hn'
    have hne : ev (x :: l) ≠ 0 := by
      simp only [ev]
      intro h0
      have hx0 : x = 0 := by omega
      have he0 : ev l = 0 := (Nat.mul_eq_zero.1 (by omega : B32 * ev l = 0)).resolve_left (by decide)
      have : l = [] := by rw [← ih, he0, D_zero]
      subst this
      exact hn (by simp) (by simpa using hx0)
    rw [D_pos hne]
    simp only [ev]
    rw [Nat.add_mul_mod_self_left, Nat.mod_eq_of_lt h1, Nat.add_mul_div_left _ _ (by decide : 0 < B32), Nat.div_eq_of_lt h1, Nat.zero_add, ih]

theorem D_last {n : Nat} (h : D n ≠ []) : (D n).getLast h ≠ 0 := by
  induction n using Nat.strongRecOn with
  | ind n ih =>
    by_cases h0 : n = 0
    · subst h0; exact absurd D_zero h
    · have hd := D_pos h0
      by_cases hnil : D (n / B32) = []
      · have : n / B32 = 0 := D_ne_nil.1 hnil
        have hlt : n < B32 := by
          rcases Nat.lt_or_ge n B32 with h | h
          · exact h
          · have := Nat.div_pos h (by decide : 0 < B32); omega
        have hval : D n = [n] := by rw [hd, hnil, Nat.mod_eq_of_lt hlt]
        simp only [hval, List.getLast_singleton]
        exact h0
      · have h1 := ih _ (Nat.div_lt_self (Nat.pos_of_ne_zero h0) (by decide)) hnil
        simp only [hd]
        rw [List.getLast_cons hnil]
        exact h1

/-- The limbs without the noughts at the end. -/
theorem ev_zeros (l : List Nat) (k : Nat) : ev (l ++ List.replicate k 0) = ev l := by
  rw [ev_append]
  have : ∀ k, ev (List.replicate k 0) = 0 := by
    intro k
    induction k with
    | zero => rfl
    | succ k ih => simp [List.replicate_succ, ev, ih]
  rw [this]; simp

theorem D_len_le {n k : Nat} (h : n < B32 ^ k) : (D n).length ≤ k := by
  induction k generalizing n with
  | zero => simp at h; subst h; rw [D_zero]; simp
  | succ k ih =>
    by_cases h0 : n = 0
    · subst h0; rw [D_zero]; simp
    · rw [D_pos h0]
      have : n / B32 < B32 ^ k := by
        rw [Nat.div_lt_iff_lt_mul (by decide : 0 < B32)]
        rwa [Nat.pow_succ] at h
      simpa using ih this

theorem D_lt (n : Nat) : n < B32 ^ (D n).length := by
  have := ev_lt (lim_D n)
  rwa [ev_D] at this

theorem D_len_mono {a b : Nat} (h : a ≤ b) : (D a).length ≤ (D b).length := D_len_le (Nat.lt_of_le_of_lt h (D_lt b))

theorem le_of_D_len {n k : Nat} (h : (D n).length ≤ k) : n < B32 ^ k := Nat.lt_of_lt_of_le (D_lt n) (Nat.pow_le_pow_right (by decide) h)

theorem ev_take_succ {l : List Nat} {i : Nat} (hi : i < l.length) : ev (l.take (i + 1)) = ev (l.take i) + B32 ^ i * l[i] := by
  rw [List.take_succ_eq_append_getElem hi, ev_snoc, List.length_take, Nat.min_eq_left (by omega)]

theorem lim_take {l : List Nat} (h : Lim l) (k : Nat) : Lim (l.take k) := fun x hx => h x (List.mem_of_mem_take hx)
theorem lim_drop {l : List Nat} (h : Lim l) (k : Nat) : Lim (l.drop k) := fun x hx => h x (List.mem_of_mem_drop hx)
theorem lim_append {a b : List Nat} (h1 : Lim a) (h2 : Lim b) : Lim (a ++ b) := fun x hx => (List.mem_append.1 hx).elim (h1 x) (h2 x)
theorem lim_set {l : List Nat} (h : Lim l) {i v : Nat} (hv : v < 4294967296) : Lim (l.set i v) := fun x hx => by
  rcases List.mem_or_eq_of_mem_set hx with h' | rfl
  · exact h x h'
  · exact hv
theorem lim_replicate (k : Nat) : Lim (List.replicate k 0) := fun x hx => by rw [List.eq_of_mem_replicate hx]; decide

/-! ### As values -/

def u32s (l : List Nat) : List AVal := l.map fun (n : Nat) => AVal.int .u32 (n : Int)

@[simp] theorem idsL_u32s (l : List Nat) : idsL (u32s l) = [] := by
  induction l with
  | nil => rfl
  | cons a l ih => simpa [u32s, idsL, AVal.ids] using ih
@[simp] theorem u32s_nil (l : List Nat) : u32s l = [] ↔ l = [] := by simp [u32s]
@[simp] theorem length_u32s (l : List Nat) : (u32s l).length = l.length := by simp [u32s]
@[simp] theorem gd_u32s (l : List Nat) (i : Nat) (h : i < l.length) : gd (u32s l) i = .int .u32 (l[i] : Nat) := by
  induction l generalizing i with
  | nil => simp at h
  | cons a l ih => cases i with
    | zero => simp [u32s, gd]
    | succ i => simpa [u32s, gd] using ih i (by simpa using h)
@[simp] theorem getElem_u32s (l : List Nat) (i : Nat) (h : i < (u32s l).length) : (u32s l)[i] = .int .u32 ((l[i]'(by simpa using h) : Nat) : Int) := by simp [u32s]
theorem get_u32s (l : List Nat) (i : Nat) (h : i < l.length) : (u32s l)[i]? = some (.int .u32 (l[i] : Nat)) := by simp [u32s, h]
theorem u32s_take (l : List Nat) (k : Nat) : (u32s l).take k = u32s (l.take k) := by simp [u32s]
theorem u32s_drop (l : List Nat) (k : Nat) : (u32s l).drop k = u32s (l.drop k) := by simp [u32s]
theorem u32s_set (l : List Nat) (k v : Nat) : (u32s l).set k (.int .u32 v) = u32s (l.set k v) := by simp [u32s, List.map_set]
theorem u32s_append (a b : List Nat) : u32s a ++ u32s b = u32s (a ++ b) := by simp [u32s]
theorem u32s_replicate (k : Nat) : List.replicate k (AVal.int .u32 0) = u32s (List.replicate k 0) := by simp [u32s]
theorem allSz_u32s (l : List Nat) : allSz 1 (u32s l) = true := by simp [allSz, u32s, AVal.cells]
theorem good_u32s (l : List Nat) : goodElems 1 (u32s l) = true := by simp [goodElems, u32s, AVal.cells, AVal.isCell]
end Go.Ash
/- Calls that answer trees: how they are reckoned. -/
namespace Go.Ash

theorem renL_map (ρ : Nat → Nat) : ∀ l : List AVal, renL ρ l = l.map (AVal.ren ρ)
  | [] => rfl
  | x :: l => by simp only [renL, List.map_cons, renL_map ρ l]

mutual
theorem ids_ren (ρ : Nat → Nat) : ∀ v : AVal, (v.ren ρ).ids = v.ids.map ρ
  | .mslc id off len => by simp [AVal.ren, AVal.ids]
  | .mptr id i o => by simp [AVal.ren, AVal.ids]
  | .agg cs => by simp only [AVal.ren, AVal.ids, idsL_ren ρ cs]
  | .fn f a b => by simp only [AVal.ren, AVal.ids, idsL_ren ρ a, idsL_ren ρ b, List.map_append]
  | .ifc t v => by simp only [AVal.ren, AVal.ids, ids_ren ρ v]
  | .tup vs => by simp only [AVal.ren, AVal.ids, idsL_ren ρ vs]
  | .und | .bool _ | .int _ _ | .str _ | .slc _ _ | .ptr _ | .nilp | .nilfn | .nilif => rfl
theorem idsL_ren (ρ : Nat → Nat) : ∀ l : List AVal, idsL (renL ρ l) = (idsL l).map ρ
  | [] => rfl
  | v :: vs => by simp only [renL, idsL, ids_ren ρ v, idsL_ren ρ vs, List.map_append]
end

theorem idsL_ex {l : List AVal} {id : Nat} (h : id ∈ idsL l) : ∃ (i : Nat) (x : AVal), l[i]? = some x ∧ id ∈ x.ids := by
  induction l with
  | nil => simp [idsL] at h
  | cons v vs ih =>
    simp only [idsL, List.mem_append] at h
    rcases h with h | h
    · exact ⟨0, v, rfl, h⟩
    · obtain ⟨i, x, hx, hi⟩ := ih h
      exact ⟨i + 1, x, by simpa using hx, hi⟩

mutual
theorem ren_below {ρ : Nat → Nat} {n : Nat} (hpl : ∀ y, y < n → ρ y = y) : ∀ v : AVal, (∀ y ∈ v.ids, y < n) → v.ren ρ = v
  | .mslc id off len, h => by simp only [AVal.ren]; rw [hpl id (h id (by simp [AVal.ids]))]
  | .mptr id i o, h => by simp only [AVal.ren]; rw [hpl id (h id (by simp [AVal.ids]))]
  | .agg cs, h => by simp only [AVal.ren]; rw [renL_below hpl cs (fun y hy => h y (by simpa [AVal.ids] using hy))]
  | .fn f a b, h => by simp only [AVal.ren]; rw [renL_below hpl a (fun y hy => h y (by simp [AVal.ids, hy])), renL_below hpl b (fun y hy => h y (by simp [AVal.ids, hy]))]
  | .ifc t v, h => by simp only [AVal.ren]; rw [ren_below hpl v (fun y hy => h y (by simpa [AVal.ids] using hy))]
  | .tup vs, h => by simp only [AVal.ren]; rw [renL_below hpl vs (fun y hy => h y (by simpa [AVal.ids] using hy))]
  | .und, _ | .bool _, _ | .int _ _, _ | .str _, _ | .slc _ _, _ | .ptr _, _ | .nilp, _ | .nilfn, _ | .nilif, _ => rfl
theorem renL_below {ρ : Nat → Nat} {n : Nat} (hpl : ∀ y, y < n → ρ y = y) : ∀ l : List AVal, (∀ y ∈ idsL l, y < n) → renL ρ l = l
  | [], _ => rfl
  | v :: vs, h => by simp only [renL]; rw [ren_below hpl v (fun y hy => h y (by simp [idsL, hy])), renL_below hpl vs (fun y hy => h y (by simp [idsL, hy]))]
end

theorem tree_ren {H : Heap} {l : List Nat} (hcl : ∀ x ∈ l, ∀ b, H.at x = some b → ∀ y ∈ idsL b.elems, y ∈ l) : ∀ n : Nat,
    (∀ (c t : AVal) (is : List Nat), (∀ y ∈ c.ids, y ∈ l) → c.tree H n = some (t, is) → ∃ js, (c.ren (place l)).tree (pack H l) n = some (t, js)) ∧
    (∀ (vs ts : List AVal) (is : List Nat), (∀ y ∈ idsL vs, y ∈ l) → treeL H n vs = some (ts, is) → ∃ js, treeL (pack H l) n (renL (place l) vs) = some (ts, js))
  | 0 => ⟨fun _ _ _ _ h => by simp [AVal.tree] at h, fun _ _ _ _ h => by simp [treeL] at h⟩
  | n + 1 => by
    obtain ⟨ihv, ihl⟩ := tree_ren hcl n
    constructor
    · intro c t is hi hc
      cases c <;> simp only [AVal.tree, AVal.ren] at hc ⊢
      case mslc id off len =>
        have hid : id ∈ l := hi id (by simp [AVal.ids])
        split at hc
        · rename_i b hb
          have hp : (pack H l).at (place l id) = some (b.ren (place l)) := by rw [pack_at, place_get hid]; simp [hb]
          rw [hp]
          simp only [Blk.ren, renL_length]
          split at hc
          · rename_i hle
            rw [if_pos hle]
            simp only [Option.map_eq_some_iff, Prod.mk.injEq] at hc
            obtain ⟨⟨ts, js⟩, htl, rfl, _⟩ := hc
            obtain ⟨js', h'⟩ := ihl _ ts js (by
              intro y hy
              obtain ⟨k, c, hk, hy⟩ := idsL_ex hy
              rw [List.getElem?_take] at hk
              split at hk
              · rw [List.getElem?_drop] at hk
                exact hcl id hid b hb y (idsL_mem_of hk hy)
              · simp at hk) htl
            have e : ((renL (place l) b.elems).drop off).take len = renL (place l) ((b.elems.drop off).take len) := by
              simp only [renL_map, List.map_take, List.map_drop]
            refine ⟨place l id :: js', ?_⟩
            rw [e, h']; rfl
          · simp at hc
        · simp at hc
      case mptr id i o =>
        have hid : id ∈ l := hi id (by simp [AVal.ids])
        split at hc
        · rename_i b hb
          have hp : (pack H l).at (place l id) = some (b.ren (place l)) := by rw [pack_at, place_get hid]; simp [hb]
          rw [hp]
          simp only [Blk.ren, renL_get]
          split at hc
          · rename_i el hel
            rw [hel]
            simp only [Option.map_some, Option.map_eq_some_iff, Prod.mk.injEq] at hc ⊢
            obtain ⟨⟨ts, js⟩, htl, rfl, _⟩ := hc
            obtain ⟨js', h'⟩ := ihl _ ts js (by
              intro y hy
              obtain ⟨k, c, hk, hy⟩ := idsL_ex hy
              rw [List.getElem?_drop] at hk
              exact hcl id hid b hb y (idsL_mem_of hel (cells_ids hk hy))) htl
            have e : ((el.ren (place l)).cells.drop o) = renL (place l) (el.cells.drop o) := by
              rw [cells_ren]; simp only [renL_map, List.map_drop]
            exact ⟨_, (ts, js'), by rw [e]; exact h', rfl, rfl⟩
          · simp at hc
        · simp at hc
      case agg cs =>
        simp only [Option.map_eq_some_iff, Prod.mk.injEq] at hc ⊢
        obtain ⟨⟨ts, js⟩, htl, rfl, _⟩ := hc
        obtain ⟨js', h'⟩ := ihl _ ts js (fun y hy => hi y (by simpa [AVal.ids] using hy)) htl
        exact ⟨_, _, h', rfl, rfl⟩
      case tup cs =>
        simp only [Option.map_eq_some_iff, Prod.mk.injEq] at hc ⊢
        obtain ⟨⟨ts, js⟩, htl, rfl, _⟩ := hc
        obtain ⟨js', h'⟩ := ihl _ ts js (fun y hy => hi y (by simpa [AVal.ids] using hy)) htl
        exact ⟨_, _, h', rfl, rfl⟩
      case ifc ty v =>
        simp only [Option.map_eq_some_iff, Prod.mk.injEq] at hc ⊢
        obtain ⟨⟨ts, js⟩, htl, rfl, _⟩ := hc
        obtain ⟨js', h'⟩ := ihv _ ts js (fun y hy => hi y (by simpa [AVal.ids] using hy)) htl
        exact ⟨_, _, h', rfl, rfl⟩
      case fn f a b =>
        simp only [Option.bind_eq_some_iff, Option.map_eq_some_iff, Prod.mk.injEq] at hc ⊢
        obtain ⟨⟨ta, ja⟩, hta, ⟨tb, jb⟩, htb, rfl, _⟩ := hc
        obtain ⟨js', h'⟩ := ihl _ ta ja (fun y hy => hi y (by simp [AVal.ids, hy])) hta
        obtain ⟨ks', h''⟩ := ihl _ tb jb (fun y hy => hi y (by simp [AVal.ids, hy])) htb
        exact ⟨_, _, h', _, h'', rfl, rfl⟩
      all_goals
        simp only [Option.some.injEq, Prod.mk.injEq] at hc
        obtain ⟨rfl, _⟩ := hc
        exact ⟨[], rfl⟩
    · intro vs ts is hi hl
      unfold treeL at hl ⊢
      split at hl
      · rename_i h0
        simp only [Option.some.injEq, Prod.mk.injEq] at hl
        obtain ⟨rfl, _⟩ := hl
        rw [if_pos (by rw [idsL_ren, h0]; rfl), renL_self _ _ h0]
        exact ⟨[], rfl⟩
      · rename_i h0
        rw [if_neg (by rw [idsL_ren]; simpa using h0)]
        cases vs with
        | nil => exact absurd rfl h0
        | cons v vs =>
          simp only [renL, Option.bind_eq_some_iff, Option.map_eq_some_iff, Prod.mk.injEq] at hl ⊢
          obtain ⟨⟨tv, ja⟩, htv, ⟨tvs, jb⟩, htvs, rfl, _⟩ := hl
          obtain ⟨js', h'⟩ := ihv _ tv ja (fun y hy => hi y (by simp [idsL, hy])) htv
          obtain ⟨ks', h''⟩ := ihl _ tvs jb (fun y hy => hi y (by simp [idsL, hy])) htvs
          exact ⟨_, _, h', _, h'', rfl, rfl⟩
section
variable {F : Nat → Option RFunc}

theorem run_eq {id : Nat} {fn : RFunc} (hF : F id = some fn) {args : List AVal} {H : Heap} (hn : args.length = fn.npar) : run F id args H =
    match exec F fn.body (fn.enter args H) with
    | some (.exit _, _) => none
    | some (_, st) => fn.leave st
    | none => none := by
  unfold run runWith
  rw [hF]
  simp only [hn, if_true]
  rfl

/-- A call that answers a tree, from the run of its body. -/
theorem pure_exec {id : Nat} {fn : RFunc} (hF : F id = some fn) {args : List AVal} (hn : args.length = fn.npar) {ex : Ex} {st : St} (he : exec F fn.body (fn.enter args []) = some (ex, st))
    (hx : ex = .normal ∨ ex = .ret) (hp : st.pin = 0) {vs : List AVal} (hv : resL st fn.res = some vs) {l : List Nat} (hr : reach st.heap fuelIds (tupled vs).ids [] = some l) {t : AVal} {is : List Nat}
    (ht : treeL st.heap fuelTree [tupled vs] = some ([t], is)) : pureCall (run F) id args = some t := by
  unfold pureCall
  rw [run_eq hF hn, he]
  have hleave : ∃ v H', fn.leave st = some (v, H') ∧ ∃ js, treeL H' fuelTree [v] = some ([t], js) := by
    unfold RFunc.leave
    rw [hv]
    simp only [Option.bind_some, hp]
    split
    · exact ⟨_, _, rfl, is, ht⟩
    · have hrange : List.range 0 ++ (tupled vs).ids = (tupled vs).ids := rfl
      rw [hrange, hr]
      obtain ⟨_, hin, hnd, hcl⟩ := reach_spec _ _ _ _ hr
      obtain ⟨js, hjs⟩ := (tree_ren (H := st.heap) (l := l) (fun x hx => hcl x hx (by simp)) fuelTree).2 [tupled vs] [t] is (by
        intro y hy
        simp only [idsL, List.append_nil] at hy
        exact hin y hy) ht
      exact ⟨_, _, rfl, js, by simpa [renL] using hjs⟩
  obtain ⟨v, H', h1, js, h2⟩ := hleave
  rcases hx with rfl | rfl <;> simp only [h1, Option.bind_some, h2, List.head?_cons]

theorem treeL_free {H : Heap} {n : Nat} {l : List AVal} (h : idsL l = []) : treeL H (n + 1) l = some (l, []) := by
  unfold treeL; rw [if_pos h]

/-- The same, where the answer has no block in it. -/
theorem pure_free {id : Nat} {fn : RFunc} (hF : F id = some fn) {args : List AVal} (hn : args.length = fn.npar) {ex : Ex} {st : St} (he : exec F fn.body (fn.enter args []) = some (ex, st))
    (hx : ex = .normal ∨ ex = .ret) (hp : st.pin = 0) {vs : List AVal} (hv : resL st fn.res = some vs) (hi : (tupled vs).ids = []) : pureCall (run F) id args = some (tupled vs) :=
  pure_exec hF hn he hx hp hv (l := []) (by rw [hi]; rfl) (t := tupled vs) (is := []) (treeL_free (n := 39) (by simp only [idsL, hi, List.append_nil]))

theorem any_pure {call : CallF} {f : Nat} {vs : List AVal} {H : Heap} : anyCall call false f vs H =
    if idsL vs = [] then (pureCall call f vs).map fun v => (v, H) else (handOn vs H).bind fun x => (pureCall call f x.1).map fun v => (v, x.2) := by
  by_cases h : idsL vs = []
  · rw [if_pos h]
    simp only [anyCall, handOn, h, if_true, Bool.false_eq_true, if_false, Option.bind_some]
  · rw [if_neg h]
    simp only [anyCall, Bool.false_eq_true, if_false]

theorem any_hand {call : CallF} {f : Nat} {vs ts : List AVal} {H : Heap} {l : List Nat} (h : treeL H fuelTree vs = some (ts, l)) (h0 : idsL vs ≠ []) :
    anyCall call false f vs H = (pureCall call f ts).map fun v => (v, freeze H l) := by
  simp only [anyCall, handOn, h0, h, Bool.false_eq_true, if_false, Option.bind_some, Option.map_some]

/-- At a loop's head: nothing is renumbered. -/
theorem tidy_keep {live : List Bool} {st : St} (hr : reach st.heap fuelIds (List.range st.pin ++ idsL (mask live st.vars)) [] = some (List.range st.heap.length))
    (hi : ∀ b ∈ st.heap, ∀ k, b = some k → ∀ y ∈ idsL k.elems, y < st.heap.length) :
    tidy live st = some { st with vars := mask live st.vars, env := [] } := by
  unfold tidy
  split
  · rfl
  · rw [hr]
    obtain ⟨_, hin, _, _⟩ := reach_spec _ _ _ _ hr
    have hpl : ∀ y, y < st.heap.length → place (List.range st.heap.length) y = y := by
      intro y hy
      exact place_of List.nodup_range (by simp [hy])
    have hren : ∀ v : AVal, (∀ y ∈ v.ids, y < st.heap.length) → v.ren (place (List.range st.heap.length)) = v := ren_below hpl
    have hrenL : ∀ l : List AVal, (∀ y ∈ idsL l, y < st.heap.length) → renL (place (List.range st.heap.length)) l = l := renL_below hpl
    simp only [Option.map_some, Option.some.injEq]
    have h1 := hrenL (mask live st.vars) (fun y hy => by
      have := hin y (List.mem_append_right _ hy)
      simpa using this)
    have h2 : pack st.heap (List.range st.heap.length) = st.heap := by
      apply List.ext_getElem?
      intro k
      unfold pack
      rw [List.getElem?_map]
      by_cases hk : k < st.heap.length
      · simp only [List.getElem?_range hk, Option.map_some]
        have hat : st.heap.at k = (st.heap[k]?).join := heap_at_eq _ _
        rw [hat, List.getElem?_eq_getElem hk]
        simp only [Option.join_some, Option.some.injEq]
        cases hb : st.heap[k] with
        | none => rfl
        | some b =>
          simp only [Option.map_some, Option.some.injEq, Blk.ren]
          rw [hrenL b.elems (hi _ (List.getElem_mem hk) b hb)]
      · rw [List.getElem?_eq_none (by simp; omega), List.getElem?_eq_none (by omega)]; rfl
    rw [h1, h2]

/-- What a call answers, from what its body came to: a tree. -/
def finish (fn : RFunc) : Option (Ex × St) → Option AVal
  | some (.exit _, _) => none
  | some (_, st) => if st.pin = 0 then match resL st fn.res with
      | some vs => match reach st.heap fuelIds (tupled vs).ids [] with
        | some _ => match treeL st.heap fuelTree [tupled vs] with
          | some ([t], _) => some t
          | _ => none
        | none => none
      | none => none
    else none
  | none => none

theorem pure_ret {id : Nat} {fn : RFunc} (hF : F id = some fn) {args : List AVal} (hn : args.length = fn.npar) {t : AVal} (h : finish fn (exec F fn.body (fn.enter args [])) = some t) :
    pureCall (run F) id args = some t := by
  cases he : exec F fn.body (fn.enter args []) with
  | none => rw [he] at h; simp [finish] at h
  | some x =>
    obtain ⟨ex, st⟩ := x
    rw [he] at h
    have key : ∀ (hx : ex = .normal ∨ ex = .ret), pureCall (run F) id args = some t := by
      intro hx
      have h' : (if st.pin = 0 then match resL st fn.res with
        | some vs => match reach st.heap fuelIds (tupled vs).ids [] with
          | some _ => match treeL st.heap fuelTree [tupled vs] with
            | some ([t], _) => some t
            | _ => none
          | none => none
        | none => none
      else none) = some t := by rcases hx with rfl | rfl <;> exact h
      split at h'
      · rename_i hp
        split at h'
        · rename_i vs hvs
          split at h'
          · rename_i l hl
            split at h'
            · rename_i t' is ht
              cases h'
              exact pure_exec hF hn he hx hp hvs hl ht
            · simp at h'
          · simp at h'
        · simp at h'
      · simp at h'
    cases ex with
    | normal => exact key (.inl rfl)
    | ret => exact key (.inr rfl)
    | exit i => simp [finish] at h

@[simp] theorem finish_none {fn : RFunc} : finish fn none = none := rfl
@[simp] theorem finish_ret {fn : RFunc} {st : St} : finish fn (some (.ret, st)) = finish fn (some (.normal, st)) := rfl

/-- The answer has no block in it. -/
@[simp] theorem finish_free {fn : RFunc} {vars env : List AVal} {H : Heap} : finish fn (some (.normal, ⟨vars, env, H, 0⟩)) = match resL ⟨vars, env, H, 0⟩ fn.res with
    | some vs => if (tupled vs).ids = [] then some (tupled vs) else match reach H fuelIds (tupled vs).ids [] with
        | some _ => match treeL H fuelTree [tupled vs] with
          | some ([t], _) => some t
          | _ => none
        | none => none
    | none => none := by
  simp only [finish, if_true]
  cases resL ⟨vars, env, H, 0⟩ fn.res with
  | none => rfl
  | some vs =>
    simp only
    by_cases hi : (tupled vs).ids = []
    · rw [if_pos hi]
      have h1 : reach H fuelIds (tupled vs).ids [] = some [] := by rw [hi]; rfl
      have h2 : treeL H fuelTree [tupled vs] = some ([tupled vs], []) := treeL_free (n := 39) (by simp only [idsL, hi, List.append_nil])
      rw [h1, h2]
    · rw [if_neg hi]

attribute [simp] resL resA tupled RFunc.enter newBlk Heap.at

/-- At a loop's head, with one block. -/
theorem tidy_one {live : List Bool} {vars env : List AVal} {b : Blk} (hv : idsL (mask live vars) = [0]) (hb : idsL b.elems = []) :
    tidy live ⟨vars, env, [some b], 0⟩ = some ⟨mask live vars, [], [some b], 0⟩ := by
  refine tidy_keep ?_ ?_
  · simp [hv, reach, fuelIds, Heap.at, hb, List.range_succ]
  · intro x hx k hk y hy
    simp at hx; subst hx; cases hk
    rw [hb] at hy; cases hy

theorem set_u32s (l : List Nat) (k : Nat) {z : Int} (h : 0 ≤ z) : (u32s l).set k (.int .u32 z) = u32s (l.set k z.toNat) := by
  rw [← u32s_set, Int.toNat_of_nonneg h]

theorem get?_u32s (l : List Nat) (i : Nat) (h : i < l.length) : (u32s l)[i]? = some (.int .u32 ((l[i] : Nat) : Int)) := by simp [u32s, h]

@[simp] theorem nat_min (a b : Nat) : Nat.min a b = min a b := rfl
attribute [simp] IntKind.bits
theorem maxB : maxBytes = 70368744177664 := rfl
@[simp] theorem fdiv_32 (x : Int) : x.fdiv 4294967296 = x / 4294967296 := Int.fdiv_eq_ediv_of_nonneg _ (by decide)
@[simp] theorem fdiv_63 (x : Int) : x.fdiv 9223372036854775808 = x / 9223372036854775808 := Int.fdiv_eq_ediv_of_nonneg _ (by decide)


theorem exec_loop_env {live : List Bool} {b : RCode} {vars env env' : List AVal} {H : Heap} {p : Nat} : exec F (.loop live b) ⟨vars, env, H, p⟩ = exec F (.loop live b) ⟨vars, env', H, p⟩ := by
  rw [exec_loop, exec_loop]; rfl

/-- A block handed on, alone. -/
theorem hand_one {off len : Nat} {b : Blk} (hb : idsL b.elems = []) (hle : off + len ≤ b.elems.length) : handOn [.mslc 0 off len] [some b] =
    some ([.slc false ((b.elems.drop off).take len)], [some { b with frozen := true }]) := by
  have hfree : idsL ((b.elems.drop off).take len) = [] := by
    have : ∀ y, y ∉ idsL ((b.elems.drop off).take len) := by
      intro y hy
      obtain ⟨k, c, hk, hyc⟩ := idsL_ex hy
      rw [List.getElem?_take] at hk
      split at hk
      · rw [List.getElem?_drop] at hk
        have := idsL_mem_of hk hyc
        rw [hb] at this; cases this
      · simp at hk
    exact List.eq_nil_iff_forall_not_mem.2 this
  have ht : treeL [some b] fuelTree [.mslc 0 off len] = some ([.slc false ((b.elems.drop off).take len)], [0]) := by
    have h1 : AVal.tree [some b] 39 (.mslc 0 off len) = some (.slc false ((b.elems.drop off).take len), [0]) := by
      simp only [AVal.tree, Heap.at, if_pos hle, treeL_free (n := 37) hfree, Option.map_some]
    have h2 : treeL [some b] 39 [] = some ([], []) := rfl
    unfold fuelTree
    rw [treeL]
    simp only [idsL, AVal.ids, List.append_nil, List.cons_ne_nil, if_false, h1, h2, Option.bind_some, Option.map_some]
  simp only [handOn, ht, Option.map_some, idsL, AVal.ids, List.append_nil, List.cons_ne_nil, if_false]
  rfl

theorem hand_u32 {off len esz : Nat} {fz : Bool} {l : List Nat} (hle : off + len ≤ l.length) : handOn [.mslc 0 off len] [some ⟨fz, esz, u32s l⟩] =
    some ([.slc false (u32s ((l.drop off).take len))], [some ⟨true, esz, u32s l⟩]) := by
  rw [hand_one (by simp) (by simpa using hle)]
  simp only [u32s_drop, u32s_take]

@[simp] theorem get_zero (x : AVal) (l : List AVal) : (x :: l)[0]? = some x := rfl
@[simp] theorem get_succ (x : AVal) (l : List AVal) (i : Nat) : (x :: l)[i + 1]? = l[i]? := rfl
@[simp] theorem os_load_mptr {agg : Bool} {sz id i o f : Nat} {H : Heap} : opSem (.load agg sz) [.mptr id i o] H f = match H.at id with
    | some b =>
      match b.elems[i]? with
      | some e => (partA agg sz (e.cells.drop o)).map fun v => (v, .none)
      | none => none
    | none => none := rfl

@[simp] theorem reach_two {x : Option Blk} {fz : Bool} {esz : Nat} {l : List Nat} : reach [x, some ⟨fz, esz, u32s l⟩] fuelIds [1] [] = some [1] := by
  simp [reach, fuelIds, Heap.at]

theorem treeL_cons {H : Heap} {n : Nat} {v : AVal} {vs : List AVal} (h : idsL (v :: vs) ≠ []) : treeL H (n + 1) (v :: vs) =
    (v.tree H n).bind fun x => (treeL H n vs).map fun y => (x.1 :: y.1, x.2 ++ y.2) := by
  conv => lhs; unfold treeL
  rw [if_neg h]

theorem tree_two {x : Option Blk} {fz b : Bool} {esz n : Nat} {l : List Nat} (hn : n ≤ l.length) : treeL [x, some ⟨fz, esz, u32s l⟩] fuelTree [.agg [.bool b, .mslc 1 0 n]] =
    some ([.agg [.bool b, .slc false (u32s (l.take n))]], [1]) := by
  have h1 : AVal.tree [x, some ⟨fz, esz, u32s l⟩] 36 (.mslc 1 0 n) = some (.slc false (u32s (l.take n)), [1]) := by
    simp only [AVal.tree, Heap.at, length_u32s, Nat.zero_add, hn, if_true, List.drop_zero, u32s_take, treeL_free (n := 34) (idsL_u32s _), Option.map_some]
  have h2 : treeL [x, some ⟨fz, esz, u32s l⟩] 37 [.mslc 1 0 n] = some ([.slc false (u32s (l.take n))], [1]) := by
    rw [treeL_cons (by simp), h1]; rfl
  have h3 : treeL [x, some ⟨fz, esz, u32s l⟩] 38 [.bool b, .mslc 1 0 n] = some ([.bool b, .slc false (u32s (l.take n))], [1]) := by
    rw [treeL_cons (by simp), h2]; rfl
  have h4 : AVal.tree [x, some ⟨fz, esz, u32s l⟩] 39 (.agg [.bool b, .mslc 1 0 n]) = some (.agg [.bool b, .slc false (u32s (l.take n))], [1]) := by
    simp only [AVal.tree, h3, Option.map_some]
  unfold fuelTree
  rw [treeL_cons (by simp), h4]
  rfl
end
end Go.Ash
