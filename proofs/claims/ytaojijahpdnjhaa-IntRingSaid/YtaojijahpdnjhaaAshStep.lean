/- One operation of a region, calls included, is sound. -/
import Derived.Test.YtaojijahpdnjhaaAshOps
import Derived.Test.YtaojijahpdnjhaaAshRaw
set_option linter.all false
namespace Go.Ash

def chkOpd (fn : Nat → Nat) (okb : Nat → Bool) (slots : List Nat) (E : List (Option Nat)) : Operand → Opd → Bool
  | .tmp t, .v i => decide (slots[i]? = some t)
  | .tmp t, .p j => decide (E[j]? = some (some t))
  | .const v, .c a => constRep a v
  | .func f, .c (.fn g [] []) => decide (fn g = f) && okb g
  | _, _ => false

def chkOpds (fn : Nat → Nat) (okb : Nat → Bool) (slots : List Nat) (E : List (Option Nat)) : List Operand → List Opd → Bool
  | [], [] => true
  | x :: xs, r :: rs => chkOpd fn okb slots E x r && chkOpds fn okb slots E xs rs
  | _, _ => false

def chkDst (slots : List Nat) (nt : Nat) (E : List (Option Nat)) : Option Tmp → Option Nat → Bool
  | none, none => true
  | some t, none => decide (t < nt) && !slots.contains t && !E.contains (some t)
  | some t, some i => decide (t < nt) && decide (slots[i]? = some t) && !E.contains (some t)
  | none, some _ => false

def chkGuard (E : List (Option Nat)) (ops : Array Oper) : Option (Nat × Bool) → Option (Nat × Bool) → Bool
  | none, none => true
  | some (j, want), some (k, want') => want == want' && (match E[k]? with
    | some (some t) => decide ((ops[j]?).bind (·.dst) = some t)
    | _ => false)
  | _, _ => false

def chkROp (P : Program) (fn ty : Nat → Nat) (okb : Nat → Bool) (slots : List Nat) (nt : Nat) (ops : Array Oper) (E : List (Option Nat)) (o : Oper) (r : ROp) : Bool :=
  (match opsOf P fn ty okb o.op r.k with
   | some xs => chkOpds fn okb slots E xs r.args
   | none => false) && chkDst slots nt E o.dst r.dst && chkGuard E ops o.guard r.guard

structure LinkOk (L : Link) (okb : Nat → Bool) : Prop where
  ok : ∀ g, okb g = true → L.ok g
  fns : ∀ f, L.ok f → ∃ gf c, L.P.funcs[L.fn f]? = some gf ∧ gf.name ≠ "runtime.NumGoroutine" ∧ gf.body = some c

structure Inv (L : Link) (N : Nat → Prop) (slots : List Nat) (nt : Nat) (E : List (Option Nat)) (a : Act) (w : World) (m : PMap) (st : St) (env : List AVal) : Prop where
  size : a.tmps.size = nt
  defers : a.defers = []
  vars : ∀ (i t : Nat), slots[i]? = some t → Reps L w (Bof N st.heap.at m) m (a.tmps.getD t undef) (gd st.vars i)
  env : ∀ (j t : Nat), E[j]? = some (some t) → Reps L w (Bof N st.heap.at m) m (a.tmps.getD t undef) (gd env j)
  sim : Sim L N w st.heap.at m
  dom : Dom st.heap m

section
variable {L : Link} {N : Nat → Prop} {w : World} {m : PMap} {okb : Nat → Bool} {slots : List Nat} {nt : Nat} {E : List (Option Nat)} {a : Act} {st : St} {env : List AVal}

theorem gd_reps_none {B : Nat → Prop} {v : Value} : Reps L w B m v .und := .und v

theorem chkOpd_ok (hl : LinkOk L okb) (i : Inv L N slots nt E a w m st env) {x : Operand} {r : Opd} (h : chkOpd L.fn okb slots E x r = true) :
    Reps L w (Bof N st.heap.at m) m (a.eval x) (st.opd env r) := by
  unfold chkOpd at h
  split at h
  · exact i.vars _ _ (by simpa using h)
  · exact i.env _ _ (by simpa using h)
  · exact constRep_reps _ _ h
  · rename_i f g
    simp only [Bool.and_eq_true, decide_eq_true_eq] at h
    obtain ⟨rfl, h2⟩ := h
    exact .fn g [] [] #[] #[] (hl.ok _ h2) rfl rfl (fun i c hc => by simp at hc) (fun i c hc => by simp at hc)
  · simp at h

theorem chkOpds_ok (hl : LinkOk L okb) (i : Inv L N slots nt E a w m st env) : ∀ (xs : List Operand) (rs : List Opd), chkOpds L.fn okb slots E xs rs = true →
    Args L w (Bof N st.heap.at m) m a.eval xs (rs.map (st.opd env))
  | [], [], _ => .nil
  | x :: xs, r :: rs, h => by
    simp only [chkOpds, Bool.and_eq_true] at h
    exact .cons (chkOpd_ok hl i h.1) (chkOpds_ok hl i xs rs h.2)
  | [], _ :: _, h => by simp [chkOpds] at h
  | _ :: _, [], h => by simp [chkOpds] at h

theorem getD_set {tmps : Array Value} {t d : Nat} {v : Value} (h : t ≠ d) : (tmps.setIfInBounds d v).getD t undef = tmps.getD t undef := by
  simp only [Array.getD_eq_getD_getElem?]
  rw [Array.getElem?_setIfInBounds_ne (Ne.symm h)]

theorem getD_set_same {tmps : Array Value} {t : Nat} {v : Value} (h : t < tmps.size) : (tmps.setIfInBounds t v).getD t undef = v := by
  simp only [Array.getD_eq_getD_getElem?]
  rw [Array.getElem?_setIfInBounds_self_of_lt h]; rfl

theorem gd_sv_ne : ∀ (vs : List AVal) (i j : Nat) (x : AVal), j ≠ i → gd (sv vs i x) j = gd vs j
  | [], _, _, _, _ => rfl
  | v :: vs, 0, 0, _, h => absurd rfl h
  | v :: vs, 0, j + 1, _, _ => rfl
  | v :: vs, i + 1, 0, _, _ => rfl
  | v :: vs, i + 1, j + 1, x, h => by simp only [sv, gd]; exact gd_sv_ne vs i j x (by omega)

theorem gd_sv_same : ∀ (vs : List AVal) (i : Nat) (x : AVal), gd (sv vs i x) i = x ∨ gd (sv vs i x) i = .und
  | [], _, _ => .inr rfl
  | v :: vs, 0, x => .inl rfl
  | v :: vs, i + 1, x => by simp only [sv, gd]; exact gd_sv_same vs i x

/-- The invariant behind an operation that gave a value. -/
theorem Inv.put (hn : slots.Nodup) (i : Inv L N slots nt E a w m st env) {dst : Option Tmp} {rd : Option Nat} (hd : chkDst slots nt E dst rd = true) {w' : World} {m' : PMap} {H' : Heap}
    {u : Value} {v : AVal} (s : Step L N w st.heap.at m w' H'.at m') (d : Dom H' m') (hr : Reps L w' (Bof N H'.at m') m' u v) :
    Inv L N slots nt (dst :: E) (a.put dst u) w' m' ({ st with heap := H' }.put rd v) (v :: env) := by
  have hheap : ∀ (x : Option Nat), ({ st with heap := H' }.put x v).heap = H' := by intro x; cases x <;> rfl
  unfold chkDst at hd
  split at hd
  · refine ⟨i.size, i.defers, ?_, ?_, s.sim, d⟩
    · intro k t hk; exact (i.vars k t hk).step s
    · intro j t hj
      cases j with
      | zero => simp at hj
      | succ j => simp at hj; exact (i.env j t hj).step s
  · rename_i t
    simp only [Bool.and_eq_true, decide_eq_true_eq, Bool.not_eq_true'] at hd
    obtain ⟨⟨h1, h2⟩, h3⟩ := hd
    refine ⟨by simp [Act.put, i.size], i.defers, ?_, ?_, s.sim, d⟩
    · intro k t' hk
      have hne : t' ≠ t := by
        rintro rfl
        have := List.mem_of_getElem? hk
        simp at h2; exact h2 this
      simp only [Act.put, St.put]
      rw [getD_set hne]
      exact (i.vars k t' hk).step s
    · intro j t' hj
      simp only [Act.put]
      cases j with
      | zero =>
        simp at hj; subst hj
        rw [getD_set_same (by rw [i.size]; exact h1)]
        exact hr
      | succ j =>
        simp at hj
        have hne : t' ≠ t := by
          rintro rfl
          have := List.mem_of_getElem? hj
          simp at h3; exact h3 this
        rw [getD_set hne]
        exact (i.env j t' hj).step s
  · rename_i t k0
    simp only [Bool.and_eq_true, decide_eq_true_eq, Bool.not_eq_true'] at hd
    obtain ⟨⟨h1, h2⟩, h3⟩ := hd
    refine ⟨by simp [Act.put, i.size], i.defers, ?_, ?_, s.sim, d⟩
    · intro k t' hk
      simp only [Act.put, St.put]
      by_cases hkk : k = k0
      · subst hkk
        rw [h2] at hk; cases hk
        rw [getD_set_same (by rw [i.size]; exact h1)]
        rcases gd_sv_same st.vars k v with h | h
        · rw [h]; exact hr
        · rw [h]; exact .und _
      · have hne : t' ≠ t := by
          rintro rfl
          have hk1 : k < slots.length := lt_of_getx hk
          have hk2 : k0 < slots.length := lt_of_getx h2
          rw [List.getElem?_eq_getElem hk1] at hk
          rw [List.getElem?_eq_getElem hk2] at h2
          exact hkk ((List.getElem_inj (h₀ := hk1) (h₁ := hk2) hn).1 ((Option.some.inj hk).trans (Option.some.inj h2).symm))
        rw [getD_set hne, gd_sv_ne _ _ _ _ hkk]
        exact (i.vars k t' hk).step s
    · intro j t' hj
      simp only [Act.put]
      cases j with
      | zero =>
        simp at hj; subst hj
        rw [getD_set_same (by rw [i.size]; exact h1)]
        exact hr
      | succ j =>
        simp at hj
        have hne : t' ≠ t := by
          rintro rfl
          have := List.mem_of_getElem? hj
          simp at h3; exact h3 this
        rw [getD_set hne]
        exact (i.env j t' hj).step s
  · simp at hd

/-- An effect on the blocks, as a list and as a function. -/
def Eff.fits (H : Heap) : Eff → Prop
  | .app id _ _ => id < H.length
  | .upd id _ => id < H.length
  | _ => True

theorem opSem_fits {K : OpK} {args : List AVal} {H : Heap} {fresh : Nat} {v : AVal} {e : Eff} (h : opSem K args H fresh = some (v, e)) : e.fits H := by
  unfold opSem at h
  split at h <;> try (simp only [Option.some.injEq, Prod.mk.injEq, Option.map_eq_some_iff, Prod.exists, Option.ite_none_right_eq_some, Option.ite_none_left_eq_some] at h)
  all_goals try (obtain ⟨_, rfl⟩ := h; trivial)
  all_goals try (obtain ⟨_, _, rfl⟩ := h; trivial)
  all_goals try (obtain ⟨_, _, _, rfl⟩ := h; trivial)
  all_goals try (obtain ⟨_, _, _, _, rfl⟩ := h; trivial)
  all_goals try (obtain ⟨_, _, _, _, _, rfl⟩ := h; trivial)
  all_goals try (cases h; done)
  all_goals try (replace h := h.2)
  all_goals (repeat' (split at h))
  all_goals try (cases h; done)
  all_goals try (simp only [Option.some.injEq, Prod.mk.injEq, Option.map_eq_some_iff, Prod.exists] at h)
  all_goals first
    | (obtain ⟨_, rfl⟩ := h; first | trivial | exact heap_at_lt (by assumption))
    | (obtain ⟨_, _, _, rfl⟩ := h; first | trivial | exact heap_at_lt (by assumption))
    | (obtain ⟨_, _, _, _, rfl⟩ := h; first | trivial | exact heap_at_lt (by assumption))

theorem apply_at {H : Heap} {e : Eff} (h : e.fits H) : (e.apply H).at = e.applyF H.at H.length := by
  funext j
  cases e with
  | none => rfl
  | new esz xs =>
    simp only [Eff.apply, Eff.applyF, newBlk, upd]
    rw [at_append]
    by_cases h1 : j < H.length
    · rw [if_pos h1, if_neg (by omega)]
    · rw [if_neg h1]
      by_cases h2 : j = H.length
      · subst h2; simp [Heap.at]
      · rw [if_neg h2, heap_at_none (by simp; omega), heap_at_none (by omega)]
  | app id esz xs =>
    simp only [Eff.fits] at h
    simp only [Eff.apply, Eff.applyF, newBlk, upd]
    rw [at_append]
    simp only [List.length_set]
    by_cases h1 : j < H.length
    · rw [if_pos h1, if_neg (by omega), at_set]
      by_cases h2 : j = id
      · rw [if_pos ⟨h2, h⟩, if_pos h2]
      · rw [if_neg (fun h => h2 h.1), if_neg h2]
    · rw [if_neg h1]
      by_cases h2 : j = H.length
      · subst h2; simp [Heap.at]
      · rw [if_neg h2, heap_at_none (by simp; omega)]
        rw [if_neg (by omega), heap_at_none (by omega)]
  | upd id b =>
    simp only [Eff.fits] at h
    simp only [Eff.apply, Eff.applyF, upd]
    rw [at_set]
    by_cases h2 : j = id
    · rw [if_pos ⟨h2, h⟩, if_pos h2]
    · rw [if_neg (fun h => h2 h.1), if_neg h2]
end
end Go.Ash
