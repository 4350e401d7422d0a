/- A region whose order is drawn: what is asked of its text, and what its text does. -/
import Derived.Test.YtaojijahpdnjhaaAshDraw0
set_option linter.all false
namespace Go.Ash

def hardOn (o : Oper) : List Nat := o.after.toList.filterMap fun e => if Region.binds .any e then some e.on else none

/-- A set of numbers, as the bits of one. -/
structure Mask where
  bits : Nat

def Mask.contains (s : Mask) (j : Nat) : Bool := s.bits.testBit j
instance : Membership Nat Mask := ⟨fun s j => s.contains j = true⟩
theorem Mask.contains_iff_mem {s : Mask} {j : Nat} : s.contains j = true ↔ j ∈ s := Iff.rfl

/-- What must come before each operation, directly or through others: as bits, the last operation's first. -/
abbrev BT := Nat × List Nat

def maskAt (bt : BT) (i : Nat) : Nat := (bt.2[bt.1 - 1 - i]?).getD 0
def befAt (bt : BT) (i : Nat) : Mask := ⟨maskAt bt i⟩
def maskOf (bt : BT) (o : Oper) : Nat := (hardOn o).foldl (fun m j => m ||| (1 <<< j ||| maskAt bt j)) 0

/-- The number is reckoned out before it is used. -/
def strict {α : Type} (f : Nat → α) : Nat → α
  | 0 => f 0
  | n + 1 => f (n + 1)

def tabK {α : Type} (k : BT → α) : List Oper → BT → α
  | [], bt => k bt
  | o :: os, bt => strict (fun m => tabK k os (bt.1 + 1, m :: bt.2)) (maskOf bt o)

theorem strict_eq {α : Type} (f : Nat → α) (n : Nat) : strict f n = f n := by cases n <;> rfl

theorem tabK_some {α : Type} (k : BT → α) : ∀ (os : List Oper) (bt : BT), ∃ bt', tabK k os bt = k bt'
  | [], bt => ⟨bt, rfl⟩
  | o :: os, bt => by
    simp only [tabK, strict_eq]
    exact tabK_some k os _

def okBefAt (bt : BT) (i : Nat) (o : Oper) : Bool := (hardOn o).all (fun j => decide (j < i)) && Nat.beq (maskAt bt i) (maskOf bt o)

theorem foldl_bits (g : Nat → Nat) (k : Nat) : ∀ (l : List Nat) (m : Nat), (l.foldl (fun m j => m ||| (1 <<< j ||| g j)) m).testBit k = true → m.testBit k = true ∨ ∃ j ∈ l, k = j ∨ (g j).testBit k = true
  | [], m, h => .inl h
  | j :: l, m, h => by
    rw [List.foldl_cons] at h
    rcases foldl_bits g k l _ h with h | ⟨j', hj', h⟩
    · simp only [Nat.testBit_or, Nat.one_shiftLeft, Nat.testBit_two_pow, Bool.or_eq_true, decide_eq_true_eq] at h
      rcases h with h | h | h
      · exact .inl h
      · exact .inr ⟨j, by simp, .inl h.symm⟩
      · exact .inr ⟨j, by simp, .inr h⟩
    · exact .inr ⟨j', List.mem_cons_of_mem _ hj', h⟩

theorem okBefAt_spec {bt : BT} {i : Nat} {o : Oper} (h : okBefAt bt i o = true) : (∀ j ∈ hardOn o, j < i) ∧ ∀ k ∈ befAt bt i, ∃ j ∈ hardOn o, k = j ∨ k ∈ befAt bt j := by
  unfold okBefAt at h
  simp only [Bool.and_eq_true, List.all_eq_true, decide_eq_true_eq, Nat.beq_eq] at h
  refine ⟨h.1, fun k hk => ?_⟩
  have hk' : (maskAt bt i).testBit k = true := hk
  rw [h.2] at hk'
  rcases foldl_bits _ k _ _ hk' with h | h
  · simp at h
  · exact h

def okSlot (rs : List ROp) (bt : BT) (i s : Nat) : Bool :=
  (List.range rs.length).all fun k => match rs[k]? with
    | some r => r.dst != some s || k == i || (if k < i then (befAt bt i).contains k else (befAt bt k).contains i)
    | none => true

def okOpd (rs : List ROp) (bt : BT) (i : Nat) : Opd → Bool
  | .c _ => true
  | .p j => (befAt bt i).contains (i - 1 - j)
  | .v s => okSlot rs bt i s

def okGrd (bt : BT) (i : Nat) : Option (Nat × Bool) → Bool
  | none => true
  | some (j, _) => (befAt bt i).contains (i - 1 - j)

def isStore (r : ROp) : Bool := match r.k with | .store _ => true | _ => false

/-- A load that need not come before a store: the store asks for another block. -/
def marked (rs : List ROp) (i k : Nat) (r rk : ROp) : Bool :=
  decide (i < k) && isLoad r && isStore rk && match r.args with
  | [.p j] => rk.apart.any fun | .p j' => j' == j + (k - i) | _ => false
  | [.v s] => rs.all (fun q => q.dst != some s) && rk.apart.any fun | .v s' => s' == s | _ => false
  | _ => false

def okPair (rs : List ROp) (bt : BT) (i : Nat) (r : ROp) : Bool :=
  if isW r || isA r || isR r then
    (List.range rs.length).all fun k => match rs[k]? with
      | some rk => !isW rk || k == i || (befAt bt k).contains i || (!isA r && (befAt bt i).contains k) || (isR r && marked rs i k r rk)
      | none => true
  else true

def okOp (rs : List ROp) (bt : BT) (i : Nat) (o : Oper) (r : ROp) : Bool :=
  okBefAt bt i o && r.args.all (okOpd rs bt i) && okGrd bt i r.guard && okPair rs bt i r

/-- The check of a region whose order is drawn. -/
def drawB (ops : Array Oper) (rs : List ROp) (bt : BT) : Bool :=
  (List.range rs.length).all fun i => match ops[i]?, rs[i]? with
    | some o, some r => okOp rs bt i o r
    | _, _ => false

def drawC (_slots : List Nat) (_nt : Nat) (ops : Array Oper) (rs : List ROp) : Bool := tabK (drawB ops rs) ops.toList (0, [])

/-! ### The text -/

def envA (env : List AVal) (val : Nat → AVal) : Nat → List AVal
  | 0 => env
  | i + 1 => val i :: envA env val i

theorem gd_envA (val : Nat → AVal) : ∀ (i j : Nat), gd (envA [] val i) j = if j < i then val (i - 1 - j) else .und
  | 0, j => by simp [envA, gd]
  | i + 1, 0 => by simp [envA, gd]
  | i + 1, j + 1 => by
    simp only [envA, gd]
    rw [gd_envA val i j]
    by_cases h : j < i
    · rw [if_pos h, if_pos (by omega)]; congr 1; omega
    · rw [if_neg h, if_neg (by omega)]

def envE (E : List (Option Nat)) (os : List Oper) : Nat → List (Option Nat)
  | 0 => E
  | i + 1 => ((os[i]?).bind (·.dst)) :: envE E os i

theorem envE_cons (E : List (Option Nat)) (o : Oper) (os : List Oper) : ∀ i, envE E (o :: os) (i + 1) = envE (o.dst :: E) os i
  | 0 => rfl
  | i + 1 => by
    have := envE_cons E o os i
    simp only [envE] at this ⊢
    rw [this]; simp

theorem envE_dsts : ∀ (os : List Oper) (E : List (Option Nat)), os.foldl (fun E o => o.dst :: E) E = envE E os os.length
  | [], _ => rfl
  | o :: os, E => by rw [List.foldl_cons, envE_dsts os, List.length_cons, envE_cons]

theorem envE_get (os : List Oper) : ∀ (i j t : Nat), (envE [] os i)[j]? = some (some t) → j < i ∧ ∃ o, os[i - 1 - j]? = some o ∧ o.dst = some t
  | 0, j, t, h => by simp [envE] at h
  | i + 1, 0, t, h => by
    simp only [envE, List.getElem?_cons_zero, Option.some.injEq, Option.bind_eq_some_iff] at h
    obtain ⟨o, ho, hd⟩ := h
    exact ⟨by omega, o, by simpa using ho, hd⟩
  | i + 1, j + 1, t, h => by
    simp only [envE, List.getElem?_cons_succ] at h
    obtain ⟨h1, o, ho, hd⟩ := envE_get os i j t h
    exact ⟨by omega, o, by rw [show i + 1 - 1 - (j + 1) = i - 1 - j from by omega]; exact ho, hd⟩

theorem envE_mem (os : List Oper) {k : Nat} {o : Oper} (ho : os[k]? = some o) : ∀ i, k < i → o.dst ∈ envE [] os i
  | 0, h => by omega
  | i + 1, h => by
    by_cases hk : k = i
    · subst hk; simp [envE, ho]
    · exact List.mem_cons_of_mem _ (envE_mem os ho i (by omega))

theorem envA_cons (env : List AVal) (v : AVal) (val : Nat → AVal) : ∀ i, envA env (fun | 0 => v | i + 1 => val i) (i + 1) = envA (v :: env) val i
  | 0 => rfl
  | i + 1 => by
    have := envA_cons env v val i
    simp only [envA] at this ⊢
    rw [this]

theorem trace {call : CallF} : ∀ (rs : List ROp) (env : List AVal) (st st' : St), execOps call rs env st = some st' → ∃ (stt : Nat → St) (val : Nat → AVal), stt 0 = st ∧
    (∀ i r, rs[i]? = some r → stepROp call r (envA env val i) (stt i) = some (val i, stt (i + 1))) ∧ st' = { stt rs.length with env := envA env val rs.length }
  | [], env, st, st', h => by
    simp only [execOps, Option.some.injEq] at h
    exact ⟨fun _ => st, fun _ => .und, rfl, fun i r hr => by simp at hr, h.symm⟩
  | r :: rs, env, st, st', h => by
    simp only [execOps] at h
    cases hs : stepROp call r env st with
    | none => rw [hs] at h; simp at h
    | some x =>
      obtain ⟨v, st1⟩ := x
      rw [hs] at h
      simp only at h
      obtain ⟨stt, val, h0, h1, h2⟩ := trace rs (v :: env) st1 st' h
      refine ⟨fun | 0 => st | i + 1 => stt i, fun | 0 => v | i + 1 => val i, rfl, ?_, ?_⟩
      · intro i q hq
        cases i with
        | zero =>
          simp only [List.getElem?_cons_zero, Option.some.injEq] at hq
          subst hq
          simp only [envA, Nat.zero_add]
          rw [h0]; exact hs
        | succ i =>
          simp only [List.getElem?_cons_succ] at hq
          rw [envA_cons]
          exact h1 i q hq
      · rw [List.length_cons, envA_cons]
        exact h2

section
variable {P : Program} {fn ty : Nat → Nat} {okb : Nat → Bool} {slots : List Nat} {nt : Nat} {ops : Array Oper}

theorem chkOps_get : ∀ (E : List (Option Nat)) (os : List Oper) (rs : List ROp), chkOps P fn ty okb slots nt ops E os rs = true → os.length = rs.length ∧
    ∀ i o r, os[i]? = some o → rs[i]? = some r → chkROp P fn ty okb slots nt ops (envE E os i) o r = true
  | _, [], [], _ => ⟨rfl, fun i o r h => by simp at h⟩
  | E, o :: os, r :: rs, h => by
    simp only [chkOps, Bool.and_eq_true] at h
    obtain ⟨h1, h2⟩ := chkOps_get (o.dst :: E) os rs h.2
    refine ⟨by simp [h1], ?_⟩
    intro i o' r' ho hr
    cases i with
    | zero =>
      simp only [List.getElem?_cons_zero, Option.some.injEq] at ho hr
      subst ho; subst hr
      exact h.1
    | succ i =>
      simp only [List.getElem?_cons_succ] at ho hr
      rw [envE_cons]
      exact h2 i o' r' ho hr
  | _, [], _ :: _, h => by simp [chkOps] at h
  | _, _ :: _, [], h => by simp [chkOps] at h
end

structure Tx (L : Link) (okb : Nat → Bool) (slots : List Nat) (nt : Nat) (call : CallF) (ops : Array Oper) (rs : List ROp) (bt : BT) (stt : Nat → St) (val : Nat → AVal) : Prop where
  nodup : slots.Nodup
  len : ops.size = rs.length
  step : ∀ i r, rs[i]? = some r → stepROp call r (envA [] val i) (stt i) = some (val i, stt (i + 1))
  chk : ∀ i o r, ops[i]? = some o → rs[i]? = some r → chkROp L.P L.fn L.ty okb slots nt ops (envE [] ops.toList i) o r = true
  stat : ∀ i o r, ops[i]? = some o → rs[i]? = some r → okOp rs bt i o r = true

section
variable {L : Link} {okb : Nat → Bool} {slots : List Nat} {nt : Nat} {call : CallF} {ops : Array Oper} {rs : List ROp} {bt : BT} {stt : Nat → St} {val : Nat → AVal}

theorem tx_of (hn : slots.Nodup) (hc : chkOps L.P L.fn L.ty okb slots nt ops [] ops.toList rs = true) (hd : drawC slots nt ops rs = true)
    (hs : ∀ i r, rs[i]? = some r → stepROp call r (envA [] val i) (stt i) = some (val i, stt (i + 1))) : ∃ bt, Tx L okb slots nt call ops rs bt stt val := by
  obtain ⟨hl, hg⟩ := chkOps_get _ _ _ hc
  obtain ⟨bt, hbt⟩ := tabK_some (drawB ops rs) ops.toList (0, [])
  unfold drawC at hd
  rw [hbt] at hd
  refine ⟨bt, hn, by simpa using hl, hs, fun i o r ho hr => hg i o r (by simpa using ho) hr, ?_⟩
  intro i o r ho hr
  simp only [drawB, List.all_eq_true, List.mem_range] at hd
  have := hd i (lt_of_getx hr)
  rw [ho, hr] at this
  exact this

variable (T : Tx L okb slots nt call ops rs bt stt val)
include T

theorem Tx.getR {i : Nat} {o : Oper} (ho : ops[i]? = some o) : ∃ r, rs[i]? = some r := by
  have hi : i < rs.length := by
    rw [← T.len]
    rcases Nat.lt_or_ge i ops.size with h | h
    · exact h
    · simp [Array.getElem?_eq_none h] at ho
  exact ⟨rs[i], List.getElem?_eq_getElem hi⟩

theorem Tx.getO {i : Nat} (hi : i < rs.length) : ∃ o r, ops[i]? = some o ∧ rs[i]? = some r :=
  ⟨ops[i]'(by rw [T.len]; exact hi), rs[i], Array.getElem?_eq_getElem _, List.getElem?_eq_getElem hi⟩

theorem Tx.dst {i : Nat} {o : Oper} {r : ROp} (ho : ops[i]? = some o) (hr : rs[i]? = some r) : chkDst slots nt (envE [] ops.toList i) o.dst r.dst = true := by
  have := T.chk i o r ho hr
  unfold chkROp at this
  simp only [Bool.and_eq_true] at this
  exact this.1.2

theorem Tx.dst_uniq {i k : Nat} {o q : Oper} (ho : ops[i]? = some o) (hq : ops[k]? = some q) {t : Nat} (h1 : o.dst = some t) (h2 : q.dst = some t) : i = k := by
  have main : ∀ (i k : Nat) (o q : Oper), ops[i]? = some o → ops[k]? = some q → o.dst = some t → q.dst = some t → ¬ i < k := by
    intro i k o q ho hq h1 h2 hlt
    obtain ⟨r, hr⟩ := T.getR hq
    have hc := T.dst hq hr
    have hm := envE_mem ops.toList (k := i) (o := o) (by simpa using ho) k hlt
    rw [h1] at hm
    rw [h2] at hc
    have hct : (envE [] ops.toList k).contains (some t) = true := by simpa using hm
    unfold chkDst at hc
    split at hc <;> simp_all
  have := main i k o q ho hq h1 h2
  have := main k i q o hq ho h2 h1
  omega

theorem Tx.dst_lt {i : Nat} {o : Oper} (ho : ops[i]? = some o) {t : Nat} (h : o.dst = some t) : t < nt := by
  obtain ⟨r, hr⟩ := T.getR ho
  have hc := T.dst ho hr
  rw [h] at hc
  unfold chkDst at hc
  split at hc <;> simp_all

theorem Tx.dst_slot {i : Nat} {o : Oper} {r : ROp} (ho : ops[i]? = some o) (hr : rs[i]? = some r) {s : Nat} (h : r.dst = some s) : ∃ t, o.dst = some t ∧ slots[s]? = some t := by
  have hc := T.dst ho hr
  rw [h] at hc
  unfold chkDst at hc
  split at hc <;> simp_all

theorem Tx.slot_dst {i : Nat} {o : Oper} {r : ROp} (ho : ops[i]? = some o) (hr : rs[i]? = some r) {s t : Nat} (h : o.dst = some t) (hs : slots[s]? = some t) : r.dst = some s := by
  have hc := T.dst ho hr
  rw [h] at hc
  unfold chkDst at hc
  split at hc
  · simp_all
  · rename_i t' h1 h2
    cases h1
    simp only [Bool.and_eq_true, Bool.not_eq_true'] at hc
    have := List.mem_of_getElem? hs
    have h3 := hc.1.2
    simp at h3
    exact absurd this h3
  · rename_i t' k h1 h2
    cases h1
    simp only [Bool.and_eq_true, decide_eq_true_eq] at hc
    have h3 := hc.1.2
    rw [h2]
    have hk1 : k < slots.length := lt_of_getx h3
    have hk2 : s < slots.length := lt_of_getx hs
    rw [List.getElem?_eq_getElem hk1] at h3
    rw [List.getElem?_eq_getElem hk2] at hs
    rw [(List.getElem_inj (h₀ := hk1) (h₁ := hk2) T.nodup).1 ((Option.some.inj h3).trans (Option.some.inj hs).symm)]
  · simp_all

/-- What a step of the text is. -/
theorem Tx.text {i : Nat} {r : ROp} (hr : rs[i]? = some r) :
    (wantedA (envA [] val i) r.guard = some false ∧ val i = .tup [] ∧ stt (i + 1) = (stt i).put r.dst (.tup [])) ∨
    (wantedA (envA [] val i) r.guard = some true ∧ apartA (gd (r.args.map ((stt i).opd (envA [] val i))) 0) (r.apart.map ((stt i).opd (envA [] val i))) = true ∧
      ∃ H, stepOp call r.k (r.args.map ((stt i).opd (envA [] val i))) (stt i).heap = some (val i, H) ∧ stt (i + 1) = { stt i with heap := H }.put r.dst (val i)) := by
  have hs := T.step i r hr
  unfold stepROp at hs
  split at hs
  · simp at hs
  · rename_i hw
    simp only [Option.some.injEq, Prod.mk.injEq] at hs
    obtain ⟨h1, h2⟩ := hs
    exact .inl ⟨hw, h1.symm, h2.symm⟩
  · rename_i hw
    split at hs
    · rename_i hap
      split at hs
      · rename_i v H hst
        simp only [Option.some.injEq, Prod.mk.injEq] at hs
        obtain ⟨rfl, h2⟩ := hs
        exact .inr ⟨hw, hap, H, hst, h2.symm⟩
      · simp at hs
    · simp at hs

omit T in
theorem put_heap {st : St} {d : Option Nat} {v : AVal} : (st.put d v).heap = st.heap := by cases d <;> rfl
omit T in
theorem put_vars {st : St} {d : Option Nat} {v : AVal} : (st.put d v).vars = match d with | some s => sv st.vars s v | none => st.vars := by cases d <;> rfl

theorem Tx.vars {i : Nat} {r : ROp} (hr : rs[i]? = some r) : (stt (i + 1)).vars = match r.dst with | some s => sv (stt i).vars s (val i) | none => (stt i).vars := by
  rcases T.text hr with ⟨_, hv, he⟩ | ⟨_, _, H, _, he⟩
  · rw [he, put_vars, hv]
  · rw [he, put_vars]

theorem Tx.pin {i : Nat} {r : ROp} (hr : rs[i]? = some r) : (stt (i + 1)).pin = (stt i).pin := stepROp_pin (T.step i r hr)

theorem Tx.pins (i : Nat) (h : i ≤ rs.length) : (stt i).pin = (stt 0).pin := by
  induction i with
  | zero => rfl
  | succ i ih =>
    obtain ⟨o, r, _, hr⟩ := T.getO (i := i) (by omega)
    rw [T.pin hr, ih (by omega)]

theorem Tx.heap {i : Nat} {r : ROp} (hr : rs[i]? = some r) : (stt (i + 1)).heap = (stt i).heap ∨
    stepOp call r.k (r.args.map ((stt i).opd (envA [] val i))) (stt i).heap = some (val i, (stt (i + 1)).heap) := by
  rcases T.text hr with ⟨_, hv, he⟩ | ⟨_, _, H, hs, he⟩
  · rw [he, put_heap]; exact .inl rfl
  · rw [he, put_heap]; exact .inr hs

/-- What stands in a slot. -/
theorem Tx.slot {s t : Nat} (hs : slots[s]? = some t) (i : Nat) (hi : i ≤ rs.length) :
    (∃ k o, k < i ∧ ops[k]? = some o ∧ o.dst = some t ∧ (gd (stt i).vars s = val k ∨ gd (stt i).vars s = .und)) ∨
    ((∀ k o, k < i → ops[k]? = some o → o.dst ≠ some t) ∧ gd (stt i).vars s = gd (stt 0).vars s) := by
  induction i with
  | zero => exact .inr ⟨fun k o hk => by omega, rfl⟩
  | succ i ih =>
    obtain ⟨o, r, ho, hr⟩ := T.getO (i := i) (by omega)
    have hv := T.vars hr
    by_cases hd : o.dst = some t
    · have hrd := T.slot_dst ho hr hd hs
      rw [hrd] at hv
      simp only at hv
      rw [hv]
      exact .inl ⟨i, o, by omega, ho, hd, gd_sv_same _ _ _⟩
    · have hsame : gd (stt (i + 1)).vars s = gd (stt i).vars s := by
        rw [hv]
        cases hrd : r.dst with
        | none => rfl
        | some s' =>
          obtain ⟨t', h1, h2⟩ := T.dst_slot ho hr hrd
          have : s ≠ s' := by
            rintro rfl
            rw [h2] at hs; cases hs
            exact hd h1
          simp only
          rw [gd_sv_ne _ _ _ _ this]
      rw [hsame]
      rcases ih (by omega) with ⟨k, q, hk, hq, hqd, h⟩ | ⟨h1, h2⟩
      · exact .inl ⟨k, q, by omega, hq, hqd, h⟩
      · refine .inr ⟨?_, h2⟩
        intro k q hk hq
        by_cases hki : k = i
        · subst hki; rw [ho] at hq; cases hq; exact hd
        · exact h1 k q (by omega) hq

end
end Go.Ash
