/- The abstract interpreter of this work and its uses, part 4: AshOpenInt, AshLoop, AshNum16. -/
import Derived.Test.YtaojijahpdnjhaaAshP03
set_option linter.all false
/- Integers among what a law is handed; a law's call from its run. -/
namespace Go.Ash
open Go.RowKit

/-- The type of integers: a sign and a slice of limbs. -/
structure IntTy (P : Program) (t : TypeId) : Prop where
  ex : ∃ (f0 f1 : Field) (e : TypeId), P.underlying t = some (.struct #[f0, f1]) ∧ f0.offset = 0 ∧ f1.offset = 1 ∧ P.cellsOf t = 2 ∧ P.cellsOf f0.type = 1 ∧ P.cellsOf f1.type = 1 ∧
    P.underlying f0.type = some .bool ∧ P.underlying f1.type = some (.slice e) ∧ P.underlying e = some (.int .u32)

theorem ints_list {P : Program} {k : Nat} {e : TypeId} (he : P.underlying e = some (.int .u32)) : ∀ (xs : List AVal), (∀ x ∈ xs, ∃ ys, x = mkA (isStructT P e) ys ∧ ShapeC P k e ys) → ∃ l, xs = u32s l ∧ Lim l
  | [], _ => ⟨[], rfl, fun x hx => by cases hx⟩
  | x :: xs, h => by
    obtain ⟨l, rfl, hl⟩ := ints_list he xs (fun y hy => h y (by simp [hy]))
    obtain ⟨ys, rfl, hs⟩ := h x (by simp)
    cases k with
    | zero => exact hs.elim
    | succ k =>
      unfold ShapeC at hs
      rw [he] at hs
      obtain ⟨n, rfl, h1, h2⟩ := hs
      have hst : isStructT P e = false := by unfold isStructT; rw [he]
      have h1' : 0 ≤ n := h1
      have h2' : n ≤ 4294967295 := h2
      refine ⟨n.toNat :: l, ?_, ?_⟩
      · simp only [hst, mkA, u32s, List.map_cons, Int.toNat_of_nonneg h1']
        rfl
      · intro y hy
        show y < 4294967296
        rcases List.mem_cons.1 hy with rfl | hy
        · omega
        · exact hl y hy

theorem shape_int {P : Program} {k : Nat} {t : TypeId} (ht : IntTy P t) {ys : List AVal} (h : ShapeC P k t ys) :
    ∃ neg r l, mkA (isStructT P t) ys = .agg [.bool neg, .slc r (u32s l)] ∧ Lim l ∧ l.length < 2^63 := by
  obtain ⟨f0, f1, e, h1, o0, o1, c, c0, c1, hb, hs, he⟩ := ht.ex
  have hst : isStructT P t = true := by unfold isStructT; rw [h1]
  cases k with
  | zero => exact h.elim
  | succ k =>
    unfold ShapeC at h
    rw [h1] at h
    obtain ⟨hlen, hf⟩ := h
    have g0 := hf f0 (by simp)
    have g1 := hf f1 (by simp)
    rw [c] at hlen
    match ys, hlen with
    | [y0, y1], _ =>
      rw [o0, c0] at g0
      rw [o1, c1] at g1
      simp only [List.drop_zero, List.take_succ_cons, List.take_zero, List.drop_succ_cons] at g0 g1
      cases k with
      | zero => exact g0.elim
      | succ k =>
        unfold ShapeC at g0 g1
        rw [hb] at g0
        rw [hs] at g1
        obtain ⟨b, hb'⟩ := g0
        have hy0 : y0 = .bool b := by simpa using hb'
        subst hy0
        rcases g1 with hy1 | ⟨xs, hy1, hle, hxs⟩
        · have : y1 = .slc true [] := by simpa using hy1
          subst this
          exact ⟨b, true, [], by rw [hst]; rfl, (fun x hx => absurd hx (by simp)), by decide⟩
        · have : y1 = .slc false xs := by simpa using hy1
          subst this
          obtain ⟨l, rfl, hl⟩ := ints_list he xs hxs
          refine ⟨b, false, l, by rw [hst]; rfl, hl, ?_⟩
          rw [length_u32s] at hle
          have : maxLen = 9223372036854775807 := rfl
          omega

theorem shape_i64 {P : Program} {k : Nat} {t : TypeId} (ht : P.underlying t = some (.int .i64)) {ys : List AVal} (h : ShapeC P k t ys) :
    ∃ n, mkA (isStructT P t) ys = .int .i64 n ∧ -9223372036854775808 ≤ n ∧ n < 9223372036854775808 := by
  have hst : isStructT P t = false := by unfold isStructT; rw [ht]
  cases k with
  | zero => exact h.elim
  | succ k =>
    unfold ShapeC at h
    rw [ht] at h
    obtain ⟨n, rfl, h1, h2⟩ := h
    have h1' : -9223372036854775808 ≤ n := h1
    have h2' : n ≤ 9223372036854775807 := h2
    exact ⟨n, by rw [hst]; rfl, h1', by omega⟩

theorem shape_str {P : Program} {k : Nat} {t : TypeId} (ht : P.underlying t = some .string) {ys : List AVal} (h : ShapeC P k t ys) :
    ∃ s : ByteArray, mkA (isStructT P t) ys = .str s ∧ s.size < 9223372036854775808 := by
  have hst : isStructT P t = false := by unfold isStructT; rw [ht]
  cases k with
  | zero => exact h.elim
  | succ k =>
    unfold ShapeC at h
    rw [ht] at h
    obtain ⟨s, rfl, h1⟩ := h
    have : maxLen = 9223372036854775807 := rfl
    exact ⟨s, by rw [hst]; rfl, by omega⟩

/-- A law's call, from its run. -/
theorem law_pure {L : Link} {call : CallF} (hcall : CallOk L call) {f : Nat} (hok : L.ok f) {args : Array Value} {as : List AVal} (hc : pureCall call f as = some (.bool true)) {W : World}
    (hids : idsL as = []) (hl : args.size = as.length) (hr : ∀ (i : Nat) (a : AVal), as[i]? = some a → Reps L W (fun _ => False) (fun _ => none) (args.getD i undef) a) :
    Calls L.P (L.fn f) args W fun e W' => e = .returned (.bool true) ∧ Below W.heap.size W W' := by
  have hB : ∀ b, ¬ Bof (fun _ => False) (Heap.at []) (fun _ => none) b := by
    rintro b (h | ⟨id, k, p, hk, _⟩)
    · exact h
    · simp [Heap.at] at hk
  have s0 : Sim L (fun _ => False) W (Heap.at []) (fun _ => none) :=
    ⟨fun b hb => hb.elim, fun id k hk => by simp [Heap.at] at hk, fun id1 id2 k1 k2 p1 p2 h1 => by simp [Heap.at] at h1⟩
  refine (pureCall_ok hcall hc hok s0 hids hl (fun i a ha => (hr i a ha).less (fun b hb => hB b hb))).mono ?_
  rintro e W' ⟨u, rfl, hext, hru⟩
  have := hru.bool_inv
  subst this
  exact ⟨rfl, ⟨hext.rest.1, hext.rest.2.1, hext.rest.2.2, hext.size, fun k hk => hext.old k hk (fun h => h)⟩⟩
end Go.Ash
/- Loops by a measure and two claims: one at the head (tidied), one behind. -/
namespace Go.Ash
variable {F : Nat → Option RFunc}

/-- What a round comes to: tidied, if there is one more. -/
noncomputable def after (F : Nat → Option RFunc) (live : List Bool) (b : RCode) (st : St) : Option (Ex × St) :=
  match exec F b st with
  | none => none
  | some (.normal, st2) => (tidy live st2).map fun st3 => (.normal, st3)
  | some (e, st2) => some (e, { st2 with env := [] })

/-- One round: one more with less to do, or out. -/
inductive Round (F : Nat → Option RFunc) (live : List Bool) (b : RCode) (P : Nat → St → Prop) (Q : Ex → St → Prop) (n : Nat) (st : St) : Prop where
  | more (m : Nat) (st' : St) (hm : m < n) (hp : P m st') (h : after F live b st = some (.normal, st')) : Round F live b P Q n st
  | out (e : Ex) (st' : St) (he : e ≠ .normal) (hq : Q e st') (h : after F live b st = some (e, st')) : Round F live b P Q n st

theorem loop_tidied {live : List Bool} {b : RCode} (P : Nat → St → Prop) (Q : Ex → St → Prop) (step : ∀ n st, P n st → Round F live b P Q n st) :
    ∀ n st0 st, tidy live st0 = some st → P n st → ∃ e st', exec F (.loop live b) st0 = some (e, st') ∧ Q e st' := by
  intro n
  induction n using Nat.strongRecOn with
  | ind n ih =>
    intro st0 st ht h
    rw [exec_loop, ht]
    simp only
    rcases step n st h with ⟨m, st', hm, hp, ha⟩ | ⟨e, st', hne, hq, ha⟩
    · unfold after at ha
      cases he : exec F b st with
      | none => rw [he] at ha; simp at ha
      | some r =>
        rw [he] at ha
        obtain ⟨e, st2⟩ := r
        cases e with
        | normal =>
          simp only [Option.map_eq_some_iff, Prod.mk.injEq, true_and] at ha
          obtain ⟨st3, h3, rfl⟩ := ha
          exact ih m hm st2 st3 h3 hp
        | exit i => simp at ha
        | ret => simp at ha
    · unfold after at ha
      cases he : exec F b st with
      | none => rw [he] at ha; simp at ha
      | some r =>
        rw [he] at ha
        obtain ⟨e', st2⟩ := r
        cases e' with
        | normal =>
          simp only [Option.map_eq_some_iff, Prod.mk.injEq] at ha
          obtain ⟨st3, h3, h4, _⟩ := ha
          exact absurd h4.symm hne
        | exit i =>
          simp only [Option.some.injEq, Prod.mk.injEq] at ha
          obtain ⟨rfl, rfl⟩ := ha
          exact ⟨_, _, rfl, hq⟩
        | ret =>
          simp only [Option.some.injEq, Prod.mk.injEq] at ha
          obtain ⟨rfl, rfl⟩ := ha
          exact ⟨_, _, rfl, hq⟩

/-- A loop from any head. -/
theorem loop_rule {live : List Bool} {b : RCode} {vars : List AVal} {H : Heap} {p : Nat} (P : Nat → St → Prop) (Q : Ex → St → Prop) (n : Nat) (st : St)
    (step : ∀ n st, P n st → Round F live b P Q n st) (ht : tidy live ⟨vars, [], H, p⟩ = some st) (h : P n st) :
    ∃ e st', (∀ env, exec F (.loop live b) ⟨vars, env, H, p⟩ = some (e, st')) ∧ Q e st' := by
  obtain ⟨e, st', he, hq⟩ := loop_tidied P Q step n _ st ht h
  exact ⟨e, st', fun env => (exec_loop_env (env' := [])).trans he, hq⟩

theorem tidy_two {live : List Bool} {vars env : List AVal} {b0 b1 : Blk} (hv : idsL (mask live vars) = [0, 1]) (h0 : idsL b0.elems = []) (h1 : idsL b1.elems = []) :
    tidy live ⟨vars, env, [some b0, some b1], 0⟩ = some ⟨mask live vars, [], [some b0, some b1], 0⟩ := by
  refine tidy_keep ?_ ?_
  · simp [hv, reach, fuelIds, Heap.at, h0, h1, List.range_succ]
  · intro x hx k hk y hy
    simp at hx
    rcases hx with rfl | rfl <;> cases hk
    · rw [h0] at hy; cases hy
    · rw [h1] at hy; cases hy

theorem tidy_none {live : List Bool} {vars env : List AVal} (hi : idsL (mask live vars) = []) : tidy live ⟨vars, env, [], 0⟩ = some ⟨mask live vars, [], [], 0⟩ := tidy_dry rfl hi
end Go.Ash
/- Numbers as lists of digits of 16 bits: plain arithmetic. -/
namespace Go.Ash

abbrev B16 : Nat := 65536

/-- The value of limbs, the lowest first. -/
def ew : List Nat → Nat
  | [] => 0
  | x :: l => x + B16 * ew l

/-- The limbs of a number, none at the end that is 0. -/
def DW (n : Nat) : List Nat := if h : n = 0 then [] else n % B16 :: DW (n / B16)
termination_by n
decreasing_by exact Nat.div_lt_self (Nat.pos_of_ne_zero h) (by decide)

@[simp] theorem DW_zero : DW 0 = [] := by unfold DW; simp
theorem DW_pos {n : Nat} (h : n ≠ 0) : DW n = n % B16 :: DW (n / B16) := by rw [DW]; simp [h]

theorem ew_DW (n : Nat) : ew (DW n) = n := by
  induction n using Nat.strongRecOn with
  | ind n ih =>
    by_cases h : n = 0
    · subst h; rw [DW_zero]; rfl
    · rw [DW_pos h]
      simp only [ew]
      rw [ih _ (Nat.div_lt_self (Nat.pos_of_ne_zero h) (by decide))]
      have := Nat.div_add_mod n B16
      omega

def LimW (l : List Nat) : Prop := ∀ x ∈ l, x < B16

theorem limW_DW (n : Nat) : LimW (DW n) := by
  induction n using Nat.strongRecOn with
  | ind n ih =>
    by_cases h : n = 0
    · subst h; rw [DW_zero]; intro x hx; cases hx
    · rw [DW_pos h]
      intro x hx
      rcases List.mem_cons.1 hx with rfl | hx
      · exact Nat.mod_lt _ (by decide)
      · exact ih _ (Nat.div_lt_self (Nat.pos_of_ne_zero h) (by decide)) x hx

theorem LimW.get {l : List Nat} (h : LimW l) {i : Nat} (hi : i < l.length) : l[i] < 65536 := h _ (List.getElem_mem hi)

@[simp] theorem DW_ne_nil {n : Nat} : DW n = [] ↔ n = 0 := by
  constructor
  · intro h
    have := ew_DW n
    rw [h] at this; simpa [ew] using this.symm
  · rintro rfl; exact DW_zero

theorem ew_append : ∀ (a b : List Nat), ew (a ++ b) = ew a + B16 ^ a.length * ew b
  | [], b => by simp [ew]
  | x :: a, b => by
    simp only [List.cons_append, ew, ew_append a b, List.length_cons, Nat.pow_succ, Nat.mul_add]
    rw [Nat.mul_comm (B16 ^ a.length) B16, Nat.mul_assoc, Nat.add_assoc]

theorem ew_snoc (a : List Nat) (x : Nat) : ew (a ++ [x]) = ew a + B16 ^ a.length * x := by rw [ew_append]; simp [ew]

theorem ew_lt : ∀ {l : List Nat}, LimW l → ew l < B16 ^ l.length
  | [], _ => by simp [ew]
  | x :: l, h => by
    have h1 : x < B16 := h x (by simp)
    have h2 := ew_lt (l := l) (fun y hy => h y (by simp [hy]))
    simp only [ew, List.length_cons, Nat.pow_succ]
    have h3 : B16 * (ew l + 1) ≤ B16 * B16 ^ l.length := Nat.mul_le_mul_left _ h2
    rw [Nat.mul_comm (B16 ^ l.length)]
    rw [Nat.mul_add, Nat.mul_one] at h3
    omega

/-- Limbs without noughts at the end are those of their number. -/
theorem DW_ew : ∀ {l : List Nat}, LimW l → (∀ h : l ≠ [], l.getLast h ≠ 0) → DW (ew l) = l
  | [], _, _ => DW_zero
  | x :: l, hl, hn => by
    have h1 : x < B16 := hl x (by simp)
    have hl' : LimW l := fun y hy => hl y (by simp [hy])
    have hn' : ∀ h : l ≠ [], l.getLast h ≠ 0 := fun h => by have := hn (by simp); rwa [List.getLast_cons h] at this
    have ih := DW_ew hl' hn'
    have hne : ew (x :: l) ≠ 0 := by
      simp only [ew]
      intro h0
      have hx0 : x = 0 := by omega
      have he0 : ew l = 0 := (Nat.mul_eq_zero.1 (by omega : B16 * ew l = 0)).resolve_left (by decide)
      have : l = [] := by rw [← ih, he0, DW_zero]
      subst this
      exact hn (by simp) (by simpa using hx0)
    rw [DW_pos hne]
    simp only [ew]
    rw [Nat.add_mul_mod_self_left, Nat.mod_eq_of_lt h1, Nat.add_mul_div_left _ _ (by decide : 0 < B16), Nat.div_eq_of_lt h1, Nat.zero_add, ih]

theorem DW_last {n : Nat} (h : DW n ≠ []) : (DW n).getLast h ≠ 0 := by
  induction n using Nat.strongRecOn with
  | ind n ih =>
    by_cases h0 : n = 0
    · subst h0; exact absurd DW_zero h
    · have hd := DW_pos h0
      by_cases hnil : DW (n / B16) = []
      · have : n / B16 = 0 := DW_ne_nil.1 hnil
        have hlt : n < B16 := by
          rcases Nat.lt_or_ge n B16 with h | h
          · exact h
          · have := Nat.div_pos h (by decide : 0 < B16); omega
        have hval : DW n = [n] := by rw [hd, hnil, Nat.mod_eq_of_lt hlt]
        simp only [hval, List.getLast_singleton]
        exact h0
      · have h1 := ih _ (Nat.div_lt_self (Nat.pos_of_ne_zero h0) (by decide)) hnil
        simp only [hd]
        rw [List.getLast_cons hnil]
        exact h1

/-- The limbs without the noughts at the end. -/
theorem ew_zeros (l : List Nat) (k : Nat) : ew (l ++ List.replicate k 0) = ew l := by
  rw [ew_append]
  have : ∀ k, ew (List.replicate k 0) = 0 := by
    intro k
    induction k with
    | zero => rfl
    | succ k ih => simp [List.replicate_succ, ew, ih]
  rw [this]; simp

theorem DW_len_le {n k : Nat} (h : n < B16 ^ k) : (DW n).length ≤ k := by
  induction k generalizing n with
  | zero => simp at h; subst h; rw [DW_zero]; simp
  | succ k ih =>
    by_cases h0 : n = 0
    · subst h0; rw [DW_zero]; simp
    · rw [DW_pos h0]
      have : n / B16 < B16 ^ k := by
        rw [Nat.div_lt_iff_lt_mul (by decide : 0 < B16)]
        rwa [Nat.pow_succ] at h
      simpa using ih this

theorem DW_lt (n : Nat) : n < B16 ^ (DW n).length := by
  have := ew_lt (limW_DW n)
  rwa [ew_DW] at this

theorem DW_len_mono {a b : Nat} (h : a ≤ b) : (DW a).length ≤ (DW b).length := DW_len_le (Nat.lt_of_le_of_lt h (DW_lt b))

theorem le_of_DW_len {n k : Nat} (h : (DW n).length ≤ k) : n < B16 ^ k := Nat.lt_of_lt_of_le (DW_lt n) (Nat.pow_le_pow_right (by decide) h)

theorem ew_take_succ {l : List Nat} {i : Nat} (hi : i < l.length) : ew (l.take (i + 1)) = ew (l.take i) + B16 ^ i * l[i] := by
  rw [List.take_succ_eq_append_getElem hi, ew_snoc, List.length_take, Nat.min_eq_left (by omega)]

theorem limW_take {l : List Nat} (h : LimW l) (k : Nat) : LimW (l.take k) := fun x hx => h x (List.mem_of_mem_take hx)
theorem limW_drop {l : List Nat} (h : LimW l) (k : Nat) : LimW (l.drop k) := fun x hx => h x (List.mem_of_mem_drop hx)
theorem limW_append {a b : List Nat} (h1 : LimW a) (h2 : LimW b) : LimW (a ++ b) := fun x hx => (List.mem_append.1 hx).elim (h1 x) (h2 x)
theorem limW_set {l : List Nat} (h : LimW l) {i v : Nat} (hv : v < 65536) : LimW (l.set i v) := fun x hx => by
  rcases List.mem_or_eq_of_mem_set hx with h' | rfl
  · exact h x h'
  · exact hv
theorem limW_replicate (k : Nat) : LimW (List.replicate k 0) := fun x hx => by rw [List.eq_of_mem_replicate hx]; decide

/-! ### As values -/

def i64s (l : List Nat) : List AVal := l.map fun (n : Nat) => AVal.int .i64 (n : Int)

@[simp] theorem idsL_i64s (l : List Nat) : idsL (i64s l) = [] := by
  induction l with
  | nil => rfl
  | cons a l ih => simpa [i64s, idsL, AVal.ids] using ih
@[simp] theorem i64s_nil (l : List Nat) : i64s l = [] ↔ l = [] := by simp [i64s]
@[simp] theorem length_i64s (l : List Nat) : (i64s l).length = l.length := by simp [i64s]
@[simp] theorem gd_i64s (l : List Nat) (i : Nat) (h : i < l.length) : gd (i64s l) i = .int .i64 (l[i] : Nat) := by
  induction l generalizing i with
  | nil => simp at h
  | cons a l ih => cases i with
    | zero => simp [i64s, gd]
    | succ i => simpa [i64s, gd] using ih i (by simpa using h)
@[simp] theorem getElem_i64s (l : List Nat) (i : Nat) (h : i < (i64s l).length) : (i64s l)[i] = .int .i64 ((l[i]'(by simpa using h) : Nat) : Int) := by simp [i64s]
theorem get_i64s (l : List Nat) (i : Nat) (h : i < l.length) : (i64s l)[i]? = some (.int .i64 (l[i] : Nat)) := by simp [i64s, h]
theorem i64s_take (l : List Nat) (k : Nat) : (i64s l).take k = i64s (l.take k) := by simp [i64s]
theorem i64s_drop (l : List Nat) (k : Nat) : (i64s l).drop k = i64s (l.drop k) := by simp [i64s]
theorem i64s_set (l : List Nat) (k v : Nat) : (i64s l).set k (.int .i64 v) = i64s (l.set k v) := by simp [i64s, List.map_set]
theorem i64s_append (a b : List Nat) : i64s a ++ i64s b = i64s (a ++ b) := by simp [i64s]
theorem i64s_replicate (k : Nat) : List.replicate k (AVal.int .i64 0) = i64s (List.replicate k 0) := by simp [i64s]
theorem allSz_i64s (l : List Nat) : allSz 1 (i64s l) = true := by simp [allSz, i64s, AVal.cells]
theorem good_i64s (l : List Nat) : goodElems 1 (i64s l) = true := by simp [goodElems, i64s, AVal.cells, AVal.isCell]

theorem i64s_empty : i64s [] = [] := rfl
theorem get?_i64s (l : List Nat) (i : Nat) (h : i < l.length) : (i64s l)[i]? = some (.int .i64 ((l[i] : Nat) : Int)) := by simp [i64s, h]
theorem get?_set_i64s (l : List Nat) (i j v : Nat) (h : i < l.length) : (i64s (l.set j v))[i]? = some (.int .i64 (((l.set j v)[i]'(by simpa using h) : Nat) : Int)) := get?_i64s _ _ (by simpa using h)
theorem set_i64n (l : List Nat) (k v : Nat) : (i64s l).set k (.int .i64 (v : Int)) = i64s (l.set k v) := i64s_set l k v
theorem set_plusW {out : List Nat} {i v : Nat} (hi : i < out.length) : ew ((out.set i v).take (i + 1)) = ew (out.take i) + B16 ^ i * v := by
  rw [ew_take_succ (by simpa using hi), List.take_set, List.set_eq_of_length_le (by simp; omega)]
  simp
theorem drop_ew {l : List Nat} {i : Nat} (hi : i < l.length) : ew (l.drop i) = l[i] + B16 * ew (l.drop (i + 1)) := by
  rw [List.drop_eq_getElem_cons hi]; rfl
theorem set_ew : ∀ {l : List Nat} {k : Nat} (hk : k < l.length) (v : Nat), ew (l.set k v) + B16 ^ k * l[k] = ew l + B16 ^ k * v
  | [], k, hk, v => by simp at hk
  | x :: l, 0, _, v => by simp [ew]; omega
  | x :: l, k + 1, hk, v => by
    have ih := set_ew (l := l) (k := k) (by simpa using hk) v
    simp only [List.set_cons_succ, ew, List.getElem_cons_succ, Nat.pow_succ]
    have e1 : B16 ^ k * B16 * l[k]'(by simpa using hk) = B16 * (B16 ^ k * l[k]'(by simpa using hk)) := by rw [Nat.mul_comm (B16 ^ k) B16, Nat.mul_assoc]
    have e2 : B16 ^ k * B16 * v = B16 * (B16 ^ k * v) := by rw [Nat.mul_comm (B16 ^ k) B16, Nat.mul_assoc]
    rw [e1, e2, Nat.add_assoc, ← Nat.mul_add, ih, Nat.mul_add, Nat.add_assoc]
theorem len_DW_ew {l : List Nat} (hl : LimW l) : (DW (ew l)).length ≤ l.length := DW_len_le (ew_lt hl)
theorem take_DW (l : List Nat) (hl : LimW l) : l.take (DW (ew l)).length = DW (ew l) := by
  have main : ∀ n, ∀ l : List Nat, l.length = n → LimW l → l.take (DW (ew l)).length = DW (ew l) := by
    intro n
    induction n with
    | zero => intro l h _; rw [List.length_eq_zero_iff.1 h]; simp [ew, DW_zero]
    | succ n ih =>
      intro l h hl
      rcases List.eq_nil_or_concat l with rfl | ⟨l', x, hlx⟩
      · simp at h
      · rw [List.concat_eq_append] at hlx
        subst hlx
        have hl' : LimW l' := fun y hy => hl y (by simp [hy])
        by_cases hx : x = 0
        · have : ew (l' ++ [x]) = ew l' := by rw [ew_snoc, hx]; simp
          rw [this]
          have hle : (DW (ew l')).length ≤ l'.length := DW_len_le (ew_lt hl')
          rw [List.take_append_of_le_length hle, ih l' (by simpa using h) hl']
        · rw [DW_ew hl (by intro _; simpa using hx)]
          exact List.take_length
  exact main _ l rfl hl

/-- A number of the document: digits of 16 bits. -/
def RI (nl : Bool) (z : Int) : AVal := .agg [.bool (decide (z < 0)), .slc nl (i64s (DW z.natAbs))]
@[simp] theorem ids_RI (nl : Bool) (z : Int) : (RI nl z).ids = [] := by simp [RI]
@[simp] theorem cells_RI (nl : Bool) (z : Int) : (RI nl z).cells.length = 2 := rfl
@[simp] theorem flat_RI (nl : Bool) (z : Int) : (RI nl z).flat = true := by simp [RI]
@[simp] theorem take_RI (nl : Bool) (z : Int) : AVal.agg ((RI nl z).cells.take 2) = RI nl z := rfl
@[simp] theorem put_RI (nl : Bool) (z : Int) (a b : AVal) : putElem (.agg [a, b]) 0 (RI nl z) = some (RI nl z) := rfl
@[simp] theorem put_RI' (n1 n2 : Bool) (z w : Int) : putElem (RI n1 w) 0 (RI n2 z) = some (RI n2 z) := rfl
@[simp] theorem drop1_RI (nl : Bool) (z : Int) : (RI nl z).cells.drop 1 = [.slc nl (i64s (DW z.natAbs))] := rfl
@[simp] theorem get0_RI (nl : Bool) (z : Int) : (RI nl z).cells[0]? = some (.bool (decide (z < 0))) := rfl
@[simp] theorem get1_RI (nl : Bool) (z : Int) : (RI nl z).cells[1]? = some (.slc nl (i64s (DW z.natAbs))) := rfl
@[simp] theorem head_RI (nl : Bool) (z : Int) : (RI nl z).cells.head? = some (.bool (decide (z < 0))) := rfl

/-! ### What is kept at a loop's head -/

theorem place_nil (b : Nat) : place [] b = 0 := rfl
theorem place_cons (a b : Nat) (l : List Nat) : place (a :: l) b = if a = b then 0 else place l b + 1 := by
  unfold place
  rw [List.idxOf_cons]
  by_cases h : a = b
  · simp [h]
  · have : (a == b) = false := by simpa using h
    simp [h, this]

theorem tidy_eq {live : List Bool} {vars env : List AVal} {H : Heap} : tidy live ⟨vars, env, H, 0⟩ =
    (reach H fuelIds (idsL (mask live vars)) []).map fun l => ⟨renL (place l) (mask live vars), [], pack H l, 0⟩ := by
  unfold tidy
  split
  · rename_i h
    obtain ⟨h1, h2⟩ := h
    have : H = [] := List.length_eq_zero_iff.1 h1
    subst this
    simp only at h2
    rw [h2]
    simp [reach, fuelIds, pack, renL_self _ _ h2]
  · rfl

theorem reach_end {H : Heap} {n : Nat} {seen : List Nat} : reach H (n + 1) [] seen = some seen := by simp [reach]
theorem reach_more {H : Heap} {n id : Nat} {rest seen : List Nat} : reach H (n + 1) (id :: rest) seen =
    if seen.contains id then reach H n rest seen else match H.at id with
      | some b => reach H n (rest ++ idsL b.elems) (seen ++ [id])
      | none => reach H n rest (seen ++ [id]) := by rw [reach]; rfl
@[simp] theorem blk_ren_eq {ρ : Nat → Nat} {f : Bool} {e : Nat} {l : List AVal} : Blk.ren ρ ⟨f, e, l⟩ = ⟨f, e, renL ρ l⟩ := rfl
@[simp] theorem renL_i64s (ρ : Nat → Nat) (l : List Nat) : renL ρ (i64s l) = i64s l := renL_self _ _ (idsL_i64s l)
@[simp] theorem renL_u32s' (ρ : Nat → Nat) (l : List Nat) : renL ρ (u32s l) = u32s l := renL_self _ _ (idsL_u32s l)
@[simp] theorem ren_RI (ρ : Nat → Nat) (nl : Bool) (z : Int) : (RI nl z).ren ρ = RI nl z := ren_self _ _ (ids_RI nl z)
end Go.Ash
