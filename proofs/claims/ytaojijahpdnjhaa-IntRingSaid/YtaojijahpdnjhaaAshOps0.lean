/- Operations that touch no block: each does in the model what it does here. -/
import Derived.Test.YtaojijahpdnjhaaAshChk
import Derived.Laws.Slices
import Derived.Laws.Small
set_option linter.all false
namespace Go.Ash

inductive All2 {α β : Type} (R : α → β → Prop) : List α → List β → Prop
  | nil : All2 R [] []
  | cons {a b as bs} : R a b → All2 R as bs → All2 R (a :: as) (b :: bs)

theorem All2.one {α β : Type} {R : α → β → Prop} {a : α} {bs : List β} (h : All2 R [a] bs) : ∃ b, bs = [b] ∧ R a b := by
  cases h with | cons h1 h2 => cases h2; exact ⟨_, rfl, h1⟩
theorem All2.two {α β : Type} {R : α → β → Prop} {a a' : α} {bs : List β} (h : All2 R [a, a'] bs) : ∃ b b', bs = [b, b'] ∧ R a b ∧ R a' b' := by
  cases h with | cons h1 h2 => obtain ⟨b, rfl, h3⟩ := h2.one; exact ⟨_, _, rfl, h1, h3⟩
theorem All2.length {α β : Type} {R : α → β → Prop} {as : List α} {bs : List β} (h : All2 R as bs) : as.length = bs.length := by
  induction h with
  | nil => rfl
  | cons _ _ ih => simp [ih]
theorem All2.get {α β : Type} {R : α → β → Prop} {as : List α} {bs : List β} (h : All2 R as bs) {i : Nat} {a : α} {b : β} (ha : as[i]? = some a) (hb : bs[i]? = some b) : R a b := by
  induction h generalizing i with
  | nil => simp at ha
  | cons h1 _ ih =>
    cases i with
    | zero => simp at ha hb; subst ha; subst hb; exact h1
    | succ i => simp at ha hb; exact ih ha hb
theorem All2.of {α β : Type} {R : α → β → Prop} : ∀ {as : List α} {bs : List β}, as.length = bs.length → (∀ (i : Nat) (a : α) (b : β), as[i]? = some a → bs[i]? = some b → R a b) → All2 R as bs
  | [], [], _, _ => .nil
  | a :: as, b :: bs, hl, h => .cons (h 0 a b rfl rfl) (All2.of (by simpa using hl) fun i x y hx hy => h (i + 1) x y (by simpa using hx) (by simpa using hy))
  | [], _ :: _, hl, _ => by simp at hl
  | _ :: _, [], hl, _ => by simp at hl

section
variable {L : Link} {w : World} {B : Nat → Prop} {m : PMap} {ρ : Operand → Value} {o : Oper}

abbrev Args (L : Link) (w : World) (B : Nat → Prop) (m : PMap) (ρ : Operand → Value) (xs : List Operand) (args : List AVal) : Prop :=
  All2 (fun x a => Reps L w B m (ρ x) a) xs args

/-- The operation gives a value, and the world stays. -/
def Gives (L : Link) (w : World) (B : Nat → Prop) (m : PMap) (ρ : Operand → Value) (o : Oper) (v : AVal) : Prop :=
  ∃ u, (execOp ρ o).run L.P w = .ok (.value u) w ∧ Reps L w B m u v

theorem Reps.bool_inv {v : Value} {b : Bool} (h : Reps L w B m v (.bool b)) : v = .bool b := by cases h; rfl
theorem Reps.int_inv {v : Value} {k : IntKind} {n : Int} (h : Reps L w B m v (.int k n)) : v = .int k n := by cases h; rfl
theorem Reps.str_inv {v : Value} {s : ByteArray} (h : Reps L w B m v (.str s)) : v = .string s := by cases h; rfl

theorem gives_mov {x : Operand} {v : AVal} (ho : o.op = .move x ∨ o.op = .assign x) (h : Reps L w B m (ρ x) v) : Gives L w B m ρ o v := by
  refine ⟨ρ x, ?_, h⟩
  rcases ho with ho | ho <;> simp [execOp, ho]

theorem gives_pick {c x y : Operand} {b : Bool} {p q : AVal} (ho : o.op = .pick c x y) (hc : Reps L w B m (ρ c) (.bool b))
    (hp : Reps L w B m (ρ x) p) (hq : Reps L w B m (ρ y) q) : Gives L w B m ρ o (if b then p else q) := by
  refine ⟨if b then ρ x else ρ y, ?_, by cases b <;> simp_all⟩
  simp [execOp, ho, hc.bool_inv, asBool]

theorem run_val {s : Sem Value} {u : Value} {w' : World} (h : s.run L.P w = .ok u w') : (do pure (Next.value (← s)) : Sem Next).run L.P w = .ok (.value u) w' := by
  simp [h]

theorem eqGuard_int (op : BinOp) (t : TypeId) (x y : Operand) (k k' : IntKind) (i j : Int) : (eqGuard op t x y (.int k i) (.int k' j)).run L.P w = .ok () w := by
  cases op <;> simp [eqGuard]
theorem eqGuard_str (op : BinOp) (t : TypeId) (x y : Operand) (i j : ByteArray) : (eqGuard op t x y (.string i) (.string j)).run L.P w = .ok () w := by
  cases op <;> simp [eqGuard]
theorem eqGuard_bool (op : BinOp) (t : TypeId) (x y : Operand) (i j : Bool) : (eqGuard op t x y (.bool i) (.bool j)).run L.P w = .ok () w := by
  cases op <;> simp [eqGuard]

theorem gives_bin {op : BinOp} {t u : TypeId} {x y : Operand} {a b v : AVal} (ho : o.op = .binOp op t x y u) (ha : Reps L w B m (ρ x) a)
    (hb : Reps L w B m (ρ y) b) (hv : binA op a b = some v) : Gives L w B m ρ o v := by
  suffices h : ∃ r, ((do eqGuard op t x y (ρ x) (ρ y); binOp op t (ρ x) (ρ y)) : Sem Value).run L.P w = .ok r w ∧ Reps L w B m r v by
    obtain ⟨r, h1, h2⟩ := h
    refine ⟨r, ?_, h2⟩
    simp only [execOp, ho]
    exact run_val h1
  unfold binA at hv
  split at hv
  · rename_i k i k' j
    rw [ha.int_inv, hb.int_inv]
    simp only [Sem.run_bind, eqGuard_int, Result.andThen_ok]
    cases op <;> simp only [isShift, Bool.false_eq_true, if_false, if_true] at hv <;> simp only [binOp]
    case shl =>
      simp only [shiftA] at hv
      split at hv
      · simp at hv
      · rename_i hj
        simp only [Option.some.injEq] at hv; subst hv
        exact ⟨.int k (k.wrap (i * 2 ^ (Nat.min j.toNat k.bits))), by simp [Op.shift, hj], .int _ _⟩
    case shr =>
      simp only [shiftA] at hv
      split at hv
      · simp at hv
      · rename_i hj
        simp only [Option.some.injEq] at hv; subst hv
        exact ⟨.int k (i.fdiv (2 ^ (Nat.min j.toNat k.bits))), by simp [Op.shift, hj], .int _ _⟩
    all_goals
      split at hv
      · rename_i hk
        subst hk
        rw [if_neg (by simp)]
        simp only [intA, intBitsA] at hv
        first
        | (simp at hv; done)
        | (simp only [Option.some.injEq] at hv; subst hv
           first
           | exact ⟨_, rfl, .int _ _⟩
           | exact ⟨_, rfl, .bool _⟩)
        | (split at hv
           · simp at hv
           · rename_i hz
             simp only [Option.some.injEq] at hv; subst hv
             refine ⟨_, ?_, .int _ _⟩
             simp only [Op.intDiv, if_neg hz]
             rfl)
      · simp at hv
  · rename_i i j
    rw [ha.str_inv, hb.str_inv]
    simp only [Sem.run_bind, eqGuard_str, Result.andThen_ok]
    cases op <;> simp only [strA] at hv <;> simp only [binOp] <;> first | (simp at hv; done) | skip
    · split at hv
      · rename_i hle
        simp only [Option.some.injEq] at hv; subst hv
        refine ⟨_, ?_, .str _⟩
        have : ¬ (((i.size + j.size : Nat) : Int) > IntKind.i64.max) := by
          unfold maxBytes at hle
          simp only [IntKind.max, IntKind.signed, IntKind.bits]; simp; omega
        simp only [Op.stringOp, if_neg this]; rfl
      · simp at hv
    all_goals
      simp only [Option.some.injEq] at hv; subst hv
      exact ⟨_, rfl, .bool _⟩
  · simp at hv

theorem gives_beq {neg : Bool} {t u : TypeId} {x y : Operand} {p q : Bool} (ho : o.op = .binOp (if neg then .neq else .eql) t x y u)
    (ht : L.P.underlying t = some .bool) (ha : Reps L w B m (ρ x) (.bool p)) (hb : Reps L w B m (ρ y) (.bool q)) :
    Gives L w B m ρ o (.bool (if neg then !(p == q) else p == q)) := by
  refine ⟨_, ?_, .bool _⟩
  simp only [execOp, ho, ha.bool_inv, hb.bool_inv]
  refine run_val ?_
  simp only [Sem.run_bind, eqGuard_bool, Result.andThen_ok]
  cases neg
  · exact run_eql_bool w t p q ht
  · exact run_neq_bool w t p q ht

theorem gives_un {op : UnOp} {t : TypeId} {x : Operand} {a v : AVal} (ho : o.op = .unOp op t x) (ha : Reps L w B m (ρ x) a) (hv : unA op a = some v) :
    Gives L w B m ρ o v := by
  suffices h : ∃ r, (Op.unary op (ρ x)).run L.P w = .ok r w ∧ Reps L w B m r v by
    obtain ⟨r, h1, h2⟩ := h
    refine ⟨r, ?_, h2⟩
    simp only [execOp, ho]
    exact run_val h1
  unfold unA at hv
  split at hv
  · simp only [Option.some.injEq] at hv; subst hv
    rw [ha.int_inv]
    exact ⟨_, rfl, .int _ _⟩
  · simp only [Option.some.injEq] at hv; subst hv
    rw [ha.bool_inv]
    exact ⟨_, rfl, .bool _⟩
  · simp at hv

theorem gives_conv {s d : TypeId} {x : Operand} {k k' : IntKind} {n : Int} {ds : TypeDesc} (ho : o.op = .convert s d x) (hs : L.P.underlying s = some ds)
    (hd : L.P.underlying d = some (.int k)) (ha : Reps L w B m (ρ x) (.int k' n)) : Gives L w B m ρ o (.int k (k.wrap n)) := by
  refine ⟨_, ?_, .int _ _⟩
  simp only [execOp, ho, ha.int_inv]
  refine run_val ?_
  simp [convert, underlying, hs, hd, Conv.intToInt]

theorem gives_mkif {t t' : TypeId} {x : Operand} {a : AVal} {d : TypeDesc} (ho : o.op = .makeInterface t x) (hd : L.P.underlying t = some d)
    (hi : ∀ ms, d ≠ .interface ms) (ht : L.ty t' = t) (ha : Reps L w B m (ρ x) a) : Gives L w B m ρ o (.ifc t' a) := by
  refine ⟨.iface t (ρ x), ?_, by subst ht; exact .ifc _ _ _ ha⟩
  simp only [execOp, ho]
  refine run_val ?_
  unfold Instr.makeInterface
  cases d <;> first | exact absurd rfl (hi _) | simp [underlying, hd]

theorem gives_extract {x : Operand} {i : Nat} {vs : List AVal} {v : AVal} (ho : o.op = .extract x i) (ha : Reps L w B m (ρ x) (.tup vs)) (hv : vs[i]? = some v) :
    Gives L w B m ρ o v := by
  generalize hx : ρ x = u at ha
  cases ha with
  | tup us _ hl hr =>
    have hi : i < us.size := by
      rw [hl]
      rcases Nat.lt_or_ge i vs.length with h | h
      · exact h
      · simp [List.getElem?_eq_none h] at hv
    refine ⟨us[i], ?_, ?_⟩
    · simp only [execOp, ho, hx]
      refine run_val ?_
      simp [Instr.extract, Array.getElem?_eq_getElem hi]
    · have := hr i v hv
      simpa [Array.getD, hi] using this

def isRef : AVal → Bool
  | .ptr _ | .mptr .. | .fn .. | .ifc .. => true
  | _ => false
def lenA : AVal → Option Nat
  | .slc _ xs => some xs.length
  | .mslc _ _ len => some len
  | _ => none

theorem gives_nilck {x : Operand} {a : AVal} (ho : o.op = .nilCheck x) (ha : Reps L w B m (ρ x) a)
    (hs : isRef a = true) : Gives L w B m ρ o a := by
  refine ⟨ρ x, ?_, ha⟩
  simp only [execOp, ho]
  generalize ρ x = u at ha ⊢
  cases ha <;> first | rfl | (simp [isRef] at hs; done)

theorem gives_tassert {x : Operand} {t t' s : TypeId} {v : AVal} {d : TypeDesc} (ho : o.op = .typeAssert x s t false) (hd : L.P.underlying t = some d)
    (hi : ∀ ms, d ≠ .interface ms) (ht : L.ty t' = t) (ha : Reps L w B m (ρ x) (.ifc t' v)) : Gives L w B m ρ o v := by
  generalize hx : ρ x = u at ha
  cases ha with
  | ifc _ u0 _ hr =>
    refine ⟨u0, ?_, hr⟩
    simp only [execOp, ho, hx]
    refine run_val ?_
    unfold Instr.typeAssert
    simp only [Sem.run_bind, underlying, Sem.run_bind, run_program, Result.andThen_ok, hd, Sem.run_pure]
    cases d <;> simp_all

theorem gives_max {c : Call} {x y : Operand} {k : IntKind} {i j : Int} (ho : o.op = .call c) (hc : c.callee = .builtin .max) (hargs : c.args = #[x, y])
    (ha : Reps L w B m (ρ x) (.int k i)) (hb : Reps L w B m (ρ y) (.int k j)) : Gives L w B m ρ o (.int k (if i < j then j else i)) := by
  refine ⟨_, ?_, .int _ _⟩
  simp [execOp, ho, resolve, hc, hargs, invoke, builtin, Builtin.max_, Builtin.max2, ha.int_inv, hb.int_inv]

theorem gives_min {c : Call} {x y : Operand} {k : IntKind} {i j : Int} (ho : o.op = .call c) (hc : c.callee = .builtin .min) (hargs : c.args = #[x, y])
    (ha : Reps L w B m (ρ x) (.int k i)) (hb : Reps L w B m (ρ y) (.int k j)) : Gives L w B m ρ o (.int k (if j < i then j else i)) := by
  refine ⟨_, ?_, .int _ _⟩
  simp [execOp, ho, resolve, hc, hargs, invoke, builtin, Builtin.min_, Builtin.min2, ha.int_inv, hb.int_inv]

theorem gives_idx {t : TypeId} {x i : Operand} {s : ByteArray} {k : IntKind} {n : Int} (ho : o.op = .index t x i) (ht : L.P.underlying t = some .string)
    (ha : Reps L w B m (ρ x) (.str s)) (hb : Reps L w B m (ρ i) (.int k n)) (h0 : 0 ≤ n) (h1 : n < s.size) :
    Gives L w B m ρ o (.int .u8 (s.data.getD n.toNat 0).toNat) := by
  refine ⟨_, ?_, .int _ _⟩
  simp only [execOp, ho, ha.str_inv, hb.int_inv]
  refine run_val ?_
  have hlt : n.toNat < s.size := by omega
  have hlt' : n.toNat < s.data.size := hlt
  have hg : s[n.toNat]? = some (s.data.getD n.toNat 0) := by
    rw [getElem?_pos s n.toNat hlt]
    simp only [Array.getD, dif_pos hlt']
    rfl
  simp [Instr.index, underlying, ht, asIntOf, h0, hg]

theorem gives_len_str {c : Call} {x : Operand} {t : TypeId} {s : ByteArray} (ho : o.op = .call c) (hc : c.callee = .builtin .len) (hargs : c.args = #[x])
    (htt : c.argTypes[0]? = some t) (ht : L.P.underlying t = some .string) (ha : Reps L w B m (ρ x) (.str s)) : Gives L w B m ρ o (.int .i64 s.size) := by
  refine ⟨_, ?_, .int _ _⟩
  simp [execOp, ho, resolve, hc, hargs, invoke, builtin, Builtin.len_, htt, underlying, ht, ha.str_inv, goInt]

theorem gives_len {c : Call} {x : Operand} {t e : TypeId} {a : AVal} {n : Nat} (ho : o.op = .call c) (hc : c.callee = .builtin .len) (hargs : c.args = #[x])
    (htt : c.argTypes[0]? = some t) (ht : L.P.underlying t = some (.slice e)) (ha : Reps L w B m (ρ x) a)
    (hn : lenA a = some n) : Gives L w B m ρ o (.int .i64 n) := by
  refine ⟨.int .i64 n, ?_, .int _ _⟩
  simp only [execOp, ho, resolve, hc, hargs]
  have hm : Array.map ρ #[x] = #[ρ x] := by simp
  rw [hm]
  generalize ρ x = u at ha ⊢
  cases ha <;> simp [lenA] at hn <;> subst hn <;> simp [invoke, builtin, Builtin.len_, htt, underlying, ht, goInt]

end
end Go.Ash
