/- Package limbs: trim, mag, made, neg, Sign. -/
import Derived.Test.YtaojijahpdnjhaaAshTools
import Derived.Test.YtaojijahpdnjhaaAshCodeLimbs
set_option linter.all false
namespace Go.Ash
variable {F : Nat → Option RFunc} [h : CodeLimbs F]

theorem trim_loop (nl : Bool) (l : List Nat) (hl : Lim l) (hlen : l.length < 2^40) : ∀ n : Nat, n ≤ l.length → ∀ b env,
    exec F l_limbs_trim_0 ⟨[.slc nl (u32s l), b, .int .i64 n], env, [], 0⟩ = some (.exit 0, ⟨[.slc nl (u32s l), .und, .int .i64 (D (ev (l.take n))).length], [], [], 0⟩) := by
  intro n
  induction n with
  | zero =>
    intro _ b env
    unfold l_limbs_trim_0
    rw [exec_loop, tidy_dry rfl (by simp)]
    simp [ev, D_zero]
  | succ n ih =>
    intro hn b env
    have h2 : ((0 : Int) < (n : Int) + 1) := by omega
    unfold l_limbs_trim_0
    rw [exec_loop, tidy_dry rfl (by simp)]
    by_cases h0 : l[n] = 0
    · have ht : ev (l.take (n + 1)) = ev (l.take n) := by rw [ev_take_succ hn, h0]; simp
      rw [ht, ← ih (by omega) .und [.int .i64 n, .int .i64 n, .int .i64 (n+1)]]
      simp (disch := omega) [wrap_i64, h2, h0, show n < l.length from hn, l_limbs_trim_0]
    · have ht : D (ev (l.take (n + 1))) = l.take (n + 1) := by
        refine D_ev (lim_take hl _) (fun hne => ?_)
        rw [List.getLast_eq_getElem]
        simp only [List.length_take, Nat.min_eq_left hn, Nat.add_sub_cancel, List.getElem_take]
        exact h0
      rw [ht]
      simp (disch := omega) [wrap_i64, h2, h0, show n < l.length from hn]

theorem take_D (l : List Nat) (hl : Lim l) : l.take (D (ev l)).length = D (ev l) := by
  have main : ∀ n, ∀ l : List Nat, l.length = n → Lim l → l.take (D (ev l)).length = D (ev l) := by
    intro n
    induction n with
    | zero => intro l h _; rw [List.length_eq_zero_iff.1 h]; simp [ev, D_zero]
    | succ n ih =>
      intro l h hl
      rcases List.eq_nil_or_concat l with rfl | ⟨l', x, hlx⟩
      · simp at h
      · rw [List.concat_eq_append] at hlx
        subst hlx
        have hl' : Lim l' := fun y hy => hl y (by simp [hy])
        by_cases hx : x = 0
        · have : ev (l' ++ [x]) = ev l' := by rw [ev_snoc, hx]; simp
          rw [this]
          have hle : (D (ev l')).length ≤ l'.length := D_len_le (ev_lt hl')
          rw [List.take_append_of_le_length hle, ih l' (by simpa using h) hl']
        · rw [D_ev hl (by intro _; simpa using hx)]
          exact List.take_length
  exact main _ l rfl hl

/-- A magnitude: the limbs of a number. -/
def Mag (v : AVal) (a : Nat) : Prop := ∃ n, v = .slc n (u32s (D a)) ∧ (n = true → a = 0)

theorem pc_trim (nl : Bool) (l : List Nat) (hl : Lim l) (hlen : l.length < 2^40) : pureCall (run F) 107 [.slc nl (u32s l)] = some (.slc nl (u32s (D (ev l)))) := by
  have hle : (D (ev l)).length ≤ l.length := D_len_le (ev_lt hl)
  refine pure_ret h.limbs_trim rfl ?_
  simp [c_limbs_trim, trim_loop nl l hl hlen, bounds, u32s_take, take_D l hl, hle]

/-- An integer as it is handed in: a sign, and limbs in any form. -/
def intA' (neg nl : Bool) (l : List Nat) : AVal := .agg [.bool neg, .slc nl (u32s l)]

theorem pc_mag (neg nl : Bool) (l : List Nat) (hl : Lim l) (hlen : l.length < 2^40) : pureCall (run F) 84 [.agg [.bool neg, .slc nl (u32s l)]] = some (.slc nl (u32s (D (ev l)))) := by
  refine pure_ret h.limbs_mag rfl ?_
  simp [c_limbs_mag, any_pure, pc_trim nl l hl hlen]

theorem pc_neg (neg nl : Bool) (l : List Nat) (hl : Lim l) (hlen : l.length < 2^40) : pureCall (run F) 86 [.agg [.bool neg, .slc nl (u32s l)]] = some (.bool (neg && decide (ev l ≠ 0))) := by
  refine pure_ret h.limbs_neg rfl ?_
  cases neg
  · simp [c_limbs_neg]
  · simp [c_limbs_neg, any_pure, pc_mag true nl l hl hlen, List.length_pos_iff]

theorem pc_sign (neg nl : Bool) (l : List Nat) (hl : Lim l) (hlen : l.length < 2^40) : pureCall (run F) 52 [.agg [.bool neg, .slc nl (u32s l)]] = some (.int .i64 (if ev l = 0 then 0 else if neg then -1 else 1)) := by
  refine pure_ret h.limbs_Sign rfl ?_
  by_cases h0 : ev l = 0
  · simp [c_limbs_Sign, any_pure, pc_mag neg nl l hl hlen, h0]
  · cases neg
    · simp [c_limbs_Sign, any_pure, pc_mag false nl l hl hlen, h0]
    · simp [c_limbs_Sign, any_pure, pc_mag true nl l hl hlen, h0]
end Go.Ash
