/- Package limbs: minus, cmp, made. -/
import Derived.Test.YtaojijahpdnjhaaAshLimbs2
set_option linter.all false
namespace Go.Ash
variable {F : Nat → Option RFunc} [h : CodeLimbs F]

theorem borrow_step {A E p v q X Y xi yi c R : Nat} (e : xi + B32 * q = v + c + yi) (h : E + p * B32 * (q + Y) = A + p * v + p * B32 * X + R) :
    E + p * (c + (yi + B32 * Y)) = A + p * (xi + B32 * X) + R := by
  have e2 : p * (xi + B32 * q) = p * (v + c + yi) := by rw [e]
  simp only [Nat.mul_add, Nat.mul_assoc] at e2 h ⊢
  omega

theorem minus_loop (nx ny : Bool) (x y : List Nat) (hx : Lim x) (hy : Lim y) (hxy : y.length ≤ x.length) (hlen : x.length < 2^40) : ∀ (k i : Nat) (out : List Nat) (c : Int) (b2 b5 b6 : AVal) (env : List AVal),
    i + k = x.length → out.length = x.length → Lim out → 0 ≤ c → c ≤ 1 → ∃ (out' : List Nat) (c' : Int),
    exec F l_limbs_minus_0 ⟨[.slc nx (u32s x), .slc ny (u32s y), b2, .mslc 0 0 x.length, .int .u64 c, b5, b6, .int .i64 x.length, .int .i64 i], env, [some ⟨false, 1, u32s out⟩], 0⟩ =
      some (.exit 0, ⟨[.slc nx (u32s x), .slc ny (u32s y), .und, .mslc 0 0 x.length, .int .u64 c', .und, .und, .int .i64 x.length, .int .i64 x.length], [], [some ⟨false, 1, u32s out'⟩], 0⟩) ∧
      out'.length = x.length ∧ Lim out' ∧ 0 ≤ c' ∧ c' ≤ 1 ∧
      ev (out'.take x.length) + B32 ^ i * (c.toNat + ev (y.drop i)) = ev (out.take i) + B32 ^ i * ev (x.drop i) + B32 ^ x.length * c'.toNat := by
  intro k
  induction k with
  | zero =>
    intro i out c b2 b5 b6 env hi hout hlim h0 h1
    have hi' : i = x.length := by omega
    subst hi'
    refine ⟨out, c, ?_, hout, hlim, h0, h1, ?_⟩
    · unfold l_limbs_minus_0
      rw [exec_loop, tidy_one (by simp) (by simp)]
      simp
    · rw [List.drop_of_length_le (Nat.le_refl _), List.drop_of_length_le hxy]
      simp [ev]
  | succ k ih =>
    intro i out c b2 b5 b6 env hi hout hlim h0 h1
    have hix : i < x.length := by omega
    have hxi := hx.get hix
    have hio : i < out.length := by omega
    have hil : (i : Int) < x.length := by omega
    by_cases hiy : i < y.length
    · have hyi := hy.get hiy
      obtain ⟨out', c', he, h2, h3, h4, h5, h6⟩ := ih (i + 1) (out.set i ((x[i] - c - y[i]) % 4294967296).toNat) (((x[i] - c - y[i]) % 18446744073709551616) / 9223372036854775808) .und (.int .i64 i) (.int .u64 ((x[i] - c - y[i]) % 18446744073709551616)) []
        (by omega) (by simpa using hout) (lim_set hlim (by omega)) (by omega) (by omega)
      refine ⟨out', c', ?_, h2, h3, h4, h5, ?_⟩
      · conv => lhs; unfold l_limbs_minus_0
        rw [exec_loop, tidy_one (by simp) (by simp)]
        simp (disch := omega) [hix, hiy, hil, wrap_u64', wrap_u32', wrap_i64, get?_u32s, set_u32s, putElem, putOne]
        exact exec_loop_env.trans he
      · rw [set_plus hio, Nat.pow_succ] at h6
        rw [drop_ev hix, drop_ev hiy]
        refine borrow_step ?_ h6
        show x[i] + 4294967296 * _ = _
        omega
    · obtain ⟨out', c', he, h2, h3, h4, h5, h6⟩ := ih (i + 1) (out.set i ((x[i] - c) % 4294967296).toNat) (((x[i] - c) % 18446744073709551616) / 9223372036854775808) .und (.int .i64 i) (.int .u64 ((x[i] - c) % 18446744073709551616)) []
        (by omega) (by simpa using hout) (lim_set hlim (by omega)) (by omega) (by omega)
      refine ⟨out', c', ?_, h2, h3, h4, h5, ?_⟩
      · conv => lhs; unfold l_limbs_minus_0
        rw [exec_loop, tidy_one (by simp) (by simp)]
        simp (disch := omega) [hix, hiy, hil, wrap_u64', wrap_u32', wrap_i64, get?_u32s, set_u32s, putElem, putOne]
        exact exec_loop_env.trans he
      · have hy1 : y.drop i = [] := List.drop_of_length_le (by omega)
        have hy2 : y.drop (i + 1) = [] := List.drop_of_length_le (by omega)
        rw [set_plus hio, Nat.pow_succ, hy2] at h6
        rw [drop_ev hix, hy1]
        have := borrow_step (yi := 0) (xi := x[i]) (c := c.toNat) (Y := ev []) (by
          show x[i] + 4294967296 * _ = _
          omega) h6
        simpa [ev] using this

theorem pc_minus (nx ny : Bool) (x y : List Nat) (hx : Lim x) (hy : Lim y) (hxy : y.length ≤ x.length) (hle : ev y ≤ ev x) (hlx : x.length < 2^39) :
    pureCall (run F) 88 [.slc nx (u32s x), .slc ny (u32s y)] = some (.slc false (u32s (D (ev x - ev y)))) := by
  obtain ⟨out, c, he, h2, h3, h4, h5, h6⟩ := minus_loop (F := F) nx ny x y hx hy hxy (by omega) x.length 0 (List.replicate x.length 0) 0 (.slc true []) .und .und []
    (by omega) (by simp) (lim_replicate _) (by omega) (by omega)
  have hto : out.take x.length = out := List.take_of_length_le (by omega)
  have hev : ev out = ev x - ev y := by
    have hlt := ev_lt h3
    rw [h2] at hlt
    rw [hto] at h6
    simp [ev] at h6
    rcases (by omega : c = 0 ∨ c = 1) with rfl | rfl
    · simp at h6; omega
    · simp at h6
      have hB : B32 ^ x.length = 4294967296 ^ x.length := rfl
      omega
  have ht := pc_trim (F := F) false out h3 (by omega)
  rw [hev] at ht
  have hl' : exec F l_limbs_minus_0 ⟨[.slc nx (u32s x), .slc ny (u32s y), .slc true [], .mslc 0 0 x.length, .int .u64 0, .und, .und, .int .i64 x.length, .int .i64 0],
    [.int .i64 0, .int .i64 x.length, .slc nx (u32s x)], [some ⟨false, 1, u32s (List.replicate x.length 0)⟩], 0⟩ = _ := (exec_loop_env (F := F)).trans he
  have m2 : (x.length : Int) * 4 ≤ 70368744177664 := by omega
  have m3 : (x.length : Int) ≤ 70368744177664 := by omega
  have m6 : out.take x.length = out := hto
  refine pure_ret h.limbs_minus rfl ?_
  simp (disch := omega) [c_limbs_minus, wrap_i64, u32s_replicate, maxB, m2, m3, hl', any_pure, hand_u32, m6, ht]

theorem cmp_lt {a b p u v : Nat} (ha : a < p) (h : u < v) : a + p * u < b + p * v := by
  have := Nat.mul_le_mul_left p (Nat.succ_le_of_lt h)
  rw [Nat.mul_succ] at this
  omega

theorem cmp_loop (nx ny : Bool) (x y : List Nat) (hx : Lim x) (hy : Lim y) (hxy : x.length = y.length) (hlen : x.length < 2^40) : ∀ (n : Nat), n ≤ x.length → ∀ (r : AVal) (env : List AVal),
    (ev (x.take n) = ev (y.take n) → exec F l_limbs_cmp_0 ⟨[.slc nx (u32s x), .slc ny (u32s y), r, .int .i64 ((n : Int) - 1)], env, [], 0⟩ =
      some (.exit 0, ⟨[.slc nx (u32s x), .slc ny (u32s y), .und, .int .i64 (-1)], [], [], 0⟩)) ∧
    (ev (x.take n) ≠ ev (y.take n) → ∃ j, exec F l_limbs_cmp_0 ⟨[.slc nx (u32s x), .slc ny (u32s y), r, .int .i64 ((n : Int) - 1)], env, [], 0⟩ =
      some (.ret, ⟨[.slc nx (u32s x), .slc ny (u32s y), .int .i64 (if ev (x.take n) < ev (y.take n) then -1 else 1), j], [], [], 0⟩)) := by
  intro n
  induction n with
  | zero =>
    intro _ r env
    refine ⟨fun _ => ?_, fun h => absurd (by simp) h⟩
    unfold l_limbs_cmp_0
    rw [exec_loop, tidy_dry rfl (by simp)]
    simp
  | succ n ih =>
    intro hn r env
    have hnx : n < x.length := hn
    have hny : n < y.length := by omega
    have hlx := ev_lt (lim_take hx n)
    have hly := ev_lt (lim_take hy n)
    rw [List.length_take, Nat.min_eq_left (by omega)] at hlx hly
    rw [ev_take_succ hnx, ev_take_succ hny]
    have hidx : ((n + 1 : Nat) : Int) - 1 = n := by omega
    rw [hidx]
    by_cases h0 : x[n] = y[n]
    · obtain ⟨ih1, ih2⟩ := ih (by omega) .und []
      have step : ∀ env, exec F l_limbs_cmp_0 ⟨[.slc nx (u32s x), .slc ny (u32s y), r, .int .i64 n], env, [], 0⟩ =
          exec F l_limbs_cmp_0 ⟨[.slc nx (u32s x), .slc ny (u32s y), .und, .int .i64 ((n : Int) - 1)], [], [], 0⟩ := by
        intro env
        conv => lhs; unfold l_limbs_cmp_0
        rw [exec_loop, tidy_dry rfl (by simp)]
        simp (disch := omega) [hnx, hny, h0, wrap_i64]
        exact exec_loop_env
      rw [step, h0]
      refine ⟨fun he => ih1 (by omega), fun he => ?_⟩
      obtain ⟨j, hj⟩ := ih2 (by omega)
      refine ⟨j, ?_⟩
      rw [hj]
      simp only [Nat.add_lt_add_iff_right]
    · have hne : ev (x.take n) + B32 ^ n * x[n] ≠ ev (y.take n) + B32 ^ n * y[n] := by
        rcases Nat.lt_or_gt_of_ne h0 with h | h
        · exact Nat.ne_of_lt (cmp_lt hlx h)
        · exact (Nat.ne_of_lt (cmp_lt hly h)).symm
      refine ⟨fun he => absurd he hne, fun _ => ?_⟩
      rcases Nat.lt_or_gt_of_ne h0 with hlt | hgt
      · have h1 := cmp_lt (b := ev (y.take n)) hlx hlt
        rw [if_pos h1]
        refine ⟨.int .i64 n, ?_⟩
        unfold l_limbs_cmp_0
        rw [exec_loop, tidy_dry rfl (by simp)]
        simp (disch := omega) [hnx, hny, show ¬ ((x[n] : Int) = (y[n] : Int)) from by omega, hlt, wrap_i64]
      · have h1 := cmp_lt (b := ev (x.take n)) hly hgt
        rw [if_neg (by omega)]
        refine ⟨.int .i64 n, ?_⟩
        unfold l_limbs_cmp_0
        rw [exec_loop, tidy_dry rfl (by simp)]
        simp (disch := omega) [hnx, hny, show ¬ ((x[n] : Int) = (y[n] : Int)) from by omega, show ¬ x[n] < y[n] from by omega, wrap_i64]

/-- How two numbers stand to each other. -/
def cmpI (a b : Nat) : Int := if a < b then -1 else if a = b then 0 else 1

theorem D_len_lt {a b : Nat} (h : (D a).length < (D b).length) : a < b := by
  rcases Nat.lt_or_ge a b with h' | h'
  · exact h'
  · have := D_len_mono h'; omega

theorem pc_cmp (nx ny : Bool) (a b : Nat) (ha : (D a).length < 2^39) (hb : (D b).length < 2^39) : pureCall (run F) 98 [.slc nx (u32s (D a)), .slc ny (u32s (D b))] = some (.int .i64 (cmpI a b)) := by
  refine pure_ret h.limbs_cmp rfl ?_
  by_cases hl : (D a).length = (D b).length
  · obtain ⟨h1, h2⟩ := cmp_loop (F := F) nx ny (D a) (D b) (lim_D a) (lim_D b) hl (by omega) (D a).length (Nat.le_refl _) (.int .i64 0)
      [.int .i64 (((D a).length : Int) - 1), .int .i64 (((D a).length : Int) - 1), .int .i64 (D a).length, .slc nx (u32s (D a))]
    rw [List.take_length, List.take_of_length_le (by omega), ev_D, ev_D] at h1 h2
    by_cases hab : a = b
    · have hc : cmpI a b = 0 := by unfold cmpI; rw [if_neg (by omega), if_pos hab]
      rw [hc]
      have h1 := h1 hab
      rw [hl] at h1
      simp (disch := omega) [c_limbs_cmp, hl, wrap_i64, h1]
    · obtain ⟨j, h2⟩ := h2 hab
      have hc : cmpI a b = if a < b then -1 else 1 := by unfold cmpI; rw [if_neg hab]
      rw [hc]
      rw [hl] at h2
      simp (disch := omega) [c_limbs_cmp, hl, wrap_i64, h2]
  · have hli : ¬ ((D a).length : Int) = (D b).length := by omega
    rcases Nat.lt_or_gt_of_ne hl with hlt | hgt
    · have hab := D_len_lt hlt
      have hc : cmpI a b = -1 := by unfold cmpI; rw [if_pos hab]
      rw [hc]
      simp (disch := omega) [c_limbs_cmp, hli, hlt, wrap_i64]
    · have hab := D_len_lt hgt
      have hc : cmpI a b = 1 := by unfold cmpI; rw [if_neg (by omega), if_neg (by omega)]
      rw [hc]
      simp (disch := omega) [c_limbs_cmp, hli, show ¬ (D a).length < (D b).length from by omega, wrap_i64]

/-- An integer in its one form. -/
def IV (z : Int) : AVal := .agg [.bool (decide (z < 0)), .slc (decide (z = 0)) (u32s (D z.natAbs))]

/-- The integer of a sign and a magnitude. -/
def sgn (neg : Bool) (a : Nat) : Int := if neg then -(a : Int) else a

theorem sgn_abs (neg : Bool) (a : Nat) : (sgn neg a).natAbs = a := by cases neg <;> simp [sgn]

theorem pc_made (neg nl : Bool) (l : List Nat) (hl : Lim l) (hlen : l.length < 2^39) : pureCall (run F) 89 [.bool neg, .slc nl (u32s l)] = some (IV (sgn neg (ev l))) := by
  refine pure_ret h.limbs_made rfl ?_
  by_cases h0 : ev l = 0
  · have : IV (sgn neg (ev l)) = .agg [.bool false, .slc true []] := by rw [h0]; cases neg <;> simp [IV, sgn, u32s]
    rw [this]
    simp (disch := omega) [c_limbs_made, any_pure, pc_trim nl l hl, h0, fillA, putElem, putAgg]
  · have hle : (D (ev l)).length ≤ l.length := D_len_le (ev_lt hl)
    have m1 : ((D (ev l)).length) * 4 ≤ 70368744177664 := by omega
    have m2 : (D (ev l)).length ≤ 70368744177664 := by omega
    have hi : IV (sgn neg (ev l)) = .agg [.bool neg, .slc false (u32s (D (ev l)))] := by
      cases neg <;> simp [IV, sgn, h0] <;> omega
    rw [hi]
    simp (disch := omega) [c_limbs_made, any_pure, pc_trim nl l hl, h0, fillA, putElem, putAgg, elemsOf, good_u32s, maxB, m1, m2, setAll, tree_two]
end Go.Ash
