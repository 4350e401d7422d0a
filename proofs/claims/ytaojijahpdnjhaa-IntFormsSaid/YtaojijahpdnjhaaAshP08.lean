/- The abstract interpreter of this work and its uses, part 8: AshLimbs11, AshLimbs12, AshKnuth, AshLimbs13, AshRawUse, AshRef1c. -/
import Derived.Test.YtaojijahpdnjhaaAshP07
set_option linter.all false
/- Package limbs: guess, takes, gives; trim of a block. -/
namespace Go.Ash
variable {F : Nat → Option RFunc} [h : CodeLimbs F]

theorem guess_loop (x2 x1 x0 y1 y0 : Nat) (h2 : x2 ≤ y1) (h1 : x1 < 4294967296) (h0 : x0 < 4294967296) (hy1 : 2147483648 ≤ y1) (hy1' : y1 < 4294967296) (hy0 : y0 < 4294967296) (q0 r0 : Nat)
    (hq0 : q0 * y1 + r0 = x2 * 4294967296 + x1) (hr0 : r0 < y1) :
    ∃ e st, (∀ env, exec F l_limbs_guess_0 ⟨[.int .u32 x2, .int .u32 x1, .int .u32 x0, .int .u32 y1, .int .u32 y0, .int .u64 0, .int .u64 ((x2 : Int) * 4294967296 + x1), .int .u64 q0, .int .u64 r0], env, [], 0⟩ = some (e, st)) ∧
      (e = .exit 0 ∧ ∃ (q : Nat) (r l : AVal), st = ⟨[l, .und, .int .u32 x0, .int .u32 y1, .int .u32 y0, .und, .und, .int .u64 q, r], [], [], 0⟩ ∧
        q < 4294967296 ∧ q * (y1 * 4294967296 + y0) ≤ (x2 * 4294967296 + x1) * 4294967296 + x0 ∧
        (∀ t, t < 4294967296 → t * (y1 * 4294967296 + y0) ≤ (x2 * 4294967296 + x1) * 4294967296 + x0 → t ≤ q)) := by
  refine loop_rule
    (fun n st => ∃ (q r : Nat), st = ⟨[.und, .und, .int .u32 x0, .int .u32 y1, .int .u32 y0, .und, .und, .int .u64 q, .int .u64 r], [], [], 0⟩ ∧ n = q ∧ r < 4294967296 ∧
      q * y1 + r = x2 * 4294967296 + x1 ∧ (∀ t, t < 4294967296 → t * (y1 * 4294967296 + y0) ≤ (x2 * 4294967296 + x1) * 4294967296 + x0 → t ≤ q)) _ q0 _ ?_
    (tidy_none (by simp)) ⟨q0, r0, rfl, rfl, by omega, hq0, ?_⟩
  · rintro n st ⟨q, r, rfl, rfl, hr, hqr, hmax⟩
    have hqle : n ≤ 4294967297 := by
      rcases Nat.lt_or_ge n 4294967298 with hh | hh
      · omega
      · have e1 : 4294967298 * y1 ≤ n * y1 := Nat.mul_le_mul_right _ hh
        omega
    have hqy : n * (y1 * 4294967296 + y0) = (n * y1) * 4294967296 + n * y0 := by rw [Nat.mul_add, Nat.mul_assoc]
    have hxe : (x2 * 4294967296 + x1) * 4294967296 + x0 = (n * y1) * 4294967296 + (r * 4294967296 + x0) := by rw [← hqr, Nat.add_mul, Nat.add_assoc]
    have ho := or_u64' hr h0
    by_cases hB : 4294967296 ≤ n
    · -- too great
      have hr' : r + y1 < 8589934592 := by omega
      have hn1 : n - 1 + 1 = n := by omega
      have e5 : n * y1 = (n - 1) * y1 + y1 := by rw [← Nat.succ_mul, Nat.succ_eq_add_one, hn1]
      have hmax' : ∀ t, t < 4294967296 → t * (y1 * 4294967296 + y0) ≤ (x2 * 4294967296 + x1) * 4294967296 + x0 → t ≤ n - 1 := fun t ht _ => by omega
      by_cases hbr : 4294967296 ≤ r + y1
      · have hlt : n - 1 < 4294967296 := by
          rcases Nat.lt_or_ge n 4294967297 with hh | hh
          · omega
          · have e1 : 4294967297 * y1 ≤ n * y1 := Nat.mul_le_mul_right _ hh
            omega
        refine .out (.exit 0) _ (by simp) ⟨rfl, n - 1, .int .u64 (r + y1 : Nat), .und, rfl, hlt, ?_, hmax'⟩ ?_
        · have e2 : (n - 1) * y0 ≤ 4294967295 * 4294967295 := Nat.mul_le_mul (by omega) (by omega)
          rw [Nat.mul_add, ← Nat.mul_assoc]
          omega
        · have hc : ((n - 1 : Nat) : Int) = (n : Int) - 1 := by omega
          simp (disch := first | omega | simp) [after, tidy_none, if_pos, if_neg, decide_eq_true, decide_eq_false, wrap_u64, hc]
      · refine .more (n - 1) _ (by omega) ⟨n - 1, r + y1, rfl, rfl, by omega, by omega, hmax'⟩ ?_
        have hc : ((n - 1 : Nat) : Int) = (n : Int) - 1 := by omega
        simp (disch := first | omega | simp) [after, tidy_none, if_pos, if_neg, decide_eq_true, decide_eq_false, wrap_u64, hc]
    · have hny : n * y0 ≤ 4294967295 * 4294967295 := Nat.mul_le_mul (by omega) (by omega)
      have hwm : IntKind.u64.wrap ((n : Int) * (y0 : Int)) = (n : Int) * (y0 : Int) := by
        rw [← Int.natCast_mul]; exact wrap_u64 (by omega) (by omega)
      by_cases hgt : r * 4294967296 + x0 < n * y0
      · have hn0 : 1 ≤ n := by
          rcases Nat.eq_zero_or_pos n with h | h
          · rw [h] at hgt; simp at hgt
          · exact h
        have hn1 : n - 1 + 1 = n := by omega
        have e5 : n * y1 = (n - 1) * y1 + y1 := by rw [← Nat.succ_mul, Nat.succ_eq_add_one, hn1]
        have hmax' : ∀ t, t < 4294967296 → t * (y1 * 4294967296 + y0) ≤ (x2 * 4294967296 + x1) * 4294967296 + x0 → t ≤ n - 1 := fun t ht htx => by
          have := hmax t ht htx
          rcases Nat.lt_or_ge t n with h | h
          · omega
          · have : t = n := by omega
            subst this
            omega
        have hgt' : ((r : Int) * 4294967296 + (x0 : Int)) < (n : Int) * (y0 : Int) := by rw [← Int.natCast_mul]; omega
        by_cases hbr : 4294967296 ≤ r + y1
        · refine .out (.exit 0) _ (by simp) ⟨rfl, n - 1, .int .u64 (r + y1 : Nat), .und, rfl, by omega, ?_, hmax'⟩ ?_
          · have e2 : (n - 1) * y0 ≤ 4294967295 * 4294967295 := Nat.mul_le_mul (by omega) (by omega)
            rw [Nat.mul_add, ← Nat.mul_assoc]
            omega
          · have hc : ((n - 1 : Nat) : Int) = (n : Int) - 1 := by omega
            simp (disch := first | omega | simp) [after, tidy_none, if_pos, if_neg, decide_eq_true, decide_eq_false, wrap_u64, hwm, ho, hgt', hc]
        · refine .more (n - 1) _ (by omega) ⟨n - 1, r + y1, rfl, rfl, by omega, by omega, hmax'⟩ ?_
          have hc : ((n - 1 : Nat) : Int) = (n : Int) - 1 := by omega
          simp (disch := first | omega | simp) [after, tidy_none, if_pos, if_neg, decide_eq_true, decide_eq_false, wrap_u64, hwm, ho, hgt', hc]
      · have hgt' : ¬ ((r : Int) * 4294967296 + (x0 : Int)) < (n : Int) * (y0 : Int) := by rw [← Int.natCast_mul]; omega
        refine .out (.exit 0) _ (by simp) ⟨rfl, n, .int .u64 r, .und, rfl, by omega, by omega, hmax⟩ ?_
        simp (disch := first | omega | simp) [after, tidy_none, if_pos, if_neg, decide_eq_true, decide_eq_false, wrap_u64, hwm, ho, hgt']
  · intro t ht htx
    rcases Nat.lt_or_ge q0 t with hh | hh
    · have e1 : (q0 + 1) * y1 ≤ t * y1 := Nat.mul_le_mul_right _ hh
      rw [Nat.succ_mul] at e1
      rw [Nat.mul_add, ← Nat.mul_assoc] at htx
      have e2 : x2 * 4294967296 + x1 + 1 ≤ t * y1 := by clear htx ht; omega
      have e3 := Nat.mul_le_mul_right 4294967296 e2
      omega
    · exact hh

theorem pc_guess (x2 x1 x0 y1 y0 : Nat) (h2 : x2 ≤ y1) (h1 : x1 < 4294967296) (h0 : x0 < 4294967296) (hy1 : 2147483648 ≤ y1) (hy1' : y1 < 4294967296) (hy0 : y0 < 4294967296) :
    ∃ q : Nat, pureCall (run F) 110 [.int .u32 x2, .int .u32 x1, .int .u32 x0, .int .u32 y1, .int .u32 y0] = some (.int .u64 q) ∧
      q < 4294967296 ∧ q * (y1 * 4294967296 + y0) ≤ (x2 * 4294967296 + x1) * 4294967296 + x0 ∧
        (∀ t, t < 4294967296 → t * (y1 * 4294967296 + y0) ≤ (x2 * 4294967296 + x1) * 4294967296 + x0 → t ≤ q) := by
  have hdm := Nat.div_add_mod (x2 * 4294967296 + x1) y1
  have hml := Nat.mod_lt (x2 * 4294967296 + x1) (show y1 > 0 by omega)
  obtain ⟨e, st, he, rfl, q, r, l, rfl, g1, g2, g3⟩ := guess_loop (F := F) x2 x1 x0 y1 y0 h2 h1 h0 hy1 hy1' hy0 _ _ (by rw [Nat.mul_comm]; exact hdm) hml
  refine ⟨q, ?_, g1, g2, g3⟩
  have ho := or_u64' (r := x2) (b := x1) (by omega) h1
  have htd := tdiv_nat (x2 * 4294967296 + x1) y1
  have htm := tmod_nat (x2 * 4294967296 + x1) y1
  have hM : x2 * 4294967296 + x1 < 18446744073709551616 := by omega
  have hle : (x2 * 4294967296 + x1) / y1 ≤ x2 * 4294967296 + x1 := Nat.div_le_self _ _
  have hcast : (x2 : Int) * 4294967296 + (x1 : Int) = ((x2 * 4294967296 + x1 : Nat) : Int) := by omega
  rw [hcast] at he
  obtain ⟨M, hMM⟩ : ∃ M, x2 * 4294967296 + x1 = M := ⟨_, rfl⟩
  simp only [hMM] at he ho htd htm hM hle hml hdm
  generalize M / y1 = Q at *
  generalize M % y1 = R at *
  refine pure_ret h.limbs_guess rfl ?_
  simp (disch := first | omega | simp) [c_limbs_guess, if_pos, if_neg, wrap_u64, ho, htd, htm, he]

/-! ### Parts of blocks -/

theorem get_mid (A P Z : List Nat) (i : Nat) (hi : i < P.length) : (u32s (A ++ (P ++ Z)))[A.length + i]? = some (.int .u32 ((P[i] : Nat) : Int)) := by
  rw [get?_u32s _ _ (by simp; omega), List.getElem_append_right (by omega)]
  simp only [Nat.add_sub_cancel_left]
  rw [List.getElem_append_left hi]
theorem get_fst (Y W : List Nat) (i : Nat) (hi : i < Y.length) : (u32s (Y ++ W))[i]? = some (.int .u32 ((Y[i] : Nat) : Int)) := by
  rw [get?_u32s _ _ (by simp; omega), List.getElem_append_left hi]
theorem set_mid (A P Z : List Nat) (i v : Nat) (hi : i < P.length) : (u32s (A ++ (P ++ Z))).set (A.length + i) (.int .u32 (v : Int)) = u32s (A ++ (P.set i v ++ Z)) := by
  rw [u32s_set, List.set_append_right _ _ (by omega), Nat.add_sub_cancel_left, List.set_append_left _ _ hi]

theorem tidy_pin2 {live : List Bool} {vars env : List AVal} {b0 b1 : Blk} (hv : idsL (mask live vars) = [0, 1]) (h0 : idsL b0.elems = []) (h1 : idsL b1.elems = []) :
    tidy live ⟨vars, env, [some b0, some b1], 2⟩ = some ⟨mask live vars, [], [some b0, some b1], 2⟩ := by
  refine tidy_keep ?_ ?_
  · simp [hv, reach, fuelIds, Heap.at, h0, h1, List.range_succ]
  · intro x hx k hk y hy
    simp at hx
    rcases hx with rfl | rfl <;> cases hk
    · rw [h0] at hy; cases hy
    · rw [h1] at hy; cases hy

theorem ev_take_get {l : List Nat} {i : Nat} : ev (l.take (i + 1)) = ev (l.take i) + B32 ^ i * l.getD i 0 := by
  rcases Nat.lt_or_ge i l.length with h | h
  · rw [ev_take_succ h]; simp [List.getD, h]
  · rw [List.take_of_length_le (by omega), List.take_of_length_le (by omega)]; simp [List.getD, h]

theorem wrap_sub2 {a b c : Nat} (ha : a < 4294967296) (hb : b < 4294967296) (hc : c ≤ 1) : ∃ v w : Nat, IntKind.u64.wrap (IntKind.u64.wrap ((a : Int) - b) - c) = ((v : Nat) : Int) ∧ v < 18446744073709551616 ∧ v / 9223372036854775808 = w ∧
    v % 4294967296 < 4294967296 ∧ w ≤ 1 ∧ a + 4294967296 * w = v % 4294967296 + b + c := by
  refine ⟨(((a : Int) - b - c) % 18446744073709551616).toNat, (((a : Int) - b - c) % 18446744073709551616).toNat / 9223372036854775808, ?_, by omega, rfl, by omega, by omega, by omega⟩
  rw [wrap_u64', wrap_u64']
  omega

theorem takes_loop (A P0 Z Y W : List Nat) (q : Nat) (fz : Bool) (hP : Lim P0) (hY : Lim Y) (hq : q < 4294967296) (hl : P0.length < 2^40) (hPY : P0.length = Y.length + 1) :
    ∃ e st, (∀ env, exec F l_limbs_takes_0 ⟨[.mslc 0 A.length P0.length, .mslc 1 0 Y.length, .int .u64 q, .bool false, .int .u64 0, .int .u64 0, .und, .und, .int .i64 P0.length, .int .i64 0], env,
        [some ⟨false, 1, u32s (A ++ (P0 ++ Z))⟩, some ⟨fz, 1, u32s (Y ++ W)⟩], 2⟩ = some (e, st)) ∧
      (e = .exit 0 ∧ ∃ (P : List Nat) (c b : Nat), st = ⟨[.mslc 0 A.length P0.length, .mslc 1 0 Y.length, .int .u64 q, .und, .int .u64 c, .int .u64 b, .und, .und, .int .i64 P0.length, .int .i64 P0.length], [],
        [some ⟨false, 1, u32s (A ++ (P ++ Z))⟩, some ⟨fz, 1, u32s (Y ++ W)⟩], 2⟩ ∧ P.length = P0.length ∧ Lim P ∧ b ≤ 1 ∧ ev P0 + B32 ^ P0.length * b = ev P + q * ev Y) := by
  refine loop_rule
    (fun n st => ∃ (P : List Nat) (c b i : Nat), st = ⟨[.mslc 0 A.length P0.length, .mslc 1 0 Y.length, .int .u64 q, .und, .int .u64 c, .int .u64 b, .und, .und, .int .i64 P0.length, .int .i64 i], [],
        [some ⟨false, 1, u32s (A ++ (P ++ Z))⟩, some ⟨fz, 1, u32s (Y ++ W)⟩], 2⟩ ∧ i + n = P0.length ∧ P.length = P0.length ∧ Lim P ∧ b ≤ 1 ∧ c < 4294967296 ∧ (Y.length < i → c = 0) ∧ (∀ k (h1 : k < P.length) (h2 : k < P0.length), i ≤ k → P[k] = P0[k]) ∧
        ev (P0.take i) + B32 ^ i * (b + c) = ev (P.take i) + q * ev (Y.take i)) _ P0.length _ ?_
    (tidy_pin2 (by simp) (by simp) (by simp)) ⟨P0, 0, 0, 0, rfl, by omega, rfl, hP, by omega, by omega, fun _ => rfl, fun _ _ _ _ => rfl, by simp [ev]⟩
  rintro n st ⟨P, c, b, i, rfl, hn, hlen, hlim, hb, hc, hcz, hrest, hev⟩
  rcases Nat.eq_zero_or_pos n with rfl | hpos
  · have hi : i = P0.length := by omega
    subst hi
    refine .out (.exit 0) _ (by simp) ⟨rfl, P, c, b, rfl, hlen, hlim, hb, ?_⟩ ?_
    · have := hcz (by omega)
      subst this
      rw [List.take_length, List.take_of_length_le (by omega), List.take_of_length_le (by omega)] at hev
      exact hev
    · simp [after]
  · have hi0 : i < P0.length := by omega
    have hiP : i < P.length := by omega
    have hPi := hlim.get hiP
    have hPe := hrest i hiP hi0 (Nat.le_refl _)
    have e0 := ev_take_succ hi0
    rw [← hPe] at e0
    by_cases hiY : i < Y.length
    · have hYi := hY.get hiY
      have hqY : q * Y[i] ≤ 4294967295 * 4294967295 := Nat.mul_le_mul (by omega) (by omega)
      have hwm : IntKind.u64.wrap ((q : Int) * (Y[i] : Int)) = ((q * Y[i] : Nat) : Int) := by
        rw [← Int.natCast_mul]; exact wrap_u64 (by omega) (by omega)
      have hwa : IntKind.u64.wrap ((c : Int) + ((q * Y[i] : Nat) : Int)) = ((c + q * Y[i] : Nat) : Int) := by
        rw [← Int.natCast_add]; exact wrap_u64 (by omega) (by omega)
      have hlo := wrap_u32n (c + q * Y[i])
      have hlo64 : IntKind.u64.wrap (((c + q * Y[i]) % 4294967296 : Nat) : Int) = (((c + q * Y[i]) % 4294967296 : Nat) : Int) := wrap_u64 (by omega) (by omega)
      obtain ⟨v, w, hv, hv1, hv2, hv3, hw, hrel⟩ := wrap_sub2 (a := P[i]) (b := (c + q * Y[i]) % 4294967296) (c := b) hPi (Nat.mod_lt _ (by decide)) hb
      have hsv := wrap_u32n v
      have s1 := shr_u64_63 (l := v)
      have s2 := shr_u64_32 (l := c + q * Y[i])
      rw [hv2] at s1
      refine .more (n - 1) _ (by omega) ⟨P.set i (v % 4294967296), (c + q * Y[i]) / 4294967296, w, i + 1, rfl, by omega, by simpa using hlen, lim_set hlim hv3, hw, by omega, fun h => by omega, ?_, ?_⟩ ?_
      · intro k h1 h2 hk
        rw [List.getElem_set_ne (by omega)]
        exact hrest k (by simpa using h1) h2 (by omega)
      · rw [e0, set_plus hiP, ev_take_succ hiY, Nat.pow_succ]
        have hdm := Nat.div_add_mod (c + q * Y[i]) 4294967296
        generalize hMM : c + q * Y[i] = M at *
        have e4 : P[i] + 4294967296 * (w + M / 4294967296) = v % 4294967296 + b + c + q * Y[i] := by omega
        have e5 : B32 ^ i * (P[i] + 4294967296 * (w + M / 4294967296)) = B32 ^ i * (v % 4294967296 + b + c + q * Y[i]) := by rw [e4]
        have e6 : q * (ev (Y.take i) + B32 ^ i * Y[i]) = q * ev (Y.take i) + B32 ^ i * (q * Y[i]) := by rw [Nat.mul_add, Nat.mul_left_comm]
        rw [e6, Nat.mul_assoc]
        simp only [Nat.mul_add] at e5 hev ⊢
        have e7 : B32 ^ i * (B32 * w) = B32 ^ i * (4294967296 * w) := rfl
        have e8 : B32 ^ i * (B32 * (M / 4294967296)) = B32 ^ i * (4294967296 * (M / 4294967296)) := rfl
        omega
      · generalize c + q * Y[i] = M at *
        generalize q * Y[i] = M2 at *
        generalize hm1 : M % 4294967296 = m at *
        generalize hm2 : M / 4294967296 = m2 at *
        generalize hm3 : v % 4294967296 = v2 at *
        simp (disch := first | omega | simp) [after, tidy_pin2, get_mid, get_fst, set_mid, if_pos, if_neg, decide_eq_true, putElem, putOne, wrap_i64, wrap_u64, hwm, hwa, hlo, hlo64, hv, hsv, s1, s2, -shiftA_shl, -shiftA_shr]
    · have hYt : Y.take (i + 1) = Y.take i := by rw [List.take_of_length_le (by omega), List.take_of_length_le (by omega)]
      have hlo := wrap_u32n c
      rw [Nat.mod_eq_of_lt hc] at hlo
      obtain ⟨v, w, hv, hv1, hv2, hv3, hw, hrel⟩ := wrap_sub2 (a := P[i]) (b := c) (c := b) hPi hc hb
      have hsv := wrap_u32n v
      have s1 := shr_u64_63 (l := v)
      have s2 := shr_u64_32 (l := c)
      rw [Nat.div_eq_of_lt hc] at s2
      rw [hv2] at s1
      refine .more (n - 1) _ (by omega) ⟨P.set i (v % 4294967296), 0, w, i + 1, rfl, by omega, by simpa using hlen, lim_set hlim hv3, hw, by omega, fun _ => rfl, ?_, ?_⟩ ?_
      · intro k h1 h2 hk
        rw [List.getElem_set_ne (by omega)]
        exact hrest k (by simpa using h1) h2 (by omega)
      · rw [e0, set_plus hiP, hYt, Nat.pow_succ]
        have e5 : B32 ^ i * (P[i] + 4294967296 * w) = B32 ^ i * (v % 4294967296 + c + b) := by rw [hrel]
        rw [Nat.mul_assoc]
        simp only [Nat.mul_add] at e5 hev ⊢
        have e7 : B32 ^ i * (B32 * w) = B32 ^ i * (4294967296 * w) := rfl
        omega
      · generalize hm3 : v % 4294967296 = v2 at *
        simp (disch := first | omega | simp) [after, tidy_pin2, get_mid, get_fst, set_mid, if_pos, if_neg, decide_eq_true, decide_eq_false, putElem, putOne, wrap_i64, wrap_u64, hlo, hv, hsv, s1, s2, -shiftA_shl, -shiftA_shr]
end Go.Ash
/- Package limbs: takes, gives, trim of blocks: what their calls leave. -/
namespace Go.Ash
variable {F : Nat → Option RFunc} [h : CodeLimbs F]

theorem leave_pin1 {fn : RFunc} {vars env : List AVal} {b0 : Option Blk} : fn.leave ⟨vars, env, [b0], 1⟩ = (resL ⟨vars, env, [b0], 1⟩ fn.res).map fun vs => (tupled vs, [b0]) := by
  unfold RFunc.leave
  cases resL ⟨vars, env, [b0], 1⟩ fn.res <;> rfl
theorem leave_pin2 {fn : RFunc} {vars env : List AVal} {b0 b1 : Option Blk} : fn.leave ⟨vars, env, [b0, b1], 2⟩ = (resL ⟨vars, env, [b0, b1], 2⟩ fn.res).map fun vs => (tupled vs, [b0, b1]) := by
  unfold RFunc.leave
  cases resL ⟨vars, env, [b0, b1], 2⟩ fn.res <;> rfl

theorem run_takes (A P0 Z Y W : List Nat) (q : Nat) (fz : Bool) (hP : Lim P0) (hY : Lim Y) (hq : q < 4294967296) (hl : P0.length < 2^40) (hPY : P0.length = Y.length + 1) :
    ∃ P b, run F 111 [.mslc 0 A.length P0.length, .mslc 1 0 Y.length, .int .u64 q] [some ⟨false, 1, u32s (A ++ (P0 ++ Z))⟩, some ⟨fz, 1, u32s (Y ++ W)⟩] =
      some (.bool (decide (0 < b)), [some ⟨false, 1, u32s (A ++ (P ++ Z))⟩, some ⟨fz, 1, u32s (Y ++ W)⟩]) ∧ P.length = P0.length ∧ Lim P ∧ b ≤ 1 ∧ ev P0 + B32 ^ P0.length * b = ev P + q * ev Y := by
  obtain ⟨e, st, he, rfl, P, c, b, rfl, h1, h2, h3, h4⟩ := takes_loop (F := F) A P0 Z Y W q fz hP hY hq hl hPY
  refine ⟨P, b, ?_, h1, h2, h3, h4⟩
  rw [run_eq h.limbs_takes rfl]
  simp (disch := omega) [c_limbs_takes, he, leave_pin2]

theorem gives_loop (A P0 Z Y W : List Nat) (fz : Bool) (hP : Lim P0) (hY : Lim Y) (hl : P0.length < 2^40) (hPY : P0.length = Y.length + 1) :
    ∃ e st, (∀ env, exec F l_limbs_gives_0 ⟨[.mslc 0 A.length P0.length, .mslc 1 0 Y.length, .int .u64 0, .und, .int .i64 P0.length, .int .i64 0], env,
        [some ⟨false, 1, u32s (A ++ (P0 ++ Z))⟩, some ⟨fz, 1, u32s (Y ++ W)⟩], 2⟩ = some (e, st)) ∧
      (e = .exit 0 ∧ ∃ (P : List Nat) (c : Nat), st = ⟨[.mslc 0 A.length P0.length, .mslc 1 0 Y.length, .int .u64 c, .und, .int .i64 P0.length, .int .i64 P0.length], [],
        [some ⟨false, 1, u32s (A ++ (P ++ Z))⟩, some ⟨fz, 1, u32s (Y ++ W)⟩], 2⟩ ∧ P.length = P0.length ∧ Lim P ∧ c ≤ 1 ∧ ev P0 + ev Y = ev P + B32 ^ P0.length * c) := by
  refine loop_rule
    (fun n st => ∃ (P : List Nat) (c i : Nat), st = ⟨[.mslc 0 A.length P0.length, .mslc 1 0 Y.length, .int .u64 c, .und, .int .i64 P0.length, .int .i64 i], [],
        [some ⟨false, 1, u32s (A ++ (P ++ Z))⟩, some ⟨fz, 1, u32s (Y ++ W)⟩], 2⟩ ∧ i + n = P0.length ∧ P.length = P0.length ∧ Lim P ∧ c ≤ 1 ∧ (∀ k (h1 : k < P.length) (h2 : k < P0.length), i ≤ k → P[k] = P0[k]) ∧
        ev (P0.take i) + ev (Y.take i) = ev (P.take i) + B32 ^ i * c) _ P0.length _ ?_
    (tidy_pin2 (by simp) (by simp) (by simp)) ⟨P0, 0, 0, rfl, by omega, rfl, hP, by omega, fun _ _ _ _ => rfl, by simp [ev]⟩
  rintro n st ⟨P, c, i, rfl, hn, hlen, hlim, hc, hrest, hev⟩
  rcases Nat.eq_zero_or_pos n with rfl | hpos
  · have hi : i = P0.length := by omega
    subst hi
    refine .out (.exit 0) _ (by simp) ⟨rfl, P, c, rfl, hlen, hlim, hc, ?_⟩ ?_
    · rw [List.take_length, List.take_of_length_le (by omega), List.take_of_length_le (by omega)] at hev
      exact hev
    · simp [after]
  · have hi0 : i < P0.length := by omega
    have hiP : i < P.length := by omega
    have hPi := hlim.get hiP
    have hPe := hrest i hiP hi0 (Nat.le_refl _)
    have e0 := ev_take_succ hi0
    rw [← hPe] at e0
    by_cases hiY : i < Y.length
    · have hYi := hY.get hiY
      have hlo := wrap_u32n (c + P[i] + Y[i])
      have s2 := shr_u64_32 (l := c + P[i] + Y[i])
      refine .more (n - 1) _ (by omega) ⟨P.set i ((c + P[i] + Y[i]) % 4294967296), (c + P[i] + Y[i]) / 4294967296, i + 1, rfl, by omega, by simpa using hlen, lim_set hlim (Nat.mod_lt _ (by decide)), by omega, ?_, ?_⟩ ?_
      · intro k h1 h2 hk
        rw [List.getElem_set_ne (by omega)]
        exact hrest k (by simpa using h1) h2 (by omega)
      · rw [e0, set_plus hiP, ev_take_succ hiY, Nat.pow_succ]
        have hdm := Nat.div_add_mod (c + P[i] + Y[i]) 4294967296
        generalize hMM : c + P[i] + Y[i] = M at *
        have e5 : B32 ^ i * (P[i] + c + Y[i]) = B32 ^ i * (M % 4294967296 + 4294967296 * (M / 4294967296)) := by congr 1; omega
        rw [Nat.mul_assoc]
        simp only [Nat.mul_add] at e5 hev ⊢
        have e8 : B32 ^ i * (B32 * (M / 4294967296)) = B32 ^ i * (4294967296 * (M / 4294967296)) := rfl
        omega
      · have hw1 : IntKind.u64.wrap ((c : Int) + (P[i] : Int)) = ((c + P[i] : Nat) : Int) := by rw [← Int.natCast_add]; exact wrap_u64 (by omega) (by omega)
        have hw2 : IntKind.u64.wrap (((c + P[i] : Nat) : Int) + (Y[i] : Int)) = ((c + P[i] + Y[i] : Nat) : Int) := by rw [← Int.natCast_add]; exact wrap_u64 (by omega) (by omega)
        generalize c + P[i] + Y[i] = M at *
        generalize c + P[i] = M2 at *
        generalize hm1 : M % 4294967296 = m at *
        generalize hm2 : M / 4294967296 = m2 at *
        simp (disch := first | omega | simp) [after, tidy_pin2, get_mid, get_fst, set_mid, if_pos, if_neg, decide_eq_true, putElem, putOne, wrap_i64, wrap_u64, hw1, hw2, hlo, s2, -shiftA_shl, -shiftA_shr]
    · have hYt : Y.take (i + 1) = Y.take i := by rw [List.take_of_length_le (by omega), List.take_of_length_le (by omega)]
      have hlo := wrap_u32n (c + P[i])
      have s2 := shr_u64_32 (l := c + P[i])
      refine .more (n - 1) _ (by omega) ⟨P.set i ((c + P[i]) % 4294967296), (c + P[i]) / 4294967296, i + 1, rfl, by omega, by simpa using hlen, lim_set hlim (Nat.mod_lt _ (by decide)), by omega, ?_, ?_⟩ ?_
      · intro k h1 h2 hk
        rw [List.getElem_set_ne (by omega)]
        exact hrest k (by simpa using h1) h2 (by omega)
      · rw [e0, set_plus hiP, hYt, Nat.pow_succ]
        generalize hMM : c + P[i] = M at *
        have hdm := Nat.div_add_mod M 4294967296
        have e5 : B32 ^ i * (P[i] + c) = B32 ^ i * (M % 4294967296 + 4294967296 * (M / 4294967296)) := by congr 1; omega
        rw [Nat.mul_assoc]
        simp only [Nat.mul_add] at e5 hev ⊢
        have e8 : B32 ^ i * (B32 * (M / 4294967296)) = B32 ^ i * (4294967296 * (M / 4294967296)) := rfl
        omega
      · have hw1 : IntKind.u64.wrap ((c : Int) + (P[i] : Int)) = ((c + P[i] : Nat) : Int) := by rw [← Int.natCast_add]; exact wrap_u64 (by omega) (by omega)
        generalize c + P[i] = M at *
        generalize hm1 : M % 4294967296 = m at *
        generalize hm2 : M / 4294967296 = m2 at *
        simp (disch := first | omega | simp) [after, tidy_pin2, get_mid, get_fst, set_mid, if_pos, if_neg, decide_eq_true, decide_eq_false, putElem, putOne, wrap_i64, wrap_u64, hw1, hlo, s2, -shiftA_shl, -shiftA_shr]

theorem run_gives (A P0 Z Y W : List Nat) (fz : Bool) (hP : Lim P0) (hY : Lim Y) (hl : P0.length < 2^40) (hPY : P0.length = Y.length + 1) :
    ∃ P c, run F 112 [.mslc 0 A.length P0.length, .mslc 1 0 Y.length] [some ⟨false, 1, u32s (A ++ (P0 ++ Z))⟩, some ⟨fz, 1, u32s (Y ++ W)⟩] =
      some (.tup [], [some ⟨false, 1, u32s (A ++ (P ++ Z))⟩, some ⟨fz, 1, u32s (Y ++ W)⟩]) ∧ P.length = P0.length ∧ Lim P ∧ c ≤ 1 ∧ ev P0 + ev Y = ev P + B32 ^ P0.length * c := by
  obtain ⟨e, st, he, rfl, P, c, rfl, h1, h2, h3, h4⟩ := gives_loop (F := F) A P0 Z Y W fz hP hY hl hPY
  refine ⟨P, c, ?_, h1, h2, h3, h4⟩
  rw [run_eq h.limbs_gives rfl]
  simp (disch := omega) [c_limbs_gives, he, leave_pin2]

theorem tidy_pin1 {live : List Bool} {vars env : List AVal} {b0 : Blk} (hv : idsL (mask live vars) = [0]) (h0 : idsL b0.elems = []) :
    tidy live ⟨vars, env, [some b0], 1⟩ = some ⟨mask live vars, [], [some b0], 1⟩ := by
  refine tidy_keep ?_ ?_
  · simp [hv, reach, fuelIds, Heap.at, h0, List.range_succ]
  · intro x hx k hk y hy
    simp at hx
    subst hx; cases hk
    rw [h0] at hy; cases hy

/-- trim, of a block. -/
theorem trim_loop_m (l : List Nat) (fz : Bool) (hl : Lim l) (hlen : l.length < 2^40) : ∃ e st, (∀ env,
    exec F l_limbs_trim_0 ⟨[.mslc 0 0 l.length, .slc true [], .int .i64 l.length], env, [some ⟨fz, 1, u32s l⟩], 1⟩ = some (e, st)) ∧
      (e = .exit 0 ∧ st = ⟨[.mslc 0 0 l.length, .und, .int .i64 (D (ev l)).length], [], [some ⟨fz, 1, u32s l⟩], 1⟩) := by
  refine loop_rule
    (fun n st => st = ⟨[.mslc 0 0 l.length, .und, .int .i64 n], [], [some ⟨fz, 1, u32s l⟩], 1⟩ ∧ n ≤ l.length ∧ ev (l.take n) = ev l) _ l.length _ ?_
    (tidy_pin1 (by simp) (by simp)) ⟨rfl, Nat.le_refl _, by simp⟩
  rintro n st ⟨rfl, hn, hev⟩
  rcases Nat.eq_zero_or_pos n with rfl | hpos
  · refine .out (.exit 0) _ (by simp) ⟨rfl, rfl⟩ ?_
    rw [← hev]
    simp [after, ev, D_zero]
  · obtain ⟨n, rfl⟩ : ∃ k, n = k + 1 := ⟨n - 1, by omega⟩
    have hnl : n < l.length := hn
    by_cases h0 : l[n] = 0
    · refine .more n _ (by omega) ⟨rfl, by omega, ?_⟩ ?_
      · rw [← hev, ev_take_succ hnl, h0]; simp
      · simp (disch := first | omega | simp) [after, tidy_pin1, if_pos, if_neg, decide_eq_true, wrap_i64, get?_u32s, h0]
    · have ht : D (ev l) = l.take (n + 1) := by
        rw [← hev]
        refine D_ev (lim_take hl _) (fun hne => ?_)
        rw [List.getLast_eq_getElem]
        simp only [List.length_take, Nat.min_eq_left hn, Nat.add_sub_cancel, List.getElem_take]
        exact h0
      have hlen' : (D (ev l)).length = n + 1 := by rw [ht]; simp; omega
      refine .out (.exit 0) _ (by simp) ⟨rfl, rfl⟩ ?_
      rw [hlen']
      simp (disch := first | omega | simp) [after, if_pos, if_neg, decide_eq_true, wrap_i64, get?_u32s, h0]

theorem run_trim (l : List Nat) (fz : Bool) (hl : Lim l) (hlen : l.length < 2^40) : run F 107 [.mslc 0 0 l.length] [some ⟨fz, 1, u32s l⟩] = some (.mslc 0 0 (D (ev l)).length, [some ⟨fz, 1, u32s l⟩]) := by
  obtain ⟨e, st, he, rfl, rfl⟩ := trim_loop_m (F := F) l fz hl hlen
  have hle : (D (ev l)).length ≤ l.length := D_len_le (ev_lt hl)
  rw [run_eq h.limbs_trim rfl]
  simp (disch := omega) [c_limbs_trim, he, if_pos, leave_pin1]
end Go.Ash
/- Long division of limbs, limb by limb: plain arithmetic. -/
namespace Go.Ash

theorem knuth_arith {B p x y X Y g lx ly : Nat} (hX : X = lx + p * x) (hlx : lx < p) (hY : Y = ly + p * y) (hly : ly < p) (hyB : B ≤ y) (hB : 0 < B) (hg : g < B) (hgx : g * y ≤ x)
    (hmax : ∀ t, t < B → t * y ≤ x → t ≤ g) (hlt : X < B * Y) : X / Y ≤ g ∧ g ≤ X / Y + 1 := by
  have hp : 0 < p := by omega
  have hYp : B * p ≤ Y := by
    have : p * B ≤ p * y := Nat.mul_le_mul_left _ hyB
    rw [Nat.mul_comm B]; omega
  have hYpos : 0 < Y := Nat.lt_of_lt_of_le (Nat.mul_pos hB hp) hYp
  have h1 : X / Y < B := (Nat.div_lt_iff_lt_mul hYpos).2 hlt
  have h2 : X / Y * Y ≤ X := Nat.div_mul_le_self X Y
  have h3 : X < (X / Y + 1) * Y := by
    have := Nat.div_add_mod X Y
    have := Nat.mod_lt X hYpos
    rw [Nat.succ_mul, Nat.mul_comm]; omega
  generalize X / Y = q at *
  constructor
  · refine hmax q h1 ?_
    have h4 : p * (q * y) ≤ q * Y := by
      rw [hY, Nat.mul_add, Nat.mul_left_comm p]; omega
    have h5 : p * (q * y) < p * (x + 1) := by rw [Nat.mul_succ]; omega
    have := Nat.lt_of_mul_lt_mul_left h5
    omega
  · apply Nat.le_of_not_lt
    intro h
    have h4 : (q + 1) * Y + Y ≤ g * Y := by rw [← Nat.succ_mul]; exact Nat.mul_le_mul_right _ h
    have h5 : g * Y = g * ly + p * (g * y) := by rw [hY, Nat.mul_add, Nat.mul_left_comm p]
    have h6 : p * (g * y) ≤ p * x := Nat.mul_le_mul_left _ hgx
    have h7 : g * ly ≤ B * p := Nat.mul_le_mul (by omega) (by omega)
    omega

theorem ev_split2 {l : List Nat} {n : Nat} (hn : n + 2 = l.length) : ev l = ev (l.take n) + B32 ^ n * (l[n + 1]'(by omega) * B32 + l[n]'(by omega)) := by
  have h1 := ev_take_succ (l := l) (i := n) (by omega)
  have h2 := ev_take_succ (l := l) (i := n + 1) (by omega)
  rw [List.take_of_length_le (by omega)] at h2
  rw [h2, h1, Nat.pow_succ, Nat.mul_add, Nat.mul_assoc, Nat.mul_comm B32 (l[n + 1]'(by omega))]
  omega

theorem ev_split3 {l : List Nat} {n : Nat} (hn : n + 3 = l.length) : ev l = ev (l.take n) + B32 ^ n * ((l[n + 2]'(by omega) * B32 + l[n + 1]'(by omega)) * B32 + l[n]'(by omega)) := by
  have h1 := ev_take_succ (l := l) (i := n) (by omega)
  have h2 := ev_take_succ (l := l) (i := n + 1) (by omega)
  have h3 := ev_take_succ (l := l) (i := n + 2) (by omega)
  rw [List.take_of_length_le (by omega)] at h3
  have e1 : B32 ^ (n + 1) = B32 ^ n * B32 := by rw [Nat.pow_succ]
  have e2 : B32 ^ (n + 2) = B32 ^ n * B32 * B32 := by rw [Nat.pow_succ, Nat.pow_succ]
  have a1 : B32 ^ (n + 1) * l[n + 1]'(by omega) = B32 ^ n * (l[n + 1]'(by omega) * B32) := by rw [e1, Nat.mul_assoc, Nat.mul_comm B32]
  have a2 : B32 ^ (n + 2) * l[n + 2]'(by omega) = B32 ^ n * (l[n + 2]'(by omega) * B32 * B32) := by
    rw [e2, Nat.mul_assoc, Nat.mul_assoc, Nat.mul_comm B32 (B32 * _), Nat.mul_comm B32 (l[n + 2]'(by omega))]
  rw [h3, h2, h1, a1, a2, Nat.add_mul, Nat.mul_add, Nat.mul_add]
  omega

/-- One limb of a quotient. -/
theorem knuth {P Y : List Nat} {n : Nat} (hP : Lim P) (hY : Lim Y) (hn : n + 2 = Y.length) (hl : P.length = Y.length + 1) (hlt : ev P < B32 * ev Y) (hy : 2147483648 ≤ Y[n + 1]'(by omega)) :
    P[n + 2]'(by omega) ≤ Y[n + 1]'(by omega) ∧ ∀ g, g < B32 → g * (Y[n + 1]'(by omega) * B32 + Y[n]'(by omega)) ≤ (P[n + 2]'(by omega) * B32 + P[n + 1]'(by omega)) * B32 + P[n]'(by omega) →
      (∀ t, t < B32 → t * (Y[n + 1]'(by omega) * B32 + Y[n]'(by omega)) ≤ (P[n + 2]'(by omega) * B32 + P[n + 1]'(by omega)) * B32 + P[n]'(by omega) → t ≤ g) → ev P / ev Y ≤ g ∧ g ≤ ev P / ev Y + 1 := by
  have e1 := ev_split2 hn
  have e2 := ev_split3 (l := P) (n := n) (by omega)
  have l1 := ev_lt (lim_take hY n)
  have l2 := ev_lt (lim_take hP n)
  rw [List.length_take, Nat.min_eq_left (by omega)] at l1 l2
  have y0 := hY.get (i := n) (by omega)
  have x1 := hP.get (i := n + 1) (by omega)
  have x0 := hP.get (i := n) (by omega)
  refine ⟨?_, fun g hg hgx hmax => knuth_arith e2 l2 e1 l1 (by show 4294967296 ≤ _ * 4294967296 + _; omega) (by decide) hg hgx hmax hlt⟩
  apply Nat.le_of_not_lt
  intro h
  have h1 : ev Y < B32 ^ n * (B32 * (Y[n + 1]'(by omega) + 1)) := by
    have h2 : Y[n + 1]'(by omega) * B32 + Y[n]'(by omega) + 1 ≤ B32 * (Y[n + 1]'(by omega) + 1) := by
      show _ * 4294967296 + _ + 1 ≤ 4294967296 * _
      omega
    have h3 := Nat.mul_le_mul_left (B32 ^ n) h2
    rw [Nat.mul_succ] at h3
    omega
  have h4 : B32 * ev Y ≤ B32 ^ n * (B32 * (Y[n + 1]'(by omega) + 1)) * B32 := by
    rw [Nat.mul_comm]; exact Nat.mul_le_mul_right _ (Nat.le_of_lt h1)
  have h5 : B32 ^ n * (B32 * (Y[n + 1]'(by omega) + 1)) * B32 ≤ B32 ^ n * ((P[n + 2]'(by omega) * B32 + P[n + 1]'(by omega)) * B32 + P[n]'(by omega)) := by
    rw [Nat.mul_assoc]
    apply Nat.mul_le_mul_left
    have h6 : B32 * (Y[n + 1]'(by omega) + 1) ≤ P[n + 2]'(by omega) * B32 + P[n + 1]'(by omega) := by
      show 4294967296 * _ ≤ _ * 4294967296 + _
      omega
    exact Nat.le_trans (Nat.mul_le_mul_right B32 h6) (Nat.le_add_right _ _)
  omega

/-- What is taken off and given back. -/
theorem knuth_off {M P0 P1 P2 Y g b c : Nat} (hY : 0 < Y) (h1 : P1 < M) (h2 : P2 < M) (hb : b ≤ 1) (hc : c ≤ 1) (e1 : P0 + M * b = P1 + g * Y) (e2 : P1 + Y = P2 + M * c) (hq1 : P0 / Y ≤ g) (hq2 : g ≤ P0 / Y + 1) :
    (b = 0 → g = P0 / Y ∧ P1 = P0 % Y) ∧ (b = 1 → g = P0 / Y + 1 ∧ P2 = P0 % Y) := by
  have hd := Nat.div_add_mod P0 Y
  have hm := Nat.mod_lt P0 hY
  have e3 : P0 / Y * Y = Y * (P0 / Y) := Nat.mul_comm _ _
  generalize hqq : P0 / Y = q at *
  generalize P0 % Y = m at *
  have e4 : (q + 1) * Y = Y * q + Y := by rw [Nat.succ_mul, e3]
  clear hqq
  constructor
  · rintro rfl
    rcases (by omega : g = q ∨ g = q + 1) with rfl | rfl
    · exact ⟨rfl, by omega⟩
    · exfalso; rw [e4] at e1; omega
  · rintro rfl
    rcases (by omega : g = q ∨ g = q + 1) with rfl | rfl
    · exfalso; rw [e3] at e1; omega
    · rw [e4] at e1
      refine ⟨rfl, ?_⟩
      rcases (by omega : c = 0 ∨ c = 1) with rfl | rfl
      · exfalso; omega
      · omega
end Go.Ash
/- Package limbs: divide. -/
namespace Go.Ash
variable {F : Nat → Option RFunc} [h : CodeLimbs F]


@[simp] theorem bounds_tt {n k k' l h} : bounds n true true false [.int k l, .int k' h] = if 0 ≤ l ∧ l ≤ h ∧ h ≤ n then some (l.toNat, h.toNat) else none := by
  simp only [bounds]
  by_cases h1 : 0 ≤ h ∧ h ≤ n
  · rw [if_pos h1, Option.bind_some]
    by_cases h2 : 0 ≤ l ∧ l ≤ ((h.toNat : Nat) : Int)
    · rw [if_pos h2, if_pos (by omega)]; rfl
    · rw [if_neg h2, if_neg (by omega)]; rfl
  · rw [if_neg h1, if_neg (by omega)]; rfl

theorem slice_pick {id l h : Nat} (hlt : l < h) : (if l = 0 then AVal.mslc id 0 h else if l = h then .slc false [] else .mslc id l (h - l)) = .mslc id l (h - l) := by
  by_cases h0 : l = 0
  · subst h0; simp
  · rw [if_neg h0, if_neg (by omega)]

theorem tidy_three {live : List Bool} {vars env : List AVal} {b0 b1 b2 : Blk} (hv : idsL (mask live vars) = [0, 1, 2]) (h0 : idsL b0.elems = []) (h1 : idsL b1.elems = []) (h2 : idsL b2.elems = []) :
    tidy live ⟨vars, env, [some b0, some b1, some b2], 0⟩ = some ⟨mask live vars, [], [some b0, some b1, some b2], 0⟩ := by
  refine tidy_keep ?_ ?_
  · simp [hv, reach, fuelIds, Heap.at, h0, h1, h2, List.range_succ]
  · intro x hx k hk y hy
    simp at hx
    rcases hx with rfl | rfl | rfl <;> cases hk
    · rw [h0] at hy; cases hy
    · rw [h1] at hy; cases hy
    · rw [h2] at hy; cases hy

theorem blk_ren {ρ : Nat → Nat} {b : Blk} (h : idsL b.elems = []) : Blk.ren ρ b = b := by
  unfold Blk.ren; rw [renL_self _ _ h]

theorem raw_23 {call : CallF} {f : Nat} {args : List AVal} {b0 b1 b2 c0 c1 : Blk} {v : AVal} (hi : idsL args = [0, 1]) (h0 : idsL b0.elems = []) (h1 : idsL b1.elems = [])
    (hc : call f args [some b0, some b1] = some (v, [some c0, some c1])) (hv : v.ids = []) (hc0 : idsL c0.elems = []) (hc1 : idsL c1.elems = []) :
    rawCall call f args [some b0, some b1, some b2] = some (v, [some c0, some c1, some b2]) := by
  have hr : reach [some b0, some b1, some b2] fuelIds [0, 1] [] = some [0, 1] := by simp [reach, fuelIds, Heap.at, h0, h1]
  have hp : ∀ y, y < 2 → place [0, 1] y = y := by intro y hy; rcases (by omega : y = 0 ∨ y = 1) with rfl | rfl <;> rfl
  have ha : renL (place [0, 1]) args = args := renL_below (n := 2) hp args (fun y hy => by rw [hi] at hy; simp at hy; omega)
  have hk : pack [some b0, some b1, some b2] [0, 1] = [some b0, some b1] := by simp [pack, Heap.at, blk_ren h0, blk_ren h1]
  unfold rawCall
  rw [hi, hr]
  simp [ha, hk, hc, ren_self _ _ hv, putBack, blk_ren hc0, blk_ren hc1]

theorem ev_zero_of_lt {l : List Nat} {n k : Nat} (h : ev l < B32 ^ n) (hk : n ≤ k) : ev (l.drop k) = 0 := by
  have e : ev l = ev (l.take k) + B32 ^ (l.take k).length * ev (l.drop k) := by rw [← ev_append, List.take_append_drop]
  rcases Nat.eq_zero_or_pos (ev (l.drop k)) with h0 | h0
  · exact h0
  · have hl : k ≤ l.length := by
      apply Nat.le_of_not_lt
      intro h2
      rw [List.drop_of_length_le (by omega)] at h0
      simp [ev] at h0
    rw [List.length_take, Nat.min_eq_left hl] at e
    have h1 : B32 ^ k * 1 ≤ B32 ^ k * ev (l.drop k) := Nat.mul_le_mul_left _ h0
    have h2 : B32 ^ n ≤ B32 ^ k := Nat.pow_le_pow_right (by decide) hk
    omega

set_option maxHeartbeats 4000000 in
/-- The loop of divide: one limb of the quotient after the other. -/
theorem divide_loop (v0 v1 : AVal) (R0 Y W : List Nat) (k : Nat) (m : Nat) (hR : Lim R0) (hY : Lim Y) (hm : m + 2 = Y.length) (hy : 2147483648 ≤ Y[m + 1]'(by omega)) (hl : R0.length < 2^40) (hYR : Y.length < R0.length)
    (htop : ev (R0.drop (R0.length - Y.length)) < ev Y) :
    ∃ e st, (∀ env, exec F l_limbs_divide_0 ⟨[v0, v1, .slc true [], .slc true [], .und, .und, .int .i64 k, .int .i64 Y.length, .mslc 0 0 R0.length, .mslc 1 0 Y.length, .mslc 2 0 (R0.length - Y.length), .int .i64 ((R0.length : Int) - Y.length - 1), .und, .und], env,
        [some ⟨false, 1, u32s R0⟩, some ⟨false, 1, u32s (Y ++ W)⟩, some ⟨false, 1, u32s (List.replicate (R0.length - Y.length) 0)⟩], 0⟩ = some (e, st)) ∧
      (e = .exit 0 ∧ ∃ (R Q : List Nat), st = ⟨[.und, .und, .und, .und, .und, .und, .int .i64 k, .int .i64 Y.length, .mslc 0 0 R0.length, .mslc 1 0 Y.length, .mslc 2 0 (R0.length - Y.length), .int .i64 (-1), .und, .und], [],
        [some ⟨false, 1, u32s R⟩, some ⟨false, 1, u32s (Y ++ W)⟩, some ⟨false, 1, u32s Q⟩], 0⟩ ∧ R.length = R0.length ∧ Lim R ∧ Q.length = R0.length - Y.length ∧ Lim Q ∧ ev R < ev Y ∧ ev R0 = ev R + ev Y * ev Q) := by
  have hz0 : ∀ k, ev (List.replicate k 0) = 0 := fun k => by have := ev_zeros [] k; simpa [ev] using this
  have hYlt := ev_lt hY
  have hYpos : 0 < ev Y := by
    rw [ev_split2 hm]
    have h2 : 0 < B32 ^ m * (Y[m + 1]'(by omega) * B32 + Y[m]'(by omega)) := Nat.mul_pos (Nat.pow_pos (by decide)) (by show 0 < _ * 4294967296 + _; omega)
    omega
  have hcast : ((R0.length - Y.length : Nat) : Int) = (R0.length : Int) - Y.length := by omega
  refine loop_rule
    (fun j st => ∃ (R Q : List Nat), st = ⟨[.und, .und, .und, .und, .und, .und, .int .i64 k, .int .i64 Y.length, .mslc 0 0 R0.length, .mslc 1 0 Y.length, .mslc 2 0 (R0.length - Y.length), .int .i64 ((j : Int) - 1), .und, .und], [],
        [some ⟨false, 1, u32s R⟩, some ⟨false, 1, u32s (Y ++ W)⟩, some ⟨false, 1, u32s Q⟩], 0⟩ ∧ j ≤ R0.length - Y.length ∧ R.length = R0.length ∧ Lim R ∧ Q.length = R0.length - Y.length ∧ Lim Q ∧ ev (R.drop j) < ev Y ∧
        (∀ t (ht : t < Q.length), t < j → Q[t] = 0) ∧ ev R0 = ev R + ev Y * ev Q)
    _
    (R0.length - Y.length) _ ?_ (tidy_three (by simp) (by simp) (by simp) (by simp))
    ⟨R0, _, by rw [hcast]; rfl, Nat.le_refl _, rfl, hR, by simp, lim_replicate _, htop, fun t ht _ => by simp, by rw [hz0]; simp⟩
  rintro j st ⟨R, Q, rfl, hj, hRl, hRlim, hQl, hQlim, hlt, hQz, hsum⟩
  rcases Nat.eq_zero_or_pos j with rfl | hpos
  · refine .out (.exit 0) _ (by simp) ⟨rfl, R, Q, rfl, hRl, hRlim, hQl, hQlim, by simpa using hlt, hsum⟩ ?_
    simp [after]
  · obtain ⟨i, rfl⟩ : ∃ i, j = i + 1 := ⟨j - 1, by omega⟩
    obtain ⟨A, P0, Z, rfl, rfl, hP0⟩ : ∃ A P Z, R = A ++ (P ++ Z) ∧ A.length = i ∧ P.length = Y.length + 1 :=
      ⟨R.take i, (R.drop i).take (Y.length + 1), (R.drop i).drop (Y.length + 1), by rw [List.take_append_drop, List.take_append_drop], by rw [List.length_take]; omega, by rw [List.length_take, List.length_drop]; omega⟩
    have hlenR : A.length + (P0.length + Z.length) = R0.length := by simpa using hRl
    have hP : Lim P0 := fun x hx => hRlim x (by simp [hx])
    have hZl : Lim Z := fun x hx => hRlim x (by simp [hx])
    have hAl : Lim A := fun x hx => hRlim x (by simp [hx])
    have hP0' : ∀ q (hq : q < P0.length), P0[q] < 4294967296 := fun q hq => hP.get hq
    -- what stands above the part is nought
    have hdropA : (A ++ (P0 ++ Z)).drop (A.length + 1) = P0.drop 1 ++ Z := by
      rw [List.drop_append, List.drop_of_length_le (by omega), List.nil_append, List.drop_append]
      rw [show A.length + 1 - A.length = 1 from by omega, show 1 - P0.length = 0 from by omega, List.drop_zero]
    rw [hdropA] at hlt
    have hZ0 : ev Z = 0 := by
      have := ev_zero_of_lt (l := P0.drop 1 ++ Z) (n := Y.length) (k := Y.length) (Nat.lt_trans hlt hYlt) (Nat.le_refl _)
      rw [List.drop_append, List.drop_of_length_le (by simp; omega), List.nil_append] at this
      simpa [hP0] using this
    have hPd : ev (P0.drop 1) < ev Y := by rw [ev_append, hZ0] at hlt; simpa using hlt
    have hPB : ev P0 < B32 * ev Y := by
      have e := drop_ev (l := P0) (i := 0) (by omega)
      rw [List.drop_zero] at e
      have h0 := hP0' 0 (by omega)
      have : B32 * (ev (P0.drop 1) + 1) ≤ B32 * ev Y := Nat.mul_le_mul_left _ hPd
      rw [Nat.mul_add] at this
      rw [e]
      show P0[0] + B32 * ev (P0.drop 1) < _
      have hh : B32 * 1 = 4294967296 := rfl
      omega
    obtain ⟨hx2, hk⟩ := knuth hP hY hm hP0 hPB hy
    obtain ⟨g, hg, hg1, hg2, hg3⟩ := pc_guess (F := F) (P0[m + 2]'(by omega)) (P0[m + 1]'(by omega)) (P0[m]'(by omega)) (Y[m + 1]'(by omega)) (Y[m]'(by omega)) hx2 (hP0' _ _) (hP0' _ _) hy (hY.get _) (hY.get _)
    obtain ⟨hk1, hk2⟩ := hk g hg1 hg2 hg3
    obtain ⟨P1, b, ht, hP1l, hP1, hb, hbe⟩ := run_takes (F := F) A P0 Z Y W g false hP hY hg1 (by omega) hP0
    obtain ⟨P2, c, hgv, hP2l, hP2, hc, hce⟩ := run_gives (F := F) A P1 Z Y W false hP1 hY (by omega) (by omega)
    have hP1lt := ev_lt hP1
    have hP2lt := ev_lt hP2
    rw [hP2l] at hP2lt
    rw [← hP1l] at hbe
    obtain ⟨hoff0, hoff1⟩ := knuth_off hYpos hP1lt hP2lt hb hc hbe hce hk1 hk2
    have hAQ : A.length < Q.length := by omega
    have hQ0 := hQz A.length hAQ (by omega)
    have hset := set_ev hAQ (ev P0 / ev Y)
    rw [hQ0] at hset
    have hqlt : ev P0 / ev Y < 4294967296 := Nat.lt_of_le_of_lt hk1 hg1
    have hmod := Nat.mod_lt (ev P0) hYpos
    have hdm := Nat.div_add_mod (ev P0) (ev Y)
    -- the claim at the next head, for the part that is left
    have next : ∀ P : List Nat, P.length = P0.length → Lim P → ev P = ev P0 % ev Y →
        (A ++ (P ++ Z)).length = R0.length ∧ Lim (A ++ (P ++ Z)) ∧ (Q.set A.length (ev P0 / ev Y)).length = R0.length - Y.length ∧ Lim (Q.set A.length (ev P0 / ev Y)) ∧ ev ((A ++ (P ++ Z)).drop A.length) < ev Y ∧
        (∀ t (ht : t < (Q.set A.length (ev P0 / ev Y)).length), t < A.length → (Q.set A.length (ev P0 / ev Y))[t] = 0) ∧ ev R0 = ev (A ++ (P ++ Z)) + ev Y * ev (Q.set A.length (ev P0 / ev Y)) := by
      intro P hPl hPlim hPe
      refine ⟨by simp; omega, lim_append hAl (lim_append hPlim hZl), by simpa using hQl, lim_set hQlim hqlt, ?_, ?_, ?_⟩
      · rw [List.drop_append, List.drop_of_length_le (Nat.le_refl _), Nat.sub_self, List.drop_zero, List.nil_append, ev_append, hZ0, hPe]
        simpa using hmod
      · intro t ht htA
        rw [List.getElem_set_ne (by omega)]
        exact hQz t (by simpa using ht) (by omega)
      · rw [hsum, ev_append, ev_append, ev_append, ev_append, hZ0, hPe]
        simp only [Nat.mul_zero, Nat.add_zero] at hset ⊢
        rw [hset, Nat.mul_add (ev Y), Nat.mul_left_comm (ev Y)]
        have : B32 ^ A.length * ev P0 = B32 ^ A.length * (ev Y * (ev P0 / ev Y)) + B32 ^ A.length * (ev P0 % ev Y) := by rw [← Nat.mul_add, hdm]
        omega
    have t1 : ((A.length : Int) + Y.length).toNat = A.length + (m + 2) := by omega
    have t2 : ((A.length : Int) + Y.length - 1).toNat = A.length + (m + 1) := by omega
    have t3 : ((A.length : Int) + Y.length - 2).toNat = A.length + m := by omega
    have t4 : ((Y.length : Int) - 1).toNat = m + 1 := by omega
    have t5 : ((Y.length : Int) - 2).toNat = m := by omega
    have t6 : ((A.length : Int) + Y.length + 1).toNat = A.length + P0.length := by omega
    have t7 : A.length + P0.length - A.length = P0.length := by omega
    have hidx : ((A.length + 1 : Nat) : Int) - 1 = A.length := by omega
    have m2 : m + 2 < P0.length := by omega
    have m1 : m + 1 < P0.length := by omega
    have m0 : m < P0.length := by omega
    have y1 : m + 1 < Y.length := by omega
    have y0 : m < Y.length := by omega
    have hpick : (if A = [] then AVal.mslc 0 0 (A.length + P0.length) else if P0 = [] then AVal.slc false [] else AVal.mslc 0 A.length P0.length) = .mslc 0 A.length P0.length := by
      have hne : P0 ≠ [] := by intro h; rw [h] at hP0; simp at hP0
      by_cases hA : A = []
      · subst hA; simp
      · rw [if_neg hA, if_neg hne]
    have raw1 := raw_23 (call := run F) (f := 111) (args := [.mslc 0 A.length P0.length, .mslc 1 0 Y.length, .int .u64 g]) (b2 := ⟨false, 1, u32s Q⟩) (by simp) (by simp) (by simp) ht (by simp) (by simp) (by simp)
    rw [hidx]
    rcases (by omega : b = 0 ∨ b = 1) with rfl | rfl
    · obtain ⟨hge, hPe⟩ := hoff0 rfl
      obtain ⟨n1, n2, n3, n4, n5, n6, n7⟩ := next P1 hP1l hP1 hPe
      refine .more A.length _ (by omega) ⟨A ++ (P1 ++ Z), Q.set A.length (ev P0 / ev Y), rfl, by omega, n1, n2, n3, n4, n5, n6, n7⟩ ?_
      rw [← hge] at hqlt ⊢
      clear hoff0 hoff1 next hbe hce hk hk1 hk2 hg2 hg3 hdm hmod hset hsum hPB hPd hlt hP1lt hP2lt hYlt hYpos htop hx2 hPe hgv ht n1 n2 n3 n4 n5 n6 n7 hQz hQ0 hz0
      simp (disch := first | omega | simp) [after, tidy_three, get_mid, get_fst, hpick, if_pos, if_neg, decide_eq_true, putElem, putOne, wrap_i64, wrap_u32, any_pure, t1, t2, t3, t4, t5, t6, t7, hg, raw1, get?_u32s, set_u32n]
    · obtain ⟨hge, hPe⟩ := hoff1 rfl
      obtain ⟨n1, n2, n3, n4, n5, n6, n7⟩ := next P2 (by omega) hP2 hPe
      have raw2 := raw_23 (call := run F) (f := 112) (args := [.mslc 0 A.length P1.length, .mslc 1 0 Y.length]) (b2 := ⟨false, 1, u32s Q⟩) (by simp) (by simp) (by simp) hgv (by simp) (by simp) (by simp)
      rw [hP1l] at raw2
      refine .more A.length _ (by omega) ⟨A ++ (P2 ++ Z), Q.set A.length (ev P0 / ev Y), rfl, by omega, n1, n2, n3, n4, n5, n6, n7⟩ ?_
      have hg1' : (g : Int) - 1 = ((ev P0 / ev Y : Nat) : Int) := by omega
      clear hoff0 hoff1 next hbe hce hk hk1 hk2 hg2 hg3 hdm hmod hset hsum hPB hPd hlt hP1lt hP2lt hYlt hYpos htop hx2 hPe hgv ht n1 n2 n3 n4 n5 n6 n7 hQz hQ0 hz0
      generalize ev P0 / ev Y = qq at *
      simp (disch := first | omega | simp) [after, tidy_three, get_mid, get_fst, hpick, if_pos, if_neg, decide_eq_true, putElem, putOne, wrap_i64, wrap_u64, wrap_u32, any_pure, t1, t2, t3, t4, t5, t6, t7, hg, raw1, raw2, get?_u32s, set_u32n, hg1']
end Go.Ash
/- Calls that keep their blocks, and what is handed on: the usual cases. -/
namespace Go.Ash

/-- One block is handed down and comes back. -/
theorem raw_at {call : CallF} {f : Nat} {H : Heap} {id off len off' len' : Nat} {b c : Blk} (h : H.at id = some b) (hb : idsL b.elems = []) (hc : call f [.mslc 0 off len] [some b] = some (.mslc 0 off' len', [some c]))
    (hcb : idsL c.elems = []) : rawCall call f [.mslc id off len] H = some (.mslc id off' len', H.set id (some c)) := by
  have hlt := at_lt h
  have hr := reach_at h hb
  have hp : place [id] id = 0 := by simp [place]
  have hk : pack H [id] = [some b] := by simp [pack, h, blk_ren hb]
  unfold rawCall
  rw [show idsL [AVal.mslc id off len] = [id] from rfl, hr]
  simp [hlt, hp, hk, hc, putBack, blk_ren hcb, back]

/-- No block is handed down, a new one comes back. -/
theorem raw_new {call : CallF} {f : Nat} {args : List AVal} {H : Heap} {off len : Nat} {b : Blk} (hi : idsL args = []) (hc : call f args [] = some (.mslc 0 off len, [some b])) (hb : idsL b.elems = []) :
    rawCall call f args H = some (.mslc H.length off len, H ++ [some b]) := by
  unfold rawCall
  rw [hi]
  have hr : reach H fuelIds [] [] = some [] := rfl
  rw [hr]
  simp [pack, renL_self _ _ hi, hc, putBack, back, blk_ren hb]

theorem tree_at {H : Heap} {id len n esz : Nat} {fz : Bool} {l : List Nat} (h : H.at id = some ⟨fz, esz, u32s l⟩) (hle : len ≤ l.length) : AVal.tree H (n + 2) (.mslc id 0 len) = some (.slc false (u32s (l.take len)), [id]) := by
  simp only [AVal.tree, h, length_u32s, Nat.zero_add, hle, if_true, List.drop_zero, u32s_take, treeL_free (n := n) (idsL_u32s _), Option.map_some]

theorem hand_at {H : Heap} {id len esz : Nat} {fz : Bool} {l : List Nat} {rest : List AVal} (h : H.at id = some ⟨fz, esz, u32s l⟩) (hle : len ≤ l.length) (hr : idsL rest = []) :
    handOn (.mslc id 0 len :: rest) H = some (.slc false (u32s (l.take len)) :: rest, freeze H [id]) := by
  have h1 : treeL H fuelTree (.mslc id 0 len :: rest) = some (.slc false (u32s (l.take len)) :: rest, [id]) := by
    unfold fuelTree
    rw [treeL_cons (by simp), tree_at h hle, treeL_free (n := 38) hr]
    simp
  simp [handOn, h1]

theorem tup2_first {H : Heap} {id len esz : Nat} {fz : Bool} {l : List Nat} {v : AVal} (h : H.at id = some ⟨fz, esz, u32s l⟩) (hle : len ≤ l.length) (hv : v.ids = []) :
    treeL H fuelTree [.tup [.mslc id 0 len, v]] = some ([.tup [.slc false (u32s (l.take len)), v]], [id]) := by
  have h1 : treeL H 38 [.mslc id 0 len, v] = some ([.slc false (u32s (l.take len)), v], [id]) := by
    rw [treeL_cons (by simp), tree_at h hle, treeL_free (n := 36) (by simp [hv])]
    simp
  unfold fuelTree
  rw [treeL_cons (by simp)]
  simp only [AVal.tree, h1, Option.map_some, Option.bind_some, treeL_free (n := 38) (show idsL [] = [] from rfl)]
  simp

theorem tup2_second {H : Heap} {id len esz : Nat} {fz nn : Bool} {l : List Nat} {xs : List AVal} (h : H.at id = some ⟨fz, esz, u32s l⟩) (hle : len ≤ l.length) :
    treeL H fuelTree [.tup [.slc nn xs, .mslc id 0 len]] = some ([.tup [.slc nn xs, .slc false (u32s (l.take len))]], [id]) := by
  have h1 : treeL H 38 [.slc nn xs, .mslc id 0 len] = some ([.slc nn xs, .slc false (u32s (l.take len))], [id]) := by
    rw [treeL_cons (by simp), treeL_cons (by simp), tree_at h hle, treeL_free (n := 35) (show idsL [] = [] from rfl)]
    simp [AVal.tree]
  unfold fuelTree
  rw [treeL_cons (by simp)]
  simp only [AVal.tree, h1, Option.map_some, Option.bind_some, treeL_free (n := 38) (show idsL [] = [] from rfl)]
  simp
end Go.Ash
/- The document's integers: add, sub, Add, Sub as calls. -/
namespace Go.Ash
variable {F : Nat → Option RFunc} [h : CodeRef1 F]

theorem tree_atE {H : Heap} {id len n esz : Nat} {fz : Bool} {l : List AVal} (h : H.at id = some ⟨fz, esz, l⟩) (hl : idsL l = []) (hle : len ≤ l.length) : AVal.tree H (n + 2) (.mslc id 0 len) = some (.slc false (l.take len), [id]) := by
  have hfree : idsL (l.take len) = [] := by
    apply List.eq_nil_iff_forall_not_mem.2
    intro y hy
    obtain ⟨k, c, hk, hyc⟩ := idsL_ex hy
    rw [List.getElem?_take] at hk
    split at hk
    · have := idsL_mem_of hk hyc
      rw [hl] at this; cases this
    · simp at hk
  simp only [AVal.tree, h, Nat.zero_add, hle, if_true, List.drop_zero, treeL_free (n := n) hfree, Option.map_some]

theorem treeL_atE {H : Heap} {id len n esz : Nat} {fz : Bool} {l : List AVal} {rest : List AVal} (h : H.at id = some ⟨fz, esz, l⟩) (hl : idsL l = []) (hle : len ≤ l.length) (hr : idsL rest = []) :
    treeL H (n + 3) (.mslc id 0 len :: rest) = some (.slc false (l.take len) :: rest, [id]) := by
  rw [treeL_cons (by simp), tree_atE h hl hle, treeL_free (n := n + 1) hr]
  simp

/-- A grown slice that is handed on, or answered. -/
theorem gv_tree (H : Heap) (id : Nat) (d : List Nat) (n : Nat) (hat : d ≠ [] → H.at id = some ⟨false, 1, i64s d⟩) : ∃ is, treeL H (n + 3) [gv id d] = some ([.slc (decide (d = [])) (i64s d)], is) ∧ (d = [] → is = []) ∧ (d ≠ [] → is = [id]) := by
  by_cases h0 : d = []
  · subst h0
    exact ⟨[], by rw [gv_nil, treeL_free (n := n + 2) (by simp)]; rfl, fun _ => rfl, fun h => absurd rfl h⟩
  · refine ⟨[id], ?_, fun h => absurd h h0, fun _ => rfl⟩
    rw [gv_cons h0, treeL_atE (hat h0) (by simp) (by simp) (by simp), i64s_take_len]
    simp [h0]

theorem pc_radd (nx ny : Bool) (x y : List Nat) (hx : LimW x) (hy : LimW y) (hlx : x.length < 2^39) (hly : y.length < 2^39) :
    ∃ nl d, pureCall (run F) 91 [.slc nx (i64s x), .slc ny (i64s y)] = some (.slc nl (i64s d)) ∧ d.length ≤ max x.length y.length + 1 ∧ LimW d ∧ ew d = ew x + ew y := by
  obtain ⟨e, st, he, rfl, d, i, rfl, h1, h2, h3⟩ := radd_loop (F := F) nx ny x y hx hy hlx hly
  refine ⟨decide (d = []), d, pure_ret h.ashlarref1_add rfl ?_, h1, h2, h3⟩
  by_cases h0 : d = []
  · subst h0
    simp (disch := omega) [c_ashlarref1_add, he, gv_nil, gb_nil, i64s_empty]
  · have hre := reach_at (H := [some ⟨false, 1, i64s d⟩]) (id := 0) rfl (by simp)
    have ht := treeL_atE (H := [some ⟨false, 1, i64s d⟩]) (id := 0) (n := 37) (len := d.length) (rest := []) rfl (by simp) (by simp) (by simp)
    rw [i64s_take_len] at ht
    simp (disch := omega) [c_ashlarref1_add, he, gv_cons h0, gb_cons h0, hre, fuelTree, ht, h0]

theorem rsub_loop (nx ny : Bool) (x y : List Nat) (hx : LimW x) (hy : LimW y) (hlx : x.length < 2^39) (hyx : y.length ≤ x.length) :
    ∃ e st, (∀ env, exec F l_ashlarref1_sub_0 ⟨[.slc nx (i64s x), .slc ny (i64s y), .slc true [], .slc true [], .int .i64 0, .int .i64 0, .und], env, [], 0⟩ = some (e, st)) ∧
      (e = .exit 0 ∧ ∃ (d : List Nat) (c : Nat) (i : AVal), st = ⟨[.slc nx (i64s x), .slc ny (i64s y), .und, gv 0 d, .int .i64 c, i, .und], [], gb d, 0⟩ ∧ d.length = x.length ∧ LimW d ∧ c ≤ 1 ∧ ew x + B16 ^ x.length * c = ew d + ew y) := by
  refine loop_rule
    (fun n st => ∃ (d : List Nat) (c i : Nat), st = ⟨[.slc nx (i64s x), .slc ny (i64s y), .und, gv 0 d, .int .i64 c, .int .i64 i, .und], [], gb d, 0⟩ ∧ i + n = x.length ∧ d.length = i ∧ LimW d ∧ c ≤ 1 ∧
      ew (x.take i) + B16 ^ i * c = ew d + ew (y.take i)) _ x.length _ ?_
    (tidy_none (by simp)) ⟨[], 0, 0, rfl, by omega, rfl, (fun a ha => by cases ha), by omega, by simp [ew]⟩
  rintro n st ⟨d, c, i, rfl, hn, hdl, hdlim, hc, hev⟩
  rcases Nat.eq_zero_or_pos n with rfl | hpos
  · refine .out (.exit 0) _ (by simp) ⟨rfl, d, c, .int .i64 i, rfl, by omega, hdlim, hc, ?_⟩ ?_
    · have : i = x.length := by omega
      subst this
      rw [List.take_length, List.take_of_length_le (l := y) (by omega)] at hev
      rw [← hev]
    · simp (disch := first | omega | simp) [after, if_pos, if_neg, decide_eq_false]
  · have hix : i < x.length := by omega
    have hxi := hx.get hix
    have key : ∀ (b : Nat), b < 65536 → ew (y.take (i + 1)) = ew (y.take i) + B16 ^ i * b → ∀ (v c2 : Nat), v < 65536 → c2 ≤ 1 → x[i] + 65536 * c2 = v + c + b →
        (d ++ [v]).length = i + 1 ∧ LimW (d ++ [v]) ∧ c2 ≤ 1 ∧ ew (x.take (i + 1)) + B16 ^ (i + 1) * c2 = ew (d ++ [v]) + ew (y.take (i + 1)) := by
      intro b hb eb v c2 hv hc2 e
      refine ⟨by simp [hdl], limW_append hdlim (by intro z hz; simp at hz; subst hz; exact hv), hc2, ?_⟩
      rw [ew_snoc, hdl, eb, ew_take_succ hix, Nat.pow_succ]
      have e5 : B16 ^ i * (x[i] + 65536 * c2) = B16 ^ i * (v + c + b) := by rw [e]
      have e8 : B16 ^ i * (B16 * c2) = B16 ^ i * (65536 * c2) := rfl
      rw [Nat.mul_assoc]
      simp only [Nat.mul_add] at e5 hev ⊢
      omega
    have yt : y.length ≤ i → ew (y.take (i + 1)) = ew (y.take i) + B16 ^ i * 0 := fun h => by rw [List.take_of_length_le (by omega), List.take_of_length_le h]; simp
    have mB := maxB
    rcases Nat.lt_or_ge i y.length with hiy | hiy
    · have hyi := hy.get hiy
      rcases Nat.lt_or_ge x[i] (c + y[i]) with hlt | hge
      · obtain ⟨n1, n2, n3, n4⟩ := key y[i] hyi (ew_take_succ hiy) (x[i] + 65536 - c - y[i]) 1 (by omega) (by omega) (by omega)
        refine .more (n - 1) _ (by omega) ⟨d ++ [(x[i] + 65536 - c - y[i])], 1, i + 1, rfl, by omega, n1, n2, n3, n4⟩ ?_
        clear key yt hev n1 n2 n3 n4
        have hcv : ((x[i] : Nat) : Int) - (c : Int) - (y[i] : Int) + 65536 = (((x[i] + 65536 - c - y[i]) : Nat) : Int) := by omega
        have hvlt : (x[i] + 65536 - c - y[i]) < 65536 := by omega
        generalize hvv : (x[i] + 65536 - c - y[i]) = v at *
        by_cases h0 : d = []
        · subst h0
          simp (disch := first | omega | simp) [after, gv_nil, gb_nil, gv_snoc, gb_snoc, tidy_eq, reach_end, reach_more, fuelIds, place_cons, pack, if_pos, if_neg, decide_eq_true, decide_eq_false, wrap_i64, hcv, goodElems, placeAll, elemsOf, maxB, i64s_one]
          try (exact ⟨(gv_snoc 0 [] v).symm, (gb_snoc [] v).symm⟩)
        · rw [gv_cons h0, gb_cons h0, gv_snoc, gb_snoc]
          simp (disch := first | omega | simp) [after, tidy_eq, reach_end, reach_more, fuelIds, place_cons, pack, if_pos, if_neg, decide_eq_true, decide_eq_false, wrap_i64, hcv, goodElems, placeAll, elemsOf, maxB, i64s_snoc, i64s_take_len]
      · obtain ⟨n1, n2, n3, n4⟩ := key y[i] hyi (ew_take_succ hiy) (x[i] - c - y[i]) 0 (by omega) (by omega) (by omega)
        refine .more (n - 1) _ (by omega) ⟨d ++ [(x[i] - c - y[i])], 0, i + 1, rfl, by omega, n1, n2, n3, n4⟩ ?_
        clear key yt hev n1 n2 n3 n4
        have hcv : ((x[i] : Nat) : Int) - (c : Int) - (y[i] : Int) = (((x[i] - c - y[i]) : Nat) : Int) := by omega
        have hvlt : (x[i] - c - y[i]) < 65536 := by omega
        generalize hvv : (x[i] - c - y[i]) = v at *
        by_cases h0 : d = []
        · subst h0
          simp (disch := first | omega | simp) [after, gv_nil, gb_nil, gv_snoc, gb_snoc, tidy_eq, reach_end, reach_more, fuelIds, place_cons, pack, if_pos, if_neg, decide_eq_true, decide_eq_false, wrap_i64, hcv, goodElems, placeAll, elemsOf, maxB, i64s_one]
          try (exact ⟨(gv_snoc 0 [] v).symm, (gb_snoc [] v).symm⟩)
        · rw [gv_cons h0, gb_cons h0, gv_snoc, gb_snoc]
          simp (disch := first | omega | simp) [after, tidy_eq, reach_end, reach_more, fuelIds, place_cons, pack, if_pos, if_neg, decide_eq_true, decide_eq_false, wrap_i64, hcv, goodElems, placeAll, elemsOf, maxB, i64s_snoc, i64s_take_len]
    · rcases Nat.lt_or_ge x[i] c with hlt | hge
      · obtain ⟨n1, n2, n3, n4⟩ := key 0 (by decide) (yt hiy) (x[i] + 65536 - c) 1 (by omega) (by omega) (by omega)
        refine .more (n - 1) _ (by omega) ⟨d ++ [(x[i] + 65536 - c)], 1, i + 1, rfl, by omega, n1, n2, n3, n4⟩ ?_
        clear key yt hev n1 n2 n3 n4
        have hcv : ((x[i] : Nat) : Int) - (c : Int) + 65536 = (((x[i] + 65536 - c) : Nat) : Int) := by omega
        have hvlt : (x[i] + 65536 - c) < 65536 := by omega
        generalize hvv : (x[i] + 65536 - c) = v at *
        by_cases h0 : d = []
        · subst h0
          simp (disch := first | omega | simp) [after, gv_nil, gb_nil, gv_snoc, gb_snoc, tidy_eq, reach_end, reach_more, fuelIds, place_cons, pack, if_pos, if_neg, decide_eq_true, decide_eq_false, wrap_i64, hcv, goodElems, placeAll, elemsOf, maxB, i64s_one]
          try (exact ⟨(gv_snoc 0 [] v).symm, (gb_snoc [] v).symm⟩)
        · rw [gv_cons h0, gb_cons h0, gv_snoc, gb_snoc]
          simp (disch := first | omega | simp) [after, tidy_eq, reach_end, reach_more, fuelIds, place_cons, pack, if_pos, if_neg, decide_eq_true, decide_eq_false, wrap_i64, hcv, goodElems, placeAll, elemsOf, maxB, i64s_snoc, i64s_take_len]
      · obtain ⟨n1, n2, n3, n4⟩ := key 0 (by decide) (yt hiy) (x[i] - c) 0 (by omega) (by omega) (by omega)
        refine .more (n - 1) _ (by omega) ⟨d ++ [(x[i] - c)], 0, i + 1, rfl, by omega, n1, n2, n3, n4⟩ ?_
        clear key yt hev n1 n2 n3 n4
        have hcv : ((x[i] : Nat) : Int) - (c : Int) = (((x[i] - c) : Nat) : Int) := by omega
        have hvlt : (x[i] - c) < 65536 := by omega
        generalize hvv : (x[i] - c) = v at *
        by_cases h0 : d = []
        · subst h0
          simp (disch := first | omega | simp) [after, gv_nil, gb_nil, gv_snoc, gb_snoc, tidy_eq, reach_end, reach_more, fuelIds, place_cons, pack, if_pos, if_neg, decide_eq_true, decide_eq_false, wrap_i64, hcv, goodElems, placeAll, elemsOf, maxB, i64s_one]
          try (exact ⟨(gv_snoc 0 [] v).symm, (gb_snoc [] v).symm⟩)
        · rw [gv_cons h0, gb_cons h0, gv_snoc, gb_snoc]
          simp (disch := first | omega | simp) [after, tidy_eq, reach_end, reach_more, fuelIds, place_cons, pack, if_pos, if_neg, decide_eq_true, decide_eq_false, wrap_i64, hcv, goodElems, placeAll, elemsOf, maxB, i64s_snoc, i64s_take_len]

theorem pc_rsub (nx ny : Bool) (x y : List Nat) (hx : LimW x) (hy : LimW y) (hlx : x.length < 2^39) (hyx : y.length ≤ x.length) (hle : ew y ≤ ew x) :
    ∃ nl d, pureCall (run F) 92 [.slc nx (i64s x), .slc ny (i64s y)] = some (.slc nl (i64s d)) ∧ d.length = x.length ∧ LimW d ∧ ew d = ew x - ew y := by
  obtain ⟨e, st, he, rfl, d, c, i, rfl, h1, h2, h3, h4⟩ := rsub_loop (F := F) nx ny x y hx hy hlx hyx
  have hlt := ew_lt h2
  rw [h1] at hlt
  have hew : ew d = ew x - ew y := by
    rcases (by omega : c = 0 ∨ c = 1) with rfl | rfl <;> omega
  refine ⟨decide (d = []), d, pure_ret h.ashlarref1_sub rfl ?_, h1, h2, hew⟩
  by_cases h0 : d = []
  · subst h0
    simp (disch := omega) [c_ashlarref1_sub, he, gv_nil, gb_nil, i64s_empty]
  · have hre := reach_at (H := [some ⟨false, 1, i64s d⟩]) (id := 0) rfl (by simp)
    have ht := treeL_atE (H := [some ⟨false, 1, i64s d⟩]) (id := 0) (n := 37) (len := d.length) (rest := []) rfl (by simp) (by simp) (by simp)
    rw [i64s_take_len] at ht
    simp (disch := omega) [c_ashlarref1_sub, he, gv_cons h0, gb_cons h0, hre, fuelTree, ht, h0]

/-- Add: the sum. -/
theorem rAdd (n1 n2 : Bool) (x y : Int) (hx : (DW x.natAbs).length < 2^38) (hy : (DW y.natAbs).length < 2^38) : ∃ nl, pureCall (run F) 27 [RI n1 x, RI n2 y] = some (RI nl (x + y)) := by
  have hcmp := pc_rcmp (F := F) n1 n2 x.natAbs y.natAbs (by omega) (by omega)
  by_cases hs : (x < 0) ↔ (y < 0)
  · obtain ⟨nl, d, g1, g2, g3, g4⟩ := pc_radd (F := F) n1 n2 (DW x.natAbs) (DW y.natAbs) (limW_DW _) (limW_DW _) (by omega) (by omega)
    rw [ew_DW, ew_DW] at g4
    have ht := fun s => pc_rtrim (F := F) s nl d g3 (by omega)
    rw [g4] at ht
    refine ⟨nl, pure_ret h.ashlarref1_Add rfl ?_⟩
    by_cases hx0 : x < 0
    · have hy0 := hs.1 hx0
      have e : sgn true (x.natAbs + y.natAbs) = x + y := by simp only [sgn, if_true]; omega
      have ht := ht true
      rw [e] at ht
      simp [c_ashlarref1_Add, any_pure, hx0, hy0, g1, ht]
    · have hy0 : ¬ y < 0 := fun h => hx0 (hs.2 h)
      have e : sgn false (x.natAbs + y.natAbs) = x + y := by simp only [sgn, Bool.false_eq_true, if_false]; omega
      have ht := ht false
      rw [e] at ht
      simp [c_ashlarref1_Add, any_pure, hx0, hy0, g1, ht]
  · rcases Nat.lt_or_ge x.natAbs y.natAbs with hlt | hge
    · obtain ⟨nl, d, g1, g2, g3, g4⟩ := pc_rsub (F := F) n2 n1 (DW y.natAbs) (DW x.natAbs) (limW_DW _) (limW_DW _) (by omega) (DW_len_mono (by omega)) (by rw [ew_DW, ew_DW]; omega)
      rw [ew_DW, ew_DW] at g4
      have ht := fun s => pc_rtrim (F := F) s nl d g3 (by omega)
      rw [g4] at ht
      have hcv : cmpI x.natAbs y.natAbs = -1 := by unfold cmpI; rw [if_pos hlt]
      rw [hcv] at hcmp
      refine ⟨nl, pure_ret h.ashlarref1_Add rfl ?_⟩
      by_cases hx0 : x < 0
      · have hy0 : ¬ y < 0 := fun h => hs ⟨fun _ => h, fun _ => hx0⟩
        have e : sgn false (y.natAbs - x.natAbs) = x + y := by simp only [sgn, Bool.false_eq_true, if_false]; omega
        have ht := ht false
        rw [e] at ht
        simp [c_ashlarref1_Add, any_pure, hx0, hy0, g1, ht, hcmp]
      · have hy0 : y < 0 := by
          apply Decidable.byContradiction
          intro h
          exact hs ⟨fun h2 => absurd h2 hx0, fun h2 => absurd h2 h⟩
        have e : sgn true (y.natAbs - x.natAbs) = x + y := by simp only [sgn, if_true]; omega
        have ht := ht true
        rw [e] at ht
        simp [c_ashlarref1_Add, any_pure, hx0, hy0, g1, ht, hcmp]
    · obtain ⟨nl, d, g1, g2, g3, g4⟩ := pc_rsub (F := F) n1 n2 (DW x.natAbs) (DW y.natAbs) (limW_DW _) (limW_DW _) (by omega) (DW_len_mono hge) (by rw [ew_DW, ew_DW]; omega)
      rw [ew_DW, ew_DW] at g4
      have ht := fun s => pc_rtrim (F := F) s nl d g3 (by omega)
      rw [g4] at ht
      have hcv : ¬ cmpI x.natAbs y.natAbs < 0 := by unfold cmpI; rw [if_neg (by omega)]; split <;> omega
      refine ⟨nl, pure_ret h.ashlarref1_Add rfl ?_⟩
      by_cases hx0 : x < 0
      · have hy0 : ¬ y < 0 := fun h => hs ⟨fun _ => h, fun _ => hx0⟩
        have e : sgn true (x.natAbs - y.natAbs) = x + y := by simp only [sgn, if_true]; omega
        have ht := ht true
        rw [e] at ht
        simp (disch := first | omega | simp) [c_ashlarref1_Add, any_pure, hx0, hy0, g1, ht, hcmp, if_pos, decide_eq_true]
      · have hy0 : y < 0 := by
          apply Decidable.byContradiction
          intro h
          exact hs ⟨fun h2 => absurd h2 hx0, fun h2 => absurd h2 h⟩
        have e : sgn false (x.natAbs - y.natAbs) = x + y := by simp only [sgn, Bool.false_eq_true, if_false]; omega
        have ht := ht false
        rw [e] at ht
        simp (disch := first | omega | simp) [c_ashlarref1_Add, any_pure, hx0, hy0, g1, ht, hcmp, if_pos, decide_eq_true]

/-- Sub: the difference. -/
theorem rSub (n1 n2 : Bool) (x y : Int) (hx : (DW x.natAbs).length < 2^38) (hy : (DW y.natAbs).length < 2^38) : ∃ nl, pureCall (run F) 48 [RI n1 x, RI n2 y] = some (RI nl (x - y)) := by
  have hn := rneg (F := F) n2 y (by omega)
  obtain ⟨nl, ha⟩ := rAdd (F := F) n1 n2 x (-y) hx (by rw [Int.natAbs_neg]; exact hy)
  rw [← Int.sub_eq_add_neg] at ha
  refine ⟨nl, pure_ret h.ashlarref1_Sub rfl ?_⟩
  simp [c_ashlarref1_Sub, any_pure, hn, ha]
end Go.Ash
