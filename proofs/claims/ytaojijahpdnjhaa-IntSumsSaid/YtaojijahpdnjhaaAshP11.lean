/- The abstract interpreter of this work and its uses, part 11: AshLimbs12, AshKnuth, AshLimbs13, AshRawUse, AshRef1c, AshRefEq, AshRef1d, AshRef1e, AshRef1f, AshRef1g. -/
import Derived.Test.YtaojijahpdnjhaaAshP10
set_option linter.all false
/- Package limbs: takes, gives, trim of blocks: what their calls leave. -/
namespace Go.Ash
variable {F : Nat → Option RFunc} [h : CodeLimbs F]

theorem leave_pin1 {fn : RFunc} {vars env : List AVal} {b0 : Option Blk} : fn.leave ⟨vars, env, [b0], 1⟩ = (resL ⟨vars, env, [b0], 1⟩ fn.res).map fun vs => (tupled vs, [b0]) := by
  unfold RFunc.leave
  cases resL ⟨vars, env, [b0], 1⟩ fn.res <;> rfl
theorem leave_pin2 {fn : RFunc} {vars env : List AVal} {b0 b1 : Option Blk} : fn.leave ⟨vars, env, [b0, b1], 2⟩ = (resL ⟨vars, env, [b0, b1], 2⟩ fn.res).map fun vs => (tupled vs, [b0, b1]) := by
  unfold RFunc.leave
  cases resL ⟨vars, env, [b0, b1], 2⟩ fn.res <;> rfl

theorem run_takes (A P0 Z Y W : List Nat) (q : Nat) (fz : Bool) (hP : Lim P0) (hY : Lim Y) (hq : q < 4294967296) (hl : P0.length < 2^40) (hPY : P0.length = Y.length + 1) :
    ∃ P b, run F 111 [.mslc 0 A.length P0.length, .mslc 1 0 Y.length, .int .u64 q] [some ⟨false, 1, u32s (A ++ (P0 ++ Z))⟩, some ⟨fz, 1, u32s (Y ++ W)⟩] =
      some (.bool (decide (0 < b)), [some ⟨false, 1, u32s (A ++ (P ++ Z))⟩, some ⟨fz, 1, u32s (Y ++ W)⟩]) ∧ P.length = P0.length ∧ Lim P ∧ b ≤ 1 ∧ ev P0 + B32 ^ P0.length * b = ev P + q * ev Y := by
  obtain ⟨e, st, he, rfl, P, c, b, rfl, h1, h2, h3, h4⟩ := takes_loop (F := F) A P0 Z Y W q fz hP hY hq hl hPY
  refine ⟨P, b, ?_, h1, h2, h3, h4⟩
  rw [run_eq h.limbs_takes rfl]
  simp (disch := omega) [c_limbs_takes, he, leave_pin2]

theorem gives_loop (A P0 Z Y W : List Nat) (fz : Bool) (hP : Lim P0) (hY : Lim Y) (hl : P0.length < 2^40) (hPY : P0.length = Y.length + 1) :
    ∃ e st, (∀ env, exec F l_limbs_gives_0 ⟨[.mslc 0 A.length P0.length, .mslc 1 0 Y.length, .int .u64 0, .und, .int .i64 P0.length, .int .i64 0], env,
        [some ⟨false, 1, u32s (A ++ (P0 ++ Z))⟩, some ⟨fz, 1, u32s (Y ++ W)⟩], 2⟩ = some (e, st)) ∧
      (e = .exit 0 ∧ ∃ (P : List Nat) (c : Nat), st = ⟨[.mslc 0 A.length P0.length, .mslc 1 0 Y.length, .int .u64 c, .und, .int .i64 P0.length, .int .i64 P0.length], [],
        [some ⟨false, 1, u32s (A ++ (P ++ Z))⟩, some ⟨fz, 1, u32s (Y ++ W)⟩], 2⟩ ∧ P.length = P0.length ∧ Lim P ∧ c ≤ 1 ∧ ev P0 + ev Y = ev P + B32 ^ P0.length * c) := by
  refine loop_rule
    (fun n st => ∃ (P : List Nat) (c i : Nat), st = ⟨[.mslc 0 A.length P0.length, .mslc 1 0 Y.length, .int .u64 c, .und, .int .i64 P0.length, .int .i64 i], [],
        [some ⟨false, 1, u32s (A ++ (P ++ Z))⟩, some ⟨fz, 1, u32s (Y ++ W)⟩], 2⟩ ∧ i + n = P0.length ∧ P.length = P0.length ∧ Lim P ∧ c ≤ 1 ∧ (∀ k (h1 : k < P.length) (h2 : k < P0.length), i ≤ k → P[k] = P0[k]) ∧
        ev (P0.take i) + ev (Y.take i) = ev (P.take i) + B32 ^ i * c) _ P0.length _ ?_
    (tidy_pin2 (by simp) (by simp) (by simp)) ⟨P0, 0, 0, rfl, by omega, rfl, hP, by omega, fun _ _ _ _ => rfl, by simp [ev]⟩
  rintro n st ⟨P, c, i, rfl, hn, hlen, hlim, hc, hrest, hev⟩
  rcases Nat.eq_zero_or_pos n with rfl | hpos
  · have hi : i = P0.length := by omega
    subst hi
    refine .out (.exit 0) _ (by simp) ⟨rfl, P, c, rfl, hlen, hlim, hc, ?_⟩ ?_
    · rw [List.take_length, List.take_of_length_le (by omega), List.take_of_length_le (by omega)] at hev
      exact hev
    · simp [after]
  · have hi0 : i < P0.length := by omega
    have hiP : i < P.length := by omega
    have hPi := hlim.get hiP
    have hPe := hrest i hiP hi0 (Nat.le_refl _)
    have e0 := ev_take_succ hi0
    rw [← hPe] at e0
    by_cases hiY : i < Y.length
    · have hYi := hY.get hiY
      have hlo := wrap_u32n (c + P[i] + Y[i])
      have s2 := shr_u64_32 (l := c + P[i] + Y[i])
      refine .more (n - 1) _ (by omega) ⟨P.set i ((c + P[i] + Y[i]) % 4294967296), (c + P[i] + Y[i]) / 4294967296, i + 1, rfl, by omega, by simpa using hlen, lim_set hlim (Nat.mod_lt _ (by decide)), by omega, ?_, ?_⟩ ?_
      · intro k h1 h2 hk
        rw [List.getElem_set_ne (by omega)]
        exact hrest k (by simpa using h1) h2 (by omega)
      · rw [e0, set_plus hiP, ev_take_succ hiY, Nat.pow_succ]
        have hdm := Nat.div_add_mod (c + P[i] + Y[i]) 4294967296
        generalize hMM : c + P[i] + Y[i] = M at *
        have e5 : B32 ^ i * (P[i] + c + Y[i]) = B32 ^ i * (M % 4294967296 + 4294967296 * (M / 4294967296)) := by congr 1; omega
        rw [Nat.mul_assoc]
        simp only [Nat.mul_add] at e5 hev ⊢
        have e8 : B32 ^ i * (B32 * (M / 4294967296)) = B32 ^ i * (4294967296 * (M / 4294967296)) := rfl
        omega
      · have hw1 : IntKind.u64.wrap ((c : Int) + (P[i] : Int)) = ((c + P[i] : Nat) : Int) := by rw [← Int.natCast_add]; exact wrap_u64 (by omega) (by omega)
        have hw2 : IntKind.u64.wrap (((c + P[i] : Nat) : Int) + (Y[i] : Int)) = ((c + P[i] + Y[i] : Nat) : Int) := by rw [← Int.natCast_add]; exact wrap_u64 (by omega) (by omega)
        generalize c + P[i] + Y[i] = M at *
        generalize c + P[i] = M2 at *
        generalize hm1 : M % 4294967296 = m at *
        generalize hm2 : M / 4294967296 = m2 at *
        simp (disch := first | omega | simp) [after, tidy_pin2, get_mid, get_fst, set_mid, if_pos, if_neg, decide_eq_true, putElem, putOne, wrap_i64, wrap_u64, hw1, hw2, hlo, s2, -shiftA_shl, -shiftA_shr]
    · have hYt : Y.take (i + 1) = Y.take i := by rw [List.take_of_length_le (by omega), List.take_of_length_le (by omega)]
      have hlo := wrap_u32n (c + P[i])
      have s2 := shr_u64_32 (l := c + P[i])
      refine .more (n - 1) _ (by omega) ⟨P.set i ((c + P[i]) % 4294967296), (c + P[i]) / 4294967296, i + 1, rfl, by omega, by simpa using hlen, lim_set hlim (Nat.mod_lt _ (by decide)), by omega, ?_, ?_⟩ ?_
      · intro k h1 h2 hk
        rw [List.getElem_set_ne (by omega)]
        exact hrest k (by simpa using h1) h2 (by omega)
      · rw [e0, set_plus hiP, hYt, Nat.pow_succ]
        generalize hMM : c + P[i] = M at *
        have hdm := Nat.div_add_mod M 4294967296
        have e5 : B32 ^ i * (P[i] + c) = B32 ^ i * (M % 4294967296 + 4294967296 * (M / 4294967296)) := by congr 1; omega
        rw [Nat.mul_assoc]
        simp only [Nat.mul_add] at e5 hev ⊢
        have e8 : B32 ^ i * (B32 * (M / 4294967296)) = B32 ^ i * (4294967296 * (M / 4294967296)) := rfl
        omega
      · have hw1 : IntKind.u64.wrap ((c : Int) + (P[i] : Int)) = ((c + P[i] : Nat) : Int) := by rw [← Int.natCast_add]; exact wrap_u64 (by omega) (by omega)
        generalize c + P[i] = M at *
        generalize hm1 : M % 4294967296 = m at *
        generalize hm2 : M / 4294967296 = m2 at *
        simp (disch := first | omega | simp) [after, tidy_pin2, get_mid, get_fst, set_mid, if_pos, if_neg, decide_eq_true, decide_eq_false, putElem, putOne, wrap_i64, wrap_u64, hw1, hlo, s2, -shiftA_shl, -shiftA_shr]

theorem run_gives (A P0 Z Y W : List Nat) (fz : Bool) (hP : Lim P0) (hY : Lim Y) (hl : P0.length < 2^40) (hPY : P0.length = Y.length + 1) :
    ∃ P c, run F 112 [.mslc 0 A.length P0.length, .mslc 1 0 Y.length] [some ⟨false, 1, u32s (A ++ (P0 ++ Z))⟩, some ⟨fz, 1, u32s (Y ++ W)⟩] =
      some (.tup [], [some ⟨false, 1, u32s (A ++ (P ++ Z))⟩, some ⟨fz, 1, u32s (Y ++ W)⟩]) ∧ P.length = P0.length ∧ Lim P ∧ c ≤ 1 ∧ ev P0 + ev Y = ev P + B32 ^ P0.length * c := by
  obtain ⟨e, st, he, rfl, P, c, rfl, h1, h2, h3, h4⟩ := gives_loop (F := F) A P0 Z Y W fz hP hY hl hPY
  refine ⟨P, c, ?_, h1, h2, h3, h4⟩
  rw [run_eq h.limbs_gives rfl]
  simp (disch := omega) [c_limbs_gives, he, leave_pin2]

theorem tidy_pin1 {live : List Bool} {vars env : List AVal} {b0 : Blk} (hv : idsL (mask live vars) = [0]) (h0 : idsL b0.elems = []) :
    tidy live ⟨vars, env, [some b0], 1⟩ = some ⟨mask live vars, [], [some b0], 1⟩ := by
  refine tidy_keep ?_ ?_
  · simp [hv, reach, fuelIds, Heap.at, h0, List.range_succ]
  · intro x hx k hk y hy
    simp at hx
    subst hx; cases hk
    rw [h0] at hy; cases hy

/-- trim, of a block. -/
theorem trim_loop_m (l : List Nat) (fz : Bool) (hl : Lim l) (hlen : l.length < 2^40) : ∃ e st, (∀ env,
    exec F l_limbs_trim_0 ⟨[.mslc 0 0 l.length, .slc true [], .int .i64 l.length], env, [some ⟨fz, 1, u32s l⟩], 1⟩ = some (e, st)) ∧
      (e = .exit 0 ∧ st = ⟨[.mslc 0 0 l.length, .und, .int .i64 (D (ev l)).length], [], [some ⟨fz, 1, u32s l⟩], 1⟩) := by
  refine loop_rule
    (fun n st => st = ⟨[.mslc 0 0 l.length, .und, .int .i64 n], [], [some ⟨fz, 1, u32s l⟩], 1⟩ ∧ n ≤ l.length ∧ ev (l.take n) = ev l) _ l.length _ ?_
    (tidy_pin1 (by simp) (by simp)) ⟨rfl, Nat.le_refl _, by simp⟩
  rintro n st ⟨rfl, hn, hev⟩
  rcases Nat.eq_zero_or_pos n with rfl | hpos
  · refine .out (.exit 0) _ (by simp) ⟨rfl, rfl⟩ ?_
    rw [← hev]
    simp [after, ev, D_zero]
  · obtain ⟨n, rfl⟩ : ∃ k, n = k + 1 := ⟨n - 1, by omega⟩
    have hnl : n < l.length := hn
    by_cases h0 : l[n] = 0
    · refine .more n _ (by omega) ⟨rfl, by omega, ?_⟩ ?_
      · rw [← hev, ev_take_succ hnl, h0]; simp
      · simp (disch := first | omega | simp) [after, tidy_pin1, if_pos, if_neg, decide_eq_true, wrap_i64, get?_u32s, h0]
    · have ht : D (ev l) = l.take (n + 1) := by
        rw [← hev]
        refine D_ev (lim_take hl _) (fun hne => ?_)
        rw [List.getLast_eq_getElem]
        simp only [List.length_take, Nat.min_eq_left hn, Nat.add_sub_cancel, List.getElem_take]
        exact h0
      have hlen' : (D (ev l)).length = n + 1 := by rw [ht]; simp; omega
      refine .out (.exit 0) _ (by simp) ⟨rfl, rfl⟩ ?_
      rw [hlen']
      simp (disch := first | omega | simp) [after, if_pos, if_neg, decide_eq_true, wrap_i64, get?_u32s, h0]

theorem run_trim (l : List Nat) (fz : Bool) (hl : Lim l) (hlen : l.length < 2^40) : run F 107 [.mslc 0 0 l.length] [some ⟨fz, 1, u32s l⟩] = some (.mslc 0 0 (D (ev l)).length, [some ⟨fz, 1, u32s l⟩]) := by
  obtain ⟨e, st, he, rfl, rfl⟩ := trim_loop_m (F := F) l fz hl hlen
  have hle : (D (ev l)).length ≤ l.length := D_len_le (ev_lt hl)
  rw [run_eq h.limbs_trim rfl]
  simp (disch := omega) [c_limbs_trim, he, if_pos, leave_pin1]
end Go.Ash
/- Long division of limbs, limb by limb: plain arithmetic. -/
namespace Go.Ash

theorem knuth_arith {B p x y X Y g lx ly : Nat} (hX : X = lx + p * x) (hlx : lx < p) (hY : Y = ly + p * y) (hly : ly < p) (hyB : B ≤ y) (hB : 0 < B) (hg : g < B) (hgx : g * y ≤ x)
    (hmax : ∀ t, t < B → t * y ≤ x → t ≤ g) (hlt : X < B * Y) : X / Y ≤ g ∧ g ≤ X / Y + 1 := by
  have hp : 0 < p := by omega
  have hYp : B * p ≤ Y := by
    have : p * B ≤ p * y := Nat.mul_le_mul_left _ hyB
    rw [Nat.mul_comm B]; omega
  have hYpos : 0 < Y := Nat.lt_of_lt_of_le (Nat.mul_pos hB hp) hYp
  have h1 : X / Y < B := (Nat.div_lt_iff_lt_mul hYpos).2 hlt
  have h2 : X / Y * Y ≤ X := Nat.div_mul_le_self X Y
  have h3 : X < (X / Y + 1) * Y := by
    have := Nat.div_add_mod X Y
    have := Nat.mod_lt X hYpos
    rw [Nat.succ_mul, Nat.mul_comm]; omega
  generalize X / Y = q at *
  constructor
  · refine hmax q h1 ?_
    have h4 : p * (q * y) ≤ q * Y := by
      rw [hY, Nat.mul_add, Nat.mul_left_comm p]; omega
    have h5 : p * (q * y) < p * (x + 1) := by rw [Nat.mul_succ]; omega
    have := Nat.lt_of_mul_lt_mul_left h5
    omega
  · apply Nat.le_of_not_lt
    intro h
    have h4 : (q + 1) * Y + Y ≤ g * Y := by rw [← Nat.succ_mul]; exact Nat.mul_le_mul_right _ h
    have h5 : g * Y = g * ly + p * (g * y) := by rw [hY, Nat.mul_add, Nat.mul_left_comm p]
    have h6 : p * (g * y) ≤ p * x := Nat.mul_le_mul_left _ hgx
    have h7 : g * ly ≤ B * p := Nat.mul_le_mul (by omega) (by omega)
    omega

theorem ev_split2 {l : List Nat} {n : Nat} (hn : n + 2 = l.length) : ev l = ev (l.take n) + B32 ^ n * (l[n + 1]'(by omega) * B32 + l[n]'(by omega)) := by
  have h1 := ev_take_succ (l := l) (i := n) (by omega)
  have h2 := ev_take_succ (l := l) (i := n + 1) (by omega)
  rw [List.take_of_length_le (by omega)] at h2
  rw [h2, h1, Nat.pow_succ, Nat.mul_add, Nat.mul_assoc, Nat.mul_comm B32 (l[n + 1]'(by omega))]
  omega

theorem ev_split3 {l : List Nat} {n : Nat} (hn : n + 3 = l.length) : ev l = ev (l.take n) + B32 ^ n * ((l[n + 2]'(by omega) * B32 + l[n + 1]'(by omega)) * B32 + l[n]'(by omega)) := by
  have h1 := ev_take_succ (l := l) (i := n) (by omega)
  have h2 := ev_take_succ (l := l) (i := n + 1) (by omega)
  have h3 := ev_take_succ (l := l) (i := n + 2) (by omega)
  rw [List.take_of_length_le (by omega)] at h3
  have e1 : B32 ^ (n + 1) = B32 ^ n * B32 := by rw [Nat.pow_succ]
  have e2 : B32 ^ (n + 2) = B32 ^ n * B32 * B32 := by rw [Nat.pow_succ, Nat.pow_succ]
  have a1 : B32 ^ (n + 1) * l[n + 1]'(by omega) = B32 ^ n * (l[n + 1]'(by omega) * B32) := by rw [e1, Nat.mul_assoc, Nat.mul_comm B32]
  have a2 : B32 ^ (n + 2) * l[n + 2]'(by omega) = B32 ^ n * (l[n + 2]'(by omega) * B32 * B32) := by
    rw [e2, Nat.mul_assoc, Nat.mul_assoc, Nat.mul_comm B32 (B32 * _), Nat.mul_comm B32 (l[n + 2]'(by omega))]
  rw [h3, h2, h1, a1, a2, Nat.add_mul, Nat.mul_add, Nat.mul_add]
  omega

/-- One limb of a quotient. -/
theorem knuth {P Y : List Nat} {n : Nat} (hP : Lim P) (hY : Lim Y) (hn : n + 2 = Y.length) (hl : P.length = Y.length + 1) (hlt : ev P < B32 * ev Y) (hy : 2147483648 ≤ Y[n + 1]'(by omega)) :
    P[n + 2]'(by omega) ≤ Y[n + 1]'(by omega) ∧ ∀ g, g < B32 → g * (Y[n + 1]'(by omega) * B32 + Y[n]'(by omega)) ≤ (P[n + 2]'(by omega) * B32 + P[n + 1]'(by omega)) * B32 + P[n]'(by omega) →
      (∀ t, t < B32 → t * (Y[n + 1]'(by omega) * B32 + Y[n]'(by omega)) ≤ (P[n + 2]'(by omega) * B32 + P[n + 1]'(by omega)) * B32 + P[n]'(by omega) → t ≤ g) → ev P / ev Y ≤ g ∧ g ≤ ev P / ev Y + 1 := by
  have e1 := ev_split2 hn
  have e2 := ev_split3 (l := P) (n := n) (by omega)
  have l1 := ev_lt (lim_take hY n)
  have l2 := ev_lt (lim_take hP n)
  rw [List.length_take, Nat.min_eq_left (by omega)] at l1 l2
  have y0 := hY.get (i := n) (by omega)
  have x1 := hP.get (i := n + 1) (by omega)
  have x0 := hP.get (i := n) (by omega)
  refine ⟨?_, fun g hg hgx hmax => knuth_arith e2 l2 e1 l1 (by show 4294967296 ≤ _ * 4294967296 + _; omega) (by decide) hg hgx hmax hlt⟩
  apply Nat.le_of_not_lt
  intro h
  have h1 : ev Y < B32 ^ n * (B32 * (Y[n + 1]'(by omega) + 1)) := by
    have h2 : Y[n + 1]'(by omega) * B32 + Y[n]'(by omega) + 1 ≤ B32 * (Y[n + 1]'(by omega) + 1) := by
      show _ * 4294967296 + _ + 1 ≤ 4294967296 * _
      omega
    have h3 := Nat.mul_le_mul_left (B32 ^ n) h2
    rw [Nat.mul_succ] at h3
    omega
  have h4 : B32 * ev Y ≤ B32 ^ n * (B32 * (Y[n + 1]'(by omega) + 1)) * B32 := by
    rw [Nat.mul_comm]; exact Nat.mul_le_mul_right _ (Nat.le_of_lt h1)
  have h5 : B32 ^ n * (B32 * (Y[n + 1]'(by omega) + 1)) * B32 ≤ B32 ^ n * ((P[n + 2]'(by omega) * B32 + P[n + 1]'(by omega)) * B32 + P[n]'(by omega)) := by
    rw [Nat.mul_assoc]
    apply Nat.mul_le_mul_left
    have h6 : B32 * (Y[n + 1]'(by omega) + 1) ≤ P[n + 2]'(by omega) * B32 + P[n + 1]'(by omega) := by
      show 4294967296 * _ ≤ _ * 4294967296 + _
      omega
    exact Nat.le_trans (Nat.mul_le_mul_right B32 h6) (Nat.le_add_right _ _)
  omega

/-- What is taken off and given back. -/
theorem knuth_off {M P0 P1 P2 Y g b c : Nat} (hY : 0 < Y) (h1 : P1 < M) (h2 : P2 < M) (hb : b ≤ 1) (hc : c ≤ 1) (e1 : P0 + M * b = P1 + g * Y) (e2 : P1 + Y = P2 + M * c) (hq1 : P0 / Y ≤ g) (hq2 : g ≤ P0 / Y + 1) :
    (b = 0 → g = P0 / Y ∧ P1 = P0 % Y) ∧ (b = 1 → g = P0 / Y + 1 ∧ P2 = P0 % Y) := by
  have hd := Nat.div_add_mod P0 Y
  have hm := Nat.mod_lt P0 hY
  have e3 : P0 / Y * Y = Y * (P0 / Y) := Nat.mul_comm _ _
  generalize hqq : P0 / Y = q at *
  generalize P0 % Y = m at *
  have e4 : (q + 1) * Y = Y * q + Y := by rw [Nat.succ_mul, e3]
  clear hqq
  constructor
  · rintro rfl
    rcases (by omega : g = q ∨ g = q + 1) with rfl | rfl
    · exact ⟨rfl, by omega⟩
    · exfalso; rw [e4] at e1; omega
  · rintro rfl
    rcases (by omega : g = q ∨ g = q + 1) with rfl | rfl
    · exfalso; rw [e3] at e1; omega
    · rw [e4] at e1
      refine ⟨rfl, ?_⟩
      rcases (by omega : c = 0 ∨ c = 1) with rfl | rfl
      · exfalso; omega
      · omega
end Go.Ash
/- Package limbs: divide. -/
namespace Go.Ash
variable {F : Nat → Option RFunc} [h : CodeLimbs F]

@[simp] theorem any_raw {call : CallF} {f : Nat} {vs : List AVal} {H : Heap} : anyCall call true f vs H = rawCall call f vs H := rfl

@[simp] theorem bounds_tt {n k k' l h} : bounds n true true false [.int k l, .int k' h] = if 0 ≤ l ∧ l ≤ h ∧ h ≤ n then some (l.toNat, h.toNat) else none := by
  simp only [bounds]
  by_cases h1 : 0 ≤ h ∧ h ≤ n
  · rw [if_pos h1, Option.bind_some]
    by_cases h2 : 0 ≤ l ∧ l ≤ ((h.toNat : Nat) : Int)
    · rw [if_pos h2, if_pos (by omega)]; rfl
    · rw [if_neg h2, if_neg (by omega)]; rfl
  · rw [if_neg h1, if_neg (by omega)]; rfl

theorem slice_pick {id l h : Nat} (hlt : l < h) : (if l = 0 then AVal.mslc id 0 h else if l = h then .slc false [] else .mslc id l (h - l)) = .mslc id l (h - l) := by
  by_cases h0 : l = 0
  · subst h0; simp
  · rw [if_neg h0, if_neg (by omega)]

theorem tidy_three {live : List Bool} {vars env : List AVal} {b0 b1 b2 : Blk} (hv : idsL (mask live vars) = [0, 1, 2]) (h0 : idsL b0.elems = []) (h1 : idsL b1.elems = []) (h2 : idsL b2.elems = []) :
    tidy live ⟨vars, env, [some b0, some b1, some b2], 0⟩ = some ⟨mask live vars, [], [some b0, some b1, some b2], 0⟩ := by
  refine tidy_keep ?_ ?_
  · simp [hv, reach, fuelIds, Heap.at, h0, h1, h2, List.range_succ]
  · intro x hx k hk y hy
    simp at hx
    rcases hx with rfl | rfl | rfl <;> cases hk
    · rw [h0] at hy; cases hy
    · rw [h1] at hy; cases hy
    · rw [h2] at hy; cases hy

theorem blk_ren {ρ : Nat → Nat} {b : Blk} (h : idsL b.elems = []) : Blk.ren ρ b = b := by
  unfold Blk.ren; rw [renL_self _ _ h]

theorem raw_23 {call : CallF} {f : Nat} {args : List AVal} {b0 b1 b2 c0 c1 : Blk} {v : AVal} (hi : idsL args = [0, 1]) (h0 : idsL b0.elems = []) (h1 : idsL b1.elems = [])
    (hc : call f args [some b0, some b1] = some (v, [some c0, some c1])) (hv : v.ids = []) (hc0 : idsL c0.elems = []) (hc1 : idsL c1.elems = []) :
    rawCall call f args [some b0, some b1, some b2] = some (v, [some c0, some c1, some b2]) := by
  have hr : reach [some b0, some b1, some b2] fuelIds [0, 1] [] = some [0, 1] := by simp [reach, fuelIds, Heap.at, h0, h1]
  have hp : ∀ y, y < 2 → place [0, 1] y = y := by intro y hy; rcases (by omega : y = 0 ∨ y = 1) with rfl | rfl <;> rfl
  have ha : renL (place [0, 1]) args = args := renL_below (n := 2) hp args (fun y hy => by rw [hi] at hy; simp at hy; omega)
  have hk : pack [some b0, some b1, some b2] [0, 1] = [some b0, some b1] := by simp [pack, Heap.at, blk_ren h0, blk_ren h1]
  unfold rawCall
  rw [hi, hr]
  simp [ha, hk, hc, ren_self _ _ hv, putBack, blk_ren hc0, blk_ren hc1]

theorem ev_zero_of_lt {l : List Nat} {n k : Nat} (h : ev l < B32 ^ n) (hk : n ≤ k) : ev (l.drop k) = 0 := by
  have e : ev l = ev (l.take k) + B32 ^ (l.take k).length * ev (l.drop k) := by rw [← ev_append, List.take_append_drop]
  rcases Nat.eq_zero_or_pos (ev (l.drop k)) with h0 | h0
  · exact h0
  · have hl : k ≤ l.length := by
      apply Nat.le_of_not_lt
      intro h2
      rw [List.drop_of_length_le (by omega)] at h0
      simp [ev] at h0
    rw [List.length_take, Nat.min_eq_left hl] at e
    have h1 : B32 ^ k * 1 ≤ B32 ^ k * ev (l.drop k) := Nat.mul_le_mul_left _ h0
    have h2 : B32 ^ n ≤ B32 ^ k := Nat.pow_le_pow_right (by decide) hk
    omega

set_option maxHeartbeats 4000000 in
/-- The loop of divide: one limb of the quotient after the other. -/
theorem divide_loop (v0 v1 : AVal) (R0 Y W : List Nat) (k : Nat) (m : Nat) (hR : Lim R0) (hY : Lim Y) (hm : m + 2 = Y.length) (hy : 2147483648 ≤ Y[m + 1]'(by omega)) (hl : R0.length < 2^40) (hYR : Y.length < R0.length)
    (htop : ev (R0.drop (R0.length - Y.length)) < ev Y) :
    ∃ e st, (∀ env, exec F l_limbs_divide_0 ⟨[v0, v1, .slc true [], .slc true [], .und, .und, .int .i64 k, .int .i64 Y.length, .mslc 0 0 R0.length, .mslc 1 0 Y.length, .mslc 2 0 (R0.length - Y.length), .int .i64 ((R0.length : Int) - Y.length - 1), .und, .und], env,
        [some ⟨false, 1, u32s R0⟩, some ⟨false, 1, u32s (Y ++ W)⟩, some ⟨false, 1, u32s (List.replicate (R0.length - Y.length) 0)⟩], 0⟩ = some (e, st)) ∧
      (e = .exit 0 ∧ ∃ (R Q : List Nat), st = ⟨[.und, .und, .und, .und, .und, .und, .int .i64 k, .int .i64 Y.length, .mslc 0 0 R0.length, .mslc 1 0 Y.length, .mslc 2 0 (R0.length - Y.length), .int .i64 (-1), .und, .und], [],
        [some ⟨false, 1, u32s R⟩, some ⟨false, 1, u32s (Y ++ W)⟩, some ⟨false, 1, u32s Q⟩], 0⟩ ∧ R.length = R0.length ∧ Lim R ∧ Q.length = R0.length - Y.length ∧ Lim Q ∧ ev R < ev Y ∧ ev R0 = ev R + ev Y * ev Q) := by
  have hz0 : ∀ k, ev (List.replicate k 0) = 0 := fun k => by have := ev_zeros [] k; simpa [ev] using this
  have hYlt := ev_lt hY
  have hYpos : 0 < ev Y := by
    rw [ev_split2 hm]
    have h2 : 0 < B32 ^ m * (Y[m + 1]'(by omega) * B32 + Y[m]'(by omega)) := Nat.mul_pos (Nat.pow_pos (by decide)) (by show 0 < _ * 4294967296 + _; omega)
    omega
  have hcast : ((R0.length - Y.length : Nat) : Int) = (R0.length : Int) - Y.length := by omega
  refine loop_rule
    (fun j st => ∃ (R Q : List Nat), st = ⟨[.und, .und, .und, .und, .und, .und, .int .i64 k, .int .i64 Y.length, .mslc 0 0 R0.length, .mslc 1 0 Y.length, .mslc 2 0 (R0.length - Y.length), .int .i64 ((j : Int) - 1), .und, .und], [],
        [some ⟨false, 1, u32s R⟩, some ⟨false, 1, u32s (Y ++ W)⟩, some ⟨false, 1, u32s Q⟩], 0⟩ ∧ j ≤ R0.length - Y.length ∧ R.length = R0.length ∧ Lim R ∧ Q.length = R0.length - Y.length ∧ Lim Q ∧ ev (R.drop j) < ev Y ∧
        (∀ t (ht : t < Q.length), t < j → Q[t] = 0) ∧ ev R0 = ev R + ev Y * ev Q)
    _
    (R0.length - Y.length) _ ?_ (tidy_three (by simp) (by simp) (by simp) (by simp))
    ⟨R0, _, by rw [hcast]; rfl, Nat.le_refl _, rfl, hR, by simp, lim_replicate _, htop, fun t ht _ => by simp, by rw [hz0]; simp⟩
  rintro j st ⟨R, Q, rfl, hj, hRl, hRlim, hQl, hQlim, hlt, hQz, hsum⟩
  rcases Nat.eq_zero_or_pos j with rfl | hpos
  · refine .out (.exit 0) _ (by simp) ⟨rfl, R, Q, rfl, hRl, hRlim, hQl, hQlim, by simpa using hlt, hsum⟩ ?_
    simp [after]
  · obtain ⟨i, rfl⟩ : ∃ i, j = i + 1 := ⟨j - 1, by omega⟩
    obtain ⟨A, P0, Z, rfl, rfl, hP0⟩ : ∃ A P Z, R = A ++ (P ++ Z) ∧ A.length = i ∧ P.length = Y.length + 1 :=
      ⟨R.take i, (R.drop i).take (Y.length + 1), (R.drop i).drop (Y.length + 1), by rw [List.take_append_drop, List.take_append_drop], by rw [List.length_take]; omega, by rw [List.length_take, List.length_drop]; omega⟩
    have hlenR : A.length + (P0.length + Z.length) = R0.length := by simpa using hRl
    have hP : Lim P0 := fun x hx => hRlim x (by simp [hx])
    have hZl : Lim Z := fun x hx => hRlim x (by simp [hx])
    have hAl : Lim A := fun x hx => hRlim x (by simp [hx])
    have hP0' : ∀ q (hq : q < P0.length), P0[q] < 4294967296 := fun q hq => hP.get hq
    -- what stands above the part is nought
    have hdropA : (A ++ (P0 ++ Z)).drop (A.length + 1) = P0.drop 1 ++ Z := by
      rw [List.drop_append, List.drop_of_length_le (by omega), List.nil_append, List.drop_append]
      rw [show A.length + 1 - A.length = 1 from by omega, show 1 - P0.length = 0 from by omega, List.drop_zero]
    rw [hdropA] at hlt
    have hZ0 : ev Z = 0 := by
      have := ev_zero_of_lt (l := P0.drop 1 ++ Z) (n := Y.length) (k := Y.length) (Nat.lt_trans hlt hYlt) (Nat.le_refl _)
      rw [List.drop_append, List.drop_of_length_le (by simp; omega), List.nil_append] at this
      simpa [hP0] using this
    have hPd : ev (P0.drop 1) < ev Y := by rw [ev_append, hZ0] at hlt; simpa using hlt
    have hPB : ev P0 < B32 * ev Y := by
      have e := drop_ev (l := P0) (i := 0) (by omega)
      rw [List.drop_zero] at e
      have h0 := hP0' 0 (by omega)
      have : B32 * (ev (P0.drop 1) + 1) ≤ B32 * ev Y := Nat.mul_le_mul_left _ hPd
      rw [Nat.mul_add] at this
      rw [e]
      show P0[0] + B32 * ev (P0.drop 1) < _
      have hh : B32 * 1 = 4294967296 := rfl
      omega
    obtain ⟨hx2, hk⟩ := knuth hP hY hm hP0 hPB hy
    obtain ⟨g, hg, hg1, hg2, hg3⟩ := pc_guess (F := F) (P0[m + 2]'(by omega)) (P0[m + 1]'(by omega)) (P0[m]'(by omega)) (Y[m + 1]'(by omega)) (Y[m]'(by omega)) hx2 (hP0' _ _) (hP0' _ _) hy (hY.get _) (hY.get _)
    obtain ⟨hk1, hk2⟩ := hk g hg1 hg2 hg3
    obtain ⟨P1, b, ht, hP1l, hP1, hb, hbe⟩ := run_takes (F := F) A P0 Z Y W g false hP hY hg1 (by omega) hP0
    obtain ⟨P2, c, hgv, hP2l, hP2, hc, hce⟩ := run_gives (F := F) A P1 Z Y W false hP1 hY (by omega) (by omega)
    have hP1lt := ev_lt hP1
    have hP2lt := ev_lt hP2
    rw [hP2l] at hP2lt
    rw [← hP1l] at hbe
    obtain ⟨hoff0, hoff1⟩ := knuth_off hYpos hP1lt hP2lt hb hc hbe hce hk1 hk2
    have hAQ : A.length < Q.length := by omega
    have hQ0 := hQz A.length hAQ (by omega)
    have hset := set_ev hAQ (ev P0 / ev Y)
    rw [hQ0] at hset
    have hqlt : ev P0 / ev Y < 4294967296 := Nat.lt_of_le_of_lt hk1 hg1
    have hmod := Nat.mod_lt (ev P0) hYpos
    have hdm := Nat.div_add_mod (ev P0) (ev Y)
    -- the claim at the next head, for the part that is left
    have next : ∀ P : List Nat, P.length = P0.length → Lim P → ev P = ev P0 % ev Y →
        (A ++ (P ++ Z)).length = R0.length ∧ Lim (A ++ (P ++ Z)) ∧ (Q.set A.length (ev P0 / ev Y)).length = R0.length - Y.length ∧ Lim (Q.set A.length (ev P0 / ev Y)) ∧ ev ((A ++ (P ++ Z)).drop A.length) < ev Y ∧
        (∀ t (ht : t < (Q.set A.length (ev P0 / ev Y)).length), t < A.length → (Q.set A.length (ev P0 / ev Y))[t] = 0) ∧ ev R0 = ev (A ++ (P ++ Z)) + ev Y * ev (Q.set A.length (ev P0 / ev Y)) := by
      intro P hPl hPlim hPe
      refine ⟨by simp; omega, lim_append hAl (lim_append hPlim hZl), by simpa using hQl, lim_set hQlim hqlt, ?_, ?_, ?_⟩
      · rw [List.drop_append, List.drop_of_length_le (Nat.le_refl _), Nat.sub_self, List.drop_zero, List.nil_append, ev_append, hZ0, hPe]
        simpa using hmod
      · intro t ht htA
        rw [List.getElem_set_ne (by omega)]
        exact hQz t (by simpa using ht) (by omega)
      · rw [hsum, ev_append, ev_append, ev_append, ev_append, hZ0, hPe]
        simp only [Nat.mul_zero, Nat.add_zero] at hset ⊢
        rw [hset, Nat.mul_add (ev Y), Nat.mul_left_comm (ev Y)]
        have : B32 ^ A.length * ev P0 = B32 ^ A.length * (ev Y * (ev P0 / ev Y)) + B32 ^ A.length * (ev P0 % ev Y) := by rw [← Nat.mul_add, hdm]
        omega
    have t1 : ((A.length : Int) + Y.length).toNat = A.length + (m + 2) := by omega
    have t2 : ((A.length : Int) + Y.length - 1).toNat = A.length + (m + 1) := by omega
    have t3 : ((A.length : Int) + Y.length - 2).toNat = A.length + m := by omega
    have t4 : ((Y.length : Int) - 1).toNat = m + 1 := by omega
    have t5 : ((Y.length : Int) - 2).toNat = m := by omega
    have t6 : ((A.length : Int) + Y.length + 1).toNat = A.length + P0.length := by omega
    have t7 : A.length + P0.length - A.length = P0.length := by omega
    have hidx : ((A.length + 1 : Nat) : Int) - 1 = A.length := by omega
    have m2 : m + 2 < P0.length := by omega
    have m1 : m + 1 < P0.length := by omega
    have m0 : m < P0.length := by omega
    have y1 : m + 1 < Y.length := by omega
    have y0 : m < Y.length := by omega
    have hpick : (if A = [] then AVal.mslc 0 0 (A.length + P0.length) else if P0 = [] then AVal.slc false [] else AVal.mslc 0 A.length P0.length) = .mslc 0 A.length P0.length := by
      have hne : P0 ≠ [] := by intro h; rw [h] at hP0; simp at hP0
      by_cases hA : A = []
      · subst hA; simp
      · rw [if_neg hA, if_neg hne]
    have raw1 := raw_23 (call := run F) (f := 111) (args := [.mslc 0 A.length P0.length, .mslc 1 0 Y.length, .int .u64 g]) (b2 := ⟨false, 1, u32s Q⟩) (by simp) (by simp) (by simp) ht (by simp) (by simp) (by simp)
    rw [hidx]
    rcases (by omega : b = 0 ∨ b = 1) with rfl | rfl
    · obtain ⟨hge, hPe⟩ := hoff0 rfl
      obtain ⟨n1, n2, n3, n4, n5, n6, n7⟩ := next P1 hP1l hP1 hPe
      refine .more A.length _ (by omega) ⟨A ++ (P1 ++ Z), Q.set A.length (ev P0 / ev Y), rfl, by omega, n1, n2, n3, n4, n5, n6, n7⟩ ?_
      rw [← hge] at hqlt ⊢
      clear hoff0 hoff1 next hbe hce hk hk1 hk2 hg2 hg3 hdm hmod hset hsum hPB hPd hlt hP1lt hP2lt hYlt hYpos htop hx2 hPe hgv ht n1 n2 n3 n4 n5 n6 n7 hQz hQ0 hz0
      simp (disch := first | omega | simp) [after, tidy_three, get_mid, get_fst, hpick, if_pos, if_neg, decide_eq_true, putElem, putOne, wrap_i64, wrap_u32, any_pure, t1, t2, t3, t4, t5, t6, t7, hg, raw1, get?_u32s, set_u32n]
    · obtain ⟨hge, hPe⟩ := hoff1 rfl
      obtain ⟨n1, n2, n3, n4, n5, n6, n7⟩ := next P2 (by omega) hP2 hPe
      have raw2 := raw_23 (call := run F) (f := 112) (args := [.mslc 0 A.length P1.length, .mslc 1 0 Y.length]) (b2 := ⟨false, 1, u32s Q⟩) (by simp) (by simp) (by simp) hgv (by simp) (by simp) (by simp)
      rw [hP1l] at raw2
      refine .more A.length _ (by omega) ⟨A ++ (P2 ++ Z), Q.set A.length (ev P0 / ev Y), rfl, by omega, n1, n2, n3, n4, n5, n6, n7⟩ ?_
      have hg1' : (g : Int) - 1 = ((ev P0 / ev Y : Nat) : Int) := by omega
      clear hoff0 hoff1 next hbe hce hk hk1 hk2 hg2 hg3 hdm hmod hset hsum hPB hPd hlt hP1lt hP2lt hYlt hYpos htop hx2 hPe hgv ht n1 n2 n3 n4 n5 n6 n7 hQz hQ0 hz0
      generalize ev P0 / ev Y = qq at *
      simp (disch := first | omega | simp) [after, tidy_three, get_mid, get_fst, hpick, if_pos, if_neg, decide_eq_true, putElem, putOne, wrap_i64, wrap_u64, wrap_u32, any_pure, t1, t2, t3, t4, t5, t6, t7, hg, raw1, raw2, get?_u32s, set_u32n, hg1']
end Go.Ash
/- Calls that keep their blocks, and what is handed on: the usual cases. -/
namespace Go.Ash

theorem at_lt {H : Heap} {id : Nat} {b : Blk} (h : H.at id = some b) : id < H.length := by
  rw [heap_at_eq] at h
  apply Nat.lt_of_not_le
  intro hle
  rw [List.getElem?_eq_none hle] at h
  simp at h

theorem reach_at {H : Heap} {id : Nat} {b : Blk} (h : H.at id = some b) (hb : idsL b.elems = []) : reach H fuelIds [id] [] = some [id] := by
  simp [reach, fuelIds, h, hb]

/-- One block is handed down and comes back. -/
theorem raw_at {call : CallF} {f : Nat} {H : Heap} {id off len off' len' : Nat} {b c : Blk} (h : H.at id = some b) (hb : idsL b.elems = []) (hc : call f [.mslc 0 off len] [some b] = some (.mslc 0 off' len', [some c]))
    (hcb : idsL c.elems = []) : rawCall call f [.mslc id off len] H = some (.mslc id off' len', H.set id (some c)) := by
  have hlt := at_lt h
  have hr := reach_at h hb
  have hp : place [id] id = 0 := by simp [place]
  have hk : pack H [id] = [some b] := by simp [pack, h, blk_ren hb]
  unfold rawCall
  rw [show idsL [AVal.mslc id off len] = [id] from rfl, hr]
  simp [hlt, hp, hk, hc, putBack, blk_ren hcb, back]

/-- No block is handed down, a new one comes back. -/
theorem raw_new {call : CallF} {f : Nat} {args : List AVal} {H : Heap} {off len : Nat} {b : Blk} (hi : idsL args = []) (hc : call f args [] = some (.mslc 0 off len, [some b])) (hb : idsL b.elems = []) :
    rawCall call f args H = some (.mslc H.length off len, H ++ [some b]) := by
  unfold rawCall
  rw [hi]
  have hr : reach H fuelIds [] [] = some [] := rfl
  rw [hr]
  simp [pack, renL_self _ _ hi, hc, putBack, back, blk_ren hb]

theorem tree_at {H : Heap} {id len n esz : Nat} {fz : Bool} {l : List Nat} (h : H.at id = some ⟨fz, esz, u32s l⟩) (hle : len ≤ l.length) : AVal.tree H (n + 2) (.mslc id 0 len) = some (.slc false (u32s (l.take len)), [id]) := by
  simp only [AVal.tree, h, length_u32s, Nat.zero_add, hle, if_true, List.drop_zero, u32s_take, treeL_free (n := n) (idsL_u32s _), Option.map_some]

theorem hand_at {H : Heap} {id len esz : Nat} {fz : Bool} {l : List Nat} {rest : List AVal} (h : H.at id = some ⟨fz, esz, u32s l⟩) (hle : len ≤ l.length) (hr : idsL rest = []) :
    handOn (.mslc id 0 len :: rest) H = some (.slc false (u32s (l.take len)) :: rest, freeze H [id]) := by
  have h1 : treeL H fuelTree (.mslc id 0 len :: rest) = some (.slc false (u32s (l.take len)) :: rest, [id]) := by
    unfold fuelTree
    rw [treeL_cons (by simp), tree_at h hle, treeL_free (n := 38) hr]
    simp
  simp [handOn, h1]

theorem tup2_first {H : Heap} {id len esz : Nat} {fz : Bool} {l : List Nat} {v : AVal} (h : H.at id = some ⟨fz, esz, u32s l⟩) (hle : len ≤ l.length) (hv : v.ids = []) :
    treeL H fuelTree [.tup [.mslc id 0 len, v]] = some ([.tup [.slc false (u32s (l.take len)), v]], [id]) := by
  have h1 : treeL H 38 [.mslc id 0 len, v] = some ([.slc false (u32s (l.take len)), v], [id]) := by
    rw [treeL_cons (by simp), tree_at h hle, treeL_free (n := 36) (by simp [hv])]
    simp
  unfold fuelTree
  rw [treeL_cons (by simp)]
  simp only [AVal.tree, h1, Option.map_some, Option.bind_some, treeL_free (n := 38) (show idsL [] = [] from rfl)]
  simp

theorem tup2_second {H : Heap} {id len esz : Nat} {fz nn : Bool} {l : List Nat} {xs : List AVal} (h : H.at id = some ⟨fz, esz, u32s l⟩) (hle : len ≤ l.length) :
    treeL H fuelTree [.tup [.slc nn xs, .mslc id 0 len]] = some ([.tup [.slc nn xs, .slc false (u32s (l.take len))]], [id]) := by
  have h1 : treeL H 38 [.slc nn xs, .mslc id 0 len] = some ([.slc nn xs, .slc false (u32s (l.take len))], [id]) := by
    rw [treeL_cons (by simp), treeL_cons (by simp), tree_at h hle, treeL_free (n := 35) (show idsL [] = [] from rfl)]
    simp [AVal.tree]
  unfold fuelTree
  rw [treeL_cons (by simp)]
  simp only [AVal.tree, h1, Option.map_some, Option.bind_some, treeL_free (n := 38) (show idsL [] = [] from rfl)]
  simp
end Go.Ash
/- The document's integers: add, sub, Add, Sub as calls. -/
namespace Go.Ash
variable {F : Nat → Option RFunc} [h : CodeRef1 F]

theorem tree_atE {H : Heap} {id len n esz : Nat} {fz : Bool} {l : List AVal} (h : H.at id = some ⟨fz, esz, l⟩) (hl : idsL l = []) (hle : len ≤ l.length) : AVal.tree H (n + 2) (.mslc id 0 len) = some (.slc false (l.take len), [id]) := by
  have hfree : idsL (l.take len) = [] := by
    apply List.eq_nil_iff_forall_not_mem.2
    intro y hy
    obtain ⟨k, c, hk, hyc⟩ := idsL_ex hy
    rw [List.getElem?_take] at hk
    split at hk
    · have := idsL_mem_of hk hyc
      rw [hl] at this; cases this
    · simp at hk
  simp only [AVal.tree, h, Nat.zero_add, hle, if_true, List.drop_zero, treeL_free (n := n) hfree, Option.map_some]

theorem treeL_atE {H : Heap} {id len n esz : Nat} {fz : Bool} {l : List AVal} {rest : List AVal} (h : H.at id = some ⟨fz, esz, l⟩) (hl : idsL l = []) (hle : len ≤ l.length) (hr : idsL rest = []) :
    treeL H (n + 3) (.mslc id 0 len :: rest) = some (.slc false (l.take len) :: rest, [id]) := by
  rw [treeL_cons (by simp), tree_atE h hl hle, treeL_free (n := n + 1) hr]
  simp

/-- A grown slice that is handed on, or answered. -/
theorem gv_tree (H : Heap) (id : Nat) (d : List Nat) (n : Nat) (hat : d ≠ [] → H.at id = some ⟨false, 1, i64s d⟩) : ∃ is, treeL H (n + 3) [gv id d] = some ([.slc (decide (d = [])) (i64s d)], is) ∧ (d = [] → is = []) ∧ (d ≠ [] → is = [id]) := by
  by_cases h0 : d = []
  · subst h0
    exact ⟨[], by rw [gv_nil, treeL_free (n := n + 2) (by simp)]; rfl, fun _ => rfl, fun h => absurd rfl h⟩
  · refine ⟨[id], ?_, fun h => absurd h h0, fun _ => rfl⟩
    rw [gv_cons h0, treeL_atE (hat h0) (by simp) (by simp) (by simp), i64s_take_len]
    simp [h0]

theorem pc_radd (nx ny : Bool) (x y : List Nat) (hx : LimW x) (hy : LimW y) (hlx : x.length < 2^39) (hly : y.length < 2^39) :
    ∃ nl d, pureCall (run F) 91 [.slc nx (i64s x), .slc ny (i64s y)] = some (.slc nl (i64s d)) ∧ d.length ≤ max x.length y.length + 1 ∧ LimW d ∧ ew d = ew x + ew y := by
  obtain ⟨e, st, he, rfl, d, i, rfl, h1, h2, h3⟩ := radd_loop (F := F) nx ny x y hx hy hlx hly
  refine ⟨decide (d = []), d, pure_ret h.ashlarref1_add rfl ?_, h1, h2, h3⟩
  by_cases h0 : d = []
  · subst h0
    simp (disch := omega) [c_ashlarref1_add, he, gv_nil, gb_nil, i64s_empty]
  · have hre := reach_at (H := [some ⟨false, 1, i64s d⟩]) (id := 0) rfl (by simp)
    have ht := treeL_atE (H := [some ⟨false, 1, i64s d⟩]) (id := 0) (n := 37) (len := d.length) (rest := []) rfl (by simp) (by simp) (by simp)
    rw [i64s_take_len] at ht
    simp (disch := omega) [c_ashlarref1_add, he, gv_cons h0, gb_cons h0, hre, fuelTree, ht, h0]

theorem rsub_loop (nx ny : Bool) (x y : List Nat) (hx : LimW x) (hy : LimW y) (hlx : x.length < 2^39) (hyx : y.length ≤ x.length) :
    ∃ e st, (∀ env, exec F l_ashlarref1_sub_0 ⟨[.slc nx (i64s x), .slc ny (i64s y), .slc true [], .slc true [], .int .i64 0, .int .i64 0, .und], env, [], 0⟩ = some (e, st)) ∧
      (e = .exit 0 ∧ ∃ (d : List Nat) (c : Nat) (i : AVal), st = ⟨[.slc nx (i64s x), .slc ny (i64s y), .und, gv 0 d, .int .i64 c, i, .und], [], gb d, 0⟩ ∧ d.length = x.length ∧ LimW d ∧ c ≤ 1 ∧ ew x + B16 ^ x.length * c = ew d + ew y) := by
  refine loop_rule
    (fun n st => ∃ (d : List Nat) (c i : Nat), st = ⟨[.slc nx (i64s x), .slc ny (i64s y), .und, gv 0 d, .int .i64 c, .int .i64 i, .und], [], gb d, 0⟩ ∧ i + n = x.length ∧ d.length = i ∧ LimW d ∧ c ≤ 1 ∧
      ew (x.take i) + B16 ^ i * c = ew d + ew (y.take i)) _ x.length _ ?_
    (tidy_none (by simp)) ⟨[], 0, 0, rfl, by omega, rfl, (fun a ha => by cases ha), by omega, by simp [ew]⟩
  rintro n st ⟨d, c, i, rfl, hn, hdl, hdlim, hc, hev⟩
  rcases Nat.eq_zero_or_pos n with rfl | hpos
  · refine .out (.exit 0) _ (by simp) ⟨rfl, d, c, .int .i64 i, rfl, by omega, hdlim, hc, ?_⟩ ?_
    · have : i = x.length := by omega
      subst this
      rw [List.take_length, List.take_of_length_le (l := y) (by omega)] at hev
      rw [← hev]
    · simp (disch := first | omega | simp) [after, if_pos, if_neg, decide_eq_false]
  · have hix : i < x.length := by omega
    have hxi := hx.get hix
    have key : ∀ (b : Nat), b < 65536 → ew (y.take (i + 1)) = ew (y.take i) + B16 ^ i * b → ∀ (v c2 : Nat), v < 65536 → c2 ≤ 1 → x[i] + 65536 * c2 = v + c + b →
        (d ++ [v]).length = i + 1 ∧ LimW (d ++ [v]) ∧ c2 ≤ 1 ∧ ew (x.take (i + 1)) + B16 ^ (i + 1) * c2 = ew (d ++ [v]) + ew (y.take (i + 1)) := by
      intro b hb eb v c2 hv hc2 e
      refine ⟨by simp [hdl], limW_append hdlim (by intro z hz; simp at hz; subst hz; exact hv), hc2, ?_⟩
      rw [ew_snoc, hdl, eb, ew_take_succ hix, Nat.pow_succ]
      have e5 : B16 ^ i * (x[i] + 65536 * c2) = B16 ^ i * (v + c + b) := by rw [e]
      have e8 : B16 ^ i * (B16 * c2) = B16 ^ i * (65536 * c2) := rfl
      rw [Nat.mul_assoc]
      simp only [Nat.mul_add] at e5 hev ⊢
      omega
    have yt : y.length ≤ i → ew (y.take (i + 1)) = ew (y.take i) + B16 ^ i * 0 := fun h => by rw [List.take_of_length_le (by omega), List.take_of_length_le h]; simp
    have mB := maxB
    rcases Nat.lt_or_ge i y.length with hiy | hiy
    · have hyi := hy.get hiy
      rcases Nat.lt_or_ge x[i] (c + y[i]) with hlt | hge
      · obtain ⟨n1, n2, n3, n4⟩ := key y[i] hyi (ew_take_succ hiy) (x[i] + 65536 - c - y[i]) 1 (by omega) (by omega) (by omega)
        refine .more (n - 1) _ (by omega) ⟨d ++ [(x[i] + 65536 - c - y[i])], 1, i + 1, rfl, by omega, n1, n2, n3, n4⟩ ?_
        clear key yt hev n1 n2 n3 n4
        have hcv : ((x[i] : Nat) : Int) - (c : Int) - (y[i] : Int) + 65536 = (((x[i] + 65536 - c - y[i]) : Nat) : Int) := by omega
        have hvlt : (x[i] + 65536 - c - y[i]) < 65536 := by omega
        generalize hvv : (x[i] + 65536 - c - y[i]) = v at *
        by_cases h0 : d = []
        · subst h0
          simp (disch := first | omega | simp) [after, gv_nil, gb_nil, gv_snoc, gb_snoc, tidy_eq, reach_end, reach_more, fuelIds, place_cons, pack, if_pos, if_neg, decide_eq_true, decide_eq_false, wrap_i64, hcv, goodElems, placeAll, elemsOf, maxB, i64s_one]
          try (exact ⟨(gv_snoc 0 [] v).symm, (gb_snoc [] v).symm⟩)
        · rw [gv_cons h0, gb_cons h0, gv_snoc, gb_snoc]
          simp (disch := first | omega | simp) [after, tidy_eq, reach_end, reach_more, fuelIds, place_cons, pack, if_pos, if_neg, decide_eq_true, decide_eq_false, wrap_i64, hcv, goodElems, placeAll, elemsOf, maxB, i64s_snoc, i64s_take_len]
      · obtain ⟨n1, n2, n3, n4⟩ := key y[i] hyi (ew_take_succ hiy) (x[i] - c - y[i]) 0 (by omega) (by omega) (by omega)
        refine .more (n - 1) _ (by omega) ⟨d ++ [(x[i] - c - y[i])], 0, i + 1, rfl, by omega, n1, n2, n3, n4⟩ ?_
        clear key yt hev n1 n2 n3 n4
        have hcv : ((x[i] : Nat) : Int) - (c : Int) - (y[i] : Int) = (((x[i] - c - y[i]) : Nat) : Int) := by omega
        have hvlt : (x[i] - c - y[i]) < 65536 := by omega
        generalize hvv : (x[i] - c - y[i]) = v at *
        by_cases h0 : d = []
        · subst h0
          simp (disch := first | omega | simp) [after, gv_nil, gb_nil, gv_snoc, gb_snoc, tidy_eq, reach_end, reach_more, fuelIds, place_cons, pack, if_pos, if_neg, decide_eq_true, decide_eq_false, wrap_i64, hcv, goodElems, placeAll, elemsOf, maxB, i64s_one]
          try (exact ⟨(gv_snoc 0 [] v).symm, (gb_snoc [] v).symm⟩)
        · rw [gv_cons h0, gb_cons h0, gv_snoc, gb_snoc]
          simp (disch := first | omega | simp) [after, tidy_eq, reach_end, reach_more, fuelIds, place_cons, pack, if_pos, if_neg, decide_eq_true, decide_eq_false, wrap_i64, hcv, goodElems, placeAll, elemsOf, maxB, i64s_snoc, i64s_take_len]
    · rcases Nat.lt_or_ge x[i] c with hlt | hge
      · obtain ⟨n1, n2, n3, n4⟩ := key 0 (by decide) (yt hiy) (x[i] + 65536 - c) 1 (by omega) (by omega) (by omega)
        refine .more (n - 1) _ (by omega) ⟨d ++ [(x[i] + 65536 - c)], 1, i + 1, rfl, by omega, n1, n2, n3, n4⟩ ?_
        clear key yt hev n1 n2 n3 n4
        have hcv : ((x[i] : Nat) : Int) - (c : Int) + 65536 = (((x[i] + 65536 - c) : Nat) : Int) := by omega
        have hvlt : (x[i] + 65536 - c) < 65536 := by omega
        generalize hvv : (x[i] + 65536 - c) = v at *
        by_cases h0 : d = []
        · subst h0
          simp (disch := first | omega | simp) [after, gv_nil, gb_nil, gv_snoc, gb_snoc, tidy_eq, reach_end, reach_more, fuelIds, place_cons, pack, if_pos, if_neg, decide_eq_true, decide_eq_false, wrap_i64, hcv, goodElems, placeAll, elemsOf, maxB, i64s_one]
          try (exact ⟨(gv_snoc 0 [] v).symm, (gb_snoc [] v).symm⟩)
        · rw [gv_cons h0, gb_cons h0, gv_snoc, gb_snoc]
          simp (disch := first | omega | simp) [after, tidy_eq, reach_end, reach_more, fuelIds, place_cons, pack, if_pos, if_neg, decide_eq_true, decide_eq_false, wrap_i64, hcv, goodElems, placeAll, elemsOf, maxB, i64s_snoc, i64s_take_len]
      · obtain ⟨n1, n2, n3, n4⟩ := key 0 (by decide) (yt hiy) (x[i] - c) 0 (by omega) (by omega) (by omega)
        refine .more (n - 1) _ (by omega) ⟨d ++ [(x[i] - c)], 0, i + 1, rfl, by omega, n1, n2, n3, n4⟩ ?_
        clear key yt hev n1 n2 n3 n4
        have hcv : ((x[i] : Nat) : Int) - (c : Int) = (((x[i] - c) : Nat) : Int) := by omega
        have hvlt : (x[i] - c) < 65536 := by omega
        generalize hvv : (x[i] - c) = v at *
        by_cases h0 : d = []
        · subst h0
          simp (disch := first | omega | simp) [after, gv_nil, gb_nil, gv_snoc, gb_snoc, tidy_eq, reach_end, reach_more, fuelIds, place_cons, pack, if_pos, if_neg, decide_eq_true, decide_eq_false, wrap_i64, hcv, goodElems, placeAll, elemsOf, maxB, i64s_one]
          try (exact ⟨(gv_snoc 0 [] v).symm, (gb_snoc [] v).symm⟩)
        · rw [gv_cons h0, gb_cons h0, gv_snoc, gb_snoc]
          simp (disch := first | omega | simp) [after, tidy_eq, reach_end, reach_more, fuelIds, place_cons, pack, if_pos, if_neg, decide_eq_true, decide_eq_false, wrap_i64, hcv, goodElems, placeAll, elemsOf, maxB, i64s_snoc, i64s_take_len]

theorem pc_rsub (nx ny : Bool) (x y : List Nat) (hx : LimW x) (hy : LimW y) (hlx : x.length < 2^39) (hyx : y.length ≤ x.length) (hle : ew y ≤ ew x) :
    ∃ nl d, pureCall (run F) 92 [.slc nx (i64s x), .slc ny (i64s y)] = some (.slc nl (i64s d)) ∧ d.length = x.length ∧ LimW d ∧ ew d = ew x - ew y := by
  obtain ⟨e, st, he, rfl, d, c, i, rfl, h1, h2, h3, h4⟩ := rsub_loop (F := F) nx ny x y hx hy hlx hyx
  have hlt := ew_lt h2
  rw [h1] at hlt
  have hew : ew d = ew x - ew y := by
    rcases (by omega : c = 0 ∨ c = 1) with rfl | rfl <;> omega
  refine ⟨decide (d = []), d, pure_ret h.ashlarref1_sub rfl ?_, h1, h2, hew⟩
  by_cases h0 : d = []
  · subst h0
    simp (disch := omega) [c_ashlarref1_sub, he, gv_nil, gb_nil, i64s_empty]
  · have hre := reach_at (H := [some ⟨false, 1, i64s d⟩]) (id := 0) rfl (by simp)
    have ht := treeL_atE (H := [some ⟨false, 1, i64s d⟩]) (id := 0) (n := 37) (len := d.length) (rest := []) rfl (by simp) (by simp) (by simp)
    rw [i64s_take_len] at ht
    simp (disch := omega) [c_ashlarref1_sub, he, gv_cons h0, gb_cons h0, hre, fuelTree, ht, h0]

/-- Add: the sum. -/
theorem rAdd (n1 n2 : Bool) (x y : Int) (hx : (DW x.natAbs).length < 2^38) (hy : (DW y.natAbs).length < 2^38) : ∃ nl, pureCall (run F) 27 [RI n1 x, RI n2 y] = some (RI nl (x + y)) := by
  have hcmp := pc_rcmp (F := F) n1 n2 x.natAbs y.natAbs (by omega) (by omega)
  by_cases hs : (x < 0) ↔ (y < 0)
  · obtain ⟨nl, d, g1, g2, g3, g4⟩ := pc_radd (F := F) n1 n2 (DW x.natAbs) (DW y.natAbs) (limW_DW _) (limW_DW _) (by omega) (by omega)
    rw [ew_DW, ew_DW] at g4
    have ht := fun s => pc_rtrim (F := F) s nl d g3 (by omega)
    rw [g4] at ht
    refine ⟨nl, pure_ret h.ashlarref1_Add rfl ?_⟩
    by_cases hx0 : x < 0
    · have hy0 := hs.1 hx0
      have e : sgn true (x.natAbs + y.natAbs) = x + y := by simp only [sgn, if_true]; omega
      have ht := ht true
      rw [e] at ht
      simp [c_ashlarref1_Add, any_pure, hx0, hy0, g1, ht]
    · have hy0 : ¬ y < 0 := fun h => hx0 (hs.2 h)
      have e : sgn false (x.natAbs + y.natAbs) = x + y := by simp only [sgn, Bool.false_eq_true, if_false]; omega
      have ht := ht false
      rw [e] at ht
      simp [c_ashlarref1_Add, any_pure, hx0, hy0, g1, ht]
  · rcases Nat.lt_or_ge x.natAbs y.natAbs with hlt | hge
    · obtain ⟨nl, d, g1, g2, g3, g4⟩ := pc_rsub (F := F) n2 n1 (DW y.natAbs) (DW x.natAbs) (limW_DW _) (limW_DW _) (by omega) (DW_len_mono (by omega)) (by rw [ew_DW, ew_DW]; omega)
      rw [ew_DW, ew_DW] at g4
      have ht := fun s => pc_rtrim (F := F) s nl d g3 (by omega)
      rw [g4] at ht
      have hcv : cmpI x.natAbs y.natAbs = -1 := by unfold cmpI; rw [if_pos hlt]
      rw [hcv] at hcmp
      refine ⟨nl, pure_ret h.ashlarref1_Add rfl ?_⟩
      by_cases hx0 : x < 0
      · have hy0 : ¬ y < 0 := fun h => hs ⟨fun _ => h, fun _ => hx0⟩
        have e : sgn false (y.natAbs - x.natAbs) = x + y := by simp only [sgn, Bool.false_eq_true, if_false]; omega
        have ht := ht false
        rw [e] at ht
        simp [c_ashlarref1_Add, any_pure, hx0, hy0, g1, ht, hcmp]
      · have hy0 : y < 0 := by
          apply Decidable.byContradiction
          intro h
          exact hs ⟨fun h2 => absurd h2 hx0, fun h2 => absurd h2 h⟩
        have e : sgn true (y.natAbs - x.natAbs) = x + y := by simp only [sgn, if_true]; omega
        have ht := ht true
        rw [e] at ht
        simp [c_ashlarref1_Add, any_pure, hx0, hy0, g1, ht, hcmp]
    · obtain ⟨nl, d, g1, g2, g3, g4⟩ := pc_rsub (F := F) n1 n2 (DW x.natAbs) (DW y.natAbs) (limW_DW _) (limW_DW _) (by omega) (DW_len_mono hge) (by rw [ew_DW, ew_DW]; omega)
      rw [ew_DW, ew_DW] at g4
      have ht := fun s => pc_rtrim (F := F) s nl d g3 (by omega)
      rw [g4] at ht
      have hcv : ¬ cmpI x.natAbs y.natAbs < 0 := by unfold cmpI; rw [if_neg (by omega)]; split <;> omega
      refine ⟨nl, pure_ret h.ashlarref1_Add rfl ?_⟩
      by_cases hx0 : x < 0
      · have hy0 : ¬ y < 0 := fun h => hs ⟨fun _ => h, fun _ => hx0⟩
        have e : sgn true (x.natAbs - y.natAbs) = x + y := by simp only [sgn, if_true]; omega
        have ht := ht true
        rw [e] at ht
        simp (disch := first | omega | simp) [c_ashlarref1_Add, any_pure, hx0, hy0, g1, ht, hcmp, if_pos, decide_eq_true]
      · have hy0 : y < 0 := by
          apply Decidable.byContradiction
          intro h
          exact hs ⟨fun h2 => absurd h2 hx0, fun h2 => absurd h2 h⟩
        have e : sgn false (x.natAbs - y.natAbs) = x + y := by simp only [sgn, Bool.false_eq_true, if_false]; omega
        have ht := ht false
        rw [e] at ht
        simp (disch := first | omega | simp) [c_ashlarref1_Add, any_pure, hx0, hy0, g1, ht, hcmp, if_pos, decide_eq_true]

/-- Sub: the difference. -/
theorem rSub (n1 n2 : Bool) (x y : Int) (hx : (DW x.natAbs).length < 2^38) (hy : (DW y.natAbs).length < 2^38) : ∃ nl, pureCall (run F) 48 [RI n1 x, RI n2 y] = some (RI nl (x - y)) := by
  have hn := rneg (F := F) n2 y (by omega)
  obtain ⟨nl, ha⟩ := rAdd (F := F) n1 n2 x (-y) hx (by rw [Int.natAbs_neg]; exact hy)
  rw [← Int.sub_eq_add_neg] at ha
  refine ⟨nl, pure_ret h.ashlarref1_Sub rfl ?_⟩
  simp [c_ashlarref1_Sub, any_pure, hn, ha]
end Go.Ash
/- ref1.Eq and law1.Cut. -/
namespace Go.Ash
variable {F : Nat → Option RFunc}

theorem tidy_two {live : List Bool} {vars env : List AVal} {b0 b1 : Blk} (hv : idsL (mask live vars) = [0, 1]) (h0 : idsL b0.elems = []) (h1 : idsL b1.elems = []) :
    tidy live ⟨vars, env, [some b0, some b1], 0⟩ = some ⟨mask live vars, [], [some b0, some b1], 0⟩ := by
  refine tidy_keep ?_ ?_
  · simp [hv, reach, fuelIds, Heap.at, h0, h1, List.range_succ]
  · intro x hx k hk y hy
    simp at hx
    rcases hx with rfl | rfl <;> cases hk
    · rw [h0] at hy; cases hy
    · rw [h1] at hy; cases hy

theorem eq_loop (a b n1 n2 : Bool) (x y : List Nat) (hxy : x.length = y.length) (hlen : x.length < 2^40) : ∀ (k i : Nat), i + k = x.length → ∀ (v0 v1 v4 : AVal) (env : List AVal),
    (x.drop i = y.drop i → exec F l_ashlarref1_Eq_0 ⟨[v0, v1, .mptr 0 0 0, .mptr 1 0 0, v4, .int .i64 i], env, [some ⟨false, 2, [.agg [.bool a, .slc n1 (u32s x)]]⟩, some ⟨false, 2, [.agg [.bool b, .slc n2 (u32s y)]]⟩], 0⟩ =
      some (.exit 0, ⟨[.und, .und, .mptr 0 0 0, .mptr 1 0 0, .und, .int .i64 x.length], [], [some ⟨false, 2, [.agg [.bool a, .slc n1 (u32s x)]]⟩, some ⟨false, 2, [.agg [.bool b, .slc n2 (u32s y)]]⟩], 0⟩)) ∧
    (x.drop i ≠ y.drop i → ∃ j, exec F l_ashlarref1_Eq_0 ⟨[v0, v1, .mptr 0 0 0, .mptr 1 0 0, v4, .int .i64 i], env, [some ⟨false, 2, [.agg [.bool a, .slc n1 (u32s x)]]⟩, some ⟨false, 2, [.agg [.bool b, .slc n2 (u32s y)]]⟩], 0⟩ =
      some (.ret, ⟨[.und, .und, .mptr 0 0 0, .mptr 1 0 0, .bool false, j], [], [some ⟨false, 2, [.agg [.bool a, .slc n1 (u32s x)]]⟩, some ⟨false, 2, [.agg [.bool b, .slc n2 (u32s y)]]⟩], 0⟩)) := by
  intro k
  induction k with
  | zero =>
    intro i hi v0 v1 v4 env
    have hi' : i = x.length := by omega
    subst hi'
    refine ⟨fun _ => ?_, fun h => absurd (by rw [List.drop_of_length_le (Nat.le_refl _), List.drop_of_length_le (by omega)]) h⟩
    unfold l_ashlarref1_Eq_0
    rw [exec_loop, tidy_two (by simp) (by simp) (by simp)]
    simp
  | succ k ih =>
    intro i hi v0 v1 v4 env
    have hix : i < x.length := by omega
    have hiy : i < y.length := by omega
    rw [List.drop_eq_getElem_cons hix, List.drop_eq_getElem_cons hiy]
    by_cases h0 : x[i] = y[i]
    · obtain ⟨ih1, ih2⟩ := ih (i + 1) (by omega) .und .und .und []
      have step : ∀ env, exec F l_ashlarref1_Eq_0 ⟨[v0, v1, .mptr 0 0 0, .mptr 1 0 0, v4, .int .i64 i], env, [some ⟨false, 2, [.agg [.bool a, .slc n1 (u32s x)]]⟩, some ⟨false, 2, [.agg [.bool b, .slc n2 (u32s y)]]⟩], 0⟩ =
          exec F l_ashlarref1_Eq_0 ⟨[.und, .und, .mptr 0 0 0, .mptr 1 0 0, .und, .int .i64 (i + 1 : Nat)], [], [some ⟨false, 2, [.agg [.bool a, .slc n1 (u32s x)]]⟩, some ⟨false, 2, [.agg [.bool b, .slc n2 (u32s y)]]⟩], 0⟩ := by
        intro env
        conv => lhs; unfold l_ashlarref1_Eq_0
        rw [exec_loop, tidy_two (by simp) (by simp) (by simp)]
        simp (disch := omega) [hix, hiy, h0, wrap_i64]
        exact exec_loop_env
      rw [step, h0]
      exact ⟨fun he => ih1 (List.cons.inj he).2, fun he => ih2 (fun h => he (by rw [h]))⟩
    · refine ⟨fun he => absurd (by simpa using (List.cons.inj he).1) h0, fun _ => ⟨.int .i64 i, ?_⟩⟩
      unfold l_ashlarref1_Eq_0
      rw [exec_loop, tidy_two (by simp) (by simp) (by simp)]
      simp (disch := omega) [hix, hiy, show ¬ ((x[i] : Int) = (y[i] : Int)) from by omega, wrap_i64]

theorem pc_eq [h : CodeRef1 F] (a b n1 n2 : Bool) (x y : List Nat) (hx : x.length < 2^40) (hy : y.length < 2^40) :
    pureCall (run F) 44 [.agg [.bool a, .slc n1 (u32s x)], .agg [.bool b, .slc n2 (u32s y)]] = some (.bool (decide (a = b ∧ x = y))) := by
  refine pure_ret h.ashlarref1_Eq rfl ?_
  by_cases hab : a = b
  · subst hab
    by_cases hl : x.length = y.length
    · obtain ⟨h1, h2⟩ := eq_loop (F := F) a a n1 n2 x y hl hx x.length 0 (by omega) (.agg [.bool a, .slc n1 (u32s x)]) (.agg [.bool a, .slc n2 (u32s y)]) (.bool false) [.int .i64 0]
      simp only [List.drop_zero] at h1 h2
      by_cases he : x = y
      · subst he
        have h1 := h1 rfl
        simp at h1
        simp [c_ashlarref1_Eq, h1]
      · obtain ⟨j, h2⟩ := h2 he
        simp at h2
        simp [c_ashlarref1_Eq, hl, he, h2]
    · have he : x ≠ y := by rintro rfl; exact hl rfl
      simp [c_ashlarref1_Eq, show ¬ ((x.length : Int) = y.length) from by omega, he]
  · have hn : (a != b) = true := by simpa using hab
    simp [c_ashlarref1_Eq, hab]

theorem eq_IV [h : CodeRef1 F] {x y : Int} (hx : (D x.natAbs).length < 2^40) (hy : (D y.natAbs).length < 2^40) : pureCall (run F) 44 [IV x, IV y] = some (.bool (decide (x = y))) := by
  unfold IV
  rw [pc_eq _ _ _ _ _ _ hx hy]
  congr 2
  by_cases hxy : x = y
  · subst hxy; simp
  · rw [decide_eq_false hxy, decide_eq_false]
    rintro ⟨h1, h2⟩
    have h3 : x.natAbs = y.natAbs := by rw [← ev_D x.natAbs, h2, ev_D]
    have h4 : (x < 0) ↔ (y < 0) := by simpa using h1
    omega

theorem reach_three {x y : Option Blk} {fz : Bool} {esz : Nat} {l : List Nat} : reach [x, y, some ⟨fz, esz, u32s l⟩] fuelIds [2] [] = some [2] := by
  simp [reach, fuelIds, Heap.at]

theorem tree_three {x y : Option Blk} {fz b : Bool} {esz n : Nat} {l : List Nat} (hn : n ≤ l.length) : treeL [x, y, some ⟨fz, esz, u32s l⟩] fuelTree [.agg [.bool b, .mslc 2 0 n]] =
    some ([.agg [.bool b, .slc false (u32s (l.take n))]], [2]) := by
  have h1 : AVal.tree [x, y, some ⟨fz, esz, u32s l⟩] 36 (.mslc 2 0 n) = some (.slc false (u32s (l.take n)), [2]) := by
    simp only [AVal.tree, Heap.at, length_u32s, Nat.zero_add, hn, if_true, List.drop_zero, u32s_take, treeL_free (n := 34) (idsL_u32s _), Option.map_some]
  have h2 : treeL [x, y, some ⟨fz, esz, u32s l⟩] 37 [.mslc 2 0 n] = some ([.slc false (u32s (l.take n))], [2]) := by
    rw [treeL_cons (by simp), h1]; rfl
  have h3 : treeL [x, y, some ⟨fz, esz, u32s l⟩] 38 [.bool b, .mslc 2 0 n] = some ([.bool b, .slc false (u32s (l.take n))], [2]) := by
    rw [treeL_cons (by simp), h2]; rfl
  have h4 : AVal.tree [x, y, some ⟨fz, esz, u32s l⟩] 39 (.agg [.bool b, .mslc 2 0 n]) = some (.agg [.bool b, .slc false (u32s (l.take n))], [2]) := by
    simp only [AVal.tree, h3, Option.map_some]
  unfold fuelTree
  rw [treeL_cons (by simp), h4]
  rfl

theorem pc_cut [h : CodeLaw1 F] (neg nl : Bool) (l : List Nat) (hlen : l.length < 2^63) : ∃ r, pureCall (run F) 23 [.agg [.bool neg, .slc nl (u32s l)]] = some (.agg [.bool neg, .slc r (u32s (l.take 24))]) := by
  by_cases h0 : l = []
  · subst h0
    refine ⟨true, pure_ret h.ashlarlaw1_Cut rfl ?_⟩
    simp [c_ashlarlaw1_Cut, u32s, bounds, elemsOf, goodElems, fillA, putElem, putAgg, setAll]
  · refine ⟨false, pure_ret h.ashlarlaw1_Cut rfl ?_⟩
    by_cases h24 : 24 < l.length
    · have h24' : (24 : Int) < l.length := by omega
      have h24'' : (24 : Int) ≤ l.length := by omega
      have hmin : min 24 l.length = 24 := by omega
      have m6 : (l.take 24).take 24 = l.take 24 := by rw [List.take_take, Nat.min_self]
      have m7 : (l.take 24).length = 24 := by rw [List.length_take]; omega
      simp (disch := omega) [c_ashlarlaw1_Cut, h24', h24'', bounds, elemsOf, u32s_take, good_u32s, maxB, fillA, putElem, putAgg, setAll, h0, hmin, reach_three, tree_three, m6]
    · have h24' : ¬ (24 : Int) < l.length := by omega
      have h2 : l.take 24 = l := List.take_of_length_le (by omega)
      have m1 : l.length * 4 ≤ 70368744177664 := by omega
      have m2 : l.length ≤ 70368744177664 := by omega
      rw [h2]
      simp (disch := omega) [c_ashlarlaw1_Cut, h24', bounds, elemsOf, u32s_take, good_u32s, maxB, fillA, putElem, putAgg, setAll, h0, m1, m2, reach_three, tree_three]
end Go.Ash
/- The document's integers: From, To, Is, Of. -/
namespace Go.Ash
variable {F : Nat → Option RFunc} [h : CodeRef1 F]

def split16 : List Nat → List Nat
  | [] => []
  | x :: l => x % 65536 :: x / 65536 :: split16 l
theorem split16_len : ∀ l, (split16 l).length = 2 * l.length
  | [] => rfl
  | x :: l => by simp [split16, split16_len l]; omega
theorem split16_snoc : ∀ (l : List Nat) (x : Nat), split16 (l ++ [x]) = split16 l ++ [x % 65536, x / 65536]
  | [], x => rfl
  | y :: l, x => by simp [split16, split16_snoc l x]
theorem split16_nil : ∀ l, split16 l = [] ↔ l = []
  | [] => by simp [split16]
  | x :: l => by simp [split16]
theorem split16_lim : ∀ {l}, Lim l → LimW (split16 l)
  | [], _ => fun x hx => by cases hx
  | x :: l, hl => by
    have h1 : x < 4294967296 := hl x (by simp)
    have ih := split16_lim (l := l) (fun y hy => hl y (by simp [hy]))
    intro y hy
    simp only [split16, List.mem_cons] at hy
    show y < 65536
    rcases hy with rfl | rfl | hy
    · omega
    · omega
    · exact ih y hy
theorem ew_split16 : ∀ l, ew (split16 l) = ev l
  | [] => rfl
  | x :: l => by
    simp only [split16, ew, ev, ew_split16 l]
    show x % 65536 + 65536 * (x / 65536 + 65536 * ev l) = x + 4294967296 * ev l
    omega

theorem i64s_snoc2 (l : List Nat) (p q : Nat) : i64s l ++ [.int .i64 (p : Int), .int .i64 (q : Int)] = i64s (l ++ [p, q]) := by simp [i64s]
theorem gv_snoc2 (id : Nat) (l : List Nat) (p q : Nat) : gv id (l ++ [p, q]) = .mslc id 0 (l.length + 2) := by rw [gv_cons (by simp)]; simp
theorem gb_snoc2 (l : List Nat) (p q : Nat) : gb (l ++ [p, q]) = [some ⟨false, 1, i64s (l ++ [p, q])⟩] := gb_cons (by simp)
theorem i64s_two (p q : Nat) : i64s [p, q] = [.int .i64 (p : Int), .int .i64 (q : Int)] := rfl

theorem u32_mod16 (n : Nat) : (n : Int).tmod 65536 = ((n % 65536 : Nat) : Int) := tmod_nat n 65536

theorem from_loop (v0 a : AVal) (b1 : Blk) (h1 : idsL b1.elems = []) (nl : Bool) (l : List Nat) (neg : Bool) (ha : a = .agg [.bool neg, .slc nl (u32s l)]) (hl : Lim l) (hlen : l.length < 2^38) :
    ∃ e st, (∀ env, exec F l_ashlarref1_From_0 ⟨[v0, .mptr 0 0 0, .mptr 1 0 0, .slc true [], .int .i64 0], env, [some ⟨false, 2, [a]⟩, some b1], 0⟩ = some (e, st)) ∧
      (e = .exit 0 ∧ ∃ i, st = ⟨[.und, .mptr 0 0 0, .mptr 1 0 0, gv 2 (split16 l), i], [], [some ⟨false, 2, [a]⟩, some b1] ++ gb (split16 l), 0⟩) := by
  subst ha
  refine loop_rule
    (fun n st => ∃ (p r : List Nat), l = p ++ r ∧ r.length = n ∧ st = ⟨[.und, .mptr 0 0 0, .mptr 1 0 0, gv 2 (split16 p), .int .i64 p.length], [], [some ⟨false, 2, [.agg [.bool neg, .slc nl (u32s l)]]⟩, some b1] ++ gb (split16 p), 0⟩) _ l.length _ ?_
    (tidy_two (by simp) (by simp) h1) ⟨[], l, rfl, rfl, rfl⟩
  rintro n st ⟨p, r, hpr, hn, rfl⟩
  rcases Nat.eq_zero_or_pos n with rfl | hpos
  · have : r = [] := List.length_eq_zero_iff.1 hn
    subst this
    have hp : p = l := by simpa using hpr.symm
    subst hp
    refine .out (.exit 0) _ (by simp) ⟨rfl, .int .i64 p.length, rfl⟩ ?_
    simp (disch := first | omega | simp) [after, if_pos, if_neg, decide_eq_false]
  · obtain ⟨x, r, rfl⟩ : ∃ x r', r = x :: r' := by
      cases r with
      | nil => simp at hn; omega
      | cons x r => exact ⟨x, r, rfl⟩
    have hpl : p.length < l.length := by rw [hpr]; simp
    have hgx : l[p.length] = x := by simp [hpr]
    have hxl : x < 4294967296 := hl x (by rw [hpr]; simp)
    have hsl := split16_len p
    refine .more (n - 1) _ (by omega) ⟨p ++ [x], r, by rw [hpr]; simp, by simp at hn; omega, rfl⟩ ?_
    have hm := u32_mod16 x
    have hq := i64_div x
    have hr1 : x % 65536 < 65536 := Nat.mod_lt _ (by decide)
    have hr2 : x / 65536 < 65536 := by omega
    rw [split16_snoc]
    clear hpr
    generalize x % 65536 = m at *
    generalize x / 65536 = q at *
    have hmB := maxB
    by_cases h0 : split16 p = []
    · have hp0 : p = [] := (split16_nil p).1 h0
      subst hp0
      simp only [List.length_nil] at hpl hgx
      simp (disch := first | omega | simp) [after, h0, gv_nil, gb_nil, gv_snoc2, gb_snoc2, tidy_eq, reach_end, reach_more, fuelIds, place_cons, pack, if_pos, if_neg, decide_eq_true, decide_eq_false, wrap_i64, wrap_u32, hm, hq, goodElems, placeAll, elemsOf, maxB, i64s_one, h1, hgx, renL_self, Blk.ren]
      exact ⟨(gv_snoc2 2 [] m q).symm, (gb_snoc2 [] m q).symm⟩
    · rw [gv_cons h0, gb_cons h0, gv_snoc2, gb_snoc2]
      simp (disch := first | omega | simp) [after, tidy_eq, reach_end, reach_more, fuelIds, place_cons, pack, if_pos, if_neg, decide_eq_true, decide_eq_false, wrap_i64, wrap_u32, hm, hq, goodElems, placeAll, elemsOf, maxB, i64s_snoc2, i64s_take_len, h1, hgx, renL_self, Blk.ren]

theorem gv_ids (id : Nat) (l : List Nat) : (gv id l).ids = if l = [] then [] else [id] := by
  unfold gv; split <;> simp

/-- From: whatever form an integer has. -/
theorem rfrom {a : AVal} {z : Int} {m : Nat} (ha : IsI a z m) (hm : m < 2^37) : ∃ nl, pureCall (run F) 10 [a] = some (RI nl z) := by
  obtain ⟨neg, nl, l, rfl, hl, hlen, rfl⟩ := ha
  obtain ⟨e, st, he, rfl, i, rfl⟩ := from_loop (F := F) (.agg [.bool neg, .slc nl (u32s l)]) _ ⟨false, 2, [.agg [.bool false, .slc true []]]⟩ (by simp) nl l neg rfl hl (by omega)
  have ht := pc_rtrim (F := F) neg (decide (split16 l = [])) (split16 l) (split16_lim hl) (by rw [split16_len]; omega)
  rw [ew_split16] at ht
  refine ⟨decide (split16 l = []), pure_ret h.ashlarref1_From rfl ?_⟩
  by_cases h0 : split16 l = []
  · rw [h0, gv_nil, gb_nil] at he
    simp only [h0, decide_true, i64s_empty] at ht
    simp (disch := omega) [c_ashlarref1_From, he, any_pure, ht, h0]
  · rw [gv_cons h0, gb_cons h0] at he
    have ht2 := treeL_atE (H := [some ⟨false, 2, [.agg [.bool neg, .slc nl (u32s l)]]⟩, some ⟨false, 2, [.agg [.bool false, .slc true []]]⟩, some ⟨false, 1, i64s (split16 l)⟩]) (id := 2) (n := 36) (len := (split16 l).length) (rest := []) rfl (by simp) (by simp) (by simp)
    rw [i64s_take_len] at ht2
    have hh : handOn [.bool neg, .mslc 2 0 (split16 l).length] [some ⟨false, 2, [.agg [.bool neg, .slc nl (u32s l)]]⟩, some ⟨false, 2, [.agg [.bool false, .slc true []]]⟩, some ⟨false, 1, i64s (split16 l)⟩] =
        some ([.bool neg, .slc false (i64s (split16 l))], [some ⟨false, 2, [.agg [.bool neg, .slc nl (u32s l)]]⟩, some ⟨false, 2, [.agg [.bool false, .slc true []]]⟩, some ⟨true, 1, i64s (split16 l)⟩]) := by
      have h1 : treeL [some ⟨false, 2, [.agg [.bool neg, .slc nl (u32s l)]]⟩, some ⟨false, 2, [.agg [.bool false, .slc true []]]⟩, some ⟨false, 1, i64s (split16 l)⟩] fuelTree [.bool neg, .mslc 2 0 (split16 l).length] = some ([.bool neg, .slc false (i64s (split16 l))], [2]) := by
        unfold fuelTree
        rw [treeL_cons (by simp), ht2]
        rfl
      simp [handOn, h1, freeze, Heap.at]
    simp only [h0, decide_false] at ht
    simp (disch := omega) [c_ashlarref1_From, he, any_pure, hh, ht, h0]

/-! ### To -/

def gbu (l : List Nat) : Heap := if l = [] then [] else [some ⟨false, 1, u32s l⟩]
theorem gbu_nil : gbu [] = [] := rfl
theorem gbu_cons {l : List Nat} (h : l ≠ []) : gbu l = [some ⟨false, 1, u32s l⟩] := by simp [gbu, h]
theorem gbu_snoc (l : List Nat) (v : Nat) : gbu (l ++ [v]) = [some ⟨false, 1, u32s (l ++ [v])⟩] := gbu_cons (by simp)
theorem u32s_snoc (l : List Nat) (n : Nat) : u32s l ++ [.int .u32 (n : Int)] = u32s (l ++ [n]) := by simp [u32s]
theorem u32s_take_len (l : List Nat) : (u32s l).take l.length = u32s l := List.take_of_length_le (by simp)

theorem B16_pow2 (k : Nat) : B16 ^ (2 * k) = B32 ^ k := by rw [Nat.pow_mul, show B16 ^ 2 = B32 from by decide]

theorem to_loop (v0 : AVal) (b1 : Blk) (h1 : idsL b1.elems = []) (nl : Bool) (z : Int) (hlen : (DW z.natAbs).length < 2^38) :
    ∃ e st, (∀ env, exec F l_ashlarref1_To_0 ⟨[v0, .mptr 0 0 0, .mptr 1 0 0, .slc true [], .int .i64 0, .und], env, [some ⟨false, 2, [RI nl z]⟩, some b1], 0⟩ = some (e, st)) ∧
      (e = .exit 0 ∧ ∃ i, st = ⟨[.und, .mptr 0 0 0, .mptr 1 0 0, gv 2 (D z.natAbs), i, .und], [], [some ⟨false, 2, [RI nl z]⟩, some b1] ++ gbu (D z.natAbs), 0⟩) := by
  have hdl := limW_DW z.natAbs
  generalize hD : DW z.natAbs = d at *
  refine loop_rule
    (fun n st => ∃ (l : List Nat) (j : Nat), st = ⟨[.und, .mptr 0 0 0, .mptr 1 0 0, gv 2 l, .int .i64 (2 * l.length : Nat), .und], [], [some ⟨false, 2, [RI nl z]⟩, some b1] ++ gbu l, 0⟩ ∧ n + l.length = (d.length + 1) / 2 ∧ Lim l ∧ ev l = ew (d.take (2 * l.length))) _ ((d.length + 1) / 2) _ ?_
    (tidy_two (by simp) (by simp) h1) ⟨[], 0, rfl, by simp, (fun a ha => by cases ha), by simp [ev, ew]⟩
  rintro n st ⟨l, j, rfl, hn, hlim, hev⟩
  rcases Nat.eq_zero_or_pos n with rfl | hpos
  · have hDl : D z.natAbs = l := by
      have hz : ev l = z.natAbs := by
        rw [hev, List.take_of_length_le (by omega), ← hD, ew_DW]
      rcases Nat.eq_zero_or_pos l.length with h0 | h0
      · have : l = [] := List.length_eq_zero_iff.1 h0
        subst this
        rw [← hz]; simp [ev]
      · have hle : (D (ev l)).length ≤ l.length := len_D_ev hlim
        have hge : l.length ≤ (D (ev l)).length := by
          apply Nat.le_of_not_lt
          intro hlt
          have h2 := le_of_D_len (n := ev l) (k := l.length - 1) (by omega)
          rw [← B16_pow2] at h2
          have h3 := DW_len_le h2
          rw [hz, hD] at h3
          omega
        have ht := take_D l hlim
        rw [List.take_of_length_le hge] at ht
        rw [← hz]; exact ht.symm
    refine .out (.exit 0) _ (by simp) ⟨rfl, .int .i64 (2 * l.length : Nat), by rw [hDl]⟩ ?_
    simp (disch := first | omega | simp) [after, if_pos, if_neg, decide_eq_false, hD]
  · have hi : 2 * l.length < d.length := by omega
    have hdi := hdl.get hi
    have hw := wrap_u32 (n := ((d[2 * l.length] : Nat) : Int)) (by omega) (by omega)
    by_cases hj : 2 * l.length + 1 < d.length
    · have hdj := hdl.get hj
      have hw2 := wrap_u32 (n := ((d[2 * l.length + 1] : Nat) : Int)) (by omega) (by omega)
      have hidx : (2 * (l.length : Int) + 1).toNat = 2 * l.length + 1 := by omega
      refine .more (n - 1) _ (by omega) ⟨l ++ [d[2 * l.length] + d[2 * l.length + 1] * 65536], 0, rfl, by simp; omega, lim_append hlim (by intro x hx; simp at hx; subst hx; show _ < 4294967296; omega), ?_⟩ ?_
      · rw [ev_snoc, hev, show 2 * (l ++ [d[2 * l.length] + d[2 * l.length + 1] * 65536]).length = 2 * l.length + 1 + 1 from by simp; omega, ew_take_succ hj, ew_take_succ hi, Nat.pow_succ, B16_pow2, Nat.mul_add, Nat.mul_assoc]
        have : B32 ^ l.length * (d[2 * l.length + 1] * 65536) = B32 ^ l.length * (B16 * d[2 * l.length + 1]) := by rw [Nat.mul_comm B16]
        omega
      · have hw3 : IntKind.u32.wrap ((d[2 * l.length] : Int) + (d[2 * l.length + 1] : Int) * 65536) = ((d[2 * l.length] + d[2 * l.length + 1] * 65536 : Nat) : Int) := by
          have : ((d[2 * l.length] : Int) + (d[2 * l.length + 1] : Int) * 65536) = ((d[2 * l.length] + d[2 * l.length + 1] * 65536 : Nat) : Int) := by omega
          rw [this]; exact wrap_u32 (by omega) (by omega)
        have hi2 : 2 * (l.length : Int) < d.length := by omega
        have hi3 : (2 * (l.length : Int)).toNat = 2 * l.length := by omega
        have hi4 : 2 * (l.length : Int) + 2 = 2 * (l.length + 1) := by omega
        have hll : ((l ++ [d[2 * l.length] + d[2 * l.length + 1] * 65536]).length : Nat) = l.length + 1 := by simp
        rw [hll]
        generalize hvv : d[2 * l.length] + d[2 * l.length + 1] * 65536 = v at *
        clear hev
        by_cases h0 : l = []
        · subst h0
          simp only [List.length_nil, Nat.mul_zero, Nat.zero_add] at hi hdi hj hdj hw hw2 hw3 hvv
          simp (disch := first | omega | simp) [after, gv_nil, gbu_nil, gv_snoc, gbu_snoc, tidy_eq, reach_end, reach_more, fuelIds, place_cons, pack, if_pos, if_neg, decide_eq_true, decide_eq_false, wrap_i64, wrap_u32, hD, hw, hw2, hw3, goodElems, placeAll, elemsOf, maxB, h1, renL_self, Blk.ren]
          exact ⟨(gv_snoc 2 [] v).symm, (gbu_snoc [] v).symm⟩
        · rw [gv_cons h0, gbu_cons h0, gv_snoc, gbu_snoc]
          simp (disch := first | omega | simp) [after, tidy_eq, reach_end, reach_more, fuelIds, place_cons, pack, if_pos, if_neg, decide_eq_true, decide_eq_false, wrap_i64, wrap_u32, hD, hw, hw2, hw3, hidx, hi3, hi4, goodElems, placeAll, elemsOf, maxB, u32s_snoc, u32s_take_len, h1, renL_self, Blk.ren]
    · have hl2 : d.length = 2 * l.length + 1 := by omega
      refine .more (n - 1) _ (by omega) ⟨l ++ [d[2 * l.length]], 0, rfl, by simp; omega, lim_append hlim (by intro x hx; simp at hx; subst hx; show _ < 4294967296; omega), ?_⟩ ?_
      · rw [ev_snoc, hev, show 2 * (l ++ [d[2 * l.length]]).length = 2 * l.length + 2 from by simp; omega, List.take_of_length_le (l := d) (i := 2 * l.length + 2) (by omega), ← B16_pow2, ← ew_take_succ hi, List.take_of_length_le (by omega)]
      · have hi2 : 2 * (l.length : Int) < d.length := by omega
        have hi3 : (2 * (l.length : Int)).toNat = 2 * l.length := by omega
        have hi4 : 2 * (l.length : Int) + 2 = 2 * (l.length + 1) := by omega
        have hll : ((l ++ [d[2 * l.length]]).length : Nat) = l.length + 1 := by simp
        rw [hll]
        generalize hvv : d[2 * l.length] = v at *
        clear hev
        by_cases h0 : l = []
        · subst h0
          simp only [List.length_nil, Nat.mul_zero, Nat.zero_add] at hi hdi hj hw hvv
          simp (disch := first | omega | simp) [after, gv_nil, gbu_nil, gv_snoc, gbu_snoc, tidy_eq, reach_end, reach_more, fuelIds, place_cons, pack, if_pos, if_neg, decide_eq_true, decide_eq_false, wrap_i64, wrap_u32, hD, hw, hvv, goodElems, placeAll, elemsOf, maxB, h1, renL_self, Blk.ren]
          exact ⟨(gv_snoc 2 [] v).symm, (gbu_snoc [] v).symm⟩
        · rw [gv_cons h0, gbu_cons h0, gv_snoc, gbu_snoc]
          simp (disch := first | omega | simp) [after, tidy_eq, reach_end, reach_more, fuelIds, place_cons, pack, if_pos, if_neg, decide_eq_true, decide_eq_false, wrap_i64, wrap_u32, hD, hw, hvv, hi3, hi4, goodElems, placeAll, elemsOf, maxB, u32s_snoc, u32s_take_len, h1, renL_self, Blk.ren]

/-- To: the one form. -/
theorem rto (nl : Bool) (z : Int) (hlen : (DW z.natAbs).length < 2^38) : pureCall (run F) 93 [RI nl z] = some (IV z) := by
  obtain ⟨e, st, he, rfl, i, rfl⟩ := to_loop (F := F) (RI nl z) ⟨false, 2, [.agg [.bool false, .slc true []]]⟩ (by simp) nl z hlen
  refine pure_ret h.ashlarref1_To rfl ?_
  by_cases h0 : D z.natAbs = []
  · have hz : z = 0 := by simp at h0; omega
    subst hz
    simp only [Int.natAbs_zero, D_zero, gv_nil, gbu_nil, List.append_nil] at he
    have e0 : IV 0 = .agg [.bool false, .slc true []] := by simp [IV]
    rw [e0]
    simp (disch := omega) [c_ashlarref1_To, he, fillA, setAll, putElem, putAgg]
  · have hz : ¬ z = 0 := by intro h; rw [h] at h0; simp at h0
    rw [gv_cons h0, gbu_cons h0] at he
    have hre := reach_three (x := some ⟨false, 2, [RI nl z]⟩) (y := some ⟨false, 2, [.agg [.bool (decide (z < 0)), .mslc 2 0 (D z.natAbs).length]]⟩) (fz := false) (esz := 1) (l := D z.natAbs)
    have htr := tree_three (x := some ⟨false, 2, [RI nl z]⟩) (y := some ⟨false, 2, [.agg [.bool (decide (z < 0)), .mslc 2 0 (D z.natAbs).length]]⟩) (fz := false) (esz := 1) (l := D z.natAbs) (b := decide (z < 0)) (n := (D z.natAbs).length) (Nat.le_refl _)
    rw [List.take_length] at htr
    have e0 : IV z = .agg [.bool (decide (z < 0)), .slc false (u32s (D z.natAbs))] := by simp [IV, hz]
    rw [e0]
    simp only [List.cons_append, List.nil_append] at he
    simp (disch := omega) [c_ashlarref1_To, he, fillA, setAll, putElem, putAgg, hre, htr]
end Go.Ash
/- The document's integers: Is, Of. -/
namespace Go.Ash
variable {F : Nat → Option RFunc} [h : CodeRef1 F]

theorem DW_len_D (n : Nat) : (DW n).length ≤ 2 * (D n).length := by
  apply DW_len_le
  rw [B16_pow2]
  exact D_lt n
theorem D_len_DW (n : Nat) : (D n).length ≤ (DW n).length := by
  apply D_len_le
  have h1 := DW_lt n
  have h2 : B16 ^ (DW n).length ≤ B32 ^ (DW n).length := Nat.pow_le_pow_left (by decide) _
  omega

/-- Is: an answer in its one form is the number. -/
theorem ris (nl : Bool) (w z : Int) (hw : (D w.natAbs).length < 2^40) (hz : (DW z.natAbs).length < 2^38) : pureCall (run F) 29 [IV w, RI nl z] = some (.bool (decide (w = z))) := by
  have h1 := rto (F := F) nl z hz
  have h2 := eq_IV (F := F) (x := w) (y := z) hw (by have := D_len_DW z.natAbs; omega)
  refine pure_ret h.ashlarref1_Is rfl ?_
  simp [c_ashlarref1_Is, any_pure, h1, h2]

theorem sgn_tdiv (s : Bool) (m : Nat) : (sgn s m).tdiv 65536 = sgn s (m / 65536) := by
  cases s
  · simp only [sgn, Bool.false_eq_true, if_false]; exact i64_div m
  · simp only [sgn, if_true]
    rw [Int.neg_tdiv, i64_div]
theorem sgn_tmod (s : Bool) (m : Nat) : (sgn s m).tmod 65536 = sgn s (m % 65536) := by
  cases s
  · simp only [sgn, Bool.false_eq_true, if_false]; exact i64_mod m
  · simp only [sgn, if_true]
    rw [Int.neg_tmod, i64_mod]

theorem of_loop (b0 : Blk) (h0 : idsL b0.elems = []) (s : Bool) (n0 : Nat) (hn0 : n0 ≤ 9223372036854775808) (hns : s = false → n0 < 9223372036854775808) :
    ∃ e st, (∀ env, exec F l_ashlarref1_Of_0 ⟨[.int .i64 (sgn s n0), .mptr 0 0 0, .bool s, .slc true [], .und], env, [some b0], 0⟩ = some (e, st)) ∧
      (e = .exit 0 ∧ ∃ v d, st = ⟨[v, .mptr 0 0 0, .bool s, gv 1 d, .und], [], [some b0] ++ gb d, 0⟩ ∧ LimW d ∧ ew d = n0 ∧ d.length ≤ 4) := by
  refine loop_rule
    (fun n st => ∃ (d : List Nat), st = ⟨[.int .i64 (sgn s n), .mptr 0 0 0, .bool s, gv 1 d, .und], [], [some b0] ++ gb d, 0⟩ ∧ n ≤ 9223372036854775808 ∧ (s = false → n < 9223372036854775808) ∧ LimW d ∧ ew d + B16 ^ d.length * n = n0 ∧ n < 65536 ^ (4 - d.length) ∧ d.length ≤ 4) _ n0 _ ?_
    (tidy_one (by simp) h0) ⟨[], rfl, hn0, hns, (fun a ha => by cases ha), by simp [ew], by show n0 < 65536 ^ 4; omega, by simp⟩
  rintro n st ⟨d, rfl, hn, hs, hdl, hev, hlt, hd4⟩
  rcases Nat.eq_zero_or_pos n with rfl | hpos
  · refine .out (.exit 0) _ (by simp) ⟨rfl, .int .i64 (sgn s 0), d, rfl, hdl, by simpa using hev, hd4⟩ ?_
    cases s <;> simp [after, sgn]
  · have hlen : d.length < 4 := by
      apply Nat.lt_of_not_le
      intro h
      have : 4 - d.length = 0 := by omega
      rw [this] at hlt
      omega
    refine .more (n / 65536) _ (Nat.div_lt_self hpos (by decide)) ⟨d ++ [n % 65536], rfl, by omega, fun h => by have := hs h; omega, limW_append hdl (by intro z hz; simp at hz; subst hz; exact Nat.mod_lt _ (by decide)), ?_, ?_, by simp; omega⟩ ?_
    · rw [ew_snoc, List.length_append, List.length_singleton, Nat.pow_succ]
      have e : B16 ^ d.length * n = B16 ^ d.length * (n % 65536) + B16 ^ d.length * B16 * (n / 65536) := by
        rw [Nat.mul_assoc, ← Nat.mul_add]
        congr 1
        show n = n % 65536 + 65536 * (n / 65536)
        omega
      omega
    · rw [Nat.div_lt_iff_lt_mul (by decide), ← Nat.pow_succ]
      have : (4 - (d ++ [n % 65536]).length).succ = 4 - d.length := by simp; omega
      rw [this]; exact hlt
    · have hq := sgn_tdiv s n
      have hr := sgn_tmod s n
      have hr1 : n % 65536 < 65536 := Nat.mod_lt _ (by decide)
      have hq1 : n / 65536 < 281474976710656 := by omega
      clear hev hlt hs
      generalize n % 65536 = r at *
      generalize n / 65536 = q at *
      have hw : IntKind.i64.wrap (sgn s q) = sgn s q := by cases s <;> simp only [sgn, if_true, if_false, Bool.false_eq_true] <;> rw [wrap_i64 (by omega) (by omega)]
      have hne : ¬ sgn s n = 0 := by cases s <;> simp [sgn] <;> omega
      by_cases hr0 : s = true ∧ 0 < r
      · obtain ⟨rfl, hr0⟩ := hr0
        have hr' : sgn true r = -(r : Int) := rfl
        rw [hr'] at hr
        by_cases hd0 : d = []
        · subst hd0
          simp (disch := first | omega | simp) [after, gv_nil, gb_nil, gv_snoc, gb_snoc, tidy_eq, reach_end, reach_more, fuelIds, place_cons, pack, if_pos, if_neg, decide_eq_true, decide_eq_false, wrap_i64, hq, hr, hw, hne, goodElems, placeAll, elemsOf, maxB, i64s_one, h0, renL_self, Blk.ren]
          exact ⟨(gv_snoc 1 [] r).symm, (gb_snoc [] r).symm⟩
        · rw [gv_cons hd0, gb_cons hd0, gv_snoc, gb_snoc]
          simp (disch := first | omega | simp) [after, tidy_eq, reach_end, reach_more, fuelIds, place_cons, pack, if_pos, if_neg, decide_eq_true, decide_eq_false, wrap_i64, hq, hr, hw, hne, goodElems, placeAll, elemsOf, maxB, i64s_snoc, i64s_take_len, h0, renL_self, Blk.ren]
      · have hr' : sgn s r = (r : Int) := by cases s <;> simp [sgn] at hr0 ⊢; omega
        rw [hr'] at hr
        by_cases hd0 : d = []
        · subst hd0
          simp (disch := first | omega | simp) [after, gv_nil, gb_nil, gv_snoc, gb_snoc, tidy_eq, reach_end, reach_more, fuelIds, place_cons, pack, if_pos, if_neg, decide_eq_true, decide_eq_false, wrap_i64, hq, hr, hw, hne, goodElems, placeAll, elemsOf, maxB, i64s_one, h0, renL_self, Blk.ren]
          exact ⟨(gv_snoc 1 [] r).symm, (gb_snoc [] r).symm⟩
        · rw [gv_cons hd0, gb_cons hd0, gv_snoc, gb_snoc]
          simp (disch := first | omega | simp) [after, tidy_eq, reach_end, reach_more, fuelIds, place_cons, pack, if_pos, if_neg, decide_eq_true, decide_eq_false, wrap_i64, hq, hr, hw, hne, goodElems, placeAll, elemsOf, maxB, i64s_snoc, i64s_take_len, h0, renL_self, Blk.ren]

theorem hand_bool_gv (b : Bool) (d : List Nat) (b0 : Option Blk) (hd : d ≠ []) : handOn [.bool b, .mslc 1 0 d.length] [b0, some ⟨false, 1, i64s d⟩] = some ([.bool b, .slc false (i64s d)], [b0, some ⟨true, 1, i64s d⟩]) := by
  have ht2 := treeL_atE (H := [b0, some ⟨false, 1, i64s d⟩]) (id := 1) (n := 36) (len := d.length) (rest := []) rfl (by simp) (by simp) (by simp)
  rw [i64s_take_len] at ht2
  have h1 : treeL [b0, some ⟨false, 1, i64s d⟩] fuelTree [.bool b, .mslc 1 0 d.length] = some ([.bool b, .slc false (i64s d)], [1]) := by
    unfold fuelTree
    rw [treeL_cons (by simp), ht2]
    rfl
  simp [handOn, h1, freeze, Heap.at]

/-- Of: a small number. -/
theorem rof (z : Int) (h1 : -9223372036854775808 ≤ z) (h2 : z < 9223372036854775808) : ∃ nl, pureCall (run F) 34 [.int .i64 z] = some (RI nl z) := by
  have hz : sgn (decide (z < 0)) z.natAbs = z := by by_cases h : z < 0 <;> simp [sgn, h] <;> omega
  obtain ⟨e, st, he, rfl, v, d, rfl, g1, g2, g3⟩ := of_loop (F := F) ⟨false, 2, [.agg [.bool false, .slc true []]]⟩ (by simp) (decide (z < 0)) z.natAbs (by omega) (by intro h; simp at h; omega)
  rw [hz] at he
  have ht := pc_rtrim (F := F) (decide (z < 0)) (decide (d = [])) d g1 (by omega)
  rw [g2, hz] at ht
  refine ⟨decide (d = []), pure_ret h.ashlarref1_Of rfl ?_⟩
  by_cases h0 : d = []
  · subst h0
    simp only [gv_nil, gb_nil, List.append_nil] at he
    simp only [decide_true, i64s_empty] at ht
    simp (disch := omega) [c_ashlarref1_Of, he, any_pure, ht]
  · rw [gv_cons h0, gb_cons h0] at he
    simp only [List.cons_append, List.nil_append] at he
    simp only [h0, decide_false] at ht
    have hh := fun b b0 => hand_bool_gv b d b0 h0
    simp (disch := omega) [c_ashlarref1_Of, he, any_pure, hh, ht, h0]
end Go.Ash
/- The document's integers: Mul. -/
namespace Go.Ash
variable {F : Nat → Option RFunc} [h : CodeRef1 F]

theorem tidy_four {live : List Bool} {vars env : List AVal} {b0 b1 b2 b3 : Blk} (hv : idsL (mask live vars) = [0, 1, 2, 3]) (h0 : idsL b0.elems = []) (h1 : idsL b1.elems = []) (h2 : idsL b2.elems = []) (h3 : idsL b3.elems = []) :
    tidy live ⟨vars, env, [some b0, some b1, some b2, some b3], 0⟩ = some ⟨mask live vars, [], [some b0, some b1, some b2, some b3], 0⟩ := by
  refine tidy_keep ?_ ?_
  · simp [hv, reach, fuelIds, Heap.at, h0, h1, h2, h3, List.range_succ]
  · intro x hx k hk y hy
    simp at hx
    rcases hx with rfl | rfl | rfl | rfl <;> cases hk
    · rw [h0] at hy; cases hy
    · rw [h1] at hy; cases hy
    · rw [h2] at hy; cases hy
    · rw [h3] at hy; cases hy

theorem mul_step {E A p o v c c2 u yj Y R B : Nat} (e : v + B * c2 = c + (o + u * yj)) (hs : A + p * o = E + p * v) (h : R = A + p * B * (c2 + u * Y)) : R = E + p * (c + u * (yj + B * Y)) := by
  have e2 : p * (v + B * c2) = p * (c + (o + u * yj)) := by rw [e]
  have e3 : u * (B * Y) = B * (u * Y) := by rw [Nat.mul_left_comm]
  simp only [Nat.mul_add, Nat.mul_assoc, e3] at e2 h ⊢
  omega

theorem rmul_inner (n1 n2 : Bool) (x y : Int) (b2 : Blk) (hb2 : idsL b2.elems = []) (X Y : List Nat) (hX : DW x.natAbs = X) (hY : DW y.natAbs = Y) (hlx : X.length < 2^38) (hly : Y.length < 2^38) (i : Nat) (hi : i < X.length) (v8 v9 w0 w1 : AVal) (out0 : List Nat) (hl0 : out0.length = X.length + Y.length + 1) (hlim0 : LimW out0) :
    ∃ e st, (∀ env, exec F l_ashlarref1_Mul_0 ⟨[w0, w1, .mptr 0 0 0, .mptr 1 0 0, .mptr 2 0 0, .mslc 3 0 (X.length + Y.length + 1), .int .i64 i, .int .i64 0, .int .i64 0, v9], env,
        [some ⟨false, 2, [RI n1 x]⟩, some ⟨false, 2, [RI n2 y]⟩, some b2, some ⟨false, 1, i64s out0⟩], 0⟩ = some (e, st)) ∧
      (e = .exit 2 ∧ ∃ (out : List Nat) (c : Nat), st = ⟨[.und, .und, .mptr 0 0 0, .mptr 1 0 0, .mptr 2 0 0, .mslc 3 0 (X.length + Y.length + 1), .int .i64 i, .int .i64 c, .int .i64 Y.length, .und], [],
        [some ⟨false, 2, [RI n1 x]⟩, some ⟨false, 2, [RI n2 y]⟩, some b2, some ⟨false, 1, i64s out⟩], 0⟩ ∧ out.length = X.length + Y.length + 1 ∧ LimW out ∧ c < 65536 ∧ (∀ q, i + Y.length ≤ q → out[q]? = out0[q]?) ∧
        ew out + B16 ^ (i + Y.length) * c = ew out0 + B16 ^ i * (X[i] * ew Y)) := by
  have hXl := limW_DW x.natAbs
  have hYl := limW_DW y.natAbs
  rw [hX] at hXl
  rw [hY] at hYl
  have hu := hXl.get hi
  refine loop_rule
    (fun n st => ∃ (out : List Nat) (c j : Nat), st = ⟨[.und, .und, .mptr 0 0 0, .mptr 1 0 0, .mptr 2 0 0, .mslc 3 0 (X.length + Y.length + 1), .int .i64 i, .int .i64 c, .int .i64 j, .und], [],
        [some ⟨false, 2, [RI n1 x]⟩, some ⟨false, 2, [RI n2 y]⟩, some b2, some ⟨false, 1, i64s out⟩], 0⟩ ∧ j + n = Y.length ∧ out.length = X.length + Y.length + 1 ∧ LimW out ∧ c < 65536 ∧ (∀ q, i + Y.length ≤ q → out[q]? = out0[q]?) ∧
        ew out0 + B16 ^ i * (X[i] * ew Y) = ew out + B16 ^ (i + j) * (c + X[i] * ew (Y.drop j))) _ Y.length _ ?_
    (tidy_four (by simp) (by simp) (by simp) hb2 (by simp)) ⟨out0, 0, 0, rfl, by omega, hl0, hlim0, by omega, fun _ _ => rfl, by simp⟩
  rintro n st ⟨out, c, j, rfl, hn, hout, hlim, hc, hk, hev⟩
  rcases Nat.eq_zero_or_pos n with rfl | hpos
  · have hj : j = Y.length := by omega
    subst hj
    refine .out (.exit 2) _ (by simp) ⟨rfl, out, c, rfl, hout, hlim, hc, hk, ?_⟩ ?_
    · rw [hev, List.drop_of_length_le (Nat.le_refl _)]; simp [ew]
    · simp (disch := first | omega | simp) [after, if_pos, if_neg, decide_eq_false, hX, hY]
  · have hjy : j < Y.length := by omega
    have hyj := hYl.get hjy
    have hko : i + j < out.length := by omega
    have hok := hlim.get hko
    have hPn : X[i] * Y[j] ≤ 65535 * 65535 := Nat.mul_le_mul (by omega) (by omega)
    have hw1 : IntKind.i64.wrap ((X[i] : Int) * (Y[j] : Int)) = ((X[i] * Y[j] : Nat) : Int) := by rw [← Int.natCast_mul]; exact wrap_i64 (by omega) (by omega)
    have hw2 : IntKind.i64.wrap ((out[i + j] : Int) + ((X[i] * Y[j] : Nat) : Int)) = ((out[i + j] + X[i] * Y[j] : Nat) : Int) := by rw [← Int.natCast_add]; exact wrap_i64 (by omega) (by omega)
    have hw3 : IntKind.i64.wrap ((c : Int) + ((out[i + j] + X[i] * Y[j] : Nat) : Int)) = ((c + (out[i + j] + X[i] * Y[j]) : Nat) : Int) := by rw [← Int.natCast_add]; exact wrap_i64 (by omega) (by omega)
    have hm := i64_mod (c + (out[i + j] + X[i] * Y[j]))
    have hq := i64_div (c + (out[i + j] + X[i] * Y[j]))
    have hset := set_ew hko ((c + (out[i + j] + X[i] * Y[j])) % 65536)
    have hdm := Nat.div_add_mod (c + (out[i + j] + X[i] * Y[j])) 65536
    have hij : ((i : Int) + j).toNat = i + j := by omega
    refine .more (n - 1) _ (by omega) ⟨out.set (i + j) ((c + (out[i + j] + X[i] * Y[j])) % 65536), (c + (out[i + j] + X[i] * Y[j])) / 65536, j + 1, rfl, by omega, by simpa using hout, limW_set hlim (Nat.mod_lt _ (by decide)), by omega, ?_, ?_⟩ ?_
    · intro q hq
      rw [← hk q hq, List.getElem?_set_ne (by omega)]
    · rw [hev, drop_ew hjy]
      exact (mul_step (B := B16) (c2 := (c + (out[i + j] + X[i] * Y[j])) / 65536) (by show _ + 65536 * _ = _; omega) hset (by rw [show i + (j + 1) = i + j + 1 from rfl, Nat.pow_succ])).symm
    · have hM1 : c + (out[i + j] + X[i] * Y[j]) < 4294967296 := by omega
      clear hset hdm hev hk
      generalize c + (out[i + j] + X[i] * Y[j]) = M at *
      generalize out[i + j] + X[i] * Y[j] = M2 at *
      generalize X[i] * Y[j] = M3 at *
      generalize hmm : M % 65536 = m at *
      generalize hqq : M / 65536 = q at *
      simp (disch := first | omega | simp) [after, tidy_four, if_pos, if_neg, decide_eq_true, wrap_i64, get?_i64s, set_i64n, putElem, putOne, hX, hY, hij, hw1, hw2, hw3, hm, hq, hb2]

theorem rmul_outer (n1 n2 : Bool) (x y : Int) (b2 : Blk) (hb2 : idsL b2.elems = []) (X Y : List Nat) (hX : DW x.natAbs = X) (hY : DW y.natAbs = Y) (hlx : X.length < 2^38) (hly : Y.length < 2^38) (w0 w1 v7 v8 v9 : AVal) :
    ∃ e st, (∀ env, exec F l_ashlarref1_Mul_2 ⟨[w0, w1, .mptr 0 0 0, .mptr 1 0 0, .mptr 2 0 0, .mslc 3 0 (X.length + Y.length + 1), .int .i64 0, v7, v8, v9], env,
        [some ⟨false, 2, [RI n1 x]⟩, some ⟨false, 2, [RI n2 y]⟩, some b2, some ⟨false, 1, i64s (List.replicate (X.length + Y.length + 1) 0)⟩], 0⟩ = some (e, st)) ∧
      (e = .exit 0 ∧ ∃ (out : List Nat), st = ⟨[.und, .und, .mptr 0 0 0, .mptr 1 0 0, .mptr 2 0 0, .mslc 3 0 (X.length + Y.length + 1), .int .i64 X.length, .und, .und, .und], [],
        [some ⟨false, 2, [RI n1 x]⟩, some ⟨false, 2, [RI n2 y]⟩, some b2, some ⟨false, 1, i64s out⟩], 0⟩ ∧ out.length = X.length + Y.length + 1 ∧ LimW out ∧ ew out = ew X * ew Y) := by
  have hz0 : ∀ k, ew (List.replicate k 0) = 0 := fun k => by have := ew_zeros [] k; simpa [ew] using this
  refine loop_rule
    (fun n st => ∃ (out : List Nat) (i : Nat), st = ⟨[.und, .und, .mptr 0 0 0, .mptr 1 0 0, .mptr 2 0 0, .mslc 3 0 (X.length + Y.length + 1), .int .i64 i, .und, .und, .und], [],
        [some ⟨false, 2, [RI n1 x]⟩, some ⟨false, 2, [RI n2 y]⟩, some b2, some ⟨false, 1, i64s out⟩], 0⟩ ∧ i + n = X.length ∧ out.length = X.length + Y.length + 1 ∧ LimW out ∧ (∀ q, i + Y.length ≤ q → q < X.length + Y.length + 1 → out[q]? = some 0) ∧ ew out = ew (X.take i) * ew Y) _ X.length _ ?_
    (tidy_four (by simp) (by simp) (by simp) hb2 (by simp)) ⟨_, 0, rfl, by omega, by simp, limW_replicate _, by intro q _ hq; rw [List.getElem?_replicate, if_pos hq], by rw [hz0]; simp [ew]⟩
  rintro n st ⟨out, i, rfl, hn, hout, hlim, hz, hev⟩
  rcases Nat.eq_zero_or_pos n with rfl | hpos
  · have hi : i = X.length := by omega
    subst hi
    refine .out (.exit 0) _ (by simp) ⟨rfl, out, rfl, hout, hlim, by rw [hev, List.take_length]⟩ ?_
    simp (disch := first | omega | simp) [after, if_pos, if_neg, decide_eq_false, hX, hY]
  · have hix : i < X.length := by omega
    obtain ⟨e1, st1, he1, rfl, out1, c, rfl, g1, g2, g3, g4, g5⟩ := rmul_inner (F := F) n1 n2 x y b2 hb2 X Y hX hY hlx hly i hix .und .und .und .und out hout hlim
    have hpo : i + Y.length < out1.length := by omega
    have hzero : out1[i + Y.length] = 0 := by
      have h1 := g4 (i + Y.length) (Nat.le_refl _)
      rw [hz _ (Nat.le_refl _) (by omega), List.getElem?_eq_getElem hpo] at h1
      exact Option.some.inj h1
    have hset := set_ew hpo c
    rw [hzero, Nat.mul_zero, Nat.add_zero] at hset
    have hev' : ew (out1.set (i + Y.length) c) = ew (X.take (i + 1)) * ew Y := by
      rw [hset, g5, hev, ew_take_succ hix, Nat.add_mul, Nat.mul_assoc]
    have hz' : ∀ q, i + 1 + Y.length ≤ q → q < X.length + Y.length + 1 → (out1.set (i + Y.length) c)[q]? = some 0 := by
      intro q h1 h2
      rw [List.getElem?_set_ne (by omega), g4 q (by omega)]
      exact hz q (by omega) h2
    have hij : ((i : Int) + Y.length).toNat = i + Y.length := by omega
    have t4 : ∀ {live vars env els}, idsL (mask live vars) = [0, 1, 2, 3] → idsL els = [] → tidy live ⟨vars, env, [some ⟨false, 2, [RI n1 x]⟩, some ⟨false, 2, [RI n2 y]⟩, some b2, some ⟨false, 1, els⟩], 0⟩ =
        some ⟨mask live vars, [], [some ⟨false, 2, [RI n1 x]⟩, some ⟨false, 2, [RI n2 y]⟩, some b2, some ⟨false, 1, els⟩], 0⟩ := fun hv he => tidy_four hv (by simp) (by simp) hb2 he
    rcases Nat.eq_zero_or_pos c with rfl | hc
    · have hs : out1.set (i + Y.length) 0 = out1 := by
        rw [← hzero]; exact List.set_getElem_self hpo
      rw [hs] at hev' hz'
      refine .more (n - 1) _ (by omega) ⟨out1, i + 1, rfl, by omega, g1, g2, hz', hev'⟩ ?_
      have he2 : ∀ env, exec F l_ashlarref1_Mul_1 ⟨[.und, .und, .mptr 0 0 0, .mptr 1 0 0, .mptr 2 0 0, .mslc 3 0 (X.length + Y.length + 1), .int .i64 i, .int .i64 0, .int .i64 Y.length, .int .i64 ((i : Int) + Y.length)], env,
          [some ⟨false, 2, [RI n1 x]⟩, some ⟨false, 2, [RI n2 y]⟩, some b2, some ⟨false, 1, i64s out1⟩], 0⟩ = some (.exit 4, ⟨[.und, .und, .mptr 0 0 0, .mptr 1 0 0, .mptr 2 0 0, .mslc 3 0 (X.length + Y.length + 1), .int .i64 i, .int .i64 0, .und, .int .i64 ((i : Int) + Y.length)], [],
          [some ⟨false, 2, [RI n1 x]⟩, some ⟨false, 2, [RI n2 y]⟩, some b2, some ⟨false, 1, i64s out1⟩], 0⟩) := by
        intro env
        unfold l_ashlarref1_Mul_1
        rw [exec_loop, t4 (by simp) (by simp)]
        simp
      simp (disch := first | omega | simp) [after, t4, if_pos, if_neg, decide_eq_true, wrap_i64, hX, hY, he1, he2]
    · refine .more (n - 1) _ (by omega) ⟨out1.set (i + Y.length) c, i + 1, rfl, by omega, by simpa using g1, limW_set g2 g3, hz', hev'⟩ ?_
      have hm : (c : Int).tmod 65536 = (c : Int) := by rw [i64_mod, Nat.mod_eq_of_lt g3]
      have hq : (c : Int).tdiv 65536 = 0 := by rw [i64_div, Nat.div_eq_of_lt g3]; rfl
      have he2 : ∀ env, exec F l_ashlarref1_Mul_1 ⟨[.und, .und, .mptr 0 0 0, .mptr 1 0 0, .mptr 2 0 0, .mslc 3 0 (X.length + Y.length + 1), .int .i64 i, .int .i64 c, .int .i64 Y.length, .int .i64 ((i : Int) + Y.length)], env,
          [some ⟨false, 2, [RI n1 x]⟩, some ⟨false, 2, [RI n2 y]⟩, some b2, some ⟨false, 1, i64s out1⟩], 0⟩ = some (.exit 4, ⟨[.und, .und, .mptr 0 0 0, .mptr 1 0 0, .mptr 2 0 0, .mslc 3 0 (X.length + Y.length + 1), .int .i64 i, .int .i64 0, .und, .int .i64 ((i : Int) + Y.length + 1)], [],
          [some ⟨false, 2, [RI n1 x]⟩, some ⟨false, 2, [RI n2 y]⟩, some b2, some ⟨false, 1, i64s (out1.set (i + Y.length) c)⟩], 0⟩) := by
        intro env
        unfold l_ashlarref1_Mul_1
        rw [exec_loop, t4 (by simp) (by simp)]
        simp (disch := first | omega | simp) [if_pos, if_neg, decide_eq_true, wrap_i64, get?_i64s, set_i64n, putElem, putOne, hij, hzero, hm, hq]
        rw [exec_loop, t4 (by simp) (by simp)]
        simp
      simp (disch := first | omega | simp) [after, t4, if_pos, if_neg, decide_eq_true, wrap_i64, hX, hY, he1, he2]

/-- Mul: the product. -/
theorem rMul (n1 n2 : Bool) (x y : Int) (hx : (DW x.natAbs).length < 2^38) (hy : (DW y.natAbs).length < 2^38) : ∃ nl, pureCall (run F) 26 [RI n1 x, RI n2 y] = some (RI nl (x * y)) := by
  obtain ⟨e, st, he, rfl, out, rfl, g1, g2, g3⟩ := rmul_outer (F := F) n1 n2 x y ⟨false, 2, [.agg [.bool false, .slc true []]]⟩ (by simp) _ _ rfl rfl hx hy (RI n1 x) (RI n2 y) .und .und .und
  rw [ew_DW, ew_DW] at g3
  have ht := fun s => pc_rtrim (F := F) s false out g2 (by omega)
  rw [g3] at ht
  have hh : ∀ (b : Bool) (b0 b1 b2 : Option Blk), handOn [.bool b, .mslc 3 0 ((DW x.natAbs).length + (DW y.natAbs).length + 1)] [b0, b1, b2, some ⟨false, 1, i64s out⟩] = some ([.bool b, .slc false (i64s out)], [b0, b1, b2, some ⟨true, 1, i64s out⟩]) := by
    intro b b0 b1 b2
    have ht2 := treeL_atE (H := [b0, b1, b2, some ⟨false, 1, i64s out⟩]) (id := 3) (n := 36) (len := out.length) (rest := []) rfl (by simp) (by simp) (by simp)
    rw [i64s_take_len, g1] at ht2
    have h1 : treeL [b0, b1, b2, some ⟨false, 1, i64s out⟩] fuelTree [.bool b, .mslc 3 0 ((DW x.natAbs).length + (DW y.natAbs).length + 1)] = some ([.bool b, .slc false (i64s out)], [3]) := by
      unfold fuelTree
      rw [treeL_cons (by simp), ht2]
      rfl
    simp [handOn, h1, freeze, Heap.at]
  have tn : (((DW x.natAbs).length : Int) + (DW y.natAbs).length + 1).toNat = (DW x.natAbs).length + (DW y.natAbs).length + 1 := by omega
  have e : sgn (decide (x < 0) != decide (y < 0)) (x.natAbs * y.natAbs) = x * y := by
    have h1 : sgn (decide (x < 0)) x.natAbs = x := by by_cases h : x < 0 <;> simp [sgn, h] <;> omega
    have h2 : sgn (decide (y < 0)) y.natAbs = y := by by_cases h : y < 0 <;> simp [sgn, h] <;> omega
    conv => rhs; rw [← h1, ← h2]
    generalize decide (x < 0) = s
    generalize decide (y < 0) = t
    cases s <;> cases t <;> simp [sgn, Int.neg_mul, Int.mul_neg]
  refine ⟨false, pure_ret h.ashlarref1_Mul rfl ?_⟩
  simp (disch := first | omega | simp) [c_ashlarref1_Mul, wrap_i64, if_pos, maxB, i64s_replicate, tn, he, any_pure, hh, ht]
  rw [← e]
  generalize decide (x < 0) = s
  generalize decide (y < 0) = t
  cases s <;> cases t <;> rfl
end Go.Ash
/- The document's integers: small, times, Bits, Mod. -/
namespace Go.Ash
variable {F : Nat → Option RFunc} [h : CodeRef1 F]

theorem drop_set_succ' {l : List Nat} {i v : Nat} (hi : i < l.length) : (l.set i v).drop i = v :: l.drop (i + 1) := drop_set_succ hi

theorem rsmall_loop (nx : Bool) (x : List Nat) (d : Nat) (hx : LimW x) (hd : 0 < d) (hdB : d < 4294967296) (hlen : x.length < 2^40) :
    ∃ e st, (∀ env, exec F l_ashlarref1_small_0 ⟨[.slc nx (i64s x), .int .i64 d, .slc true [], .int .i64 0, .mslc 0 0 x.length, .int .i64 0, .int .i64 ((x.length : Int) - 1)], env, [some ⟨false, 1, i64s (List.replicate x.length 0)⟩], 0⟩ = some (e, st)) ∧
      (e = .exit 0 ∧ ∃ out r, st = ⟨[.slc nx (i64s x), .int .i64 d, .und, .und, .mslc 0 0 x.length, .int .i64 (r : Nat), .int .i64 (-1)], [], [some ⟨false, 1, i64s out⟩], 0⟩ ∧
        out.length = x.length ∧ LimW out ∧ r < d ∧ ew x = d * ew out + r) := by
  refine loop_rule
    (fun n st => ∃ (out : List Nat) (r : Nat), st = ⟨[.slc nx (i64s x), .int .i64 d, .und, .und, .mslc 0 0 x.length, .int .i64 r, .int .i64 ((n : Int) - 1)], [], [some ⟨false, 1, i64s out⟩], 0⟩ ∧
      n ≤ x.length ∧ out.length = x.length ∧ LimW out ∧ r < d ∧ ew (x.drop n) = d * ew (out.drop n) + r) _ x.length _ ?_
    (tidy_one (by simp) (by simp)) ⟨_, 0, rfl, Nat.le_refl _, by simp, limW_replicate _, hd, by simp [ew]⟩
  rintro n st ⟨out, r, rfl, hn, hout, hlim, hr, hev⟩
  rcases Nat.eq_zero_or_pos n with rfl | hpos
  · refine .out (.exit 0) _ (by simp) ⟨rfl, out, r, rfl, hout, hlim, hr, by simpa using hev⟩ ?_
    simp [after]
  · obtain ⟨n, rfl⟩ : ∃ k, n = k + 1 := ⟨n - 1, by omega⟩
    have hidx : ((n + 1 : Nat) : Int) - 1 = n := by omega
    have hnx : n < x.length := hn
    have hxn := hx.get hnx
    have hno : n < out.length := by omega
    have hM : r * 65536 + x[n] < 281474976710656 := by omega
    have hq : (r * 65536 + x[n]) / d < 65536 := by
      rw [Nat.div_lt_iff_lt_mul hd]
      have : (r + 1) * 65536 ≤ d * 65536 := Nat.mul_le_mul_right _ hr
      omega
    have hr2 : (r * 65536 + x[n]) % d < d := Nat.mod_lt _ hd
    have hdm := Nat.div_add_mod (r * 65536 + x[n]) d
    have hc : (r : Int) * 65536 + (x[n] : Int) = ((r * 65536 + x[n] : Nat) : Int) := by omega
    have hd0 : ¬ d = 0 := by omega
    have htd := tdiv_nat (r * 65536 + x[n]) d
    have htm := tmod_nat (r * 65536 + x[n]) d
    rw [hidx]
    obtain ⟨M, hMM⟩ : ∃ M, r * 65536 + x[n] = M := ⟨_, rfl⟩
    simp only [hMM] at hM hq hr2 hdm hc htd htm
    generalize hQQ : M / d = q at *
    generalize hRR : M % d = m at *
    refine .more n _ (Nat.lt_succ_self _) ⟨out.set n q, m, rfl, by omega, by simpa using hout, limW_set hlim (by omega), hr2, ?_⟩ ?_
    · rw [drop_set_succ' hno, drop_ew hnx, hev]
      simp only [ew]
      have e1 : B16 * (d * ew (out.drop (n + 1))) = d * (B16 * ew (out.drop (n + 1))) := Nat.mul_left_comm _ _ _
      have e2 : B16 * r = r * 65536 := Nat.mul_comm _ _
      rw [Nat.mul_add, Nat.mul_add, e1, e2]
      omega
    · simp (disch := first | omega | simp) [after, tidy_one, if_pos, if_neg, decide_eq_true, hnx, wrap_i64, get?_i64s, set_i64n, putElem, putOne, hc, hd0, htd, htm]

theorem pc_rsmall (nx : Bool) (x : List Nat) (d : Nat) (hx : LimW x) (hd : 0 < d) (hdB : d < 4294967296) (hlen : x.length < 2^40) :
    ∃ out, pureCall (run F) 101 [.slc nx (i64s x), .int .i64 d] = some (.tup [.slc false (i64s out), .int .i64 (ew x % d : Nat)]) ∧ out.length = x.length ∧ LimW out ∧ ew out = ew x / d := by
  obtain ⟨e, st, he, rfl, out, r, rfl, ho, hl, hr, hev⟩ := rsmall_loop (F := F) nx x d hx hd hdB hlen
  have h1 : ew x / d = ew out := by rw [hev, Nat.mul_add_div hd, Nat.div_eq_of_lt hr, Nat.add_zero]
  have h2 : ew x % d = r := by rw [hev, Nat.mul_add_mod, Nat.mod_eq_of_lt hr]
  refine ⟨out, ?_, ho, hl, h1.symm⟩
  rw [h2]
  have hre := reach_at (H := [some ⟨false, 1, i64s out⟩]) (id := 0) rfl (by simp)
  have ht : treeL [some ⟨false, 1, i64s out⟩] fuelTree [.tup [.mslc 0 0 x.length, .int .i64 r]] = some ([.tup [.slc false (i64s out), .int .i64 r]], [0]) := by
    have h3 := treeL_atE (H := [some ⟨false, 1, i64s out⟩]) (id := 0) (n := 35) (len := out.length) (rest := [.int .i64 r]) rfl (by simp) (by simp) (by simp)
    rw [i64s_take_len, ho] at h3
    unfold fuelTree
    rw [treeL_cons (by simp)]
    simp only [AVal.tree, h3, Option.map_some, Option.bind_some, treeL_free (n := 38) (show idsL [] = [] from rfl)]
    simp
  refine pure_ret h.ashlarref1_small rfl ?_
  simp (disch := first | omega | simp) [c_ashlarref1_small, if_pos, wrap_i64, maxB, i64s_replicate, he, hre, ht]

theorem rtimes_loop (nx : Bool) (x : List Nat) (m : Nat) (hx : LimW x) (hm : m ≤ 65536) (hlen : x.length < 2^40) :
    ∃ e st, (∀ env, exec F l_ashlarref1_times_0 ⟨[.slc nx (i64s x), .int .i64 m, .slc true [], .mslc 0 0 (x.length + 1), .int .i64 0, .int .i64 0], env, [some ⟨false, 1, i64s (List.replicate (x.length + 1) 0)⟩], 0⟩ = some (e, st)) ∧
      (e = .exit 0 ∧ ∃ (out : List Nat) (c : Nat), st = ⟨[.slc nx (i64s x), .int .i64 m, .und, .mslc 0 0 (x.length + 1), .int .i64 c, .int .i64 x.length], [], [some ⟨false, 1, i64s out⟩], 0⟩ ∧
        out.length = x.length + 1 ∧ LimW out ∧ c ≤ 65535 ∧ ew (out.take x.length) + B16 ^ x.length * c = ew x * m) := by
  refine loop_rule
    (fun n st => ∃ (out : List Nat) (c i : Nat), st = ⟨[.slc nx (i64s x), .int .i64 m, .und, .mslc 0 0 (x.length + 1), .int .i64 c, .int .i64 i], [], [some ⟨false, 1, i64s out⟩], 0⟩ ∧
      i + n = x.length ∧ out.length = x.length + 1 ∧ LimW out ∧ c ≤ 65535 ∧ ew (out.take i) + B16 ^ i * c = ew (x.take i) * m) _ x.length _ ?_
    (tidy_one (by simp) (by simp)) ⟨_, 0, 0, rfl, by omega, by simp, limW_replicate _, by omega, by simp [ew]⟩
  rintro n st ⟨out, c, i, rfl, hn, hout, hlim, hc, hev⟩
  rcases Nat.eq_zero_or_pos n with rfl | hpos
  · have hi : i = x.length := by omega
    subst hi
    refine .out (.exit 0) _ (by simp) ⟨rfl, out, c, rfl, hout, hlim, hc, by rwa [List.take_length] at hev⟩ ?_
    simp [after]
  · have hix : i < x.length := by omega
    have hxi := hx.get hix
    have hio : i < out.length := by omega
    have hP : x[i] * m ≤ 65535 * 65536 := Nat.mul_le_mul (by omega) hm
    have hw1 : IntKind.i64.wrap ((x[i] : Int) * (m : Int)) = ((x[i] * m : Nat) : Int) := by rw [← Int.natCast_mul]; exact wrap_i64 (by omega) (by omega)
    have hw2 : IntKind.i64.wrap ((c : Int) + ((x[i] * m : Nat) : Int)) = ((c + x[i] * m : Nat) : Int) := by rw [← Int.natCast_add]; exact wrap_i64 (by omega) (by omega)
    have hmm := i64_mod (c + x[i] * m)
    have hqq := i64_div (c + x[i] * m)
    have hdm := Nat.div_add_mod (c + x[i] * m) 65536
    refine .more (n - 1) _ (by omega) ⟨out.set i ((c + x[i] * m) % 65536), (c + x[i] * m) / 65536, i + 1, rfl, by omega, by simpa using hout, limW_set hlim (Nat.mod_lt _ (by decide)), by omega, ?_⟩ ?_
    · rw [set_plusW hio, ew_take_succ hix, Nat.pow_succ, Nat.add_mul, ← hev, Nat.mul_assoc, Nat.mul_assoc]
      have e5 : B16 ^ i * (65536 * ((c + x[i] * m) / 65536) + (c + x[i] * m) % 65536) = B16 ^ i * (c + x[i] * m) := by rw [hdm]
      have e8 : B16 ^ i * (B16 * ((c + x[i] * m) / 65536)) = B16 ^ i * (65536 * ((c + x[i] * m) / 65536)) := rfl
      simp only [Nat.mul_add] at e5 ⊢
      omega
    · have hM1 : c + x[i] * m < 8589934592 := by omega
      clear hdm hev
      generalize c + x[i] * m = M at *
      generalize x[i] * m = M3 at *
      generalize hr2 : M % 65536 = r at *
      generalize hq2 : M / 65536 = q at *
      simp (disch := first | omega | simp) [after, tidy_one, if_pos, if_neg, decide_eq_true, wrap_i64, get?_i64s, set_i64n, putElem, putOne, hw1, hw2, hmm, hqq]

theorem run_rtimes (nx : Bool) (x : List Nat) (m : Nat) (hx : LimW x) (hm : m ≤ 65536) (hlen : x.length < 2^40) :
    ∃ out, run F 120 [.slc nx (i64s x), .int .i64 m] [] = some (.mslc 0 0 (x.length + 1), [some ⟨false, 1, i64s out⟩]) ∧ out.length = x.length + 1 ∧ LimW out ∧ ew out = ew x * m := by
  obtain ⟨e, st, he, rfl, out, c, rfl, g1, g2, g3, g4⟩ := rtimes_loop (F := F) nx x m hx hm hlen
  refine ⟨out.set x.length c, ?_, by simpa using g1, limW_set g2 (by omega), ?_⟩
  · rw [run_eq h.ashlarref1_times rfl]
    have hre : reach [some ⟨false, 1, i64s (out.set x.length c)⟩] fuelIds [0] [] = some [0] := reach_at (b := ⟨false, 1, i64s (out.set x.length c)⟩) rfl (by simp)
    have tn : ((x.length : Int) + 1).toNat = x.length + 1 := by omega
    simp (disch := first | omega | simp) [c_ashlarref1_times, if_pos, wrap_i64, maxB, i64s_replicate, he, get?_i64s, set_i64n, putElem, putOne, RFunc.leave, hre, pack, place_cons]
  · rw [← g4]
    have : out.set x.length c = (out.set x.length c).take (x.length + 1) := by rw [List.take_of_length_le (by simp; omega)]
    rw [this, set_plusW (by omega)]
end Go.Ash
