/- The abstract interpreter of this work and its uses, part 11: AshInts, AshCodeRat, AshRat1, AshRat2, AshRat3. -/
import Derived.Test.YtgiimghbfplmfaaAshP10
set_option linter.all false
/- Laws of integers: each answers true. -/
namespace Go.Ash
variable {F : Nat → Option RFunc} [h : CodeLimbs F] [h1 : CodeRef1 F] [h2 : CodeLaw1 F]

theorem dwl {z : Int} {n : Nat} (hz : z.natAbs < B32 ^ n) : (DW z.natAbs).length ≤ 2 * n := DW_len_le (by rw [B16_pow2]; exact hz)
theorem dl {z : Int} {n : Nat} (hz : z.natAbs < B32 ^ n) : (D z.natAbs).length ≤ n := D_len_le hz

theorem is_true (nl : Bool) (z : Int) {n : Nat} (hz : z.natAbs < B32 ^ n) (hn : n < 2^36) : pureCall (run F) 29 [IV z, RI nl z] = some (.bool true) := by
  have := ris (F := F) nl z z (by have := dl hz; omega) (by have := dwl hz; omega)
  rwa [decide_eq_true rfl] at this

theorem bl_lim {z : Int} {n : Nat} (hz : z.natAbs < B32 ^ n) : bl z.natAbs ≤ 32 * n := bl_le.2 (by rw [← B32_pow]; exact hz)

theorem int_sums (hb : pureCall (run F) 22 [] = some (.bool true)) (na ra nb rb : Bool) (la lb : List Nat) (hla : Lim la) (hlb : Lim lb) (ha : la.length < 2^63) (hb' : lb.length < 2^63) :
    pureCall (run F) 55 [.agg [.bool na, .slc ra (u32s la)], .agg [.bool nb, .slc rb (u32s lb)]] = some (.bool true) := by
  obtain ⟨qa, ca⟩ := pc_cut (F := F) na ra la ha
  obtain ⟨qb, cb⟩ := pc_cut (F := F) nb rb lb hb'
  have ia := isI_cut na qa hla
  have ib := isI_cut nb qb hlb
  generalize sgn na (ev (la.take 24)) = x at ia
  generalize sgn nb (ev (lb.take 24)) = y at ib
  have xl := isI_lt ia
  have yl := isI_lt ib
  obtain ⟨k1, f1⟩ := rfrom (F := F) ia (by decide)
  obtain ⟨k2, f2⟩ := rfrom (F := F) ib (by decide)
  have dx := dwl xl
  have dy := dwl yl
  have sxy := isI_lt (isI_add xl yl)
  have mxy := isI_lt (isI_mul xl yl)
  have hmy : (-y).natAbs < B32 ^ 24 := by rw [Int.natAbs_neg]; exact yl
  have hmx : (-x).natAbs < B32 ^ 24 := by rw [Int.natAbs_neg]; exact xl
  have dxy : (x - y).natAbs < B32 ^ 25 := by rw [Int.sub_eq_add_neg]; exact isI_lt (isI_add xl hmy)
  have a1 := add_is (F := F) ia ib (by decide) (by decide)
  have a2 := sub_is (F := F) ia ib (by decide) (by decide)
  have a3 := mul_is (F := F) ia ib (by decide) (by decide)
  have a4 := neg_is (F := F) ia (by decide)
  have a5 := cmp_is (F := F) ia ib (by decide) (by decide)
  have a6 := sign_is (F := F) ia (by decide)
  have a7 := pc_bits_D (F := F) ia (by decide)
  obtain ⟨j1, b1⟩ := rAdd (F := F) k1 k2 x y (by omega) (by omega)
  obtain ⟨j2, b2⟩ := rSub (F := F) k1 k2 x y (by omega) (by omega)
  obtain ⟨j3, b3⟩ := rMul (F := F) k1 k2 x y (by omega) (by omega)
  have b4 := rneg (F := F) k1 x (by omega)
  have b5 := rCmp (F := F) k1 k2 x y (by omega) (by omega)
  have b6 := rsign (F := F) k1 x
  have b7 := rBits (F := F) k1 x (by omega)
  have c1 := is_true (F := F) j1 _ sxy (by decide)
  have c2 := is_true (F := F) j2 _ dxy (by decide)
  have c3 := is_true (F := F) j3 _ mxy (by decide)
  have c4 := is_true (F := F) k1 _ hmx (by decide)
  refine pure_ret h2.ashlarlaw1_IntSums rfl ?_
  simp [c_ashlarlaw1_IntSums, any_pure, hb, ca, cb, f1, f2, a1, a2, a3, a4, a5, a6, a7, b1, b2, b3, b4, b5, b6, b7, c1, c2, c3, c4, putElem, putAgg]

theorem int_mod (hb : pureCall (run F) 22 [] = some (.bool true)) (na ra : Bool) (la : List Nat) (hla : Lim la) (ha : la.length < 2^63) (m : Int) (m0 : -9223372036854775808 ≤ m) (m1 : m < 9223372036854775808) :
    pureCall (run F) 42 [.agg [.bool na, .slc ra (u32s la)], .int .i64 m] = some (.bool true) := by
  obtain ⟨qa, ca⟩ := pc_cut (F := F) na ra la ha
  have ia := isI_cut na qa hla
  generalize sgn na (ev (la.take 24)) = x at ia
  have xl := isI_lt ia
  obtain ⟨k1, f1⟩ := rfrom (F := F) ia (by decide)
  have dx := dwl xl
  have a1 := mod_is (F := F) ia (by decide) m m0 m1
  refine pure_ret h2.ashlarlaw1_IntMod rfl ?_
  by_cases hm : m < 1 ∨ 2147483647 < m
  · rw [if_pos hm] at a1
    by_cases hm1 : m < 1
    · simp (disch := omega) [c_ashlarlaw1_IntMod, any_pure, hb, ca, a1, if_pos, if_neg, decide_eq_true, decide_eq_false, putElem, putAgg]
    · simp (disch := omega) [c_ashlarlaw1_IntMod, any_pure, hb, ca, a1, if_pos, if_neg, decide_eq_true, decide_eq_false, putElem, putAgg]
  · rw [if_neg hm] at a1
    have b1 := rMod (F := F) k1 x m (by omega) (by omega) (by omega)
    simp (disch := omega) [c_ashlarlaw1_IntMod, any_pure, hb, ca, a1, f1, b1, if_pos, if_neg, decide_eq_true, decide_eq_false, putElem, putAgg]

theorem isI_div {x y : Int} {n : Nat} (hx : x.natAbs < B32 ^ n) : (x / y).natAbs < B32 ^ n := Nat.lt_of_le_of_lt (Int.natAbs_ediv_le_natAbs x y) hx
theorem isI_emod {x y : Int} {n : Nat} (hy0 : y ≠ 0) (hy : y.natAbs < B32 ^ n) : (x % y).natAbs < B32 ^ n := by
  have h1 := Int.emod_nonneg x hy0
  have h2 := Int.emod_lt x hy0
  omega

theorem int_quo (hb : pureCall (run F) 22 [] = some (.bool true)) (na ra nb rb : Bool) (la lb : List Nat) (hla : Lim la) (hlb : Lim lb) (ha : la.length < 2^63) (hb' : lb.length < 2^63) :
    pureCall (run F) 31 [.agg [.bool na, .slc ra (u32s la)], .agg [.bool nb, .slc rb (u32s lb)]] = some (.bool true) := by
  obtain ⟨qa, ca⟩ := pc_cut (F := F) na ra la ha
  obtain ⟨qb, cb⟩ := pc_cut (F := F) nb rb lb hb'
  have ia := isI_cut na qa hla
  have ib := isI_cut nb qb hlb
  generalize sgn na (ev (la.take 24)) = x at ia
  generalize sgn nb (ev (lb.take 24)) = y at ib
  have xl := isI_lt ia
  have yl := isI_lt ib
  obtain ⟨k1, f1⟩ := rfrom (F := F) ia (by decide)
  obtain ⟨k2, f2⟩ := rfrom (F := F) ib (by decide)
  have dx := dwl xl
  have dy := dwl yl
  have a1 := quo_is (F := F) ia ib (by decide) (by decide)
  have b1 := rsign (F := F) k2 y
  refine pure_ret h2.ashlarlaw1_IntQuo rfl ?_
  by_cases hy : y = 0
  · subst hy
    simp only [if_true] at a1
    have b1' : pureCall (run F) 25 [RI k2 0] = some (.int .i64 0) := b1
    simp [c_ashlarlaw1_IntQuo, any_pure, hb, ca, cb, f1, f2, a1, b1', putElem, putAgg]
  · rw [if_neg hy] at a1
    have hc : ¬ cmpZ y 0 = 0 := by unfold cmpZ; split <;> (try split) <;> omega
    have ql := isI_div (y := y) xl
    have rl := isI_emod (x := x) hy yl
    obtain ⟨k3, f3⟩ := rfrom (F := F) (isI_IV ql) (by decide)
    obtain ⟨k4, f4⟩ := rfrom (F := F) (isI_IV rl) (by decide)
    have dq := dwl ql
    have dr := dwl rl
    have ml := isI_lt (isI_mul ql yl)
    obtain ⟨j1, b2⟩ := rMul (F := F) k3 k2 (x / y) y (by omega) (by omega)
    obtain ⟨j2, b3⟩ := rAdd (F := F) j1 k4 (x / y * y) (x % y) (by have := dwl ml; omega) (by omega)
    have e : x / y * y + x % y = x := by have := Int.mul_ediv_add_emod x y; rw [Int.mul_comm]; exact this
    rw [e] at b3
    have b4 := rCmp (F := F) j2 k1 x x (by omega) (by omega)
    have hcx : cmpZ x x = 0 := by unfold cmpZ; rw [if_neg (by omega), if_pos rfl]
    rw [hcx] at b4
    have c1 := is_true (F := F) k3 _ ql (by decide)
    have c2 := is_true (F := F) k4 _ rl (by decide)
    have b5 := rsign (F := F) k4 (x % y)
    have h0 := Int.emod_nonneg x hy
    have h3 := Int.emod_lt x hy
    have hs : 0 ≤ cmpZ (x % y) 0 := by unfold cmpZ; rw [if_neg (by omega)]; split <;> omega
    have b6 := rabs (F := F) k2 y
    have b7 := rCmp (F := F) k4 k2 (x % y) (y.natAbs : Int) (by omega) (by rw [Int.natAbs_natCast]; omega)
    have hlt : cmpZ (x % y) (y.natAbs : Int) = -1 := by unfold cmpZ; rw [if_pos h3]
    rw [hlt] at b7
    generalize x / y = q at *
    generalize x % y = r at *
    generalize cmpZ r 0 = s at *
    generalize cmpZ y 0 = t at *
    simp (disch := omega) [c_ashlarlaw1_IntQuo, any_pure, hb, ca, cb, f1, f2, f3, f4, a1, b1, b2, b3, b4, b5, b6, b7, c1, c2, hc, putElem, putAgg, if_pos, if_neg, decide_eq_true, decide_eq_false]

theorem gcd_lt {x y : Int} {n : Nat} (hx : x.natAbs < B32 ^ n) (hy : y.natAbs < B32 ^ n) : ((Int.gcd x y : Nat) : Int).natAbs < B32 ^ n := by
  rw [Int.natAbs_natCast]
  rcases Nat.eq_zero_or_pos x.natAbs with h0 | h0
  · have : Int.gcd x y = y.natAbs := by rw [Int.gcd, h0, Nat.gcd_zero_left]
    omega
  · have : Int.gcd x y ≤ x.natAbs := Nat.gcd_le_left _ h0
    omega

theorem int_gcd (hb : pureCall (run F) 22 [] = some (.bool true)) (na ra nb rb nc rc : Bool) (la lb lc : List Nat) (hla : Lim la) (hlb : Lim lb) (hlc : Lim lc)
    (ha : la.length < 2^63) (hb' : lb.length < 2^63) (hc : lc.length < 2^63) :
    pureCall (run F) 39 [.agg [.bool na, .slc ra (u32s la)], .agg [.bool nb, .slc rb (u32s lb)], .agg [.bool nc, .slc rc (u32s lc)]] = some (.bool true) := by
  obtain ⟨qa, ca⟩ := pc_cut (F := F) na ra la ha
  obtain ⟨qb, cb⟩ := pc_cut (F := F) nb rb lb hb'
  obtain ⟨qc, cc⟩ := pc_cut (F := F) nc rc lc hc
  have ia := isI_cut na qa hla
  have ib := isI_cut nb qb hlb
  have ic := isI_cut nc qc hlc
  generalize sgn na (ev (la.take 24)) = x at ia
  generalize sgn nb (ev (lb.take 24)) = y at ib
  generalize sgn nc (ev (lc.take 24)) = z at ic
  have xl := isI_lt ia
  have yl := isI_lt ib
  have zl := isI_lt ic
  obtain ⟨k1, f1⟩ := rfrom (F := F) ia (by decide)
  obtain ⟨k2, f2⟩ := rfrom (F := F) ib (by decide)
  obtain ⟨k3, f3⟩ := rfrom (F := F) ic (by decide)
  have dx := dwl xl
  have dy := dwl yl
  have dz := dwl zl
  have gl := gcd_lt xl yl
  have dg := dwl gl
  have a1 := gcd_is (F := F) ia ib (by decide) (by decide)
  obtain ⟨k4, f4⟩ := rfrom (F := F) (isI_IV gl) (by decide)
  obtain ⟨k5, b1⟩ := rGcd (F := F) k1 k2 x y (by omega) (by omega)
  have c1 := is_true (F := F) k5 _ gl (by decide)
  have a2 := mul_is (F := F) ia ic (by decide) (by decide)
  have a3 := mul_is (F := F) ib ic (by decide) (by decide)
  have a4 := gcd_is (F := F) (isI_mul xl zl) (isI_mul yl zl) (by decide) (by decide)
  have b2 := rabs (F := F) k3 z
  obtain ⟨k6, b3⟩ := rMul (F := F) k4 k3 (Int.gcd x y : Nat) (z.natAbs : Int) (by omega) (by rw [Int.natAbs_natCast]; omega)
  have e : ((Int.gcd (x * z) (y * z) : Nat) : Int) = (Int.gcd x y : Nat) * (z.natAbs : Int) := by
    rw [Int.gcd_mul_right, Int.natCast_mul]
  rw [e] at a4
  have ml : (((Int.gcd x y : Nat) : Int) * (z.natAbs : Int)).natAbs < B32 ^ 48 := isI_lt (isI_mul gl (by rw [Int.natAbs_natCast]; exact zl))
  have c2 := is_true (F := F) k6 _ ml (by decide)
  refine pure_ret h2.ashlarlaw1_IntGcd rfl ?_
  generalize ((Int.gcd x y : Nat) : Int) * (z.natAbs : Int) = w at *
  generalize ((Int.gcd x y : Nat) : Int) = g at *
  generalize (z.natAbs : Int) = zz at *
  simp [c_ashlarlaw1_IntGcd, any_pure, hb, ca, cb, cc, f1, f2, f3, f4, a1, a2, a3, a4, b1, b2, b3, c1, c2, putElem, putAgg]

theorem int_small (hb : pureCall (run F) 22 [] = some (.bool true)) (n : Int) (n0 : -9223372036854775808 ≤ n) (n1 : n < 9223372036854775808) (na ra : Bool) (la : List Nat) (hla : Lim la) (ha : la.length < 2^63) :
    pureCall (run F) 35 [.int .i64 n, .agg [.bool na, .slc ra (u32s la)]] = some (.bool true) := by
  obtain ⟨qa, ca⟩ := pc_cut (F := F) na ra la ha
  have ia := isI_cut na qa hla
  generalize sgn na (ev (la.take 24)) = x at ia
  have xl := isI_lt ia
  obtain ⟨k1, f1⟩ := rfrom (F := F) ia (by decide)
  have dx := dwl xl
  have a1 := pc_of (F := F) n n0 n1
  have hnl : n.natAbs < B32 ^ 2 := by show n.natAbs < 18446744073709551616; omega
  have a2 := small_is (F := F) (isI_IV hnl) (by decide)
  rw [if_pos ⟨n0, n1⟩] at a2
  obtain ⟨k2, b1⟩ := rof (F := F) n n0 n1
  have c1 := is_true (F := F) k2 _ hnl (by decide)
  have a3 := small_is (F := F) ia (by decide)
  obtain ⟨k3, b2⟩ := rof (F := F) (-9223372036854775808) (by decide) (by decide)
  obtain ⟨k4, b3⟩ := rof (F := F) 9223372036854775807 (by decide) (by decide)
  have l3 : (DW (-9223372036854775808 : Int).natAbs).length < 2^39 := by
    have := DW_len_le (n := (-9223372036854775808 : Int).natAbs) (k := 4) (by decide)
    omega
  have l4 : (DW (9223372036854775807 : Int).natAbs).length < 2^39 := by
    have := DW_len_le (n := (9223372036854775807 : Int).natAbs) (k := 4) (by decide)
    omega
  have b4 := rCmp (F := F) k1 k3 x (-9223372036854775808) (by omega) l3
  have b5 := rCmp (F := F) k1 k4 x 9223372036854775807 (by omega) l4
  refine pure_ret h2.ashlarlaw1_IntSmall rfl ?_
  by_cases hx : -9223372036854775808 ≤ x ∧ x < 9223372036854775808
  · rw [if_pos hx] at a3
    obtain ⟨k5, b6⟩ := rof (F := F) x hx.1 hx.2
    have b7 := rCmp (F := F) k5 k1 x x (by omega) (by omega)
    have hcx : cmpZ x x = 0 := by unfold cmpZ; rw [if_neg (by omega), if_pos rfl]
    rw [hcx] at b7
    have e1 : 0 ≤ cmpZ x (-9223372036854775808) := by unfold cmpZ; rw [if_neg (by omega)]; split <;> omega
    have e2 : cmpZ x 9223372036854775807 ≤ 0 := by unfold cmpZ; split; omega; rw [if_pos (by omega)]; omega
    generalize cmpZ x (-9223372036854775808) = s1 at *
    generalize cmpZ x 9223372036854775807 = s2 at *
    simp (disch := omega) [c_ashlarlaw1_IntSmall, any_pure, hb, ca, f1, a1, a2, a3, b1, b2, b3, b4, b5, b6, b7, c1, if_pos, if_neg, decide_eq_true, decide_eq_false, putElem, putAgg]
  · rw [if_neg hx] at a3
    have e1 : 0 ≤ cmpZ x (-9223372036854775808) ∧ ¬ cmpZ x 9223372036854775807 ≤ 0 ∨ ¬ 0 ≤ cmpZ x (-9223372036854775808) := by
      unfold cmpZ
      by_cases h : x < -9223372036854775808
      · right; rw [if_pos h]; omega
      · left
        rw [if_neg h, if_neg (show ¬ x < 9223372036854775807 from by omega), if_neg (show ¬ x = 9223372036854775807 from by omega)]
        refine ⟨?_, by omega⟩
        split <;> omega
    generalize cmpZ x (-9223372036854775808) = s1 at *
    generalize cmpZ x 9223372036854775807 = s2 at *
    rcases e1 with ⟨e1, e2⟩ | e1
    · simp (disch := omega) [c_ashlarlaw1_IntSmall, any_pure, hb, ca, f1, a1, a2, a3, b1, b2, b3, b4, b5, c1, if_pos, if_neg, decide_eq_true, decide_eq_false, putElem, putAgg]
    · simp (disch := omega) [c_ashlarlaw1_IntSmall, any_pure, hb, ca, f1, a1, a2, a3, b1, b2, b3, b4, b5, c1, if_pos, if_neg, decide_eq_true, decide_eq_false, putElem, putAgg]

theorem int_power (hb : pureCall (run F) 22 [] = some (.bool true)) (na ra : Bool) (la : List Nat) (hla : Lim la) (ha : la.length < 2^63) (n : Int) (n0 : -9223372036854775808 ≤ n) (n1 : n < 9223372036854775808) :
    pureCall (run F) 63 [.agg [.bool na, .slc ra (u32s la)], .int .i64 n] = some (.bool true) := by
  obtain ⟨qa, ca⟩ := pc_cut (F := F) na ra la ha
  have ia := isI_cut na qa hla
  generalize sgn na (ev (la.take 24)) = x at ia
  have xl := isI_lt ia
  obtain ⟨k1, f1⟩ := rfrom (F := F) ia (by decide)
  have dx := dwl xl
  have hbl := bl_lim xl
  have a1 := power_is (F := F) ia (by decide) n n0 n1
  have b1 := rBits (F := F) k1 x (by omega)
  refine pure_ret h2.ashlarlaw1_IntPower rfl ?_
  by_cases hn : n < 0
  · rw [if_pos hn] at a1
    simp (disch := omega) [c_ashlarlaw1_IntPower, any_pure, hb, ca, f1, a1, b1, if_pos, if_neg, decide_eq_true, decide_eq_false, putElem, putAgg]
  · rw [if_neg hn] at a1
    obtain ⟨N, rfl⟩ : ∃ N : Nat, n = N := ⟨n.toNat, by omega⟩
    simp only [Int.toNat_natCast] at a1
    rcases Nat.lt_or_ge 1 (bl x.natAbs) with hb1 | hb1
    · have htd : (1048576 : Int).tdiv ((bl x.natAbs : Nat) : Int) = ((1048576 / bl x.natAbs : Nat) : Int) := tdiv_nat 1048576 (bl x.natAbs)
      have hle : 1048576 / bl x.natAbs ≤ 1048576 := Nat.div_le_self _ _
      have hb0 : ¬ bl x.natAbs = 0 := by omega
      by_cases hbig : 1048576 / bl x.natAbs < N
      · rw [if_pos ⟨hb1, hbig⟩] at a1
        generalize 1048576 / bl x.natAbs = w at *
        simp (disch := omega) [c_ashlarlaw1_IntPower, any_pure, hb, ca, f1, a1, b1, htd, hb0, wrap_i64, if_pos, if_neg, decide_eq_true, decide_eq_false, putElem, putAgg]
      · rw [if_neg (fun h => hbig h.2)] at a1
        rcases Nat.lt_or_ge 20 N with h20 | h20
        · generalize 1048576 / bl x.natAbs = w at *
          simp (disch := omega) [c_ashlarlaw1_IntPower, any_pure, hb, ca, f1, a1, b1, htd, hb0, wrap_i64, if_pos, if_neg, decide_eq_true, decide_eq_false, putElem, putAgg]
        · have hbn : bl x.natAbs * N ≤ 32 * 24 * 20 := Nat.mul_le_mul hbl h20
          obtain ⟨k2, b2⟩ := rPower (F := F) k1 x N (by omega) (by omega) (by omega)
          obtain ⟨K, hK⟩ : ∃ K : Nat, K = 481 := ⟨_, rfl⟩
          have hpl : (x ^ N).natAbs < B32 ^ K := by
            rw [Int.natAbs_pow, B32_pow]
            have h1 := bl_pow_le x.natAbs N
            have h2 : 2 ^ (bl x.natAbs * N + 1) ≤ 2 ^ (32 * K) := Nat.pow_le_pow_right (by decide) (by omega)
            omega
          have c1 := is_true (F := F) k2 _ hpl (by omega)
          clear hpl hbn
          generalize 1048576 / bl x.natAbs = w at *
          generalize x ^ N = z at *
          simp (disch := omega) [c_ashlarlaw1_IntPower, any_pure, hb, ca, f1, a1, b1, b2, c1, htd, hb0, wrap_i64, if_pos, if_neg, decide_eq_true, decide_eq_false, putElem, putAgg]
    · rw [if_neg (fun h => by omega)] at a1
      have hx1 : x.natAbs < 2 := by
        have := (bl_le (n := x.natAbs) (k := 1)).1 hb1
        simpa using this
      obtain ⟨k2, b2⟩ := rof (F := F) 1 (by decide) (by decide)
      have c1 := is_true (F := F) k2 1 (n := 1) (by decide) (by decide)
      have c2 := is_true (F := F) k1 x (n := 1) (by show x.natAbs < 4294967296; omega) (by decide)
      have htm := tmod2 N
      have hz : (N = 0 ∨ (N % 2 = 0 ∧ bl x.natAbs = 1)) → x ^ N = 1 := by
        rintro (rfl | ⟨h1, h2⟩)
        · exact Int.pow_zero _
        · have h3 : x ≠ 0 := by rintro rfl; exact absurd h2 (by decide)
          rcases (by omega : x = 1 ∨ x = -1) with rfl | rfl
          · exact Int.one_pow
          · have := sgn_pow_even (a := 1) (s := true) h1
            rw [Nat.one_pow] at this
            exact this
      have hz2 : ¬ (N = 0 ∨ (N % 2 = 0 ∧ bl x.natAbs = 1)) → x ^ N = x := by
        intro hc
        rcases (by omega : x = 0 ∨ x = 1 ∨ x = -1) with rfl | rfl | rfl
        · exact Int.zero_pow (fun h => hc (.inl h))
        · exact Int.one_pow
        · have hodd : N % 2 = 1 := by
            rcases Nat.mod_two_eq_zero_or_one N with h | h
            · exact absurd (.inr ⟨h, by decide⟩) hc
            · exact h
          have := sgn_pow_odd (a := 1) (s := true) hodd
          rw [Nat.one_pow] at this
          exact this
      generalize bl x.natAbs = B at *
      generalize x ^ N = z at *
      by_cases hN0 : N = 0
      · have := hz (.inl hN0)
        subst this
        clear hz hz2
        simp (disch := omega) [c_ashlarlaw1_IntPower, any_pure, hb, ca, f1, a1, b1, b2, c1, if_pos, if_neg, decide_eq_true, decide_eq_false, putElem, putAgg]
      · by_cases h2 : N % 2 = 0
        · rw [h2] at htm
          by_cases hB : B = 1
          · have := hz (.inr ⟨h2, hB⟩)
            subst this
            clear hz hz2
            simp (disch := omega) [c_ashlarlaw1_IntPower, any_pure, hb, ca, f1, a1, b1, b2, c1, hN0, htm, hB, if_pos, if_neg, decide_eq_true, decide_eq_false, putElem, putAgg]
          · have := hz2 (fun h => h.elim hN0 (fun h => hB h.2))
            subst this
            clear hz hz2
            simp (disch := omega) [c_ashlarlaw1_IntPower, any_pure, hb, ca, f1, a1, b1, b2, c2, hN0, htm, hB, if_pos, if_neg, decide_eq_true, decide_eq_false, putElem, putAgg]
        · have h1 : N % 2 = 1 := by omega
          rw [h1] at htm
          have := hz2 (fun h => h.elim hN0 (fun h => h2 h.1))
          subst this
          clear hz hz2
          simp (disch := omega) [c_ashlarlaw1_IntPower, any_pure, hb, ca, f1, a1, b1, b2, c2, hN0, htm, if_pos, if_neg, decide_eq_true, decide_eq_false, putElem, putAgg]
end Go.Ash
/- The code of functions of the given program, printed by a program of this work out of the dump (codes.py): data alone. -/
namespace Go.Ash
set_option maxRecDepth 10000
def c_rat_made : RFunc := ⟨2, [0, 1, 2, 3, 4, 5],
(.seq (.region [⟨.box, [.v 0], some 2, none, []⟩,
 ⟨.box, [.v 1], some 3, none, []⟩,
 ⟨.alloc (.agg [.bool false, .slc true [], .bool false, .slc true []]), [], some 4, none, []⟩] false)
(.seq (.seq (.region [⟨.load true 2, [.v 2], none, none, []⟩,
 ⟨.call false 52, [.p 0], none, none, []⟩,
 ⟨.bin .eql, [.p 0, .c (.int .i64 0)], none, none, []⟩,
 ⟨.mov, [.p 0], none, none, []⟩,
 ⟨.load true 2, [.v 3], none, some (0, false), []⟩,
 ⟨.call false 52, [.p 0], none, some (1, false), []⟩,
 ⟨.bin .eql, [.p 0, .c (.int .i64 0)], none, some (2, false), []⟩,
 ⟨.pick, [.p 3, .c (.bool true), .p 0], none, none, []⟩] false)
(.cond (.p 0) (.seq (.region [⟨.call false 32, [.c (.int .i64 1)], none, none, []⟩,
 ⟨.build [.bool false, .slc true [], .bool false, .slc true []] [(2, 2)], [.p 0], none, none, []⟩,
 ⟨.store 4, [.v 4, .p 0], none, none, []⟩] false)
.ret) .skip))
(.seq (.region [⟨.load true 2, [.v 2], none, none, []⟩,
 ⟨.load true 2, [.v 3], none, none, []⟩,
 ⟨.call false 36, [.p 1, .p 0], none, none, []⟩,
 ⟨.alloc (.agg [.bool false, .slc true []]), [], some 5, none, []⟩,
 ⟨.store 2, [.v 5, .p 1], none, none, []⟩] false)
(.seq (.seq (.region [⟨.load true 2, [.v 3], none, none, []⟩,
 ⟨.call false 52, [.p 0], none, none, []⟩,
 ⟨.bin .lss, [.p 0, .c (.int .i64 0)], none, none, []⟩] false)
(.cond (.p 0) (.region [⟨.load true 2, [.v 5], none, none, []⟩,
 ⟨.call false 49, [.p 0], none, none, []⟩,
 ⟨.store 2, [.v 5, .p 0], none, none, []⟩] false) .skip))
(.seq (.region [⟨.load true 2, [.v 2], none, none, []⟩,
 ⟨.load true 2, [.v 5], none, none, []⟩,
 ⟨.call false 24, [.p 1, .p 0], none, none, []⟩,
 ⟨.mov, [.p 0], none, none, []⟩,
 ⟨.extract 0, [.p 0], none, none, []⟩,
 ⟨.extract 1, [.p 1], none, none, []⟩,
 ⟨.extract 2, [.p 2], none, none, []⟩,
 ⟨.store 2, [.v 2, .p 2], none, none, []⟩] false)
(.seq (.region [⟨.load true 2, [.v 3], none, none, []⟩,
 ⟨.load true 2, [.v 5], none, none, []⟩,
 ⟨.call false 24, [.p 1, .p 0], none, none, []⟩,
 ⟨.mov, [.p 0], none, none, []⟩,
 ⟨.extract 0, [.p 0], none, none, []⟩,
 ⟨.extract 1, [.p 1], none, none, []⟩,
 ⟨.extract 2, [.p 2], none, none, []⟩,
 ⟨.store 2, [.v 3, .p 2], none, none, []⟩] false)
(.seq (.region [⟨.load true 2, [.v 2], none, none, []⟩,
 ⟨.load true 2, [.v 3], none, none, []⟩,
 ⟨.build [.bool false, .slc true [], .bool false, .slc true []] [(0, 2), (2, 2)], [.p 1, .p 0], none, none, []⟩,
 ⟨.store 4, [.v 4, .p 0], none, none, []⟩] false)
.ret))))))),
[.cell 4 true 4]⟩
def c_rat_Of : RFunc := ⟨2, [0, 1, 4, 5],
(.seq (.region [⟨.alloc (.agg [.bool false, .slc true [], .bool false, .slc true []]), [], some 2, none, []⟩,
 ⟨.mov, [.c (.int .i64 0)], some 3, none, []⟩] false)
(.seq (.region [⟨.mov, [.v 0], none, none, []⟩,
 ⟨.call false 32, [.p 0], none, none, []⟩,
 ⟨.mov, [.v 1], none, none, []⟩,
 ⟨.call false 32, [.p 0], none, none, []⟩,
 ⟨.call false 130, [.p 2, .p 0], none, none, []⟩,
 ⟨.extract 0, [.p 0], none, none, []⟩,
 ⟨.extract 1, [.p 1], none, none, []⟩,
 ⟨.store 4, [.v 2, .p 1], none, none, []⟩,
 ⟨.mov, [.p 1], some 3, none, []⟩] false)
.ret)),
[.cell 2 true 4, .v 3]⟩
def c_rat_Over : RFunc := ⟨2, [0, 1, 2, 3, 4, 5],
(.seq (.region [⟨.box, [.v 0], some 2, none, []⟩,
 ⟨.box, [.v 1], some 3, none, []⟩,
 ⟨.alloc (.agg [.bool false, .slc true [], .bool false, .slc true []]), [], some 4, none, []⟩,
 ⟨.mov, [.c (.int .i64 0)], some 5, none, []⟩] false)
(.seq (.seq (.region [⟨.load true 2, [.v 3], none, none, []⟩,
 ⟨.call false 52, [.p 0], none, none, []⟩,
 ⟨.bin .eql, [.p 0, .c (.int .i64 0)], none, none, []⟩] false)
(.cond (.p 0) (.seq (.region [⟨.load true 2, [.v 2], none, none, []⟩,
 ⟨.load true 2, [.v 3], none, none, []⟩,
 ⟨.call false 194, [.p 1, .p 0], none, none, []⟩,
 ⟨.store 4, [.v 4, .p 0], none, none, []⟩,
 ⟨.mov, [.c (.int .i64 2)], some 5, none, []⟩] false)
.ret) .skip))
(.seq (.region [⟨.load true 2, [.v 2], none, none, []⟩,
 ⟨.load true 2, [.v 3], none, none, []⟩,
 ⟨.call false 194, [.p 1, .p 0], none, none, []⟩,
 ⟨.store 4, [.v 4, .p 0], none, none, []⟩,
 ⟨.mov, [.c (.int .i64 0)], some 5, none, []⟩] false)
.ret))),
[.cell 4 true 4, .v 5]⟩
def c_rat_Whole : RFunc := ⟨1, [0, 1, 2, 3],
(.seq (.region [⟨.box, [.v 0], some 1, none, []⟩,
 ⟨.alloc (.agg [.bool false, .slc true []]), [], some 2, none, []⟩,
 ⟨.mov, [.c (.bool false)], some 3, none, []⟩] false)
(.seq (.region [⟨.load true 4, [.v 1], none, none, []⟩,
 ⟨.call false 143, [.p 0], none, none, []⟩,
 ⟨.store 4, [.v 1, .p 0], none, none, []⟩] false)
(.seq (.seq (.region [⟨.faddr 2, [.v 1], none, none, []⟩,
 ⟨.load true 2, [.p 0], none, none, []⟩,
 ⟨.call false 53, [.p 0], none, none, []⟩,
 ⟨.bin .gtr, [.p 0, .c (.int .i64 1)], none, none, []⟩] false)
(.cond (.p 0) (.seq (.region [⟨.build [.bool false, .slc true []] [], [], none, none, []⟩,
 ⟨.store 2, [.v 2, .p 0], none, none, []⟩,
 ⟨.mov, [.c (.bool false)], some 3, none, []⟩] false)
.ret) .skip))
(.seq (.region [⟨.faddr 0, [.v 1], none, none, []⟩,
 ⟨.load true 2, [.p 0], none, none, []⟩,
 ⟨.store 2, [.v 2, .p 0], none, none, []⟩,
 ⟨.mov, [.c (.bool true)], some 3, none, []⟩] false)
.ret)))),
[.cell 2 true 2, .v 3]⟩
def c_rat_Norm : RFunc := ⟨1, [0, 1, 2],
(.seq (.region [⟨.box, [.v 0], some 1, none, []⟩,
 ⟨.alloc (.agg [.bool false, .slc true [], .bool false, .slc true []]), [], some 2, none, []⟩] false)
(.seq (.region [⟨.faddr 0, [.v 1], none, none, []⟩,
 ⟨.load true 2, [.p 0], none, none, []⟩,
 ⟨.faddr 2, [.v 1], none, none, []⟩,
 ⟨.load true 2, [.p 0], none, none, []⟩,
 ⟨.call false 194, [.p 2, .p 0], none, none, []⟩,
 ⟨.store 4, [.v 2, .p 0], none, none, []⟩] false)
.ret)),
[.cell 2 true 4]⟩
def c_rat_Cmp : RFunc := ⟨2, [0, 1, 2, 3, 4],
(.seq (.region [⟨.box, [.v 0], some 2, none, []⟩,
 ⟨.box, [.v 1], some 3, none, []⟩,
 ⟨.mov, [.c (.int .i64 0)], some 4, none, []⟩] false)
(.seq (.region [⟨.load true 4, [.v 2], none, none, []⟩,
 ⟨.load true 4, [.v 3], none, none, []⟩,
 ⟨.call false 135, [.p 1, .p 0], none, none, []⟩,
 ⟨.fld true 0 2, [.p 0], none, none, []⟩,
 ⟨.call false 52, [.p 0], none, none, []⟩,
 ⟨.mov, [.p 0], some 4, none, []⟩] false)
.ret)),
[.v 4]⟩
def c_rat_sum : RFunc := ⟨3, [0, 1, 2, 3, 4, 6],
(.seq (.region [⟨.box, [.v 0], some 3, none, []⟩,
 ⟨.box, [.v 1], some 4, none, []⟩,
 ⟨.alloc (.agg [.bool false, .slc true [], .bool false, .slc true []]), [], some 5, none, []⟩] false)
(.seq (.region [⟨.load true 4, [.v 3], none, none, []⟩,
 ⟨.call false 143, [.p 0], none, none, []⟩,
 ⟨.load true 4, [.v 4], none, none, []⟩,
 ⟨.call false 143, [.p 0], none, none, []⟩,
 ⟨.store 4, [.v 3, .p 2], none, none, []⟩,
 ⟨.store 4, [.v 4, .p 1], none, none, []⟩] true)
(.seq (.region [⟨.mov, [.v 2], none, none, []⟩,
 ⟨.faddr 0, [.v 3], none, none, []⟩,
 ⟨.load true 2, [.p 0], none, none, []⟩,
 ⟨.faddr 2, [.v 4], none, none, []⟩,
 ⟨.load true 2, [.p 0], none, none, []⟩,
 ⟨.call false 38, [.p 2, .p 0], none, none, []⟩,
 ⟨.faddr 0, [.v 4], none, none, []⟩,
 ⟨.load true 2, [.p 0], none, none, []⟩,
 ⟨.faddr 2, [.v 3], none, none, []⟩,
 ⟨.load true 2, [.p 0], none, none, []⟩,
 ⟨.call false 38, [.p 2, .p 0], none, none, []⟩,
 ⟨.callv false, [.p 10, .p 5, .p 0], none, none, []⟩,
 ⟨.faddr 2, [.v 3], none, none, []⟩,
 ⟨.load true 2, [.p 0], none, none, []⟩,
 ⟨.faddr 2, [.v 4], none, none, []⟩,
 ⟨.load true 2, [.p 0], none, none, []⟩,
 ⟨.call false 38, [.p 2, .p 0], none, none, []⟩,
 ⟨.call false 194, [.p 5, .p 0], none, none, []⟩,
 ⟨.store 4, [.v 5, .p 0], none, none, []⟩] true)
.ret))),
[.cell 5 true 4]⟩
def c_rat_Add : RFunc := ⟨2, [0, 1, 2, 3, 4],
(.seq (.region [⟨.box, [.v 0], some 2, none, []⟩,
 ⟨.box, [.v 1], some 3, none, []⟩,
 ⟨.alloc (.agg [.bool false, .slc true [], .bool false, .slc true []]), [], some 4, none, []⟩] false)
(.seq (.region [⟨.load true 4, [.v 2], none, none, []⟩,
 ⟨.load true 4, [.v 3], none, none, []⟩,
 ⟨.call false 196, [.p 1, .p 0, .c (.fn 43 [] [])], none, none, []⟩,
 ⟨.store 4, [.v 4, .p 0], none, none, []⟩] false)
.ret)),
[.cell 4 true 4]⟩
def c_rat_Sub : RFunc := ⟨2, [0, 1, 2, 3, 4],
(.seq (.region [⟨.box, [.v 0], some 2, none, []⟩,
 ⟨.box, [.v 1], some 3, none, []⟩,
 ⟨.alloc (.agg [.bool false, .slc true [], .bool false, .slc true []]), [], some 4, none, []⟩] false)
(.seq (.region [⟨.load true 4, [.v 2], none, none, []⟩,
 ⟨.load true 4, [.v 3], none, none, []⟩,
 ⟨.call false 196, [.p 1, .p 0, .c (.fn 46 [] [])], none, none, []⟩,
 ⟨.store 4, [.v 4, .p 0], none, none, []⟩] false)
.ret)),
[.cell 4 true 4]⟩
def c_rat_Mul : RFunc := ⟨2, [0, 1, 2, 3, 4],
(.seq (.region [⟨.box, [.v 0], some 2, none, []⟩,
 ⟨.box, [.v 1], some 3, none, []⟩,
 ⟨.alloc (.agg [.bool false, .slc true [], .bool false, .slc true []]), [], some 4, none, []⟩] false)
(.seq (.region [⟨.load true 4, [.v 2], none, none, []⟩,
 ⟨.call false 143, [.p 0], none, none, []⟩,
 ⟨.load true 4, [.v 3], none, none, []⟩,
 ⟨.call false 143, [.p 0], none, none, []⟩,
 ⟨.store 4, [.v 2, .p 2], none, none, []⟩,
 ⟨.store 4, [.v 3, .p 1], none, none, []⟩] true)
(.seq (.region [⟨.faddr 0, [.v 2], none, none, []⟩,
 ⟨.load true 2, [.p 0], none, none, []⟩,
 ⟨.faddr 0, [.v 3], none, none, []⟩,
 ⟨.load true 2, [.p 0], none, none, []⟩,
 ⟨.call false 38, [.p 2, .p 0], none, none, []⟩,
 ⟨.faddr 2, [.v 2], none, none, []⟩,
 ⟨.load true 2, [.p 0], none, none, []⟩,
 ⟨.faddr 2, [.v 3], none, none, []⟩,
 ⟨.load true 2, [.p 0], none, none, []⟩,
 ⟨.call false 38, [.p 2, .p 0], none, none, []⟩,
 ⟨.call false 194, [.p 5, .p 0], none, none, []⟩,
 ⟨.store 4, [.v 4, .p 0], none, none, []⟩] true)
.ret))),
[.cell 4 true 4]⟩
def c_rat_Quo : RFunc := ⟨2, [0, 1, 2, 3, 4, 5],
(.seq (.region [⟨.box, [.v 0], some 2, none, []⟩,
 ⟨.box, [.v 1], some 3, none, []⟩,
 ⟨.alloc (.agg [.bool false, .slc true [], .bool false, .slc true []]), [], some 4, none, []⟩,
 ⟨.mov, [.c (.int .i64 0)], some 5, none, []⟩] false)
(.seq (.region [⟨.load true 4, [.v 2], none, none, []⟩,
 ⟨.call false 143, [.p 0], none, none, []⟩,
 ⟨.load true 4, [.v 3], none, none, []⟩,
 ⟨.call false 143, [.p 0], none, none, []⟩,
 ⟨.store 4, [.v 2, .p 2], none, none, []⟩,
 ⟨.store 4, [.v 3, .p 1], none, none, []⟩] true)
(.seq (.region [⟨.faddr 0, [.v 2], none, none, []⟩,
 ⟨.load true 2, [.p 0], none, none, []⟩,
 ⟨.faddr 2, [.v 3], none, none, []⟩,
 ⟨.load true 2, [.p 0], none, none, []⟩,
 ⟨.call false 38, [.p 2, .p 0], none, none, []⟩,
 ⟨.faddr 2, [.v 2], none, none, []⟩,
 ⟨.load true 2, [.p 0], none, none, []⟩,
 ⟨.faddr 0, [.v 3], none, none, []⟩,
 ⟨.load true 2, [.p 0], none, none, []⟩,
 ⟨.call false 38, [.p 2, .p 0], none, none, []⟩,
 ⟨.call false 130, [.p 5, .p 0], none, none, []⟩,
 ⟨.extract 0, [.p 0], none, none, []⟩,
 ⟨.extract 1, [.p 1], none, none, []⟩,
 ⟨.store 4, [.v 4, .p 1], none, none, []⟩,
 ⟨.mov, [.p 1], some 5, none, []⟩] true)
.ret))),
[.cell 4 true 4, .v 5]⟩
def c_rat_Bits : RFunc := ⟨1, [0, 1, 2],
(.seq (.region [⟨.box, [.v 0], some 1, none, []⟩,
 ⟨.mov, [.c (.int .i64 0)], some 2, none, []⟩] false)
(.seq (.region [⟨.load true 4, [.v 1], none, none, []⟩,
 ⟨.call false 143, [.p 0], none, none, []⟩,
 ⟨.store 4, [.v 1, .p 0], none, none, []⟩] false)
(.seq (.region [⟨.faddr 0, [.v 1], none, none, []⟩,
 ⟨.load true 2, [.p 0], none, none, []⟩,
 ⟨.call false 53, [.p 0], none, none, []⟩,
 ⟨.faddr 2, [.v 1], none, none, []⟩,
 ⟨.load true 2, [.p 0], none, none, []⟩,
 ⟨.call false 53, [.p 0], none, none, []⟩,
 ⟨.bin .add, [.p 3, .p 0], none, none, []⟩,
 ⟨.mov, [.p 0], some 2, none, []⟩] true)
.ret))),
[.v 2]⟩
def c_rat_Text : RFunc := ⟨1, [0, 1, 2, 3],
(.seq (.region [⟨.box, [.v 0], some 1, none, []⟩,
 ⟨.mov, [.c (.str ByteArray.empty)], some 2, none, []⟩] false)
(.seq (.region [⟨.load true 4, [.v 1], none, none, []⟩,
 ⟨.call false 143, [.p 0], none, none, []⟩,
 ⟨.store 4, [.v 1, .p 0], none, none, []⟩] false)
(.seq (.region [⟨.faddr 0, [.v 1], none, none, []⟩,
 ⟨.load true 2, [.p 0], none, none, []⟩,
 ⟨.call false 56, [.p 0], none, none, []⟩,
 ⟨.mov, [.p 0], some 3, none, []⟩] false)
(.seq (.seq (.region [⟨.faddr 2, [.v 1], none, none, []⟩,
 ⟨.load true 2, [.p 0], none, none, []⟩,
 ⟨.call false 53, [.p 0], none, none, []⟩,
 ⟨.bin .gtr, [.p 0, .c (.int .i64 1)], none, none, []⟩] false)
(.cond (.p 0) (.region [⟨.mov, [.v 3], none, none, []⟩,
 ⟨.faddr 2, [.v 1], none, none, []⟩,
 ⟨.load true 2, [.p 0], none, none, []⟩,
 ⟨.call false 56, [.p 0], none, none, []⟩,
 ⟨.bin .add, [.c (.str ⟨#[47]⟩), .p 0], none, none, []⟩,
 ⟨.bin .add, [.p 4, .p 0], none, none, []⟩,
 ⟨.mov, [.p 0], some 3, none, []⟩] false) .skip))
(.seq (.region [⟨.mov, [.v 3], none, none, []⟩,
 ⟨.mov, [.p 0], some 2, none, []⟩] false)
.ret))))),
[.v 2]⟩
def c_ashlarref2_Make : RFunc := ⟨2, [0, 1, 2, 3, 4, 5, 6, 8],
(.seq (.region [⟨.box, [.v 0], some 2, none, []⟩,
 ⟨.box, [.v 1], some 3, none, []⟩,
 ⟨.alloc (.agg [.bool false, .slc true [], .bool false, .slc true []]), [], some 4, none, []⟩] false)
(.seq (.seq (.region [⟨.load true 2, [.v 3], none, none, []⟩,
 ⟨.call false 25, [.p 0], none, none, []⟩,
 ⟨.bin .eql, [.p 0, .c (.int .i64 0)], none, none, []⟩,
 ⟨.mov, [.p 0], none, none, []⟩,
 ⟨.load true 2, [.v 2], none, some (0, false), []⟩,
 ⟨.call false 25, [.p 0], none, some (1, false), []⟩,
 ⟨.bin .eql, [.p 0, .c (.int .i64 0)], none, some (2, false), []⟩,
 ⟨.pick, [.p 3, .c (.bool true), .p 0], none, none, []⟩] false)
(.cond (.p 0) (.seq (.region [⟨.call false 34, [.c (.int .i64 0)], none, none, []⟩,
 ⟨.call false 34, [.c (.int .i64 1)], none, none, []⟩,
 ⟨.build [.bool false, .slc true [], .bool false, .slc true []] [(0, 2), (2, 2)], [.p 1, .p 0], none, none, []⟩,
 ⟨.store 4, [.v 4, .p 0], none, none, []⟩] false)
.ret) .skip))
(.seq (.region [⟨.load true 2, [.v 2], none, none, []⟩,
 ⟨.load true 2, [.v 3], none, none, []⟩,
 ⟨.call false 37, [.p 1, .p 0], none, none, []⟩,
 ⟨.alloc (.agg [.bool false, .slc true []]), [], some 5, none, []⟩,
 ⟨.store 2, [.v 5, .p 1], none, none, []⟩] false)
(.seq (.region [⟨.load true 2, [.v 2], none, none, []⟩,
 ⟨.load true 2, [.v 5], none, none, []⟩,
 ⟨.call false 94, [.p 1, .p 0], none, none, []⟩,
 ⟨.mov, [.p 0], none, none, []⟩,
 ⟨.extract 0, [.p 0], none, none, []⟩,
 ⟨.extract 1, [.p 1], none, none, []⟩,
 ⟨.alloc (.agg [.bool false, .slc true []]), [], some 6, none, []⟩,
 ⟨.alloc (.agg [.bool false, .slc true []]), [], none, none, []⟩,
 ⟨.store 2, [.v 6, .p 3], none, none, []⟩,
 ⟨.store 2, [.p 1, .p 3], none, none, []⟩] false)
(.seq (.region [⟨.load true 2, [.v 3], none, none, []⟩,
 ⟨.load true 2, [.v 5], none, none, []⟩,
 ⟨.call false 94, [.p 1, .p 0], none, none, []⟩,
 ⟨.mov, [.p 0], none, none, []⟩,
 ⟨.extract 0, [.p 0], none, none, []⟩,
 ⟨.extract 1, [.p 1], none, none, []⟩,
 ⟨.alloc (.agg [.bool false, .slc true []]), [], some 7, none, []⟩,
 ⟨.alloc (.agg [.bool false, .slc true []]), [], none, none, []⟩,
 ⟨.store 2, [.v 7, .p 3], none, none, []⟩,
 ⟨.store 2, [.p 1, .p 3], none, none, []⟩] false)
(.seq (.seq (.region [⟨.faddr 0, [.v 7], none, none, []⟩,
 ⟨.load false 1, [.p 0], none, none, []⟩] false)
(.cond (.p 0) (.seq (.region [⟨.load true 2, [.v 6], none, none, []⟩,
 ⟨.call false 50, [.p 0], none, none, []⟩,
 ⟨.store 2, [.v 6, .p 0], none, none, []⟩] false)
(.region [⟨.load true 2, [.v 7], none, none, []⟩,
 ⟨.call false 50, [.p 0], none, none, []⟩,
 ⟨.store 2, [.v 7, .p 0], none, none, []⟩] false)) .skip))
(.seq (.region [⟨.load true 2, [.v 6], none, none, []⟩,
 ⟨.load true 2, [.v 7], none, none, []⟩,
 ⟨.build [.bool false, .slc true [], .bool false, .slc true []] [(0, 2), (2, 2)], [.p 1, .p 0], none, none, []⟩,
 ⟨.store 4, [.v 4, .p 0], none, none, []⟩] false)
.ret))))))),
[.cell 4 true 4]⟩
def c_ashlarref2_From : RFunc := ⟨1, [0, 1, 2],
(.seq (.region [⟨.box, [.v 0], some 1, none, []⟩,
 ⟨.alloc (.agg [.bool false, .slc true [], .bool false, .slc true []]), [], some 2, none, []⟩] false)
(.seq (.region [⟨.faddr 0, [.v 1], none, none, []⟩,
 ⟨.load true 2, [.p 0], none, none, []⟩,
 ⟨.call false 10, [.p 0], none, none, []⟩,
 ⟨.faddr 2, [.v 1], none, none, []⟩,
 ⟨.load true 2, [.p 0], none, none, []⟩,
 ⟨.call false 10, [.p 0], none, none, []⟩,
 ⟨.call false 131, [.p 3, .p 0], none, none, []⟩,
 ⟨.store 4, [.v 2, .p 0], none, none, []⟩] true)
.ret)),
[.cell 2 true 4]⟩
def c_ashlarref2_Int : RFunc := ⟨1, [0, 1, 2],
(.seq (.region [⟨.box, [.v 0], some 1, none, []⟩,
 ⟨.alloc (.agg [.bool false, .slc true [], .bool false, .slc true []]), [], some 2, none, []⟩] false)
(.seq (.region [⟨.load true 2, [.v 1], none, none, []⟩,
 ⟨.call false 34, [.c (.int .i64 1)], none, none, []⟩,
 ⟨.build [.bool false, .slc true [], .bool false, .slc true []] [(0, 2), (2, 2)], [.p 1, .p 0], none, none, []⟩,
 ⟨.store 4, [.v 2, .p 0], none, none, []⟩] true)
.ret)),
[.cell 2 true 4]⟩
def c_ashlarref2_Of : RFunc := ⟨1, [0, 2],
(.seq (.region [⟨.alloc (.agg [.bool false, .slc true [], .bool false, .slc true []]), [], some 1, none, []⟩] false)
(.seq (.region [⟨.mov, [.v 0], none, none, []⟩,
 ⟨.call false 34, [.p 0], none, none, []⟩,
 ⟨.call false 193, [.p 0], none, none, []⟩,
 ⟨.store 4, [.v 1, .p 0], none, none, []⟩] false)
.ret)),
[.cell 1 true 4]⟩
def c_ashlarref2_Add : RFunc := ⟨2, [0, 1, 2, 3, 4, 5, 6],
(.seq (.region [⟨.box, [.v 0], some 2, none, []⟩,
 ⟨.box, [.v 1], some 3, none, []⟩,
 ⟨.alloc (.agg [.bool false, .slc true [], .bool false, .slc true []]), [], some 4, none, []⟩] false)
(.seq (.region [⟨.faddr 0, [.v 2], none, none, []⟩,
 ⟨.load true 2, [.p 0], none, none, []⟩,
 ⟨.faddr 2, [.v 3], none, none, []⟩,
 ⟨.load true 2, [.p 0], none, none, []⟩,
 ⟨.call false 26, [.p 2, .p 0], none, none, []⟩,
 ⟨.alloc (.agg [.bool false, .slc true []]), [], some 5, none, []⟩,
 ⟨.store 2, [.v 5, .p 1], none, none, []⟩] false)
(.seq (.region [⟨.faddr 0, [.v 3], none, none, []⟩,
 ⟨.load true 2, [.p 0], none, none, []⟩,
 ⟨.faddr 2, [.v 2], none, none, []⟩,
 ⟨.load true 2, [.p 0], none, none, []⟩,
 ⟨.call false 26, [.p 2, .p 0], none, none, []⟩,
 ⟨.alloc (.agg [.bool false, .slc true []]), [], some 6, none, []⟩,
 ⟨.store 2, [.v 6, .p 1], none, none, []⟩] false)
(.seq (.region [⟨.load true 2, [.v 5], none, none, []⟩,
 ⟨.load true 2, [.v 6], none, none, []⟩,
 ⟨.call false 27, [.p 1, .p 0], none, none, []⟩,
 ⟨.faddr 2, [.v 2], none, none, []⟩,
 ⟨.load true 2, [.p 0], none, none, []⟩,
 ⟨.faddr 2, [.v 3], none, none, []⟩,
 ⟨.load true 2, [.p 0], none, none, []⟩,
 ⟨.call false 26, [.p 2, .p 0], none, none, []⟩,
 ⟨.call false 131, [.p 5, .p 0], none, none, []⟩,
 ⟨.store 4, [.v 4, .p 0], none, none, []⟩] true)
.ret)))),
[.cell 4 true 4]⟩
def c_ashlarref2_Neg : RFunc := ⟨1, [0, 1, 2],
(.seq (.region [⟨.box, [.v 0], some 1, none, []⟩,
 ⟨.alloc (.agg [.bool false, .slc true [], .bool false, .slc true []]), [], some 2, none, []⟩] false)
(.seq (.region [⟨.faddr 0, [.v 1], none, none, []⟩,
 ⟨.load true 2, [.p 0], none, none, []⟩,
 ⟨.call false 50, [.p 0], none, none, []⟩,
 ⟨.faddr 2, [.v 1], none, none, []⟩,
 ⟨.load true 2, [.p 0], none, none, []⟩,
 ⟨.build [.bool false, .slc true [], .bool false, .slc true []] [(0, 2), (2, 2)], [.p 2, .p 0], none, none, []⟩,
 ⟨.store 4, [.v 2, .p 0], none, none, []⟩] true)
.ret)),
[.cell 2 true 4]⟩
def c_ashlarref2_Mul : RFunc := ⟨2, [0, 1, 2, 3, 4],
(.seq (.region [⟨.box, [.v 0], some 2, none, []⟩,
 ⟨.box, [.v 1], some 3, none, []⟩,
 ⟨.alloc (.agg [.bool false, .slc true [], .bool false, .slc true []]), [], some 4, none, []⟩] false)
(.seq (.region [⟨.faddr 0, [.v 2], none, none, []⟩,
 ⟨.load true 2, [.p 0], none, none, []⟩,
 ⟨.faddr 0, [.v 3], none, none, []⟩,
 ⟨.load true 2, [.p 0], none, none, []⟩,
 ⟨.call false 26, [.p 2, .p 0], none, none, []⟩,
 ⟨.faddr 2, [.v 2], none, none, []⟩,
 ⟨.load true 2, [.p 0], none, none, []⟩,
 ⟨.faddr 2, [.v 3], none, none, []⟩,
 ⟨.load true 2, [.p 0], none, none, []⟩,
 ⟨.call false 26, [.p 2, .p 0], none, none, []⟩,
 ⟨.call false 131, [.p 5, .p 0], none, none, []⟩,
 ⟨.store 4, [.v 4, .p 0], none, none, []⟩] true)
.ret)),
[.cell 4 true 4]⟩
def c_ashlarref2_Quo : RFunc := ⟨2, [0, 1, 2, 3, 4],
(.seq (.region [⟨.box, [.v 0], some 2, none, []⟩,
 ⟨.box, [.v 1], some 3, none, []⟩,
 ⟨.alloc (.agg [.bool false, .slc true [], .bool false, .slc true []]), [], some 4, none, []⟩] false)
(.seq (.region [⟨.faddr 0, [.v 2], none, none, []⟩,
 ⟨.load true 2, [.p 0], none, none, []⟩,
 ⟨.faddr 2, [.v 3], none, none, []⟩,
 ⟨.load true 2, [.p 0], none, none, []⟩,
 ⟨.call false 26, [.p 2, .p 0], none, none, []⟩,
 ⟨.faddr 2, [.v 2], none, none, []⟩,
 ⟨.load true 2, [.p 0], none, none, []⟩,
 ⟨.faddr 0, [.v 3], none, none, []⟩,
 ⟨.load true 2, [.p 0], none, none, []⟩,
 ⟨.call false 26, [.p 2, .p 0], none, none, []⟩,
 ⟨.call false 131, [.p 5, .p 0], none, none, []⟩,
 ⟨.store 4, [.v 4, .p 0], none, none, []⟩] true)
.ret)),
[.cell 4 true 4]⟩
def c_ashlarref2_Cmp : RFunc := ⟨2, [0, 1, 2, 3, 4],
(.seq (.region [⟨.box, [.v 0], some 2, none, []⟩,
 ⟨.box, [.v 1], some 3, none, []⟩,
 ⟨.mov, [.c (.int .i64 0)], some 4, none, []⟩] false)
(.seq (.region [⟨.faddr 0, [.v 2], none, none, []⟩,
 ⟨.load true 2, [.p 0], none, none, []⟩,
 ⟨.faddr 2, [.v 3], none, none, []⟩,
 ⟨.load true 2, [.p 0], none, none, []⟩,
 ⟨.call false 26, [.p 2, .p 0], none, none, []⟩,
 ⟨.faddr 0, [.v 3], none, none, []⟩,
 ⟨.load true 2, [.p 0], none, none, []⟩,
 ⟨.faddr 2, [.v 2], none, none, []⟩,
 ⟨.load true 2, [.p 0], none, none, []⟩,
 ⟨.call false 26, [.p 2, .p 0], none, none, []⟩,
 ⟨.call false 28, [.p 5, .p 0], none, none, []⟩,
 ⟨.mov, [.p 0], some 4, none, []⟩] true)
.ret)),
[.v 4]⟩
def c_ashlarref2_Sign : RFunc := ⟨1, [0, 1, 2],
(.seq (.region [⟨.box, [.v 0], some 1, none, []⟩,
 ⟨.mov, [.c (.int .i64 0)], some 2, none, []⟩] false)
(.seq (.region [⟨.faddr 0, [.v 1], none, none, []⟩,
 ⟨.load true 2, [.p 0], none, none, []⟩,
 ⟨.call false 25, [.p 0], none, none, []⟩,
 ⟨.mov, [.p 0], some 2, none, []⟩] false)
.ret)),
[.v 2]⟩
def c_ashlarref2_Bits : RFunc := ⟨1, [0, 1, 2],
(.seq (.region [⟨.box, [.v 0], some 1, none, []⟩,
 ⟨.mov, [.c (.int .i64 0)], some 2, none, []⟩] false)
(.seq (.region [⟨.faddr 0, [.v 1], none, none, []⟩,
 ⟨.load true 2, [.p 0], none, none, []⟩,
 ⟨.call false 54, [.p 0], none, none, []⟩,
 ⟨.faddr 2, [.v 1], none, none, []⟩,
 ⟨.load true 2, [.p 0], none, none, []⟩,
 ⟨.call false 54, [.p 0], none, none, []⟩,
 ⟨.bin .add, [.p 3, .p 0], none, none, []⟩,
 ⟨.mov, [.p 0], some 2, none, []⟩] true)
.ret)),
[.v 2]⟩
def c_ashlarref2_whole : RFunc := ⟨1, [0, 1, 2],
(.seq (.region [⟨.box, [.v 0], some 1, none, []⟩,
 ⟨.mov, [.c (.bool false)], some 2, none, []⟩] false)
(.seq (.region [⟨.faddr 2, [.v 1], none, none, []⟩,
 ⟨.load true 2, [.p 0], none, none, []⟩,
 ⟨.call false 34, [.c (.int .i64 1)], none, none, []⟩,
 ⟨.call false 28, [.p 1, .p 0], none, none, []⟩,
 ⟨.bin .eql, [.p 0, .c (.int .i64 0)], none, none, []⟩,
 ⟨.mov, [.p 0], some 2, none, []⟩] true)
.ret)),
[.v 2]⟩
def c_ashlarref2_Whole : RFunc := ⟨1, [0, 1, 2],
(.seq (.region [⟨.box, [.v 0], some 1, none, []⟩,
 ⟨.mov, [.c (.bool false)], some 2, none, []⟩] false)
(.seq (.region [⟨.load true 4, [.v 1], none, none, []⟩,
 ⟨.call false 195, [.p 0], none, none, []⟩,
 ⟨.mov, [.p 0], some 2, none, []⟩] false)
.ret)),
[.v 2]⟩
def c_ashlarref2_Is : RFunc := ⟨2, [0, 1, 2, 3, 4],
(.seq (.region [⟨.box, [.v 0], some 2, none, []⟩,
 ⟨.box, [.v 1], some 3, none, []⟩,
 ⟨.mov, [.c (.bool false)], some 4, none, []⟩] false)
(.seq (.region [⟨.faddr 0, [.v 2], none, none, []⟩,
 ⟨.load true 2, [.p 0], none, none, []⟩,
 ⟨.faddr 0, [.v 3], none, none, []⟩,
 ⟨.load true 2, [.p 0], none, none, []⟩,
 ⟨.call false 29, [.p 2, .p 0], none, none, []⟩,
 ⟨.mov, [.p 0], none, none, []⟩,
 ⟨.faddr 2, [.v 2], none, some (0, true), []⟩,
 ⟨.load true 2, [.p 0], none, some (1, true), []⟩,
 ⟨.faddr 2, [.v 3], none, some (2, true), []⟩,
 ⟨.load true 2, [.p 0], none, some (3, true), []⟩,
 ⟨.call false 29, [.p 2, .p 0], none, some (4, true), []⟩,
 ⟨.pick, [.p 5, .p 0, .c (.bool false)], none, none, []⟩,
 ⟨.mov, [.p 0], some 4, none, []⟩] false)
.ret)),
[.v 4]⟩
def c_ashlarlaw2_Cut : RFunc := ⟨1, [0, 1, 2],
(.seq (.region [⟨.box, [.v 0], some 1, none, []⟩,
 ⟨.alloc (.agg [.bool false, .slc true [], .bool false, .slc true []]), [], some 2, none, []⟩] false)
(.seq (.region [⟨.faddr 0, [.v 1], none, none, []⟩,
 ⟨.load true 2, [.p 0], none, none, []⟩,
 ⟨.call false 23, [.p 0], none, none, []⟩,
 ⟨.faddr 2, [.v 1], none, none, []⟩,
 ⟨.load true 2, [.p 0], none, none, []⟩,
 ⟨.call false 23, [.p 0], none, none, []⟩,
 ⟨.build [.bool false, .slc true [], .bool false, .slc true []] [(0, 2), (2, 2)], [.p 3, .p 0], none, none, []⟩,
 ⟨.store 4, [.v 2, .p 0], none, none, []⟩] true)
.ret)),
[.cell 2 true 4]⟩
def c_ashlarlaw2_begun : RFunc := ⟨0, [0, 1, 2, 3, 4, 5, 6, 7, 8, 9],
(.seq (.region [⟨.mov, [.c (.bool false)], some 0, none, []⟩] false)
(.seq (.region [⟨.call false 129, [.c (.int .i64 6), .c (.int .i64 (-4))], none, none, []⟩,
 ⟨.mov, [.p 0], none, none, []⟩,
 ⟨.extract 0, [.p 0], none, none, []⟩,
 ⟨.extract 1, [.p 1], none, none, []⟩,
 ⟨.alloc (.agg [.bool false, .slc true [], .bool false, .slc true []]), [], some 1, none, []⟩,
 ⟨.store 4, [.v 1, .p 2], none, none, []⟩,
 ⟨.mov, [.p 2], some 2, none, []⟩] false)
(.seq (.region [⟨.call false 129, [.c (.int .i64 1), .c (.int .i64 2)], none, none, []⟩,
 ⟨.mov, [.p 0], none, none, []⟩,
 ⟨.extract 0, [.p 0], none, none, []⟩,
 ⟨.extract 1, [.p 1], none, none, []⟩,
 ⟨.alloc (.agg [.bool false, .slc true [], .bool false, .slc true []]), [], some 3, none, []⟩,
 ⟨.store 4, [.v 3, .p 2], none, none, []⟩,
 ⟨.mov, [.p 2], some 4, none, []⟩] false)
(.seq (.region [⟨.load true 4, [.v 1], none, none, []⟩,
 ⟨.load true 4, [.v 3], none, none, []⟩,
 ⟨.call false 138, [.p 1, .p 0], none, none, []⟩,
 ⟨.alloc (.agg [.bool false, .slc true [], .bool false, .slc true []]), [], some 5, none, []⟩,
 ⟨.store 4, [.v 5, .p 1], none, none, []⟩] false)
(.seq (.region [⟨.load true 4, [.v 1], none, none, []⟩,
 ⟨.load true 4, [.v 3], none, none, []⟩,
 ⟨.call false 124, [.p 1, .p 0], none, none, []⟩,
 ⟨.mov, [.p 0], none, none, []⟩,
 ⟨.extract 0, [.p 0], none, none, []⟩,
 ⟨.extract 1, [.p 1], none, none, []⟩,
 ⟨.alloc (.agg [.bool false, .slc true [], .bool false, .slc true []]), [], some 6, none, []⟩,
 ⟨.store 4, [.v 6, .p 2], none, none, []⟩,
 ⟨.mov, [.p 2], some 7, none, []⟩] false)
(.seq (.region [⟨.load true 4, [.v 5], none, none, []⟩,
 ⟨.call false 132, [.p 0], none, none, []⟩,
 ⟨.mov, [.p 0], none, none, []⟩,
 ⟨.extract 0, [.p 0], none, none, []⟩,
 ⟨.extract 1, [.p 1], none, none, []⟩,
 ⟨.alloc (.agg [.bool false, .slc true []]), [], some 8, none, []⟩,
 ⟨.store 2, [.v 8, .p 2], none, none, []⟩,
 ⟨.mov, [.p 2], some 9, none, []⟩] false)
(.seq (.region [⟨.mov, [.v 2], none, none, []⟩,
 ⟨.bin .eql, [.p 0, .c (.int .i64 0)], none, none, []⟩,
 ⟨.mov, [.p 0], none, none, []⟩,
 ⟨.mov, [.v 4], none, some (0, true), []⟩,
 ⟨.bin .eql, [.p 0, .c (.int .i64 0)], none, some (1, true), []⟩,
 ⟨.pick, [.p 2, .p 0, .c (.bool false)], none, none, []⟩,
 ⟨.mov, [.p 0], none, none, []⟩,
 ⟨.mov, [.v 7], none, some (0, true), []⟩,
 ⟨.bin .eql, [.p 0, .c (.int .i64 0)], none, some (1, true), []⟩,
 ⟨.pick, [.p 2, .p 0, .c (.bool false)], none, none, []⟩,
 ⟨.mov, [.p 0], none, none, []⟩,
 ⟨.load true 4, [.v 1], none, some (0, true), []⟩,
 ⟨.call false 149, [.p 0], none, some (1, true), []⟩,
 ⟨.bin .eql, [.p 0, .c (.str ⟨#[45, 51, 47, 50]⟩)], none, some (2, true), []⟩,
 ⟨.pick, [.p 3, .p 0, .c (.bool false)], none, none, []⟩,
 ⟨.mov, [.p 0], none, none, []⟩,
 ⟨.load true 4, [.v 5], none, some (0, true), []⟩,
 ⟨.call false 149, [.p 0], none, some (1, true), []⟩,
 ⟨.bin .eql, [.p 0, .c (.str ⟨#[45, 49]⟩)], none, some (2, true), []⟩,
 ⟨.pick, [.p 3, .p 0, .c (.bool false)], none, none, []⟩,
 ⟨.mov, [.p 0], none, none, []⟩,
 ⟨.load true 4, [.v 6], none, some (0, true), []⟩,
 ⟨.call false 149, [.p 0], none, some (1, true), []⟩,
 ⟨.bin .eql, [.p 0, .c (.str ⟨#[45, 51]⟩)], none, some (2, true), []⟩,
 ⟨.pick, [.p 3, .p 0, .c (.bool false)], none, none, []⟩,
 ⟨.mov, [.p 0], none, none, []⟩,
 ⟨.mov, [.v 9], none, some (0, true), []⟩,
 ⟨.pick, [.p 1, .p 0, .c (.bool false)], none, none, []⟩,
 ⟨.mov, [.p 0], none, none, []⟩,
 ⟨.faddr 0, [.v 8], none, some (0, true), []⟩,
 ⟨.load false 1, [.p 0], none, some (1, true), []⟩,
 ⟨.pick, [.p 2, .p 0, .c (.bool false)], none, none, []⟩,
 ⟨.mov, [.p 0], none, none, []⟩,
 ⟨.load true 4, [.v 1], none, some (0, true), []⟩,
 ⟨.load true 4, [.v 3], none, some (1, true), []⟩,
 ⟨.call false 136, [.p 1, .p 0], none, some (2, true), []⟩,
 ⟨.bin .lss, [.p 0, .c (.int .i64 0)], none, some (3, true), []⟩,
 ⟨.pick, [.p 4, .p 0, .c (.bool false)], none, none, []⟩,
 ⟨.mov, [.p 0], none, none, []⟩,
 ⟨.load true 4, [.v 1], none, some (0, true), []⟩,
 ⟨.call false 145, [.p 0], none, some (1, true), []⟩,
 ⟨.bin .eql, [.p 0, .c (.int .i64 4)], none, some (2, true), []⟩,
 ⟨.pick, [.p 3, .p 0, .c (.bool false)], none, none, []⟩,
 ⟨.mov, [.p 0], some 0, none, []⟩] false)
.ret))))))),
[.v 0]⟩
def c_ashlarlaw2_RatSums : RFunc := ⟨2, [0, 1, 2, 3, 4, 5, 6, 7, 8, 9, 10, 11],
(.seq (.region [⟨.box, [.v 0], some 2, none, []⟩,
 ⟨.box, [.v 1], some 3, none, []⟩,
 ⟨.mov, [.c (.bool false)], some 4, none, []⟩] false)
(.seq (.region [⟨.call false 121, [], none, none, []⟩,
 ⟨.mov, [.p 0], some 5, none, []⟩] false)
(.seq (.region [⟨.load true 4, [.v 2], none, none, []⟩,
 ⟨.call false 122, [.p 0], none, none, []⟩,
 ⟨.load true 4, [.v 3], none, none, []⟩,
 ⟨.call false 122, [.p 0], none, none, []⟩,
 ⟨.store 4, [.v 2, .p 2], none, none, []⟩,
 ⟨.store 4, [.v 3, .p 1], none, none, []⟩] true)
(.seq (.region [⟨.load true 4, [.v 2], none, none, []⟩,
 ⟨.call false 123, [.p 0], none, none, []⟩,
 ⟨.load true 4, [.v 3], none, none, []⟩,
 ⟨.call false 123, [.p 0], none, none, []⟩,
 ⟨.alloc (.agg [.bool false, .slc true [], .bool false, .slc true []]), [], some 6, none, []⟩,
 ⟨.alloc (.agg [.bool false, .slc true [], .bool false, .slc true []]), [], some 7, none, []⟩,
 ⟨.store 4, [.v 6, .p 4], none, none, []⟩,
 ⟨.store 4, [.v 7, .p 3], none, none, []⟩] true)
(.seq (.region [⟨.load true 4, [.v 2], none, none, []⟩,
 ⟨.load true 4, [.v 3], none, none, []⟩,
 ⟨.call false 138, [.p 1, .p 0], none, none, []⟩,
 ⟨.load true 4, [.v 6], none, none, []⟩,
 ⟨.load true 4, [.v 7], none, none, []⟩,
 ⟨.call false 139, [.p 1, .p 0], none, none, []⟩,
 ⟨.call false 128, [.p 3, .p 0], none, none, []⟩,
 ⟨.mov, [.p 0], some 8, none, []⟩] true)
(.seq (.region [⟨.load true 4, [.v 2], none, none, []⟩,
 ⟨.load true 4, [.v 3], none, none, []⟩,
 ⟨.call false 135, [.p 1, .p 0], none, none, []⟩,
 ⟨.load true 4, [.v 6], none, none, []⟩,
 ⟨.load true 4, [.v 7], none, none, []⟩,
 ⟨.call false 140, [.p 0], none, none, []⟩,
 ⟨.call false 139, [.p 2, .p 0], none, none, []⟩,
 ⟨.call false 128, [.p 4, .p 0], none, none, []⟩,
 ⟨.mov, [.p 0], some 9, none, []⟩] true)
(.seq (.region [⟨.load true 4, [.v 2], none, none, []⟩,
 ⟨.load true 4, [.v 3], none, none, []⟩,
 ⟨.call false 141, [.p 1, .p 0], none, none, []⟩,
 ⟨.load true 4, [.v 6], none, none, []⟩,
 ⟨.load true 4, [.v 7], none, none, []⟩,
 ⟨.call false 142, [.p 1, .p 0], none, none, []⟩,
 ⟨.call false 128, [.p 3, .p 0], none, none, []⟩,
 ⟨.mov, [.p 0], some 10, none, []⟩] true)
(.seq (.region [⟨.load true 4, [.v 2], none, none, []⟩,
 ⟨.call false 143, [.p 0], none, none, []⟩,
 ⟨.load true 4, [.v 6], none, none, []⟩,
 ⟨.call false 128, [.p 1, .p 0], none, none, []⟩,
 ⟨.mov, [.p 0], some 11, none, []⟩] true)
(.seq (.region [⟨.mov, [.v 5], none, none, []⟩,
 ⟨.mov, [.p 0], none, none, []⟩,
 ⟨.mov, [.v 8], none, some (0, true), []⟩,
 ⟨.pick, [.p 1, .p 0, .c (.bool false)], none, none, []⟩,
 ⟨.mov, [.p 0], none, none, []⟩,
 ⟨.mov, [.v 9], none, some (0, true), []⟩,
 ⟨.pick, [.p 1, .p 0, .c (.bool false)], none, none, []⟩,
 ⟨.mov, [.p 0], none, none, []⟩,
 ⟨.mov, [.v 10], none, some (0, true), []⟩,
 ⟨.pick, [.p 1, .p 0, .c (.bool false)], none, none, []⟩,
 ⟨.mov, [.p 0], none, none, []⟩,
 ⟨.mov, [.v 11], none, some (0, true), []⟩,
 ⟨.pick, [.p 1, .p 0, .c (.bool false)], none, none, []⟩,
 ⟨.mov, [.p 0], none, none, []⟩,
 ⟨.load true 4, [.v 2], none, some (0, true), []⟩,
 ⟨.load true 4, [.v 3], none, some (1, true), []⟩,
 ⟨.call false 136, [.p 1, .p 0], none, some (2, true), []⟩,
 ⟨.load true 4, [.v 6], none, some (3, true), []⟩,
 ⟨.load true 4, [.v 7], none, some (4, true), []⟩,
 ⟨.call false 144, [.p 1, .p 0], none, some (5, true), []⟩,
 ⟨.bin .eql, [.p 3, .p 0], none, some (6, true), []⟩,
 ⟨.pick, [.p 7, .p 0, .c (.bool false)], none, none, []⟩,
 ⟨.mov, [.p 0], none, none, []⟩,
 ⟨.load true 4, [.v 2], none, some (0, true), []⟩,
 ⟨.call false 145, [.p 0], none, some (1, true), []⟩,
 ⟨.load true 4, [.v 6], none, some (2, true), []⟩,
 ⟨.call false 146, [.p 0], none, some (3, true), []⟩,
 ⟨.bin .eql, [.p 2, .p 0], none, some (4, true), []⟩,
 ⟨.pick, [.p 5, .p 0, .c (.bool false)], none, none, []⟩,
 ⟨.mov, [.p 0], some 4, none, []⟩] true)
.ret))))))))),
[.v 4]⟩
def c_ashlarlaw2_RatQuo : RFunc := ⟨4, [0, 1, 2, 3, 4, 5, 8, 9, 10, 11, 12, 13, 14, 15, 16, 17, 18, 19, 20, 21, 22, 23, 24, 25],
(.seq (.region [⟨.box, [.v 0], some 4, none, []⟩,
 ⟨.box, [.v 1], some 5, none, []⟩,
 ⟨.mov, [.c (.bool false)], some 6, none, []⟩] false)
(.seq (.region [⟨.call false 121, [], none, none, []⟩,
 ⟨.mov, [.p 0], some 7, none, []⟩] false)
(.seq (.region [⟨.load true 4, [.v 4], none, none, []⟩,
 ⟨.call false 122, [.p 0], none, none, []⟩,
 ⟨.load true 4, [.v 5], none, none, []⟩,
 ⟨.call false 122, [.p 0], none, none, []⟩,
 ⟨.store 4, [.v 4, .p 2], none, none, []⟩,
 ⟨.store 4, [.v 5, .p 1], none, none, []⟩] true)
(.seq (.region [⟨.load true 4, [.v 4], none, none, []⟩,
 ⟨.call false 123, [.p 0], none, none, []⟩,
 ⟨.load true 4, [.v 5], none, none, []⟩,
 ⟨.call false 123, [.p 0], none, none, []⟩,
 ⟨.alloc (.agg [.bool false, .slc true [], .bool false, .slc true []]), [], some 8, none, []⟩,
 ⟨.alloc (.agg [.bool false, .slc true [], .bool false, .slc true []]), [], some 9, none, []⟩,
 ⟨.store 4, [.v 8, .p 4], none, none, []⟩,
 ⟨.store 4, [.v 9, .p 3], none, none, []⟩] true)
(.seq (.region [⟨.load true 4, [.v 4], none, none, []⟩,
 ⟨.load true 4, [.v 5], none, none, []⟩,
 ⟨.call false 124, [.p 1, .p 0], none, none, []⟩,
 ⟨.mov, [.p 0], none, none, []⟩,
 ⟨.extract 0, [.p 0], none, none, []⟩,
 ⟨.extract 1, [.p 1], none, none, []⟩,
 ⟨.alloc (.agg [.bool false, .slc true [], .bool false, .slc true []]), [], some 10, none, []⟩,
 ⟨.store 4, [.v 10, .p 2], none, none, []⟩,
 ⟨.mov, [.p 2], some 11, none, []⟩] false)
(.seq (.region [⟨.call false 125, [.c (.int .i64 0)], none, none, []⟩,
 ⟨.alloc (.agg [.bool false, .slc true [], .bool false, .slc true []]), [], some 12, none, []⟩,
 ⟨.store 4, [.v 12, .p 1], none, none, []⟩] false)
(.seq (.region [⟨.mov, [.c (.int .i64 2)], some 13, none, []⟩] false)
(.seq (.seq (.region [⟨.load true 4, [.v 9], none, none, []⟩,
 ⟨.call false 126, [.p 0], none, none, []⟩,
 ⟨.bin .neq, [.p 0, .c (.int .i64 0)], none, none, []⟩] false)
(.cond (.p 0) (.seq (.region [⟨.load true 4, [.v 8], none, none, []⟩,
 ⟨.load true 4, [.v 9], none, none, []⟩,
 ⟨.call false 127, [.p 1, .p 0], none, none, []⟩,
 ⟨.store 4, [.v 12, .p 0], none, none, []⟩] false)
(.region [⟨.mov, [.c (.int .i64 0)], some 13, none, []⟩] false)) .skip))
(.seq (.region [⟨.load true 4, [.v 10], none, none, []⟩,
 ⟨.load true 4, [.v 12], none, none, []⟩,
 ⟨.call false 128, [.p 1, .p 0], none, none, []⟩,
 ⟨.mov, [.p 0], some 14, none, []⟩] false)
(.seq (.region [⟨.mov, [.v 2], none, none, []⟩,
 ⟨.mov, [.v 3], none, none, []⟩,
 ⟨.call false 129, [.p 1, .p 0], none, none, []⟩,
 ⟨.mov, [.p 0], none, none, []⟩,
 ⟨.extract 0, [.p 0], none, none, []⟩,
 ⟨.extract 1, [.p 1], none, none, []⟩,
 ⟨.alloc (.agg [.bool false, .slc true [], .bool false, .slc true []]), [], some 15, none, []⟩,
 ⟨.store 4, [.v 15, .p 2], none, none, []⟩,
 ⟨.mov, [.p 2], some 16, none, []⟩] false)
(.seq (.region [⟨.faddr 0, [.v 4], none, none, []⟩,
 ⟨.load true 2, [.p 0], none, none, []⟩,
 ⟨.faddr 2, [.v 4], none, none, []⟩,
 ⟨.load true 2, [.p 0], none, none, []⟩,
 ⟨.call false 130, [.p 2, .p 0], none, none, []⟩,
 ⟨.mov, [.p 0], none, none, []⟩,
 ⟨.extract 0, [.p 0], none, none, []⟩,
 ⟨.extract 1, [.p 1], none, none, []⟩,
 ⟨.alloc (.agg [.bool false, .slc true [], .bool false, .slc true []]), [], some 17, none, []⟩,
 ⟨.store 4, [.v 17, .p 2], none, none, []⟩,
 ⟨.mov, [.p 2], some 18, none, []⟩] false)
(.seq (.region [⟨.load true 4, [.v 15], none, none, []⟩,
 ⟨.mov, [.v 2], none, none, []⟩,
 ⟨.call false 34, [.p 0], none, none, []⟩,
 ⟨.mov, [.v 3], none, none, []⟩,
 ⟨.call false 34, [.p 0], none, none, []⟩,
 ⟨.call false 131, [.p 2, .p 0], none, none, []⟩,
 ⟨.call false 128, [.p 5, .p 0], none, none, []⟩,
 ⟨.mov, [.p 0], some 19, none, []⟩] true)
(.seq (.region [⟨.load true 4, [.v 17], none, none, []⟩,
 ⟨.load true 4, [.v 8], none, none, []⟩,
 ⟨.call false 128, [.p 1, .p 0], none, none, []⟩,
 ⟨.mov, [.p 0], some 20, none, []⟩] false)
(.seq (.region [⟨.faddr 2, [.v 4], none, none, []⟩,
 ⟨.load true 2, [.p 0], none, none, []⟩,
 ⟨.call false 10, [.p 0], none, none, []⟩,
 ⟨.alloc (.agg [.bool false, .slc true []]), [], some 21, none, []⟩,
 ⟨.store 2, [.v 21, .p 1], none, none, []⟩] false)
(.seq (.region [⟨.load true 4, [.v 4], none, none, []⟩,
 ⟨.call false 132, [.p 0], none, none, []⟩,
 ⟨.mov, [.p 0], none, none, []⟩,
 ⟨.extract 0, [.p 0], none, none, []⟩,
 ⟨.extract 1, [.p 1], none, none, []⟩,
 ⟨.alloc (.agg [.bool false, .slc true []]), [], some 22, none, []⟩,
 ⟨.store 2, [.v 22, .p 2], none, none, []⟩,
 ⟨.mov, [.p 2], some 23, none, []⟩] false)
(.seq (.seq (.region [⟨.mov, [.v 23], none, none, []⟩,
 ⟨.load true 4, [.v 8], none, none, []⟩,
 ⟨.call false 133, [.p 0], none, none, []⟩,
 ⟨.beq true, [.p 2, .p 0], none, none, []⟩,
 ⟨.mov, [.p 0], none, none, []⟩,
 ⟨.mov, [.v 23], none, some (0, false), []⟩,
 ⟨.mov, [.p 0], none, some (1, false), []⟩,
 ⟨.load true 2, [.v 22], none, some (0, true), []⟩,
 ⟨.faddr 0, [.v 8], none, some (1, true), []⟩,
 ⟨.load true 2, [.p 0], none, some (2, true), []⟩,
 ⟨.call false 29, [.p 2, .p 0], none, some (3, true), []⟩,
 ⟨.un .not, [.p 0], none, some (4, true), []⟩,
 ⟨.pick, [.p 5, .p 0, .c (.bool false)], none, some (7, false), []⟩,
 ⟨.pick, [.p 8, .c (.bool true), .p 0], none, none, []⟩,
 ⟨.mov, [.p 0], none, none, []⟩,
 ⟨.mov, [.v 23], none, some (0, false), []⟩,
 ⟨.un .not, [.p 0], none, some (1, false), []⟩,
 ⟨.mov, [.p 0], none, some (2, false), []⟩,
 ⟨.faddr 1, [.v 22], none, some (0, true), []⟩,
 ⟨.load false 1, [.p 0], none, some (1, true), []⟩,
 ⟨.len false, [.p 0], none, some (2, true), []⟩,
 ⟨.bin .neq, [.p 0, .c (.int .i64 0)], none, some (3, true), []⟩,
 ⟨.pick, [.p 4, .p 0, .c (.bool false)], none, some (7, false), []⟩,
 ⟨.pick, [.p 8, .c (.bool true), .p 0], none, none, []⟩] false)
(.cond (.p 0) (.seq (.region [⟨.mov, [.c (.bool false)], some 6, none, []⟩] false)
.ret) .skip))
(.seq (.region [⟨.mov, [.v 7], none, none, []⟩,
 ⟨.mov, [.p 0], none, none, []⟩,
 ⟨.mov, [.v 11], none, some (0, true), []⟩,
 ⟨.mov, [.v 13], none, some (1, true), []⟩,
 ⟨.bin .eql, [.p 1, .p 0], none, some (2, true), []⟩,
 ⟨.pick, [.p 3, .p 0, .c (.bool false)], none, none, []⟩,
 ⟨.mov, [.p 0], none, none, []⟩,
 ⟨.mov, [.v 14], none, some (0, true), []⟩,
 ⟨.pick, [.p 1, .p 0, .c (.bool false)], none, none, []⟩,
 ⟨.mov, [.p 0], none, none, []⟩,
 ⟨.mov, [.v 19], none, some (0, true), []⟩,
 ⟨.pick, [.p 1, .p 0, .c (.bool false)], none, none, []⟩,
 ⟨.mov, [.p 0], none, none, []⟩,
 ⟨.mov, [.v 16], none, some (0, true), []⟩,
 ⟨.bin .eql, [.p 0, .c (.int .i64 0)], none, some (1, true), []⟩,
 ⟨.mov, [.v 3], none, some (2, true), []⟩,
 ⟨.bin .neq, [.p 0, .c (.int .i64 0)], none, some (3, true), []⟩,
 ⟨.beq false, [.p 2, .p 0], none, some (4, true), []⟩,
 ⟨.pick, [.p 5, .p 0, .c (.bool false)], none, none, []⟩,
 ⟨.mov, [.p 0], none, none, []⟩,
 ⟨.mov, [.v 20], none, some (0, true), []⟩,
 ⟨.pick, [.p 1, .p 0, .c (.bool false)], none, none, []⟩,
 ⟨.mov, [.p 0], none, none, []⟩,
 ⟨.mov, [.v 18], none, some (0, true), []⟩,
 ⟨.bin .eql, [.p 0, .c (.int .i64 0)], none, some (1, true), []⟩,
 ⟨.load true 2, [.v 21], none, some (2, true), []⟩,
 ⟨.call false 25, [.p 0], none, some (3, true), []⟩,
 ⟨.bin .neq, [.p 0, .c (.int .i64 0)], none, some (4, true), []⟩,
 ⟨.beq false, [.p 3, .p 0], none, some (5, true), []⟩,
 ⟨.pick, [.p 6, .p 0, .c (.bool false)], none, none, []⟩,
 ⟨.mov, [.p 0], some 6, none, []⟩] false)
.ret))))))))))))))))),
[.v 6]⟩
def c_ashlarlaw2_RatField : RFunc := ⟨3, [0, 1, 2, 3, 4, 5, 6, 7, 8, 9, 10, 11],
(.seq (.region [⟨.box, [.v 0], some 3, none, []⟩,
 ⟨.box, [.v 1], some 4, none, []⟩,
 ⟨.box, [.v 2], some 5, none, []⟩,
 ⟨.mov, [.c (.bool false)], some 6, none, []⟩] false)
(.seq (.region [⟨.call false 121, [], none, none, []⟩,
 ⟨.mov, [.p 0], some 7, none, []⟩] false)
(.seq (.region [⟨.load true 4, [.v 3], none, none, []⟩,
 ⟨.call false 122, [.p 0], none, none, []⟩,
 ⟨.load true 4, [.v 4], none, none, []⟩,
 ⟨.call false 122, [.p 0], none, none, []⟩,
 ⟨.load true 4, [.v 5], none, none, []⟩,
 ⟨.call false 122, [.p 0], none, none, []⟩,
 ⟨.store 4, [.v 3, .p 4], none, none, []⟩,
 ⟨.store 4, [.v 4, .p 3], none, none, []⟩,
 ⟨.store 4, [.v 5, .p 2], none, none, []⟩] true)
(.seq (.region [⟨.load true 4, [.v 3], none, none, []⟩,
 ⟨.load true 4, [.v 4], none, none, []⟩,
 ⟨.load true 4, [.v 5], none, none, []⟩,
 ⟨.call false 138, [.p 1, .p 0], none, none, []⟩,
 ⟨.call false 141, [.p 3, .p 0], none, none, []⟩,
 ⟨.load true 4, [.v 3], none, none, []⟩,
 ⟨.load true 4, [.v 4], none, none, []⟩,
 ⟨.call false 141, [.p 1, .p 0], none, none, []⟩,
 ⟨.load true 4, [.v 3], none, none, []⟩,
 ⟨.load true 4, [.v 5], none, none, []⟩,
 ⟨.call false 141, [.p 1, .p 0], none, none, []⟩,
 ⟨.call false 138, [.p 3, .p 0], none, none, []⟩,
 ⟨.call false 136, [.p 7, .p 0], none, none, []⟩,
 ⟨.mov, [.p 0], some 8, none, []⟩] true)
(.seq (.region [⟨.load true 4, [.v 3], none, none, []⟩,
 ⟨.load true 4, [.v 4], none, none, []⟩,
 ⟨.call false 124, [.p 1, .p 0], none, none, []⟩,
 ⟨.mov, [.p 0], none, none, []⟩,
 ⟨.extract 0, [.p 0], none, none, []⟩,
 ⟨.extract 1, [.p 1], none, none, []⟩,
 ⟨.alloc (.agg [.bool false, .slc true [], .bool false, .slc true []]), [], some 9, none, []⟩,
 ⟨.store 4, [.v 9, .p 2], none, none, []⟩,
 ⟨.mov, [.p 2], some 10, none, []⟩] false)
(.seq (.region [⟨.mov, [.c (.int .i64 0)], some 11, none, []⟩] false)
(.seq (.seq (.region [⟨.mov, [.v 10], none, none, []⟩,
 ⟨.bin .eql, [.p 0, .c (.int .i64 0)], none, none, []⟩] false)
(.cond (.p 0) (.region [⟨.load true 4, [.v 9], none, none, []⟩,
 ⟨.load true 4, [.v 4], none, none, []⟩,
 ⟨.call false 141, [.p 1, .p 0], none, none, []⟩,
 ⟨.load true 4, [.v 3], none, none, []⟩,
 ⟨.call false 136, [.p 1, .p 0], none, none, []⟩,
 ⟨.mov, [.p 0], some 11, none, []⟩] true) .skip))
(.seq (.region [⟨.mov, [.v 7], none, none, []⟩,
 ⟨.mov, [.p 0], none, none, []⟩,
 ⟨.mov, [.v 8], none, some (0, true), []⟩,
 ⟨.bin .eql, [.p 0, .c (.int .i64 0)], none, some (1, true), []⟩,
 ⟨.pick, [.p 2, .p 0, .c (.bool false)], none, none, []⟩,
 ⟨.mov, [.p 0], none, none, []⟩,
 ⟨.mov, [.v 11], none, some (0, true), []⟩,
 ⟨.bin .eql, [.p 0, .c (.int .i64 0)], none, some (1, true), []⟩,
 ⟨.pick, [.p 2, .p 0, .c (.bool false)], none, none, []⟩,
 ⟨.mov, [.p 0], some 6, none, []⟩] false)
.ret)))))))),
[.v 6]⟩
def c_ashlarlaw2_RatScaled : RFunc := ⟨3, [0, 1, 2, 3, 4, 5, 6, 7, 8, 9, 10, 11],
(.seq (.region [⟨.box, [.v 0], some 3, none, []⟩,
 ⟨.box, [.v 1], some 4, none, []⟩,
 ⟨.box, [.v 2], some 5, none, []⟩,
 ⟨.mov, [.c (.bool false)], some 6, none, []⟩] false)
(.seq (.region [⟨.call false 121, [], none, none, []⟩,
 ⟨.mov, [.p 0], some 7, none, []⟩] false)
(.seq (.region [⟨.load true 4, [.v 3], none, none, []⟩,
 ⟨.call false 122, [.p 0], none, none, []⟩,
 ⟨.load true 4, [.v 4], none, none, []⟩,
 ⟨.call false 122, [.p 0], none, none, []⟩,
 ⟨.load true 2, [.v 5], none, none, []⟩,
 ⟨.call false 23, [.p 0], none, none, []⟩,
 ⟨.store 4, [.v 3, .p 4], none, none, []⟩,
 ⟨.store 4, [.v 4, .p 3], none, none, []⟩,
 ⟨.store 2, [.v 5, .p 2], none, none, []⟩] true)
(.seq (.region [⟨.load true 2, [.v 5], none, none, []⟩,
 ⟨.call false 10, [.p 0], none, none, []⟩,
 ⟨.alloc (.agg [.bool false, .slc true []]), [], some 8, none, []⟩,
 ⟨.store 2, [.v 8, .p 1], none, none, []⟩] false)
(.seq (.seq (.region [⟨.load true 2, [.v 8], none, none, []⟩,
 ⟨.call false 25, [.p 0], none, none, []⟩,
 ⟨.bin .eql, [.p 0, .c (.int .i64 0)], none, none, []⟩] false)
(.cond (.p 0) (.seq (.region [⟨.mov, [.v 7], none, none, []⟩,
 ⟨.mov, [.p 0], some 6, none, []⟩] false)
.ret) .skip))
(.seq (.region [⟨.faddr 0, [.v 3], none, none, []⟩,
 ⟨.load true 2, [.p 0], none, none, []⟩,
 ⟨.call false 10, [.p 0], none, none, []⟩,
 ⟨.load true 2, [.v 8], none, none, []⟩,
 ⟨.call false 26, [.p 1, .p 0], none, none, []⟩,
 ⟨.call false 93, [.p 0], none, none, []⟩,
 ⟨.faddr 2, [.v 3], none, none, []⟩,
 ⟨.load true 2, [.p 0], none, none, []⟩,
 ⟨.call false 10, [.p 0], none, none, []⟩,
 ⟨.load true 2, [.v 8], none, none, []⟩,
 ⟨.call false 26, [.p 1, .p 0], none, none, []⟩,
 ⟨.call false 93, [.p 0], none, none, []⟩,
 ⟨.build [.bool false, .slc true [], .bool false, .slc true []] [(0, 2), (2, 2)], [.p 6, .p 0], none, none, []⟩,
 ⟨.alloc (.agg [.bool false, .slc true [], .bool false, .slc true []]), [], some 9, none, []⟩,
 ⟨.store 4, [.v 9, .p 1], none, none, []⟩] true)
(.seq (.region [⟨.load true 4, [.v 3], none, none, []⟩,
 ⟨.load true 4, [.v 4], none, none, []⟩,
 ⟨.call false 135, [.p 1, .p 0], none, none, []⟩,
 ⟨.alloc (.agg [.bool false, .slc true [], .bool false, .slc true []]), [], some 10, none, []⟩,
 ⟨.store 4, [.v 10, .p 1], none, none, []⟩] false)
(.seq (.region [⟨.load true 4, [.v 9], none, none, []⟩,
 ⟨.load true 4, [.v 4], none, none, []⟩,
 ⟨.call false 135, [.p 1, .p 0], none, none, []⟩,
 ⟨.alloc (.agg [.bool false, .slc true [], .bool false, .slc true []]), [], some 11, none, []⟩,
 ⟨.store 4, [.v 11, .p 1], none, none, []⟩] false)
(.seq (.region [⟨.mov, [.v 7], none, none, []⟩,
 ⟨.mov, [.p 0], none, none, []⟩,
 ⟨.faddr 0, [.v 10], none, some (0, true), []⟩,
 ⟨.load true 2, [.p 0], none, some (1, true), []⟩,
 ⟨.faddr 0, [.v 11], none, some (2, true), []⟩,
 ⟨.load true 2, [.p 0], none, some (3, true), []⟩,
 ⟨.call false 44, [.p 2, .p 0], none, some (4, true), []⟩,
 ⟨.pick, [.p 5, .p 0, .c (.bool false)], none, none, []⟩,
 ⟨.mov, [.p 0], none, none, []⟩,
 ⟨.faddr 2, [.v 10], none, some (0, true), []⟩,
 ⟨.load true 2, [.p 0], none, some (1, true), []⟩,
 ⟨.faddr 2, [.v 11], none, some (2, true), []⟩,
 ⟨.load true 2, [.p 0], none, some (3, true), []⟩,
 ⟨.call false 44, [.p 2, .p 0], none, some (4, true), []⟩,
 ⟨.pick, [.p 5, .p 0, .c (.bool false)], none, none, []⟩,
 ⟨.mov, [.p 0], none, none, []⟩,
 ⟨.load true 4, [.v 3], none, some (0, true), []⟩,
 ⟨.load true 4, [.v 9], none, some (1, true), []⟩,
 ⟨.call false 136, [.p 1, .p 0], none, some (2, true), []⟩,
 ⟨.bin .eql, [.p 0, .c (.int .i64 0)], none, some (3, true), []⟩,
 ⟨.pick, [.p 4, .p 0, .c (.bool false)], none, none, []⟩,
 ⟨.mov, [.p 0], some 6, none, []⟩] false)
.ret))))))))),
[.v 6]⟩
class CodeRat (F : Nat → Option RFunc) : Prop where
  rat_made : F 194 = some c_rat_made
  rat_Of : F 129 = some c_rat_Of
  rat_Over : F 130 = some c_rat_Over
  rat_Whole : F 132 = some c_rat_Whole
  rat_Norm : F 143 = some c_rat_Norm
  rat_Cmp : F 136 = some c_rat_Cmp
  rat_sum : F 196 = some c_rat_sum
  rat_Add : F 138 = some c_rat_Add
  rat_Sub : F 135 = some c_rat_Sub
  rat_Mul : F 141 = some c_rat_Mul
  rat_Quo : F 124 = some c_rat_Quo
  rat_Bits : F 145 = some c_rat_Bits
  rat_Text : F 149 = some c_rat_Text
  ashlarref2_Make : F 131 = some c_ashlarref2_Make
  ashlarref2_From : F 123 = some c_ashlarref2_From
  ashlarref2_Int : F 193 = some c_ashlarref2_Int
  ashlarref2_Of : F 125 = some c_ashlarref2_Of
  ashlarref2_Add : F 139 = some c_ashlarref2_Add
  ashlarref2_Neg : F 140 = some c_ashlarref2_Neg
  ashlarref2_Mul : F 142 = some c_ashlarref2_Mul
  ashlarref2_Quo : F 127 = some c_ashlarref2_Quo
  ashlarref2_Cmp : F 144 = some c_ashlarref2_Cmp
  ashlarref2_Sign : F 126 = some c_ashlarref2_Sign
  ashlarref2_Bits : F 146 = some c_ashlarref2_Bits
  ashlarref2_whole : F 195 = some c_ashlarref2_whole
  ashlarref2_Whole : F 133 = some c_ashlarref2_Whole
  ashlarref2_Is : F 128 = some c_ashlarref2_Is
  ashlarlaw2_Cut : F 122 = some c_ashlarlaw2_Cut
  ashlarlaw2_begun : F 121 = some c_ashlarlaw2_begun
  ashlarlaw2_RatSums : F 147 = some c_ashlarlaw2_RatSums
  ashlarlaw2_RatQuo : F 134 = some c_ashlarlaw2_RatQuo
  ashlarlaw2_RatField : F 148 = some c_ashlarlaw2_RatField
  ashlarlaw2_RatScaled : F 137 = some c_ashlarlaw2_RatScaled
def tabCodeRat : List (Nat × RFunc) := [(194, c_rat_made), (129, c_rat_Of), (130, c_rat_Over), (132, c_rat_Whole), (143, c_rat_Norm), (136, c_rat_Cmp), (196, c_rat_sum), (138, c_rat_Add), (135, c_rat_Sub), (141, c_rat_Mul), (124, c_rat_Quo), (145, c_rat_Bits), (149, c_rat_Text), (131, c_ashlarref2_Make), (123, c_ashlarref2_From), (193, c_ashlarref2_Int), (125, c_ashlarref2_Of), (139, c_ashlarref2_Add), (140, c_ashlarref2_Neg), (142, c_ashlarref2_Mul), (127, c_ashlarref2_Quo), (144, c_ashlarref2_Cmp), (126, c_ashlarref2_Sign), (146, c_ashlarref2_Bits), (195, c_ashlarref2_whole), (133, c_ashlarref2_Whole), (128, c_ashlarref2_Is), (122, c_ashlarlaw2_Cut), (121, c_ashlarlaw2_begun), (147, c_ashlarlaw2_RatSums), (134, c_ashlarlaw2_RatQuo), (148, c_ashlarlaw2_RatField), (137, c_ashlarlaw2_RatScaled)]
end Go.Ash
/- Rationals of the program: made, Over, Of, Norm, sum, Add, Sub, Mul, Quo, Cmp, Bits, Whole. -/
namespace Go.Ash
variable {F : Nat → Option RFunc} [h : CodeLimbs F] [hr : CodeRat F]

/-- Two integers in normal form, one above the other. -/
def PV (x y : Int) : AVal := .agg [.bool (decide (x < 0)), .slc (decide (x = 0)) (u32s (D x.natAbs)), .bool (decide (y < 0)), .slc (decide (y = 0)) (u32s (D y.natAbs))]
/-- A rational in normal form. -/
def QV (q : Rat) : AVal := PV q.num (q.den : Int)

/-- A rational in some form. -/
def IsQ (v : AVal) (x y : Int) (n : Nat) : Prop := ∃ n1 r1 l1 n2 r2 l2, v = .agg [.bool n1, .slc r1 (u32s l1), .bool n2, .slc r2 (u32s l2)] ∧
  IsI (.agg [.bool n1, .slc r1 (u32s l1)]) x n ∧ IsI (.agg [.bool n2, .slc r2 (u32s l2)]) y n

theorem isQ_PV {x y : Int} {n : Nat} (hx : x.natAbs < B32 ^ n) (hy : y.natAbs < B32 ^ n) : IsQ (PV x y) x y n :=
  ⟨_, _, _, _, _, _, rfl, isI_IV hx, isI_IV hy⟩

theorem divInt_facts {x y : Int} (hy : y ≠ 0) : (Rat.divInt x y).num = x / (if y < 0 then -(Int.gcd x y : Int) else (Int.gcd x y : Int)) ∧ ((Rat.divInt x y).den : Int) = y / (if y < 0 then -(Int.gcd x y : Int) else (Int.gcd x y : Int)) := by
  rw [Rat.num_divInt, Rat.den_divInt, if_neg hy, Int.gcd_comm y x]
  have d1 : (Int.gcd x y : Int) ∣ x := Int.gcd_dvd_left ..
  have d2 : (Int.gcd x y : Int) ∣ y := Int.gcd_dvd_right ..
  by_cases hn : y < 0
  · rw [if_pos hn, Int.ediv_neg, Int.ediv_neg, Int.sign_eq_neg_one_of_neg hn]
    refine ⟨?_, ?_⟩
    · rw [Int.neg_mul, Int.one_mul, Int.neg_ediv_of_dvd d1]
    · rw [Int.natCast_ediv, ← Int.neg_ediv_of_dvd d2]
      congr 1; omega
  · rw [if_neg hn, Int.sign_eq_one_of_pos (by omega), Int.one_mul]
    refine ⟨rfl, ?_⟩
    rw [Int.natCast_ediv]
    congr 1; omega

theorem divInt_num_le (x y : Int) : (Rat.divInt x y).num.natAbs ≤ x.natAbs := by
  by_cases hy : y = 0
  · subst hy; simp
  · rw [(divInt_facts hy).1]; exact Int.natAbs_ediv_le_natAbs x _

theorem divInt_den_lt {x y : Int} {n : Nat} (hn : 0 < n) (hy : y.natAbs < B32 ^ n) : (Rat.divInt x y).den < B32 ^ n := by
  by_cases h0 : y = 0
  · subst h0
    simp
    exact Nat.one_lt_two_pow_iff.2 (by omega) |> fun h => Nat.lt_of_lt_of_le h (Nat.pow_le_pow_left (by decide) n)
  · have := (divInt_facts (x := x) h0).2
    have h2 := Int.natAbs_ediv_le_natAbs y (if y < 0 then -(Int.gcd x y : Int) else (Int.gcd x y : Int))
    rw [← this] at h2
    omega

/-- The sizes of a rational. -/
def SzQ (q : Rat) (n : Nat) : Prop := q.num.natAbs < B32 ^ n ∧ q.den < B32 ^ n
theorem szQ_divInt {x y : Int} {n : Nat} (hn : 0 < n) (hx : x.natAbs < B32 ^ n) (hy : y.natAbs < B32 ^ n) : SzQ (Rat.divInt x y) n :=
  ⟨Nat.lt_of_le_of_lt (divInt_num_le x y) hx, divInt_den_lt hn hy⟩
theorem isQ_QV {q : Rat} {n : Nat} (hq : SzQ q n) : IsQ (QV q) q.num q.den n := isQ_PV hq.1 (by rw [Int.natAbs_natCast]; exact hq.2)

theorem rat_made {a b : AVal} {x y : Int} {m n : Nat} (ha : IsI a x m) (hb : IsI b y n) (hm : m < 2^36) (hn : n < 2^36) : pureCall (run F) 194 [a, b] = some (QV (Rat.divInt x y)) := by
  have s1 := sign_is (F := F) ha hm
  have s2 := sign_is (F := F) hb hn
  have g1 := gcd_is (F := F) ha hb hm hn
  have of1 := pc_of (F := F) 1 (by decide) (by decide)
  have xl := isI_lt ha
  have yl := isI_lt hb
  have key : ∀ g : Int, g ≠ 0 → g.natAbs < B32 ^ (max m n) → pureCall (run F) 24 [a, IV g] = some (.tup [IV (x / g), IV (x % g), .int .i64 0]) ∧ pureCall (run F) 24 [b, IV g] = some (.tup [IV (y / g), IV (y % g), .int .i64 0]) := by
    intro g h0 hg
    have q1 := quo_is (F := F) ha (isI_IV hg) hm (by omega)
    have q2 := quo_is (F := F) hb (isI_IV hg) hn (by omega)
    rw [if_neg h0] at q1 q2
    exact ⟨q1, q2⟩
  have gl : ((Int.gcd x y : Nat) : Int).natAbs < B32 ^ (max m n) := gcd_lt (Nat.lt_of_lt_of_le xl (Nat.pow_le_pow_right (by decide) (by omega))) (Nat.lt_of_lt_of_le yl (Nat.pow_le_pow_right (by decide) (by omega)))
  have ng := neg_is (F := F) (isI_IV gl) (by omega)
  obtain ⟨na, ra, la, rfl, _, _, _⟩ := ha
  obtain ⟨nb, rb, lb, rfl, _, _, _⟩ := hb
  refine pure_ret hr.rat_made rfl ?_
  by_cases hx : x = 0
  · subst hx
    have e : QV (Rat.divInt 0 y) = .agg [.bool false, .slc true [], .bool false, .slc false (u32s (D 1))] := by
      simp [QV, PV]
    rw [e]
    simp only [IV] at of1
    simp (disch := omega) [c_rat_made, any_pure, s1, cmpZ, of1, putElem, putAgg, fillA, setAll]
  · by_cases hy : y = 0
    · subst hy
      have e : QV (Rat.divInt x 0) = .agg [.bool false, .slc true [], .bool false, .slc false (u32s (D 1))] := by
        simp [QV, PV]
      rw [e]
      simp only [IV] at of1
      have c1 : ¬ cmpZ x 0 = 0 := by unfold cmpZ; split <;> (try split) <;> omega
      have c2 : cmpZ 0 0 = 0 := rfl
      simp (disch := omega) [c_rat_made, any_pure, s1, s2, c1, c2, of1, putElem, putAgg, fillA, setAll]
    · have hg0 : (Int.gcd x y : Int) ≠ 0 := by
        intro h0
        have := Int.gcd_eq_zero_iff.1 (by exact_mod_cast h0)
        exact hx this.1
      obtain ⟨f1, f2⟩ := divInt_facts (x := x) hy
      unfold QV
      rw [f1, f2]
      have c1 : ¬ cmpZ x 0 = 0 := by unfold cmpZ; split <;> (try split) <;> omega
      have c2 : ¬ cmpZ y 0 = 0 := by unfold cmpZ; split <;> (try split) <;> omega
      generalize ((Int.gcd x y : Nat) : Int) = G at *
      by_cases hn : y < 0
      · obtain ⟨q1, q2⟩ := key (-G) (by omega) (by rw [Int.natAbs_neg]; exact gl)
        rw [if_pos hn]
        have c3 : cmpZ y 0 < 0 := by unfold cmpZ; rw [if_pos hn]; decide
        generalize -G = K at *
        generalize x / K = u at *
        generalize x % K = u' at *
        generalize y / K = v at *
        generalize y % K = v' at *
        simp only [IV] at g1 ng q1 q2
        simp (disch := omega) [c_rat_made, any_pure, s1, s2, c1, c2, c3, g1, ng, q1, q2, PV, putElem, putAgg, fillA, setAll]
      · obtain ⟨q1, q2⟩ := key G (by omega) gl
        rw [if_neg hn]
        have c3 : ¬ cmpZ y 0 < 0 := by unfold cmpZ; rw [if_neg hn]; split <;> decide
        generalize x / G = u at *
        generalize x % G = u' at *
        generalize y / G = v at *
        generalize y % G = v' at *
        simp only [IV] at g1 ng q1 q2
        simp (disch := omega) [c_rat_made, any_pure, s1, s2, c1, c2, c3, g1, q1, q2, PV, putElem, putAgg, fillA, setAll]

theorem rat_norm {a : AVal} {x y : Int} {n : Nat} (ha : IsQ a x y n) (hn : n < 2^36) : pureCall (run F) 143 [a] = some (QV (Rat.divInt x y)) := by
  obtain ⟨n1, r1, l1, n2, r2, l2, rfl, i1, i2⟩ := ha
  have m1 := rat_made (F := F) i1 i2 hn hn
  refine pure_ret hr.rat_Norm rfl ?_
  simp only [QV] at *
  generalize (Rat.divInt x y).num = u at *
  generalize ((Rat.divInt x y).den : Int) = v at *
  simp only [PV] at *
  simp (disch := omega) [c_rat_Norm, any_pure, m1, putElem, putAgg, fillA, setAll]

theorem rat_over {a b : AVal} {x y : Int} {m n : Nat} (ha : IsI a x m) (hb : IsI b y n) (hm : m < 2^36) (hn : n < 2^36) :
    pureCall (run F) 130 [a, b] = some (.tup [QV (Rat.divInt x y), .int .i64 (if y = 0 then 2 else 0)]) := by
  have m1 := rat_made (F := F) ha hb hm hn
  have s2 := sign_is (F := F) hb hn
  obtain ⟨na, ra, la, rfl, _, _, _⟩ := ha
  obtain ⟨nb, rb, lb, rfl, _, _, _⟩ := hb
  refine pure_ret hr.rat_Over rfl ?_
  simp only [QV] at *
  generalize (Rat.divInt x y).num = u at *
  generalize ((Rat.divInt x y).den : Int) = v at *
  simp only [PV] at *
  by_cases hy : y = 0
  · have c2 : cmpZ y 0 = 0 := by rw [hy]; rfl
    rw [if_pos hy]
    simp (disch := omega) [c_rat_Over, any_pure, s2, c2, m1, putElem, putAgg, fillA, setAll]
  · have c2 : ¬ cmpZ y 0 = 0 := by unfold cmpZ; split <;> (try split) <;> omega
    simp (disch := omega) [c_rat_Over, any_pure, s2, c2, m1, if_neg hy, putElem, putAgg, fillA, setAll]

theorem rat_of (x y : Int) (x0 : -9223372036854775808 ≤ x) (x1 : x < 9223372036854775808) (y0 : -9223372036854775808 ≤ y) (y1 : y < 9223372036854775808) :
    pureCall (run F) 129 [.int .i64 x, .int .i64 y] = some (.tup [QV (Rat.divInt x y), .int .i64 (if y = 0 then 2 else 0)]) := by
  have p1 := pc_of (F := F) x x0 x1
  have p2 := pc_of (F := F) y y0 y1
  have m1 := rat_over (F := F) (isI_IV (n := 2) (z := x) (by show x.natAbs < 4294967296 ^ 2; omega)) (isI_IV (n := 2) (z := y) (by show y.natAbs < 4294967296 ^ 2; omega)) (by decide) (by decide)
  refine pure_ret hr.rat_Of rfl ?_
  simp only [QV] at *
  generalize (Rat.divInt x y).num = u at *
  generalize ((Rat.divInt x y).den : Int) = v at *
  simp only [PV, IV] at *
  simp (disch := omega) [c_rat_Of, any_pure, p1, p2, m1, putElem, putAgg, fillA, setAll]

/-- Two rationals in normal form, and what is got by integers' products. -/
theorem rat_sum {a b : AVal} {x y z w : Int} {n : Nat} (ha : IsQ a x y n) (hb : IsQ b z w n) (h0 : 0 < n) (hn : n < 2^33) (sub : Bool) :
    pureCall (run F) 196 [a, b, .fn (if sub then 46 else 43) [] []] = some (QV (if sub then Rat.divInt x y - Rat.divInt z w else Rat.divInt x y + Rat.divInt z w)) := by
  have n1 := rat_norm (F := F) ha (by omega)
  have n2 := rat_norm (F := F) hb (by omega)
  obtain ⟨p1, p2⟩ : SzQ (Rat.divInt x y) n := by
    obtain ⟨_, _, _, _, _, _, _, i1, i2⟩ := ha
    exact szQ_divInt h0 (isI_lt i1) (isI_lt i2)
  obtain ⟨q1, q2⟩ : SzQ (Rat.divInt z w) n := by
    obtain ⟨_, _, _, _, _, _, _, i1, i2⟩ := hb
    exact szQ_divInt h0 (isI_lt i1) (isI_lt i2)
  generalize Rat.divInt x y = p at *
  generalize Rat.divInt z w = q at *
  have pd : ((p.den : Int)).natAbs < B32 ^ n := by rw [Int.natAbs_natCast]; exact p2
  have qd : ((q.den : Int)).natAbs < B32 ^ n := by rw [Int.natAbs_natCast]; exact q2
  have m1 := mul_is (F := F) (isI_IV p1) (isI_IV qd) (by omega) (by omega)
  have m2 := mul_is (F := F) (isI_IV q1) (isI_IV pd) (by omega) (by omega)
  have m3 := mul_is (F := F) (isI_IV pd) (isI_IV qd) (by omega) (by omega)
  have l1 := isI_lt (isI_mul p1 qd)
  have l2 := isI_lt (isI_mul q1 pd)
  have l3 := isI_lt (isI_mul pd qd)
  have e1 : p + q = Rat.divInt (p.num * q.den + q.num * p.den) (p.den * q.den) := by
    conv => lhs; rw [← Rat.num_divInt_den p, ← Rat.num_divInt_den q]
    rw [Rat.divInt_add_divInt _ _ (by have := p.den_nz; omega) (by have := q.den_nz; omega)]
  have e2 : p - q = Rat.divInt (p.num * q.den - q.num * p.den) (p.den * q.den) := by
    conv => lhs; rw [← Rat.num_divInt_den p, ← Rat.num_divInt_den q]
    rw [Rat.divInt_sub_divInt _ _ (by have := p.den_nz; omega) (by have := q.den_nz; omega)]
  obtain ⟨f1, g1, k1, f2, g2, k2, rfl, _, _⟩ := ha
  obtain ⟨f3, g3, k3, f4, g4, k4, rfl, _, _⟩ := hb
  refine pure_ret hr.rat_sum rfl ?_
  rw [e1, e2]
  simp only [QV] at n1 n2
  generalize p.num * q.den = u1 at *
  generalize q.num * p.den = u2 at *
  generalize ((p.den : Int) * (q.den : Int)) = u3 at *
  generalize p.num = pn at *
  generalize (p.den : Int) = pd at *
  generalize q.num = qn at *
  generalize (q.den : Int) = qd at *
  cases sub
  · have a1 := add_is (F := F) (isI_IV l1) (isI_IV l2) (by omega) (by omega)
    have sm := isI_lt (isI_add l1 l2)
    have md := rat_made (F := F) (isI_IV sm) (isI_IV l3) (by omega) (by omega)
    rw [QV] at md
    simp only [QV, Bool.false_eq_true, if_false]
    generalize (Rat.divInt (u1 + u2) u3).num = r1 at *
    generalize ((Rat.divInt (u1 + u2) u3).den : Int) = r2 at *
    generalize u1 + u2 = u4 at *
    simp only [PV, IV] at *
    simp (disch := omega) [c_rat_sum, any_pure, n1, n2, m1, m2, m3, a1, md, putElem, putAgg, fillA, setAll]
  · have a1 := sub_is (F := F) (isI_IV l1) (isI_IV l2) (by omega) (by omega)
    have sm : (u1 - u2).natAbs < B32 ^ (n + n + 1) := by
      rw [Int.sub_eq_add_neg]
      exact isI_lt (isI_add l1 (by rw [Int.natAbs_neg]; exact l2))
    have md := rat_made (F := F) (isI_IV sm) (isI_IV l3) (by omega) (by omega)
    rw [QV] at md
    simp only [QV, if_true]
    generalize (Rat.divInt (u1 - u2) u3).num = r1 at *
    generalize ((Rat.divInt (u1 - u2) u3).den : Int) = r2 at *
    generalize u1 - u2 = u4 at *
    simp only [PV, IV] at *
    simp (disch := omega) [c_rat_sum, any_pure, n1, n2, m1, m2, m3, a1, md, putElem, putAgg, fillA, setAll]
end Go.Ash
/- Rationals of the program: Add, Sub, Mul, Quo, Cmp, Bits, Whole. -/
namespace Go.Ash
variable {F : Nat → Option RFunc} [h : CodeLimbs F] [hr : CodeRat F]

theorem isQ_sz {a : AVal} {x y : Int} {n : Nat} (ha : IsQ a x y n) (h0 : 0 < n) : SzQ (Rat.divInt x y) n := by
  obtain ⟨_, _, _, _, _, _, _, i1, i2⟩ := ha
  exact szQ_divInt h0 (isI_lt i1) (isI_lt i2)
theorem SzQ.dn {q : Rat} {n : Nat} (hq : SzQ q n) : ((q.den : Int)).natAbs < B32 ^ n := by rw [Int.natAbs_natCast]; exact hq.2

theorem rat_add {a b : AVal} {x y z w : Int} {n : Nat} (ha : IsQ a x y n) (hb : IsQ b z w n) (h0 : 0 < n) (hn : n < 2^33) :
    pureCall (run F) 138 [a, b] = some (QV (Rat.divInt x y + Rat.divInt z w)) := by
  have s1 := rat_sum (F := F) ha hb h0 hn false
  obtain ⟨f1, g1, k1, f2, g2, k2, rfl, _, _⟩ := ha
  obtain ⟨f3, g3, k3, f4, g4, k4, rfl, _, _⟩ := hb
  refine pure_ret hr.rat_Add rfl ?_
  simp only [Bool.false_eq_true, if_false] at s1
  simp only [QV] at *
  generalize (Rat.divInt x y + Rat.divInt z w).num = r1 at *
  generalize ((Rat.divInt x y + Rat.divInt z w).den : Int) = r2 at *
  simp only [PV] at *
  simp (disch := omega) [c_rat_Add, any_pure, s1, putElem, putAgg, fillA, setAll]

theorem rat_sub {a b : AVal} {x y z w : Int} {n : Nat} (ha : IsQ a x y n) (hb : IsQ b z w n) (h0 : 0 < n) (hn : n < 2^33) :
    pureCall (run F) 135 [a, b] = some (QV (Rat.divInt x y - Rat.divInt z w)) := by
  have s1 := rat_sum (F := F) ha hb h0 hn true
  obtain ⟨f1, g1, k1, f2, g2, k2, rfl, _, _⟩ := ha
  obtain ⟨f3, g3, k3, f4, g4, k4, rfl, _, _⟩ := hb
  refine pure_ret hr.rat_Sub rfl ?_
  simp only [if_true] at s1
  simp only [QV] at *
  generalize (Rat.divInt x y - Rat.divInt z w).num = r1 at *
  generalize ((Rat.divInt x y - Rat.divInt z w).den : Int) = r2 at *
  simp only [PV] at *
  simp (disch := omega) [c_rat_Sub, any_pure, s1, putElem, putAgg, fillA, setAll]

theorem rat_mul_eq (p q : Rat) : p * q = Rat.divInt (p.num * q.num) (p.den * q.den) := by
  conv => lhs; rw [← Rat.num_divInt_den p, ← Rat.num_divInt_den q]
  rw [Rat.divInt_mul_divInt]
theorem rat_div_eq (p q : Rat) : p / q = Rat.divInt (p.num * q.den) (p.den * q.num) := by
  rw [Rat.div_def]
  conv => lhs; rw [← Rat.num_divInt_den p, ← Rat.num_divInt_den q, Rat.inv_divInt]
  rw [Rat.divInt_mul_divInt]

theorem rat_mul {a b : AVal} {x y z w : Int} {n : Nat} (ha : IsQ a x y n) (hb : IsQ b z w n) (h0 : 0 < n) (hn : n < 2^33) :
    pureCall (run F) 141 [a, b] = some (QV (Rat.divInt x y * Rat.divInt z w)) := by
  have n1 := rat_norm (F := F) ha (by omega)
  have n2 := rat_norm (F := F) hb (by omega)
  have sp := isQ_sz ha h0
  have sq := isQ_sz hb h0
  generalize Rat.divInt x y = p at *
  generalize Rat.divInt z w = q at *
  have m1 := mul_is (F := F) (isI_IV sp.1) (isI_IV sq.1) (by omega) (by omega)
  have m3 := mul_is (F := F) (isI_IV sp.dn) (isI_IV sq.dn) (by omega) (by omega)
  have md := rat_made (F := F) (isI_mul sp.1 sq.1) (isI_mul sp.dn sq.dn) (by omega) (by omega)
  rw [rat_mul_eq]
  obtain ⟨f1, g1, k1, f2, g2, k2, rfl, _, _⟩ := ha
  obtain ⟨f3, g3, k3, f4, g4, k4, rfl, _, _⟩ := hb
  refine pure_ret hr.rat_Mul rfl ?_
  clear sp sq
  generalize p.num * q.num = u1 at *
  generalize ((p.den : Int) * (q.den : Int)) = u3 at *
  simp only [QV] at *
  generalize p.num = pn at *
  generalize (p.den : Int) = pd at *
  generalize q.num = qn at *
  generalize (q.den : Int) = qd at *
  generalize (Rat.divInt u1 u3).num = r1 at *
  generalize ((Rat.divInt u1 u3).den : Int) = r2 at *
  simp only [PV, IV] at *
  simp (disch := omega) [c_rat_Mul, any_pure, n1, n2, m1, m3, md, putElem, putAgg, fillA, setAll]

theorem rat_quo {a b : AVal} {x y z w : Int} {n : Nat} (ha : IsQ a x y n) (hb : IsQ b z w n) (h0 : 0 < n) (hn : n < 2^33) :
    pureCall (run F) 124 [a, b] = some (.tup [QV (Rat.divInt x y / Rat.divInt z w), .int .i64 (if Rat.divInt z w = 0 then 2 else 0)]) := by
  have n1 := rat_norm (F := F) ha (by omega)
  have n2 := rat_norm (F := F) hb (by omega)
  have sp := isQ_sz ha h0
  have sq := isQ_sz hb h0
  generalize Rat.divInt x y = p at *
  generalize Rat.divInt z w = q at *
  have m1 := mul_is (F := F) (isI_IV sp.1) (isI_IV sq.dn) (by omega) (by omega)
  have m3 := mul_is (F := F) (isI_IV sp.dn) (isI_IV sq.1) (by omega) (by omega)
  have md := rat_over (F := F) (isI_mul sp.1 sq.dn) (isI_mul sp.dn sq.1) (by omega) (by omega)
  have ez : ((p.den : Int) * q.num = 0) = (q = 0) := by
    apply propext
    rw [Int.mul_eq_zero, Rat.num_eq_zero]
    have := p.den_nz
    exact ⟨fun h => h.resolve_left (by omega), .inr⟩
  rw [rat_div_eq]
  have md : pureCall (run F) 130 [IV (p.num * q.den), IV (p.den * q.num)] = some (.tup [QV (Rat.divInt (p.num * q.den) (p.den * q.num)), .int .i64 (if q = 0 then 2 else 0)]) := by
    rw [md]; simp only [ez]
  clear ez
  generalize (if q = 0 then (2 : Int) else 0) = er at *
  obtain ⟨f1, g1, k1, f2, g2, k2, rfl, _, _⟩ := ha
  obtain ⟨f3, g3, k3, f4, g4, k4, rfl, _, _⟩ := hb
  refine pure_ret hr.rat_Quo rfl ?_
  clear sp sq
  generalize p.num * q.den = u1 at *
  generalize ((p.den : Int) * q.num) = u3 at *
  simp only [QV] at *
  generalize p.num = pn at *
  generalize (p.den : Int) = pd at *
  generalize q.num = qn at *
  generalize (q.den : Int) = qd at *
  generalize (Rat.divInt u1 u3).num = r1 at *
  generalize ((Rat.divInt u1 u3).den : Int) = r2 at *
  simp only [PV, IV] at *
  simp (disch := omega) [c_rat_Quo, any_pure, n1, n2, m1, m3, md, putElem, putAgg, fillA, setAll]

theorem rat_cmp {a b : AVal} {x y z w : Int} {n : Nat} (ha : IsQ a x y n) (hb : IsQ b z w n) (h0 : 0 < n) (hn : n < 2^33) :
    pureCall (run F) 136 [a, b] = some (.int .i64 (cmpZ (Rat.divInt x y - Rat.divInt z w).num 0)) := by
  have s1 := rat_sub (F := F) ha hb h0 hn
  have sp := isQ_sz ha h0
  have sq := isQ_sz hb h0
  generalize Rat.divInt x y = p at *
  generalize Rat.divInt z w = q at *
  have hl : (p - q).num.natAbs < B32 ^ (n + n + 1) := by
    rw [Rat.sub_def']
    have l1 := isI_lt (isI_mul sp.1 sq.dn)
    have l2 := isI_lt (isI_mul sq.1 sp.dn)
    have l3 : (p.num * q.den - q.num * p.den).natAbs < B32 ^ (n + n + 1) := by
      rw [Int.sub_eq_add_neg]
      exact isI_lt (isI_add l1 (by rw [Int.natAbs_neg]; exact l2))
    rw [← Rat.divInt_ofNat]
    exact Nat.lt_of_le_of_lt (divInt_num_le _ _) l3
  have sg := sign_is (F := F) (isI_IV hl) (by omega)
  obtain ⟨f1, g1, k1, f2, g2, k2, rfl, _, _⟩ := ha
  obtain ⟨f3, g3, k3, f4, g4, k4, rfl, _, _⟩ := hb
  refine pure_ret hr.rat_Cmp rfl ?_
  clear sp sq
  simp only [QV] at *
  generalize (p - q).num = r1 at *
  generalize ((p - q).den : Int) = r2 at *
  simp only [PV, IV] at *
  simp (disch := omega) [c_rat_Cmp, any_pure, s1, sg, putElem, putAgg, fillA, setAll]

theorem rat_bits {a : AVal} {x y : Int} {n : Nat} (ha : IsQ a x y n) (h0 : 0 < n) (hn : n < 2^33) :
    pureCall (run F) 145 [a] = some (.int .i64 (bl (Rat.divInt x y).num.natAbs + bl (Rat.divInt x y).den : Nat)) := by
  have n1 := rat_norm (F := F) ha (by omega)
  have sp := isQ_sz ha h0
  generalize Rat.divInt x y = p at *
  have b1 := pc_bits_D (F := F) (isI_IV sp.1) (by omega)
  have b2 := pc_bits_D (F := F) (isI_IV sp.dn) (by omega)
  have k1 := bl_lim sp.1
  have k2 := bl_lim sp.dn
  rw [Int.natAbs_natCast] at b2 k2
  obtain ⟨f1, g1, k1, f2, g2, k2, rfl, _, _⟩ := ha
  refine pure_ret hr.rat_Bits rfl ?_
  clear sp
  simp only [QV] at *
  generalize bl p.num.natAbs = c1 at *
  generalize bl p.den = c2 at *
  generalize p.num = pn at *
  generalize (p.den : Int) = pd at *
  simp only [PV, IV] at *
  simp (disch := omega) [c_rat_Bits, any_pure, n1, b1, b2, wrap_i64, putElem, putAgg, fillA, setAll]

theorem rat_whole {a : AVal} {x y : Int} {n : Nat} (ha : IsQ a x y n) (h0 : 0 < n) (hn : n < 2^33) :
    pureCall (run F) 132 [a] = some (if (Rat.divInt x y).den = 1 then .tup [IV (Rat.divInt x y).num, .bool true] else .tup [IV 0, .bool false]) := by
  have n1 := rat_norm (F := F) ha (by omega)
  have sp := isQ_sz ha h0
  generalize Rat.divInt x y = p at *
  have b2 := pc_bits_D (F := F) (isI_IV sp.dn) (by omega)
  have k2 := bl_lim sp.dn
  rw [Int.natAbs_natCast] at b2 k2
  have e1 : p.den = 1 ↔ bl p.den ≤ 1 := by
    rw [bl_le]
    have := p.den_pos
    omega
  have e0 : IV 0 = .agg [.bool false, .slc true []] := by simp [IV]
  obtain ⟨f1, g1, k1, f2, g2, k2, rfl, _, _⟩ := ha
  refine pure_ret hr.rat_Whole rfl ?_
  clear sp
  rw [e0]
  simp only [QV, e1] at *
  generalize bl p.den = c2 at *
  generalize p.num = pn at *
  generalize (p.den : Int) = pd at *
  simp only [PV, IV] at *
  by_cases hc : c2 ≤ 1
  · rw [if_pos hc]
    simp (disch := omega) [c_rat_Whole, any_pure, n1, b2, wrap_i64, if_pos, if_neg, decide_eq_false, putElem, putAgg, fillA, setAll]
  · rw [if_neg hc]
    simp (disch := omega) [c_rat_Whole, any_pure, n1, b2, wrap_i64, if_pos, if_neg, decide_eq_true, putElem, putAgg, fillA, setAll]
end Go.Ash
/- Rationals of the document (ashlarref2), and law2.Cut. -/
namespace Go.Ash
variable {F : Nat → Option RFunc} [h : CodeLimbs F] [h1 : CodeRef1 F] [h2 : CodeLaw1 F] [hr : CodeRat F]

/-- Two integers of the document, one above the other. -/
def RP (k1 k2 : Bool) (x y : Int) : AVal := .agg [.bool (decide (x < 0)), .slc k1 (i64s (DW x.natAbs)), .bool (decide (y < 0)), .slc k2 (i64s (DW y.natAbs))]
def RQ (k1 k2 : Bool) (q : Rat) : AVal := RP k1 k2 q.num (q.den : Int)

theorem cmp0 {x : Int} : cmpZ x 0 = 0 ↔ x = 0 := by unfold cmpZ; split <;> (try split) <;> omega

theorem ref_make (n1 n2 : Bool) {x y : Int} {n : Nat} (hx : x.natAbs < B32 ^ n) (hy : y.natAbs < B32 ^ n) (hn : n < 2^34) :
    ∃ k1 k2, pureCall (run F) 131 [RI n1 x, RI n2 y] = some (RQ k1 k2 (Rat.divInt x y)) := by
  have dx := dwl hx
  have dy := dwl hy
  have s1 := rsign (F := F) n1 x
  have s2 := rsign (F := F) n2 y
  by_cases h0 : y = 0 ∨ x = 0
  · obtain ⟨k1, o1⟩ := rof (F := F) 0 (by decide) (by decide)
    obtain ⟨k2, o2⟩ := rof (F := F) 1 (by decide) (by decide)
    refine ⟨k1, k2, pure_ret hr.ashlarref2_Make rfl ?_⟩
    have e : Rat.divInt x y = 0 := by rcases h0 with rfl | rfl <;> simp
    rw [e]
    have eq : RQ k1 k2 0 = RP k1 k2 0 1 := rfl
    rw [eq]
    by_cases hy0 : y = 0
    · have c2 : cmpZ y 0 = 0 := cmp0.2 hy0
      generalize hO : (1 : Int) = one at o2
      simp only [RI, RP] at *
      subst hO
      simp (disch := omega) [c_ashlarref2_Make, any_pure, s1, s2, c2, o1, o2, putElem, putAgg, fillA, setAll]
    · have c2 : ¬ cmpZ y 0 = 0 := fun h => hy0 (cmp0.1 h)
      have c1 : cmpZ x 0 = 0 := cmp0.2 (h0.resolve_left hy0)
      generalize hO : (1 : Int) = one at o2
      simp only [RI, RP] at *
      subst hO
      simp (disch := omega) [c_ashlarref2_Make, any_pure, s1, s2, c1, c2, o1, o2, putElem, putAgg, fillA, setAll]
  · have hy0 : y ≠ 0 := fun h => h0 (.inl h)
    have hx0 : x ≠ 0 := fun h => h0 (.inr h)
    have c2 : ¬ cmpZ y 0 = 0 := fun h => hy0 (cmp0.1 h)
    have c1 : ¬ cmpZ x 0 = 0 := fun h => hx0 (cmp0.1 h)
    obtain ⟨k, g1⟩ := rGcd (F := F) n1 n2 x y (by omega) (by omega)
    have gl := gcd_lt hx hy
    have dg := dwl gl
    obtain ⟨f1, f2⟩ := divInt_facts (x := x) hy0
    have hG : 0 < ((Int.gcd x y : Nat) : Int) := by
      have : Int.gcd x y ≠ 0 := fun h => hx0 (Int.gcd_eq_zero_iff.1 h).1
      omega
    have hd : ((Int.gcd x y : Nat) : Int) ∣ y := Int.gcd_dvd_right ..
    generalize ((Int.gcd x y : Nat) : Int) = G at *
    obtain ⟨a1, a2, q1⟩ := rQuo (F := F) n1 k x G (by omega) (by omega) (by omega)
    obtain ⟨b1, b2, q2⟩ := rQuo (F := F) n2 k y G (by omega) (by omega) (by omega)
    have lu := dwl (isI_div (y := G) hx)
    have lv := dwl (isI_div (y := G) hy)
    have ng1 := rneg (F := F) a1 (x / G) (by omega)
    have ng2 := rneg (F := F) b1 (y / G) (by omega)
    have hs : y / G < 0 ↔ y < 0 := by
      obtain ⟨c, rfl⟩ := hd
      rw [Int.mul_ediv_cancel_left _ (by omega)]
      constructor
      · intro hc; exact Int.mul_neg_of_pos_of_neg hG hc
      · intro hc
        apply Int.lt_of_not_ge
        intro hge
        have := Int.mul_nonneg (Int.le_of_lt hG) hge
        omega
    refine ⟨a1, b1, pure_ret hr.ashlarref2_Make rfl ?_⟩
    unfold RQ
    rw [f1, f2]
    by_cases hn : y < 0
    · rw [if_pos hn, Int.ediv_neg, Int.ediv_neg]
      have hv : y / G < 0 := hs.2 hn
      clear hs hn f1 f2
      generalize x / G = u at *
      generalize x % G = u' at *
      generalize y / G = v at *
      generalize y % G = v' at *
      generalize hU : -u = U at *
      generalize hV : -v = V at *
      clear hU hV
      simp only [RI, RP] at *
      rw [decide_eq_true hv] at q2 ng2
      simp (disch := omega) [c_ashlarref2_Make, any_pure, s1, s2, c1, c2, g1, q1, q2, ng1, ng2, decide_eq_true hv, putElem, putAgg, fillA, setAll]
    · rw [if_neg hn]
      have hv : ¬ y / G < 0 := fun h => hn (hs.1 h)
      clear hs hn f1 f2
      generalize x / G = u at *
      generalize x % G = u' at *
      generalize y / G = v at *
      generalize y % G = v' at *
      simp only [RI, RP] at *
      simp (disch := omega) [c_ashlarref2_Make, any_pure, s1, s2, c1, c2, g1, q1, q2, decide_eq_false hv, putElem, putAgg, fillA, setAll]

theorem ref_from {a : AVal} {x y : Int} {n : Nat} (ha : IsQ a x y n) (hn : n < 2^34) : ∃ k1 k2, pureCall (run F) 123 [a] = some (RQ k1 k2 (Rat.divInt x y)) := by
  obtain ⟨n1, r1, l1, n2, r2, l2, rfl, i1, i2⟩ := ha
  obtain ⟨j1, f1⟩ := rfrom (F := F) i1 (by omega)
  obtain ⟨j2, f2⟩ := rfrom (F := F) i2 (by omega)
  obtain ⟨k1, k2, m⟩ := ref_make (F := F) j1 j2 (isI_lt i1) (isI_lt i2) hn
  refine ⟨k1, k2, pure_ret hr.ashlarref2_From rfl ?_⟩
  simp only [RQ] at *
  generalize (Rat.divInt x y).num = u at *
  generalize ((Rat.divInt x y).den : Int) = v at *
  simp only [RI, RP] at *
  simp (disch := omega) [c_ashlarref2_From, any_pure, f1, f2, m, putElem, putAgg, fillA, setAll]

theorem SzQ.d1 {q : Rat} {n : Nat} (hq : SzQ q n) : (DW q.num.natAbs).length ≤ 2 * n := dwl hq.1
theorem SzQ.d2 {q : Rat} {n : Nat} (hq : SzQ q n) : (DW ((q.den : Int)).natAbs).length ≤ 2 * n := dwl hq.dn

theorem ref_add (j1 j2 j3 j4 : Bool) {p q : Rat} {n : Nat} (hp : SzQ p n) (hq : SzQ q n) (hn : n < 2^32) :
    ∃ k1 k2, pureCall (run F) 139 [RQ j1 j2 p, RQ j3 j4 q] = some (RQ k1 k2 (p + q)) := by
  have d1 := hp.d1; have d2 := hp.d2; have d3 := hq.d1; have d4 := hq.d2
  obtain ⟨a1, m1⟩ := rMul (F := F) j1 j4 p.num q.den (by omega) (by omega)
  obtain ⟨a2, m2⟩ := rMul (F := F) j3 j2 q.num p.den (by omega) (by omega)
  obtain ⟨a3, m3⟩ := rMul (F := F) j2 j4 p.den q.den (by omega) (by omega)
  have l1 := isI_lt (isI_mul hp.1 hq.dn)
  have l2 := isI_lt (isI_mul hq.1 hp.dn)
  have l3 := isI_lt (isI_mul hp.dn hq.dn)
  have e1 := dwl l1; have e2 := dwl l2
  obtain ⟨a4, s⟩ := rAdd (F := F) a1 a2 (p.num * q.den) (q.num * p.den) (by omega) (by omega)
  obtain ⟨k1, k2, md⟩ := ref_make (F := F) a4 a3 (isI_lt (isI_add l1 l2)) (Nat.lt_of_lt_of_le l3 (Nat.pow_le_pow_right (by decide) (by omega))) (by omega)
  have e : p + q = Rat.divInt (p.num * q.den + q.num * p.den) (p.den * q.den) := by
    conv => lhs; rw [← Rat.num_divInt_den p, ← Rat.num_divInt_den q]
    rw [Rat.divInt_add_divInt _ _ (by have := p.den_nz; omega) (by have := q.den_nz; omega)]
  rw [← e] at md
  refine ⟨k1, k2, pure_ret hr.ashlarref2_Add rfl ?_⟩
  clear e hp hq d1 d2 d3 d4 l1 l2 l3 e1 e2
  simp only [RQ] at *
  generalize (p + q).num = r1 at *
  generalize ((p + q).den : Int) = r2 at *
  generalize p.num * q.den + q.num * p.den = u4 at *
  generalize p.num * q.den = u1 at *
  generalize q.num * p.den = u2 at *
  generalize (p.den : Int) * (q.den : Int) = u3 at *
  generalize p.num = pn at *
  generalize (p.den : Int) = pd at *
  generalize q.num = qn at *
  generalize (q.den : Int) = qd at *
  simp only [RI, RP] at *
  simp (disch := omega) [c_ashlarref2_Add, any_pure, m1, m2, m3, s, md, putElem, putAgg, fillA, setAll]

theorem ref_mul (j1 j2 j3 j4 : Bool) {p q : Rat} {n : Nat} (hp : SzQ p n) (hq : SzQ q n) (hn : n < 2^32) :
    ∃ k1 k2, pureCall (run F) 142 [RQ j1 j2 p, RQ j3 j4 q] = some (RQ k1 k2 (p * q)) := by
  have d1 := hp.d1; have d2 := hp.d2; have d3 := hq.d1; have d4 := hq.d2
  obtain ⟨a1, m1⟩ := rMul (F := F) j1 j3 p.num q.num (by omega) (by omega)
  obtain ⟨a3, m3⟩ := rMul (F := F) j2 j4 p.den q.den (by omega) (by omega)
  have l1 := isI_lt (isI_mul hp.1 hq.1)
  have l3 := isI_lt (isI_mul hp.dn hq.dn)
  obtain ⟨k1, k2, md⟩ := ref_make (F := F) a1 a3 l1 l3 (by omega)
  rw [← rat_mul_eq] at md
  refine ⟨k1, k2, pure_ret hr.ashlarref2_Mul rfl ?_⟩
  clear hp hq d1 d2 d3 d4 l1 l3
  simp only [RQ] at *
  generalize (p * q).num = r1 at *
  generalize ((p * q).den : Int) = r2 at *
  generalize p.num * q.num = u1 at *
  generalize (p.den : Int) * (q.den : Int) = u3 at *
  generalize p.num = pn at *
  generalize (p.den : Int) = pd at *
  generalize q.num = qn at *
  generalize (q.den : Int) = qd at *
  simp only [RI, RP] at *
  simp (disch := omega) [c_ashlarref2_Mul, any_pure, m1, m3, md, putElem, putAgg, fillA, setAll]

theorem ref_quo (j1 j2 j3 j4 : Bool) {p q : Rat} {n : Nat} (hp : SzQ p n) (hq : SzQ q n) (hn : n < 2^32) :
    ∃ k1 k2, pureCall (run F) 127 [RQ j1 j2 p, RQ j3 j4 q] = some (RQ k1 k2 (p / q)) := by
  have d1 := hp.d1; have d2 := hp.d2; have d3 := hq.d1; have d4 := hq.d2
  obtain ⟨a1, m1⟩ := rMul (F := F) j1 j4 p.num q.den (by omega) (by omega)
  obtain ⟨a3, m3⟩ := rMul (F := F) j2 j3 p.den q.num (by omega) (by omega)
  have l1 := isI_lt (isI_mul hp.1 hq.dn)
  have l3 := isI_lt (isI_mul hp.dn hq.1)
  obtain ⟨k1, k2, md⟩ := ref_make (F := F) a1 a3 l1 l3 (by omega)
  rw [← rat_div_eq] at md
  refine ⟨k1, k2, pure_ret hr.ashlarref2_Quo rfl ?_⟩
  clear hp hq d1 d2 d3 d4 l1 l3
  simp only [RQ] at *
  generalize (p / q).num = r1 at *
  generalize ((p / q).den : Int) = r2 at *
  generalize p.num * q.den = u1 at *
  generalize (p.den : Int) * q.num = u3 at *
  generalize p.num = pn at *
  generalize (p.den : Int) = pd at *
  generalize q.num = qn at *
  generalize (q.den : Int) = qd at *
  simp only [RI, RP] at *
  simp (disch := omega) [c_ashlarref2_Quo, any_pure, m1, m3, md, putElem, putAgg, fillA, setAll]

theorem ref_neg (j1 j2 : Bool) {p : Rat} {n : Nat} (hp : SzQ p n) (hn : n < 2^32) : pureCall (run F) 140 [RQ j1 j2 p] = some (RQ j1 j2 (-p)) := by
  have d1 := hp.d1
  have m1 := rneg (F := F) j1 p.num (by omega)
  refine pure_ret hr.ashlarref2_Neg rfl ?_
  clear hp d1
  simp only [RQ, Rat.neg_num, Rat.neg_den] at *
  generalize hU : -p.num = u at *
  clear hU
  generalize p.num = pn at *
  generalize (p.den : Int) = pd at *
  simp only [RI, RP] at *
  simp (disch := omega) [c_ashlarref2_Neg, any_pure, m1, putElem, putAgg, fillA, setAll]

theorem ref_cmp (j1 j2 j3 j4 : Bool) {p q : Rat} {n : Nat} (hp : SzQ p n) (hq : SzQ q n) (hn : n < 2^32) :
    pureCall (run F) 144 [RQ j1 j2 p, RQ j3 j4 q] = some (.int .i64 (cmpZ (p.num * q.den) (q.num * p.den))) := by
  have d1 := hp.d1; have d2 := hp.d2; have d3 := hq.d1; have d4 := hq.d2
  obtain ⟨a1, m1⟩ := rMul (F := F) j1 j4 p.num q.den (by omega) (by omega)
  obtain ⟨a2, m2⟩ := rMul (F := F) j3 j2 q.num p.den (by omega) (by omega)
  have e1 := dwl (isI_lt (isI_mul hp.1 hq.dn))
  have e2 := dwl (isI_lt (isI_mul hq.1 hp.dn))
  have c := rCmp (F := F) a1 a2 (p.num * q.den) (q.num * p.den) (by omega) (by omega)
  refine pure_ret hr.ashlarref2_Cmp rfl ?_
  clear hp hq d1 d2 d3 d4 e1 e2
  simp only [RQ] at *
  generalize p.num * q.den = u1 at *
  generalize q.num * p.den = u2 at *
  generalize p.num = pn at *
  generalize (p.den : Int) = pd at *
  generalize q.num = qn at *
  generalize (q.den : Int) = qd at *
  simp only [RI, RP] at *
  simp (disch := omega) [c_ashlarref2_Cmp, any_pure, m1, m2, c, putElem, putAgg, fillA, setAll]

theorem ref_sign (j1 j2 : Bool) (p : Rat) : pureCall (run F) 126 [RQ j1 j2 p] = some (.int .i64 (cmpZ p.num 0)) := by
  have m1 := rsign (F := F) j1 p.num
  refine pure_ret hr.ashlarref2_Sign rfl ?_
  simp only [RQ] at *
  generalize p.num = pn at *
  generalize (p.den : Int) = pd at *
  simp only [RI, RP] at *
  simp (disch := omega) [c_ashlarref2_Sign, any_pure, m1, putElem, putAgg, fillA, setAll]

theorem ref_bits (j1 j2 : Bool) {p : Rat} {n : Nat} (hp : SzQ p n) (hn : n < 2^32) : pureCall (run F) 146 [RQ j1 j2 p] = some (.int .i64 (bl p.num.natAbs + bl p.den : Nat)) := by
  have d1 := hp.d1; have d2 := hp.d2
  have b1 := rBits (F := F) j1 p.num (by omega)
  have b2 := rBits (F := F) j2 (p.den : Int) (by omega)
  have k1 := bl_lim hp.1
  have k2 := bl_lim hp.dn
  rw [Int.natAbs_natCast] at b2 k2
  refine pure_ret hr.ashlarref2_Bits rfl ?_
  clear hp d1 d2
  simp only [RQ] at *
  generalize bl p.num.natAbs = c1 at *
  generalize bl p.den = c2 at *
  generalize p.num = pn at *
  generalize (p.den : Int) = pd at *
  simp only [RI, RP] at *
  simp (disch := omega) [c_ashlarref2_Bits, any_pure, b1, b2, wrap_i64, putElem, putAgg, fillA, setAll]

theorem ref_whole (j1 j2 : Bool) {p : Rat} {n : Nat} (hp : SzQ p n) (hn : n < 2^32) : pureCall (run F) 133 [RQ j1 j2 p] = some (.bool (decide (p.den = 1))) := by
  have d2 := hp.d2
  obtain ⟨k, o1⟩ := rof (F := F) 1 (by decide) (by decide)
  have c := rCmp (F := F) j2 k (p.den : Int) 1 (by omega) (by have := dwl (z := 1) (n := 1) (by decide); omega)
  have e : decide (p.den = 1) = decide (cmpZ (p.den : Int) 1 = 0) := by
    congr 1; apply propext; unfold cmpZ; split <;> (try split) <;> omega
  have w : pureCall (run F) 195 [RQ j1 j2 p] = some (.bool (decide (p.den = 1))) := by
    refine pure_ret hr.ashlarref2_whole rfl ?_
    rw [e]
    clear e hp d2
    simp only [RQ] at *
    generalize p.num = pn at *
    generalize (p.den : Int) = pd at *
    simp only [RI, RP] at *
    simp only [show decide ((1 : Int) < 0) = false from rfl, show (1 : Int).natAbs = 1 from rfl] at c o1
    simp (disch := omega) [c_ashlarref2_whole, any_pure, o1, c, putElem, putAgg, fillA, setAll]
  refine pure_ret hr.ashlarref2_Whole rfl ?_
  generalize decide (p.den = 1) = dd at *
  simp only [RQ] at *
  clear e c hp d2
  generalize p.num = pn at *
  generalize (p.den : Int) = pd at *
  simp only [RP] at *
  simp (disch := omega) [c_ashlarref2_Whole, any_pure, w, putElem, putAgg, fillA, setAll]

theorem ref_of (z : Int) (z0 : -9223372036854775808 ≤ z) (z1 : z < 9223372036854775808) : ∃ k1 k2, pureCall (run F) 125 [.int .i64 z] = some (RP k1 k2 z 1) := by
  obtain ⟨k1, o1⟩ := rof (F := F) z z0 z1
  obtain ⟨k2, o2⟩ := rof (F := F) 1 (by decide) (by decide)
  have i : pureCall (run F) 193 [RI k1 z] = some (RP k1 k2 z 1) := by
    refine pure_ret hr.ashlarref2_Int rfl ?_
    generalize hO : (1 : Int) = one at o2 ⊢
    simp only [RI, RP] at *
    subst hO
    simp (disch := omega) [c_ashlarref2_Int, any_pure, o2, putElem, putAgg, fillA, setAll]
  refine ⟨k1, k2, pure_ret hr.ashlarref2_Of rfl ?_⟩
  generalize (1 : Int) = one at i ⊢
  simp only [RI, RP] at *
  simp (disch := omega) [c_ashlarref2_Of, any_pure, o1, i, putElem, putAgg, fillA, setAll]

/-- An answer is the document's. -/
theorem ref_is (j1 j2 : Bool) {p : Rat} {n : Nat} (hp : SzQ p n) (hn : n < 2^32) : pureCall (run F) 128 [QV p, RQ j1 j2 p] = some (.bool true) := by
  have i1 := is_true (F := F) j1 _ hp.1 (by omega)
  have i2 := is_true (F := F) j2 _ hp.dn (by omega)
  refine pure_ret hr.ashlarref2_Is rfl ?_
  clear hp
  simp only [RQ, QV] at *
  generalize p.num = pn at *
  generalize (p.den : Int) = pd at *
  simp only [RI, RP, PV, IV] at *
  simp (disch := omega) [c_ashlarref2_Is, any_pure, i1, i2, putElem, putAgg, fillA, setAll]
end Go.Ash
