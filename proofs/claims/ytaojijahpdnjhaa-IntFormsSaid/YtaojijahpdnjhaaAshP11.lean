/- The abstract interpreter of this work and its uses, part 11: AshInts, AshIntForms, AshDraw0, AshDraw1, AshDraw2. -/
import Derived.Test.YtaojijahpdnjhaaAshP10
set_option linter.all false
/- Laws of integers: each answers true. -/
namespace Go.Ash
variable {F : Nat → Option RFunc} [h : CodeLimbs F] [h1 : CodeRef1 F] [h2 : CodeLaw1 F]

theorem dwl {z : Int} {n : Nat} (hz : z.natAbs < B32 ^ n) : (DW z.natAbs).length ≤ 2 * n := DW_len_le (by rw [B16_pow2]; exact hz)
theorem dl {z : Int} {n : Nat} (hz : z.natAbs < B32 ^ n) : (D z.natAbs).length ≤ n := D_len_le hz

theorem is_true (nl : Bool) (z : Int) {n : Nat} (hz : z.natAbs < B32 ^ n) (hn : n < 2^36) : pureCall (run F) 29 [IV z, RI nl z] = some (.bool true) := by
  have := ris (F := F) nl z z (by have := dl hz; omega) (by have := dwl hz; omega)
  rwa [decide_eq_true rfl] at this

theorem bl_lim {z : Int} {n : Nat} (hz : z.natAbs < B32 ^ n) : bl z.natAbs ≤ 32 * n := bl_le.2 (by rw [← B32_pow]; exact hz)

theorem int_sums (hb : pureCall (run F) 22 [] = some (.bool true)) (na ra nb rb : Bool) (la lb : List Nat) (hla : Lim la) (hlb : Lim lb) (ha : la.length < 2^63) (hb' : lb.length < 2^63) :
    pureCall (run F) 55 [.agg [.bool na, .slc ra (u32s la)], .agg [.bool nb, .slc rb (u32s lb)]] = some (.bool true) := by
  obtain ⟨qa, ca⟩ := pc_cut (F := F) na ra la ha
  obtain ⟨qb, cb⟩ := pc_cut (F := F) nb rb lb hb'
  have ia := isI_cut na qa hla
  have ib := isI_cut nb qb hlb
  generalize sgn na (ev (la.take 24)) = x at ia
  generalize sgn nb (ev (lb.take 24)) = y at ib
  have xl := isI_lt ia
  have yl := isI_lt ib
  obtain ⟨k1, f1⟩ := rfrom (F := F) ia (by decide)
  obtain ⟨k2, f2⟩ := rfrom (F := F) ib (by decide)
  have dx := dwl xl
  have dy := dwl yl
  have sxy := isI_lt (isI_add xl yl)
  have mxy := isI_lt (isI_mul xl yl)
  have hmy : (-y).natAbs < B32 ^ 24 := by rw [Int.natAbs_neg]; exact yl
  have hmx : (-x).natAbs < B32 ^ 24 := by rw [Int.natAbs_neg]; exact xl
  have dxy : (x - y).natAbs < B32 ^ 25 := by rw [Int.sub_eq_add_neg]; exact isI_lt (isI_add xl hmy)
  have a1 := add_is (F := F) ia ib (by decide) (by decide)
  have a2 := sub_is (F := F) ia ib (by decide) (by decide)
  have a3 := mul_is (F := F) ia ib (by decide) (by decide)
  have a4 := neg_is (F := F) ia (by decide)
  have a5 := cmp_is (F := F) ia ib (by decide) (by decide)
  have a6 := sign_is (F := F) ia (by decide)
  have a7 := pc_bits_D (F := F) ia (by decide)
  obtain ⟨j1, b1⟩ := rAdd (F := F) k1 k2 x y (by omega) (by omega)
  obtain ⟨j2, b2⟩ := rSub (F := F) k1 k2 x y (by omega) (by omega)
  obtain ⟨j3, b3⟩ := rMul (F := F) k1 k2 x y (by omega) (by omega)
  have b4 := rneg (F := F) k1 x (by omega)
  have b5 := rCmp (F := F) k1 k2 x y (by omega) (by omega)
  have b6 := rsign (F := F) k1 x
  have b7 := rBits (F := F) k1 x (by omega)
  have c1 := is_true (F := F) j1 _ sxy (by decide)
  have c2 := is_true (F := F) j2 _ dxy (by decide)
  have c3 := is_true (F := F) j3 _ mxy (by decide)
  have c4 := is_true (F := F) k1 _ hmx (by decide)
  refine pure_ret h2.ashlarlaw1_IntSums rfl ?_
  simp [c_ashlarlaw1_IntSums, any_pure, hb, ca, cb, f1, f2, a1, a2, a3, a4, a5, a6, a7, b1, b2, b3, b4, b5, b6, b7, c1, c2, c3, c4, putElem, putAgg]

theorem int_mod (hb : pureCall (run F) 22 [] = some (.bool true)) (na ra : Bool) (la : List Nat) (hla : Lim la) (ha : la.length < 2^63) (m : Int) (m0 : -9223372036854775808 ≤ m) (m1 : m < 9223372036854775808) :
    pureCall (run F) 42 [.agg [.bool na, .slc ra (u32s la)], .int .i64 m] = some (.bool true) := by
  obtain ⟨qa, ca⟩ := pc_cut (F := F) na ra la ha
  have ia := isI_cut na qa hla
  generalize sgn na (ev (la.take 24)) = x at ia
  have xl := isI_lt ia
  obtain ⟨k1, f1⟩ := rfrom (F := F) ia (by decide)
  have dx := dwl xl
  have a1 := mod_is (F := F) ia (by decide) m m0 m1
  refine pure_ret h2.ashlarlaw1_IntMod rfl ?_
  by_cases hm : m < 1 ∨ 2147483647 < m
  · rw [if_pos hm] at a1
    by_cases hm1 : m < 1
    · simp (disch := omega) [c_ashlarlaw1_IntMod, any_pure, hb, ca, a1, if_pos, if_neg, decide_eq_true, decide_eq_false, putElem, putAgg]
    · simp (disch := omega) [c_ashlarlaw1_IntMod, any_pure, hb, ca, a1, if_pos, if_neg, decide_eq_true, decide_eq_false, putElem, putAgg]
  · rw [if_neg hm] at a1
    have b1 := rMod (F := F) k1 x m (by omega) (by omega) (by omega)
    simp (disch := omega) [c_ashlarlaw1_IntMod, any_pure, hb, ca, a1, f1, b1, if_pos, if_neg, decide_eq_true, decide_eq_false, putElem, putAgg]

theorem isI_div {x y : Int} {n : Nat} (hx : x.natAbs < B32 ^ n) : (x / y).natAbs < B32 ^ n := Nat.lt_of_le_of_lt (Int.natAbs_ediv_le_natAbs x y) hx
theorem isI_emod {x y : Int} {n : Nat} (hy0 : y ≠ 0) (hy : y.natAbs < B32 ^ n) : (x % y).natAbs < B32 ^ n := by
  have h1 := Int.emod_nonneg x hy0
  have h2 := Int.emod_lt x hy0
  omega

theorem int_quo (hb : pureCall (run F) 22 [] = some (.bool true)) (na ra nb rb : Bool) (la lb : List Nat) (hla : Lim la) (hlb : Lim lb) (ha : la.length < 2^63) (hb' : lb.length < 2^63) :
    pureCall (run F) 31 [.agg [.bool na, .slc ra (u32s la)], .agg [.bool nb, .slc rb (u32s lb)]] = some (.bool true) := by
  obtain ⟨qa, ca⟩ := pc_cut (F := F) na ra la ha
  obtain ⟨qb, cb⟩ := pc_cut (F := F) nb rb lb hb'
  have ia := isI_cut na qa hla
  have ib := isI_cut nb qb hlb
  generalize sgn na (ev (la.take 24)) = x at ia
  generalize sgn nb (ev (lb.take 24)) = y at ib
  have xl := isI_lt ia
  have yl := isI_lt ib
  obtain ⟨k1, f1⟩ := rfrom (F := F) ia (by decide)
  obtain ⟨k2, f2⟩ := rfrom (F := F) ib (by decide)
  have dx := dwl xl
  have dy := dwl yl
  have a1 := quo_is (F := F) ia ib (by decide) (by decide)
  have b1 := rsign (F := F) k2 y
  refine pure_ret h2.ashlarlaw1_IntQuo rfl ?_
  by_cases hy : y = 0
  · subst hy
    simp only [if_true] at a1
    have b1' : pureCall (run F) 25 [RI k2 0] = some (.int .i64 0) := b1
    simp [c_ashlarlaw1_IntQuo, any_pure, hb, ca, cb, f1, f2, a1, b1', putElem, putAgg]
  · rw [if_neg hy] at a1
    have hc : ¬ cmpZ y 0 = 0 := by unfold cmpZ; split <;> (try split) <;> omega
    have ql := isI_div (y := y) xl
    have rl := isI_emod (x := x) hy yl
    obtain ⟨k3, f3⟩ := rfrom (F := F) (isI_IV ql) (by decide)
    obtain ⟨k4, f4⟩ := rfrom (F := F) (isI_IV rl) (by decide)
    have dq := dwl ql
    have dr := dwl rl
    have ml := isI_lt (isI_mul ql yl)
    obtain ⟨j1, b2⟩ := rMul (F := F) k3 k2 (x / y) y (by omega) (by omega)
    obtain ⟨j2, b3⟩ := rAdd (F := F) j1 k4 (x / y * y) (x % y) (by have := dwl ml; omega) (by omega)
    have e : x / y * y + x % y = x := by have := Int.mul_ediv_add_emod x y; rw [Int.mul_comm]; exact this
    rw [e] at b3
    have b4 := rCmp (F := F) j2 k1 x x (by omega) (by omega)
    have hcx : cmpZ x x = 0 := by unfold cmpZ; rw [if_neg (by omega), if_pos rfl]
    rw [hcx] at b4
    have c1 := is_true (F := F) k3 _ ql (by decide)
    have c2 := is_true (F := F) k4 _ rl (by decide)
    have b5 := rsign (F := F) k4 (x % y)
    have h0 := Int.emod_nonneg x hy
    have h3 := Int.emod_lt x hy
    have hs : 0 ≤ cmpZ (x % y) 0 := by unfold cmpZ; rw [if_neg (by omega)]; split <;> omega
    have b6 := rabs (F := F) k2 y
    have b7 := rCmp (F := F) k4 k2 (x % y) (y.natAbs : Int) (by omega) (by rw [Int.natAbs_natCast]; omega)
    have hlt : cmpZ (x % y) (y.natAbs : Int) = -1 := by unfold cmpZ; rw [if_pos h3]
    rw [hlt] at b7
    generalize x / y = q at *
    generalize x % y = r at *
    generalize cmpZ r 0 = s at *
    generalize cmpZ y 0 = t at *
    simp (disch := omega) [c_ashlarlaw1_IntQuo, any_pure, hb, ca, cb, f1, f2, f3, f4, a1, b1, b2, b3, b4, b5, b6, b7, c1, c2, hc, putElem, putAgg, if_pos, if_neg, decide_eq_true, decide_eq_false]

theorem gcd_lt {x y : Int} {n : Nat} (hx : x.natAbs < B32 ^ n) (hy : y.natAbs < B32 ^ n) : ((Int.gcd x y : Nat) : Int).natAbs < B32 ^ n := by
  rw [Int.natAbs_natCast]
  rcases Nat.eq_zero_or_pos x.natAbs with h0 | h0
  · have : Int.gcd x y = y.natAbs := by rw [Int.gcd, h0, Nat.gcd_zero_left]
    omega
  · have : Int.gcd x y ≤ x.natAbs := Nat.gcd_le_left _ h0
    omega

theorem int_gcd (hb : pureCall (run F) 22 [] = some (.bool true)) (na ra nb rb nc rc : Bool) (la lb lc : List Nat) (hla : Lim la) (hlb : Lim lb) (hlc : Lim lc)
    (ha : la.length < 2^63) (hb' : lb.length < 2^63) (hc : lc.length < 2^63) :
    pureCall (run F) 39 [.agg [.bool na, .slc ra (u32s la)], .agg [.bool nb, .slc rb (u32s lb)], .agg [.bool nc, .slc rc (u32s lc)]] = some (.bool true) := by
  obtain ⟨qa, ca⟩ := pc_cut (F := F) na ra la ha
  obtain ⟨qb, cb⟩ := pc_cut (F := F) nb rb lb hb'
  obtain ⟨qc, cc⟩ := pc_cut (F := F) nc rc lc hc
  have ia := isI_cut na qa hla
  have ib := isI_cut nb qb hlb
  have ic := isI_cut nc qc hlc
  generalize sgn na (ev (la.take 24)) = x at ia
  generalize sgn nb (ev (lb.take 24)) = y at ib
  generalize sgn nc (ev (lc.take 24)) = z at ic
  have xl := isI_lt ia
  have yl := isI_lt ib
  have zl := isI_lt ic
  obtain ⟨k1, f1⟩ := rfrom (F := F) ia (by decide)
  obtain ⟨k2, f2⟩ := rfrom (F := F) ib (by decide)
  obtain ⟨k3, f3⟩ := rfrom (F := F) ic (by decide)
  have dx := dwl xl
  have dy := dwl yl
  have dz := dwl zl
  have gl := gcd_lt xl yl
  have dg := dwl gl
  have a1 := gcd_is (F := F) ia ib (by decide) (by decide)
  obtain ⟨k4, f4⟩ := rfrom (F := F) (isI_IV gl) (by decide)
  obtain ⟨k5, b1⟩ := rGcd (F := F) k1 k2 x y (by omega) (by omega)
  have c1 := is_true (F := F) k5 _ gl (by decide)
  have a2 := mul_is (F := F) ia ic (by decide) (by decide)
  have a3 := mul_is (F := F) ib ic (by decide) (by decide)
  have a4 := gcd_is (F := F) (isI_mul xl zl) (isI_mul yl zl) (by decide) (by decide)
  have b2 := rabs (F := F) k3 z
  obtain ⟨k6, b3⟩ := rMul (F := F) k4 k3 (Int.gcd x y : Nat) (z.natAbs : Int) (by omega) (by rw [Int.natAbs_natCast]; omega)
  have e : ((Int.gcd (x * z) (y * z) : Nat) : Int) = (Int.gcd x y : Nat) * (z.natAbs : Int) := by
    rw [Int.gcd_mul_right, Int.natCast_mul]
  rw [e] at a4
  have ml : (((Int.gcd x y : Nat) : Int) * (z.natAbs : Int)).natAbs < B32 ^ 48 := isI_lt (isI_mul gl (by rw [Int.natAbs_natCast]; exact zl))
  have c2 := is_true (F := F) k6 _ ml (by decide)
  refine pure_ret h2.ashlarlaw1_IntGcd rfl ?_
  generalize ((Int.gcd x y : Nat) : Int) * (z.natAbs : Int) = w at *
  generalize ((Int.gcd x y : Nat) : Int) = g at *
  generalize (z.natAbs : Int) = zz at *
  simp [c_ashlarlaw1_IntGcd, any_pure, hb, ca, cb, cc, f1, f2, f3, f4, a1, a2, a3, a4, b1, b2, b3, c1, c2, putElem, putAgg]

theorem int_small (hb : pureCall (run F) 22 [] = some (.bool true)) (n : Int) (n0 : -9223372036854775808 ≤ n) (n1 : n < 9223372036854775808) (na ra : Bool) (la : List Nat) (hla : Lim la) (ha : la.length < 2^63) :
    pureCall (run F) 35 [.int .i64 n, .agg [.bool na, .slc ra (u32s la)]] = some (.bool true) := by
  obtain ⟨qa, ca⟩ := pc_cut (F := F) na ra la ha
  have ia := isI_cut na qa hla
  generalize sgn na (ev (la.take 24)) = x at ia
  have xl := isI_lt ia
  obtain ⟨k1, f1⟩ := rfrom (F := F) ia (by decide)
  have dx := dwl xl
  have a1 := pc_of (F := F) n n0 n1
  have hnl : n.natAbs < B32 ^ 2 := by show n.natAbs < 18446744073709551616; omega
  have a2 := small_is (F := F) (isI_IV hnl) (by decide)
  rw [if_pos ⟨n0, n1⟩] at a2
  obtain ⟨k2, b1⟩ := rof (F := F) n n0 n1
  have c1 := is_true (F := F) k2 _ hnl (by decide)
  have a3 := small_is (F := F) ia (by decide)
  obtain ⟨k3, b2⟩ := rof (F := F) (-9223372036854775808) (by decide) (by decide)
  obtain ⟨k4, b3⟩ := rof (F := F) 9223372036854775807 (by decide) (by decide)
  have l3 : (DW (-9223372036854775808 : Int).natAbs).length < 2^39 := by
    have := DW_len_le (n := (-9223372036854775808 : Int).natAbs) (k := 4) (by decide)
    omega
  have l4 : (DW (9223372036854775807 : Int).natAbs).length < 2^39 := by
    have := DW_len_le (n := (9223372036854775807 : Int).natAbs) (k := 4) (by decide)
    omega
  have b4 := rCmp (F := F) k1 k3 x (-9223372036854775808) (by omega) l3
  have b5 := rCmp (F := F) k1 k4 x 9223372036854775807 (by omega) l4
  refine pure_ret h2.ashlarlaw1_IntSmall rfl ?_
  by_cases hx : -9223372036854775808 ≤ x ∧ x < 9223372036854775808
  · rw [if_pos hx] at a3
    obtain ⟨k5, b6⟩ := rof (F := F) x hx.1 hx.2
    have b7 := rCmp (F := F) k5 k1 x x (by omega) (by omega)
    have hcx : cmpZ x x = 0 := by unfold cmpZ; rw [if_neg (by omega), if_pos rfl]
    rw [hcx] at b7
    have e1 : 0 ≤ cmpZ x (-9223372036854775808) := by unfold cmpZ; rw [if_neg (by omega)]; split <;> omega
    have e2 : cmpZ x 9223372036854775807 ≤ 0 := by unfold cmpZ; split; omega; rw [if_pos (by omega)]; omega
    generalize cmpZ x (-9223372036854775808) = s1 at *
    generalize cmpZ x 9223372036854775807 = s2 at *
    simp (disch := omega) [c_ashlarlaw1_IntSmall, any_pure, hb, ca, f1, a1, a2, a3, b1, b2, b3, b4, b5, b6, b7, c1, if_pos, if_neg, decide_eq_true, decide_eq_false, putElem, putAgg]
  · rw [if_neg hx] at a3
    have e1 : 0 ≤ cmpZ x (-9223372036854775808) ∧ ¬ cmpZ x 9223372036854775807 ≤ 0 ∨ ¬ 0 ≤ cmpZ x (-9223372036854775808) := by
      unfold cmpZ
      by_cases h : x < -9223372036854775808
      · right; rw [if_pos h]; omega
      · left
        rw [if_neg h, if_neg (show ¬ x < 9223372036854775807 from by omega), if_neg (show ¬ x = 9223372036854775807 from by omega)]
        refine ⟨?_, by omega⟩
        split <;> omega
    generalize cmpZ x (-9223372036854775808) = s1 at *
    generalize cmpZ x 9223372036854775807 = s2 at *
    rcases e1 with ⟨e1, e2⟩ | e1
    · simp (disch := omega) [c_ashlarlaw1_IntSmall, any_pure, hb, ca, f1, a1, a2, a3, b1, b2, b3, b4, b5, c1, if_pos, if_neg, decide_eq_true, decide_eq_false, putElem, putAgg]
    · simp (disch := omega) [c_ashlarlaw1_IntSmall, any_pure, hb, ca, f1, a1, a2, a3, b1, b2, b3, b4, b5, c1, if_pos, if_neg, decide_eq_true, decide_eq_false, putElem, putAgg]

theorem int_power (hb : pureCall (run F) 22 [] = some (.bool true)) (na ra : Bool) (la : List Nat) (hla : Lim la) (ha : la.length < 2^63) (n : Int) (n0 : -9223372036854775808 ≤ n) (n1 : n < 9223372036854775808) :
    pureCall (run F) 63 [.agg [.bool na, .slc ra (u32s la)], .int .i64 n] = some (.bool true) := by
  obtain ⟨qa, ca⟩ := pc_cut (F := F) na ra la ha
  have ia := isI_cut na qa hla
  generalize sgn na (ev (la.take 24)) = x at ia
  have xl := isI_lt ia
  obtain ⟨k1, f1⟩ := rfrom (F := F) ia (by decide)
  have dx := dwl xl
  have hbl := bl_lim xl
  have a1 := power_is (F := F) ia (by decide) n n0 n1
  have b1 := rBits (F := F) k1 x (by omega)
  refine pure_ret h2.ashlarlaw1_IntPower rfl ?_
  by_cases hn : n < 0
  · rw [if_pos hn] at a1
    simp (disch := omega) [c_ashlarlaw1_IntPower, any_pure, hb, ca, f1, a1, b1, if_pos, if_neg, decide_eq_true, decide_eq_false, putElem, putAgg]
  · rw [if_neg hn] at a1
    obtain ⟨N, rfl⟩ : ∃ N : Nat, n = N := ⟨n.toNat, by omega⟩
    simp only [Int.toNat_natCast] at a1
    rcases Nat.lt_or_ge 1 (bl x.natAbs) with hb1 | hb1
    · have htd : (1048576 : Int).tdiv ((bl x.natAbs : Nat) : Int) = ((1048576 / bl x.natAbs : Nat) : Int) := tdiv_nat 1048576 (bl x.natAbs)
      have hle : 1048576 / bl x.natAbs ≤ 1048576 := Nat.div_le_self _ _
      have hb0 : ¬ bl x.natAbs = 0 := by omega
      by_cases hbig : 1048576 / bl x.natAbs < N
      · rw [if_pos ⟨hb1, hbig⟩] at a1
        generalize 1048576 / bl x.natAbs = w at *
        simp (disch := omega) [c_ashlarlaw1_IntPower, any_pure, hb, ca, f1, a1, b1, htd, hb0, wrap_i64, if_pos, if_neg, decide_eq_true, decide_eq_false, putElem, putAgg]
      · rw [if_neg (fun h => hbig h.2)] at a1
        rcases Nat.lt_or_ge 20 N with h20 | h20
        · generalize 1048576 / bl x.natAbs = w at *
          simp (disch := omega) [c_ashlarlaw1_IntPower, any_pure, hb, ca, f1, a1, b1, htd, hb0, wrap_i64, if_pos, if_neg, decide_eq_true, decide_eq_false, putElem, putAgg]
        · have hbn : bl x.natAbs * N ≤ 32 * 24 * 20 := Nat.mul_le_mul hbl h20
          obtain ⟨k2, b2⟩ := rPower (F := F) k1 x N (by omega) (by omega) (by omega)
          obtain ⟨K, hK⟩ : ∃ K : Nat, K = 481 := ⟨_, rfl⟩
          have hpl : (x ^ N).natAbs < B32 ^ K := by
            rw [Int.natAbs_pow, B32_pow]
            have h1 := bl_pow_le x.natAbs N
            have h2 : 2 ^ (bl x.natAbs * N + 1) ≤ 2 ^ (32 * K) := Nat.pow_le_pow_right (by decide) (by omega)
            omega
          have c1 := is_true (F := F) k2 _ hpl (by omega)
          clear hpl hbn
          generalize 1048576 / bl x.natAbs = w at *
          generalize x ^ N = z at *
          simp (disch := omega) [c_ashlarlaw1_IntPower, any_pure, hb, ca, f1, a1, b1, b2, c1, htd, hb0, wrap_i64, if_pos, if_neg, decide_eq_true, decide_eq_false, putElem, putAgg]
    · rw [if_neg (fun h => by omega)] at a1
      have hx1 : x.natAbs < 2 := by
        have := (bl_le (n := x.natAbs) (k := 1)).1 hb1
        simpa using this
      obtain ⟨k2, b2⟩ := rof (F := F) 1 (by decide) (by decide)
      have c1 := is_true (F := F) k2 1 (n := 1) (by decide) (by decide)
      have c2 := is_true (F := F) k1 x (n := 1) (by show x.natAbs < 4294967296; omega) (by decide)
      have htm := tmod2 N
      have hz : (N = 0 ∨ (N % 2 = 0 ∧ bl x.natAbs = 1)) → x ^ N = 1 := by
        rintro (rfl | ⟨h1, h2⟩)
        · exact Int.pow_zero _
        · have h3 : x ≠ 0 := by rintro rfl; exact absurd h2 (by decide)
          rcases (by omega : x = 1 ∨ x = -1) with rfl | rfl
          · exact Int.one_pow
          · have := sgn_pow_even (a := 1) (s := true) h1
            rw [Nat.one_pow] at this
            exact this
      have hz2 : ¬ (N = 0 ∨ (N % 2 = 0 ∧ bl x.natAbs = 1)) → x ^ N = x := by
        intro hc
        rcases (by omega : x = 0 ∨ x = 1 ∨ x = -1) with rfl | rfl | rfl
        · exact Int.zero_pow (fun h => hc (.inl h))
        · exact Int.one_pow
        · have hodd : N % 2 = 1 := by
            rcases Nat.mod_two_eq_zero_or_one N with h | h
            · exact absurd (.inr ⟨h, by decide⟩) hc
            · exact h
          have := sgn_pow_odd (a := 1) (s := true) hodd
          rw [Nat.one_pow] at this
          exact this
      generalize bl x.natAbs = B at *
      generalize x ^ N = z at *
      by_cases hN0 : N = 0
      · have := hz (.inl hN0)
        subst this
        clear hz hz2
        simp (disch := omega) [c_ashlarlaw1_IntPower, any_pure, hb, ca, f1, a1, b1, b2, c1, if_pos, if_neg, decide_eq_true, decide_eq_false, putElem, putAgg]
      · by_cases h2 : N % 2 = 0
        · rw [h2] at htm
          by_cases hB : B = 1
          · have := hz (.inr ⟨h2, hB⟩)
            subst this
            clear hz hz2
            simp (disch := omega) [c_ashlarlaw1_IntPower, any_pure, hb, ca, f1, a1, b1, b2, c1, hN0, htm, hB, if_pos, if_neg, decide_eq_true, decide_eq_false, putElem, putAgg]
          · have := hz2 (fun h => h.elim hN0 (fun h => hB h.2))
            subst this
            clear hz hz2
            simp (disch := omega) [c_ashlarlaw1_IntPower, any_pure, hb, ca, f1, a1, b1, b2, c2, hN0, htm, hB, if_pos, if_neg, decide_eq_true, decide_eq_false, putElem, putAgg]
        · have h1 : N % 2 = 1 := by omega
          rw [h1] at htm
          have := hz2 (fun h => h.elim hN0 (fun h => h2 h.1))
          subst this
          clear hz hz2
          simp (disch := omega) [c_ashlarlaw1_IntPower, any_pure, hb, ca, f1, a1, b1, b2, c2, hN0, htm, if_pos, if_neg, decide_eq_true, decide_eq_false, putElem, putAgg]
end Go.Ash
/- The law IntForms: what is handed in stays, answers are their caller's own. -/
namespace Go.Ash
variable {F : Nat → Option RFunc} [h : CodeLimbs F] [h1 : CodeRef1 F] [h2 : CodeLaw1 F]

/-! ### Eq, when the first one has a block of its own -/

theorem eqx_loop (s n1 : Bool) (l : List Nat) (hlen : l.length < 2^40) (v0 v1 v4 : AVal) :
    ∃ e st, (∀ env, exec F l_ashlarref1_Eq_0 ⟨[v0, v1, .mptr 1 0 0, .mptr 2 0 0, v4, .int .i64 0], env, [some ⟨false, 1, u32s l⟩, some ⟨false, 2, [.agg [.bool s, .mslc 0 0 l.length]]⟩, some ⟨false, 2, [.agg [.bool s, .slc n1 (u32s l)]]⟩], 1⟩ = some (e, st)) ∧
      (e = .exit 0 ∧ ∃ j, st = ⟨[.und, .und, .mptr 1 0 0, .mptr 2 0 0, .und, j], [], [some ⟨false, 1, u32s l⟩, some ⟨false, 2, [.agg [.bool s, .mslc 0 0 l.length]]⟩, some ⟨false, 2, [.agg [.bool s, .slc n1 (u32s l)]]⟩], 1⟩) := by
  have td : ∀ (vars env : List AVal), idsL (mask [false, false, true, true, false, true] vars) = [1, 2] → tidy [false, false, true, true, false, true] ⟨vars, env, [some ⟨false, 1, u32s l⟩, some ⟨false, 2, [.agg [.bool s, .mslc 0 0 l.length]]⟩, some ⟨false, 2, [.agg [.bool s, .slc n1 (u32s l)]]⟩], 1⟩ =
      some ⟨mask [false, false, true, true, false, true] vars, [], [some ⟨false, 1, u32s l⟩, some ⟨false, 2, [.agg [.bool s, .mslc 0 0 l.length]]⟩, some ⟨false, 2, [.agg [.bool s, .slc n1 (u32s l)]]⟩], 1⟩ := by
    intro vars env hv
    refine tidy_keep ?_ ?_
    · simp [hv, reach, fuelIds, Heap.at, List.range_succ]
    · intro b hb k hk y hy
      simp at hb
      rcases hb with rfl | rfl | rfl <;> cases hk <;> simp at hy ⊢ <;> omega
  refine loop_rule
    (fun n st => ∃ (i : Nat), st = ⟨[.und, .und, .mptr 1 0 0, .mptr 2 0 0, .und, .int .i64 i], [], [some ⟨false, 1, u32s l⟩, some ⟨false, 2, [.agg [.bool s, .mslc 0 0 l.length]]⟩, some ⟨false, 2, [.agg [.bool s, .slc n1 (u32s l)]]⟩], 1⟩ ∧ i + n = l.length) _ l.length _ ?_
    (td _ _ (by simp)) ⟨0, rfl, by simp⟩
  rintro n st ⟨i, rfl, hn⟩
  rcases Nat.eq_zero_or_pos n with rfl | hpos
  · refine .out (.exit 0) _ (by simp) ⟨rfl, .int .i64 i, rfl⟩ ?_
    simp (disch := first | omega | simp) [after, if_pos, if_neg, decide_eq_false]
  · have hi : i < l.length := by omega
    refine .more (n - 1) _ (by omega) ⟨i + 1, rfl, by omega⟩ ?_
    simp (disch := first | omega | simp) [after, if_pos, if_neg, decide_eq_true, decide_eq_false, wrap_i64, get?_u32s, td]

theorem run_eqx (s n1 : Bool) (l : List Nat) (hlen : l.length < 2^40) : run F 44 [.agg [.bool s, .mslc 0 0 l.length], .agg [.bool s, .slc n1 (u32s l)]] [some ⟨false, 1, u32s l⟩] = some (.bool true, [some ⟨false, 1, u32s l⟩]) := by
  obtain ⟨e, st, he, rfl, j, rfl⟩ := eqx_loop (F := F) s n1 l hlen (.agg [.bool s, .mslc 0 0 l.length]) (.agg [.bool s, .slc n1 (u32s l)]) (.bool false)
  rw [run_eq h1.ashlarref1_Eq rfl]
  simp (disch := omega) [c_ashlarref1_Eq, he]
  have hr : reach [some (⟨false, 1, u32s l⟩ : Blk), some ⟨false, 2, [.agg [.bool s, .mslc 0 0 l.length]]⟩, some ⟨false, 2, [.agg [.bool s, .slc n1 (u32s l)]]⟩] fuelIds [0] [] = some [0] := by simp [reach, fuelIds]
  simp [RFunc.leave, tupled, hr, pack, place_cons, List.range_succ]

theorem run_eq0 : run F 44 [.agg [.bool false, .slc true []], .agg [.bool false, .slc true []]] [] = some (.bool true, []) := by
  obtain ⟨k1, k2⟩ := eq_loop (F := F) false false true true [] [] rfl (by simp) 0 0 (by simp) (.agg [.bool false, .slc true []]) (.agg [.bool false, .slc true []]) (.bool false) [.int .i64 0]
  have k1 := k1 rfl
  simp at k1
  rw [run_eq h1.ashlarref1_Eq rfl]
  simp (disch := omega) [c_ashlarref1_Eq, k1]
  exact leave_plain rfl rfl

/-- A number with a block is handed down, with a tree; an answer without blocks comes back. -/
theorem raw_cell {call : CallF} {f : Nat} {H : Heap} {id n : Nat} {s : Bool} {t r : AVal} {b : Blk} (h : H.at id = some b) (hb : idsL b.elems = []) (ht : t.ids = []) (hr : r.ids = []) (hc : call f [.agg [.bool s, .mslc 0 0 n], t] [some b] = some (r, [some b])) :
    rawCall call f [.agg [.bool s, .mslc id 0 n], t] H = some (r, H.set id (some b)) := by
  have hlt := at_lt h
  have hre := reach_at h hb
  have hp : place [id] id = 0 := by simp [place]
  have hk : pack H [id] = [some b] := by simp [pack, h, blk_ren hb]
  unfold rawCall
  rw [show idsL [AVal.agg [.bool s, .mslc id 0 n], t] = [id] from by simp [ht], hre]
  simp [hlt, hp, hk, hc, putBack, blk_ren hb, ren_self _ _ ht, ren_self _ _ hr]

theorem tree_pair {H : Heap} {id esz : Nat} {fz b : Bool} {l : List Nat} {t : AVal} (h : H.at id = some ⟨fz, esz, u32s l⟩) (ht : t.ids = []) : treeL H fuelTree [.agg [.bool b, .mslc id 0 l.length], t] =
    some ([.agg [.bool b, .slc false (u32s l)], t], [id]) := by
  have h1 : AVal.tree H 36 (.mslc id 0 l.length) = some (.slc false (u32s l), [id]) := by
    simp only [AVal.tree, h, length_u32s, Nat.zero_add, Nat.le_refl, if_true, List.drop_zero, u32s_take, List.take_length, treeL_free (n := 34) (idsL_u32s _), Option.map_some]
  have h2 : treeL H 37 [.mslc id 0 l.length] = some ([.slc false (u32s l)], [id]) := by
    rw [treeL_cons (by simp), h1]; rfl
  have h3 : treeL H 38 [.bool b, .mslc id 0 l.length] = some ([.bool b, .slc false (u32s l)], [id]) := by
    rw [treeL_cons (by simp), h2]; rfl
  have h4 : AVal.tree H 39 (.agg [.bool b, .mslc id 0 l.length]) = some (.agg [.bool b, .slc false (u32s l)], [id]) := by
    simp only [AVal.tree, h3, Option.map_some]
  unfold fuelTree
  rw [treeL_cons (by simp), h4, treeL_free (n := 38) (by simp [ht])]
  rfl

/-! ### The noughts are put behind -/

theorem forms_loop0 (na qa : Bool) (la : List Nat) (B : AVal) (hB : B.ids = []) (k : Int) (hla : la.length ≤ 24) (vars : List AVal) (H : Heap)
    (ht : tidy [false, false, true, true, true, false, true, true, true] ⟨vars, [], H, 0⟩ =
      some ⟨[.und, .und, .int .i64 k, .mptr 0 0 0, .mptr 1 0 0, .und, .bool true, .mptr 2 0 0, .int .i64 0, .und, .und, .und, .und, .und, .und, .und, .und], [], [some ⟨false, 2, [.agg [.bool na, .slc qa (u32s la)]]⟩, some ⟨false, 2, [B]⟩, some ⟨false, 2, [.agg [.bool na, gv 3 la]]⟩] ++ gbu la, 0⟩) :
    ∃ e st, (∀ env, exec F l_ashlarlaw1_IntForms_0 ⟨vars, env, H, 0⟩ = some (e, st)) ∧
      (e = .exit 0 ∧ ∃ (j : Nat), j ≤ 5 ∧ st = ⟨[.und, .und, .int .i64 k, .mptr 0 0 0, .mptr 1 0 0, .und, .bool true, .mptr 2 0 0, .int .i64 j, .und, .und, .und, .und, .und, .und, .und, .und], [], [some ⟨false, 2, [.agg [.bool na, .slc qa (u32s la)]]⟩, some ⟨false, 2, [B]⟩, some ⟨false, 2, [.agg [.bool na, gv 3 (la ++ List.replicate j 0)]]⟩] ++ gbu (la ++ List.replicate j 0), 0⟩) := by
  refine loop_rule
    (fun n st => ∃ (j : Nat), n + j = 5 ∧ st = ⟨[.und, .und, .int .i64 k, .mptr 0 0 0, .mptr 1 0 0, .und, .bool true, .mptr 2 0 0, .int .i64 j, .und, .und, .und, .und, .und, .und, .und, .und], [], [some ⟨false, 2, [.agg [.bool na, .slc qa (u32s la)]]⟩, some ⟨false, 2, [B]⟩, some ⟨false, 2, [.agg [.bool na, gv 3 (la ++ List.replicate j 0)]]⟩] ++ gbu (la ++ List.replicate j 0), 0⟩) _ 5 _ ?_
    ht ⟨0, rfl, by simp⟩
  rintro n st ⟨j, hn, rfl⟩
  by_cases hjk : (j : Int) < k
  · rcases Nat.eq_zero_or_pos n with rfl | hpos
    · refine .out (.exit 0) _ (by simp) ⟨rfl, j, by omega, rfl⟩ ?_
      simp (disch := first | omega | simp) [after, if_pos, if_neg, decide_eq_true, decide_eq_false]
    · refine .more (n - 1) _ (by omega) ⟨j + 1, by omega, rfl⟩ ?_
      have hll : (la ++ List.replicate j 0).length ≤ 30 := by simp; omega
      rw [List.replicate_succ', ← List.append_assoc]
      generalize la ++ List.replicate j 0 = lc at *
      have z0 : AVal.int .u32 0 = .int .u32 ((0 : Nat) : Int) := rfl
      by_cases h0 : lc = []
      · subst h0
        simp (disch := first | omega | simp) [after, gv_nil, gbu_nil, tidy_eq, reach_end, reach_more, fuelIds, place_cons, pack, if_pos, if_neg, decide_eq_true, decide_eq_false, wrap_i64, goodElems, placeAll, elemsOf, maxB, hB, renL_self, ren_self, Blk.ren, fillA, putElem, putAgg, setAll]
        exact ⟨(gv_snoc 3 [] 0).symm, (gbu_snoc [] 0).symm⟩
      · rw [gv_cons h0, gbu_cons h0, gv_snoc, gbu_snoc]
        simp (disch := first | omega | simp) [after, tidy_eq, reach_end, reach_more, fuelIds, place_cons, pack, if_pos, if_neg, decide_eq_true, decide_eq_false, wrap_i64, goodElems, placeAll, elemsOf, maxB, z0, u32s_snoc, u32s_take_len, hB, renL_self, ren_self, Blk.ren, fillA, putElem, putAgg, setAll]
  · refine .out (.exit 0) _ (by simp) ⟨rfl, j, by omega, rfl⟩ ?_
    simp (disch := first | omega | simp) [after, if_pos, if_neg, decide_eq_true, decide_eq_false]

/-! ### The product is overwritten -/

def V1 (v12 : AVal) (i : Int) : List AVal := [.und, .und, .und, .mptr 0 0 0, .mptr 1 0 0, .und, .bool true, .mptr 2 0 0, .und, .mptr 3 0 0, .mptr 4 0 0, .mptr 5 0 0, v12, .int .i64 i, .und, .und, .und]

theorem forms_loop1_nil (vars : List AVal) (H : Heap) (c0 c1 c2 c4 c5 : Option Blk) (T : Heap) (v12 : AVal)
    (ht : tidy [false, false, false, true, true, false, true, true, false, true, true, true, true, true] ⟨vars, [], H, 0⟩ = some ⟨V1 v12 0, [], [c0, c1, c2, some ⟨false, 2, [.agg [.bool false, .slc true []]]⟩, c4, c5] ++ T, 0⟩) :
    ∃ e st, (∀ env, exec F l_ashlarlaw1_IntForms_1 ⟨vars, env, H, 0⟩ = some (e, st)) ∧
      (e = .exit 2 ∧ st = ⟨V1 v12 0, [], [c0, c1, c2, some ⟨false, 2, [.agg [.bool false, .slc true []]]⟩, c4, c5] ++ T, 0⟩) := by
  refine loop_rule (fun n st => st = ⟨V1 v12 0, [], [c0, c1, c2, some ⟨false, 2, [.agg [.bool false, .slc true []]]⟩, c4, c5] ++ T, 0⟩) _ 0 _ ?_ ht rfl
  rintro n st rfl
  refine .out (.exit 2) _ (by simp) ⟨rfl, rfl⟩ ?_
  simp (disch := first | omega | simp) [V1, after, if_pos, if_neg, decide_eq_true, decide_eq_false]

theorem forms_loop1 (vars : List AVal) (H : Heap) (A B Y Z : AVal) (hA : A.ids = []) (hB : B.ids = []) (hY : Y.ids = []) (hZ : Z.ids = []) (na s : Bool) (m : Nat) (lc xs : List Nat) (hx : xs.length < 2^40) (v12 : AVal) (h12 : v12.ids = [])
    (ht : tidy [false, false, false, true, true, false, true, true, false, true, true, true, true, true] ⟨vars, [], H, 0⟩ =
      some ⟨V1 v12 0, [], [some ⟨false, 2, [A]⟩, some ⟨false, 2, [B]⟩, some ⟨false, 2, [.agg [.bool na, .mslc 6 0 m]]⟩, some ⟨false, 2, [.agg [.bool s, .mslc 7 0 xs.length]]⟩, some ⟨false, 2, [Y]⟩, some ⟨false, 2, [Z]⟩, some ⟨true, 1, u32s lc⟩, some ⟨false, 1, u32s xs⟩], 0⟩) :
    ∃ e st, (∀ env, exec F l_ashlarlaw1_IntForms_1 ⟨vars, env, H, 0⟩ = some (e, st)) ∧
      (e = .exit 2 ∧ ∃ (i : Int) (zs : List Nat), st = ⟨V1 v12 i, [], [some ⟨false, 2, [A]⟩, some ⟨false, 2, [B]⟩, some ⟨false, 2, [.agg [.bool na, .mslc 6 0 m]]⟩, some ⟨false, 2, [.agg [.bool s, .mslc 7 0 xs.length]]⟩, some ⟨false, 2, [Y]⟩, some ⟨false, 2, [Z]⟩, some ⟨true, 1, u32s lc⟩, some ⟨false, 1, u32s zs⟩], 0⟩) := by
  have td : ∀ (i : Int) (zs : List Nat) (env : List AVal) (u0 u1 u2 u3 u4 : AVal), tidy [false, false, false, true, true, false, true, true, false, true, true, true, true, true] ⟨[u0, u1, u2, .mptr 0 0 0, .mptr 1 0 0, u3, .bool true, .mptr 2 0 0, u4, .mptr 3 0 0, .mptr 4 0 0, .mptr 5 0 0, v12, .int .i64 i, .und, .und, .und], env, [some ⟨false, 2, [A]⟩, some ⟨false, 2, [B]⟩, some ⟨false, 2, [.agg [.bool na, .mslc 6 0 m]]⟩, some ⟨false, 2, [.agg [.bool s, .mslc 7 0 xs.length]]⟩, some ⟨false, 2, [Y]⟩, some ⟨false, 2, [Z]⟩, some ⟨true, 1, u32s lc⟩, some ⟨false, 1, u32s zs⟩], 0⟩ =
      some ⟨V1 v12 i, [], [some ⟨false, 2, [A]⟩, some ⟨false, 2, [B]⟩, some ⟨false, 2, [.agg [.bool na, .mslc 6 0 m]]⟩, some ⟨false, 2, [.agg [.bool s, .mslc 7 0 xs.length]]⟩, some ⟨false, 2, [Y]⟩, some ⟨false, 2, [Z]⟩, some ⟨true, 1, u32s lc⟩, some ⟨false, 1, u32s zs⟩], 0⟩ := by
    intro i zs env u0 u1 u2 u3 u4
    simp [V1, tidy_eq, reach_end, reach_more, fuelIds, place_cons, pack, hA, hB, hY, hZ, h12, ren_self, Blk.ren, renL_self]
  refine loop_rule
    (fun n st => ∃ (i : Nat) (zs : List Nat), n + i = xs.length ∧ zs.length = xs.length ∧ st = ⟨V1 v12 (i : Int), [], [some ⟨false, 2, [A]⟩, some ⟨false, 2, [B]⟩, some ⟨false, 2, [.agg [.bool na, .mslc 6 0 m]]⟩, some ⟨false, 2, [.agg [.bool s, .mslc 7 0 xs.length]]⟩, some ⟨false, 2, [Y]⟩, some ⟨false, 2, [Z]⟩, some ⟨true, 1, u32s lc⟩, some ⟨false, 1, u32s zs⟩], 0⟩) _ xs.length _ ?_
    ht ⟨0, xs, by omega, rfl, rfl⟩
  rintro n st ⟨i, zs, hn, hz, rfl⟩
  rcases Nat.eq_zero_or_pos n with rfl | hpos
  · refine .out (.exit 2) _ (by simp) ⟨rfl, i, zs, rfl⟩ ?_
    simp (disch := first | omega | simp) [V1, after, if_pos, if_neg, decide_eq_true, decide_eq_false]
  · refine .more (n - 1) _ (by omega) ⟨i + 1, zs.set i 77, by omega, by simp [hz], rfl⟩ ?_
    have hiz : i < zs.length := by omega
    have e77 : (u32s zs).set i (.int .u32 77) = u32s (zs.set i 77) := u32s_set zs i 77
    simp (disch := first | omega | simp) [V1, after, if_pos, if_neg, decide_eq_true, decide_eq_false, wrap_i64, putElem, putOne, e77, get?_u32s, td]

/-! ### What was handed in is as it was -/

def V2 (v12 : AVal) (i : Int) : List AVal := [.und, .und, .und, .mptr 0 0 0, .mptr 1 0 0, .und, .bool true, .mptr 2 0 0, .und, .und, .mptr 3 0 0, .mptr 4 0 0, v12, .und, .int .i64 i, .und, .und]

theorem forms_loop2_nil (vars : List AVal) (H : Heap) (na qa : Bool) (c1 c2 c3 c4 : Option Blk) (T : Heap) (v12 : AVal)
    (ht : tidy [false, false, false, true, true, false, true, true, false, false, true, true, true, false, true] ⟨vars, [], H, 0⟩ = some ⟨V2 v12 0, [], [some ⟨false, 2, [.agg [.bool na, .slc qa []]]⟩, c1, c2, c3, c4] ++ T, 0⟩) :
    ∃ e st, (∀ env, exec F l_ashlarlaw1_IntForms_2 ⟨vars, env, H, 0⟩ = some (e, st)) ∧
      (e = .exit 4 ∧ st = ⟨V2 v12 0, [], [some ⟨false, 2, [.agg [.bool na, .slc qa []]]⟩, c1, c2, c3, c4] ++ T, 0⟩) := by
  refine loop_rule (fun n st => st = ⟨V2 v12 0, [], [some ⟨false, 2, [.agg [.bool na, .slc qa []]]⟩, c1, c2, c3, c4] ++ T, 0⟩) _ 0 _ ?_ ht rfl
  rintro n st rfl
  refine .out (.exit 4) _ (by simp) ⟨rfl, rfl⟩ ?_
  simp (disch := first | omega | simp) [V2, after, if_pos, if_neg, decide_eq_true, decide_eq_false]

theorem forms_loop2 (vars : List AVal) (H : Heap) (B Y Z : AVal) (hB : B.ids = []) (hY : Y.ids = []) (hZ : Z.ids = []) (na qa : Bool) (la r : List Nat) (hla : la.length < 2^40) (v12 : AVal) (h12 : v12.ids = [])
    (ht : tidy [false, false, false, true, true, false, true, true, false, false, true, true, true, false, true] ⟨vars, [], H, 0⟩ =
      some ⟨V2 v12 0, [], [some ⟨false, 2, [.agg [.bool na, .slc qa (u32s la)]]⟩, some ⟨false, 2, [B]⟩, some ⟨false, 2, [.agg [.bool na, .mslc 5 0 (la ++ r).length]]⟩, some ⟨false, 2, [Y]⟩, some ⟨false, 2, [Z]⟩, some ⟨true, 1, u32s (la ++ r)⟩], 0⟩) :
    ∃ e st, (∀ env, exec F l_ashlarlaw1_IntForms_2 ⟨vars, env, H, 0⟩ = some (e, st)) ∧
      (e = .exit 4 ∧ ∃ (i : Int), st = ⟨V2 v12 i, [], [some ⟨false, 2, [.agg [.bool na, .slc qa (u32s la)]]⟩, some ⟨false, 2, [B]⟩, some ⟨false, 2, [.agg [.bool na, .mslc 5 0 (la ++ r).length]]⟩, some ⟨false, 2, [Y]⟩, some ⟨false, 2, [Z]⟩, some ⟨true, 1, u32s (la ++ r)⟩], 0⟩) := by
  have td : ∀ (i : Int) (n : Nat) (env : List AVal) (u0 u1 u2 u3 u4 u5 u6 : AVal), tidy [false, false, false, true, true, false, true, true, false, false, true, true, true, false, true] ⟨[u0, u1, u2, .mptr 0 0 0, .mptr 1 0 0, u3, .bool true, .mptr 2 0 0, u4, u5, .mptr 3 0 0, .mptr 4 0 0, v12, u6, .int .i64 i, .und, .und], env, [some ⟨false, 2, [.agg [.bool na, .slc qa (u32s la)]]⟩, some ⟨false, 2, [B]⟩, some ⟨false, 2, [.agg [.bool na, .mslc 5 0 n]]⟩, some ⟨false, 2, [Y]⟩, some ⟨false, 2, [Z]⟩, some ⟨true, 1, u32s (la ++ r)⟩], 0⟩ =
      some ⟨V2 v12 i, [], [some ⟨false, 2, [.agg [.bool na, .slc qa (u32s la)]]⟩, some ⟨false, 2, [B]⟩, some ⟨false, 2, [.agg [.bool na, .mslc 5 0 n]]⟩, some ⟨false, 2, [Y]⟩, some ⟨false, 2, [Z]⟩, some ⟨true, 1, u32s (la ++ r)⟩], 0⟩ := by
    intro i n env u0 u1 u2 u3 u4 u5 u6
    simp [V2, tidy_eq, reach_end, reach_more, fuelIds, place_cons, pack, hB, hY, hZ, h12, ren_self, Blk.ren, renL_self]
  refine loop_rule
    (fun n st => ∃ (i : Nat), n + i = la.length ∧ st = ⟨V2 v12 (i : Int), [], [some ⟨false, 2, [.agg [.bool na, .slc qa (u32s la)]]⟩, some ⟨false, 2, [B]⟩, some ⟨false, 2, [.agg [.bool na, .mslc 5 0 (la ++ r).length]]⟩, some ⟨false, 2, [Y]⟩, some ⟨false, 2, [Z]⟩, some ⟨true, 1, u32s (la ++ r)⟩], 0⟩) _ la.length _ ?_
    ht ⟨0, by omega, rfl⟩
  rintro n st ⟨i, hn, rfl⟩
  have hlen : (la ++ r).length = la.length + r.length := by simp
  rcases Nat.eq_zero_or_pos n with rfl | hpos
  · refine .out (.exit 4) _ (by simp) ⟨rfl, i, rfl⟩ ?_
    simp (disch := first | omega | simp) [V2, after, if_pos, if_neg, decide_eq_true, decide_eq_false]
  · refine .more (n - 1) _ (by omega) ⟨i + 1, by omega, rfl⟩ ?_
    have hi : i < la.length := by omega
    have hi2 : i < (la ++ r).length := by omega
    have hg : (la ++ r)[i] = la[i] := List.getElem_append_left hi
    generalize hL : la ++ r = L at *
    simp (disch := first | omega | simp) [V2, after, if_pos, if_neg, decide_eq_true, decide_eq_false, wrap_i64, get?_u32s, hg, td]

theorem forms_loop2' (vars : List AVal) (H : Heap) (B Y Z : AVal) (hB : B.ids = []) (hY : Y.ids = []) (hZ : Z.ids = []) (na qa : Bool) (la r L : List Nat) (hL : L = la ++ r) (hla : la.length < 2^40) (v12 : AVal) (h12 : v12.ids = [])
    (ht : tidy [false, false, false, true, true, false, true, true, false, false, true, true, true, false, true] ⟨vars, [], H, 0⟩ =
      some ⟨V2 v12 0, [], [some ⟨false, 2, [.agg [.bool na, .slc qa (u32s la)]]⟩, some ⟨false, 2, [B]⟩, some ⟨false, 2, [.agg [.bool na, .mslc 5 0 L.length]]⟩, some ⟨false, 2, [Y]⟩, some ⟨false, 2, [Z]⟩, some ⟨true, 1, u32s L⟩], 0⟩) :
    ∃ e st, (∀ env, exec F l_ashlarlaw1_IntForms_2 ⟨vars, env, H, 0⟩ = some (e, st)) ∧
      (e = .exit 4 ∧ ∃ (i : Int), st = ⟨V2 v12 i, [], [some ⟨false, 2, [.agg [.bool na, .slc qa (u32s la)]]⟩, some ⟨false, 2, [B]⟩, some ⟨false, 2, [.agg [.bool na, .mslc 5 0 L.length]]⟩, some ⟨false, 2, [Y]⟩, some ⟨false, 2, [Z]⟩, some ⟨true, 1, u32s L⟩], 0⟩) := by
  subst hL
  exact forms_loop2 vars H B Y Z hB hY hZ na qa la r hla v12 h12 ht

theorem agg_IV (z : Int) : AVal.agg (IV z).cells = IV z := rfl

theorem ev_noughts (l : List Nat) (j : Nat) : ev (l ++ List.replicate j 0) = ev l := by
  induction j with
  | zero => simp
  | succ j ih => rw [List.replicate_succ', ← List.append_assoc, ev_snoc, ih]; simp

theorem lim_noughts {l : List Nat} (hl : Lim l) (j : Nat) : Lim (l ++ List.replicate j 0) := lim_append hl (lim_replicate j)

set_option maxHeartbeats 4000000 in
set_option maxRecDepth 100000 in
theorem int_forms (hb : pureCall (run F) 22 [] = some (.bool true)) (na ra nb rb : Bool) (la lb : List Nat) (hla : Lim la) (hlb : Lim lb) (ha : la.length < 2^63) (hb' : lb.length < 2^63)
    (k : Int) :
    pureCall (run F) 45 [.agg [.bool na, .slc ra (u32s la)], .agg [.bool nb, .slc rb (u32s lb)], .int .i64 k] = some (.bool true) := by
  obtain ⟨qa, ca⟩ := pc_cut (F := F) na ra la ha
  obtain ⟨qb, cb⟩ := pc_cut (F := F) nb rb lb hb'
  have ia := isI_cut na qa hla
  have ib := isI_cut nb qb hlb
  have la24 : (la.take 24).length ≤ 24 := by rw [List.length_take]; omega
  have lb24 : (lb.take 24).length ≤ 24 := by rw [List.length_take]; omega
  have lima := lim_take hla 24
  have limb := lim_take hlb 24
  generalize la.take 24 = a at *
  generalize lb.take 24 = b at *
  clear hla hlb ha hb'
  have key : ∀ j, j ≤ 5 → pureCall (run F) 38 [.agg [.bool na, .slc (decide (a ++ List.replicate j 0 = [])) (u32s (a ++ List.replicate j 0))], .agg [.bool nb, .slc qb (u32s b)]] = some (IV (sgn na (ev a) * sgn nb (ev b))) ∧
      pureCall (run F) 43 [.agg [.bool na, .slc (decide (a ++ List.replicate j 0 = [])) (u32s (a ++ List.replicate j 0))], .agg [.bool nb, .slc qb (u32s b)]] = some (IV (sgn na (ev a) + sgn nb (ev b))) := by
    intro j hj
    have hl : (a ++ List.replicate j 0).length ≤ 30 := by simp; omega
    have k1 := pc_mul (F := F) na (decide (a ++ List.replicate j 0 = [])) nb qb _ b (lim_noughts lima j) limb (by omega) (by omega)
    have k2 := pc_add (F := F) na (decide (a ++ List.replicate j 0 = [])) nb qb _ b (lim_noughts lima j) limb (by omega) (by omega)
    rw [ev_noughts] at k1 k2
    exact ⟨k1, k2⟩
  obtain ⟨s, hs, rm⟩ := run_mul (F := F) na qa nb qb a b lima limb (by omega) (by omega)
  have lx := isI_lt ia
  have ly := isI_lt ib
  obtain ⟨k1, f1⟩ := rfrom (F := F) ia (by decide)
  obtain ⟨k2, f2⟩ := rfrom (F := F) ib (by decide)
  have dx := dwl lx
  have dy := dwl ly
  have mxy := isI_lt (isI_mul lx ly)
  have sxy := isI_lt (isI_add lx ly)
  obtain ⟨j1, b1⟩ := rAdd (F := F) k1 k2 (sgn na (ev a)) (sgn nb (ev b)) (by omega) (by omega)
  obtain ⟨j3, b3⟩ := rMul (F := F) k1 k2 (sgn na (ev a)) (sgn nb (ev b)) (by omega) (by omega)
  have c1 := is_true (F := F) j1 _ sxy (by decide)
  have c3 := is_true (F := F) j3 _ mxy (by decide)
  rw [hs] at key b3 c3 mxy
  have hpl : (D (ev a * ev b)).length ≤ 48 := by
    have := dl mxy
    rwa [sgn_abs] at this
  have hp0 : a = [] → ev a * ev b = 0 := by rintro rfl; simp [ev]
  generalize ev a * ev b = p at *
  generalize sgn na (ev a) + sgn nb (ev b) = sum at *
  generalize sgn na (ev a) = x at *
  generalize sgn nb (ev b) = y at *
  have eqx := run_eqx (F := F) s false (D p) (by omega)
  have eq0 := run_eq0 (F := F)
  -- what the calls come to, in any heap
  have M1 : p = 0 → ∀ H, rawCall (run F) 38 [.agg [.bool na, .slc qa (u32s a)], .agg [.bool nb, .slc qb (u32s b)]] H = some (.agg [.bool false, .slc true []], H) := fun h0 H => by
    have := raw_tree (H := H) (by simp) (rm.trans (if_pos h0))
    simpa using this
  have M2 : p ≠ 0 → ∀ H, rawCall (run F) 38 [.agg [.bool na, .slc qa (u32s a)], .agg [.bool nb, .slc qb (u32s b)]] H = some (.agg [.bool s, .mslc H.length 0 (D p).length], H ++ [some ⟨false, 1, u32s (D p)⟩]) := fun h0 H => by
    have := raw_tree (H := H) (by simp) (rm.trans (if_neg h0))
    simpa [Blk.ren, renL_self] using this
  have E1 : ∀ H, rawCall (run F) 44 [.agg [.bool false, .slc true []], .agg [.bool false, .slc true []]] H = some (.bool true, H) := fun H => by
    have := raw_tree (H := H) (by simp) eq0
    simpa using this
  have E2 : ∀ c0 c1 c2 c3 R, rawCall (run F) 44 [.agg [.bool s, .mslc 4 0 (D p).length], .agg [.bool s, .slc false (u32s (D p))]] (c0 :: c1 :: c2 :: c3 :: some ⟨false, 1, u32s (D p)⟩ :: R) =
      some (.bool true, c0 :: c1 :: c2 :: c3 :: some ⟨false, 1, u32s (D p)⟩ :: R) := fun c0 c1 c2 c3 R => by
    have := raw_cell (H := c0 :: c1 :: c2 :: c3 :: some ⟨false, 1, u32s (D p)⟩ :: R) (id := 4) rfl (by simp) (by simp) (by simp) eqx
    simpa using this
  have P1 : ∀ (lc : List Nat) c0 c1 c2 fz R, handOn [.agg [.bool na, .mslc 3 0 lc.length], .agg [.bool nb, .slc qb (u32s b)]] (c0 :: c1 :: c2 :: some ⟨fz, 1, u32s lc⟩ :: R) =
      some ([.agg [.bool na, .slc false (u32s lc)], .agg [.bool nb, .slc qb (u32s b)]], c0 :: c1 :: c2 :: some ⟨true, 1, u32s lc⟩ :: R) := by
    intro lc c0 c1 c2 fz R
    have h1 := tree_pair (H := c0 :: c1 :: c2 :: some ⟨fz, 1, u32s lc⟩ :: R) (id := 3) (b := na) (t := .agg [.bool nb, .slc qb (u32s b)]) rfl (by simp)
    simp [handOn, h1]
    rfl
  have e0 : IV (sgn s 0) = .agg [.bool false, .slc true []] := by cases s <;> simp [IV, sgn]
  refine pure_ret h2.ashlarlaw1_IntForms rfl ?_
  by_cases ha0 : a = []
  · have p0 := hp0 ha0
    subst p0
    rw [e0] at key c3
    have M1 := M1 rfl
    subst ha0
    obtain ⟨e, st, he0, rfl, j, hj, rfl⟩ := forms_loop0 (F := F) na qa [] (.agg [.bool nb, .slc qb (u32s b)]) (by simp) k (by simp)
      [.agg [.bool na, .slc ra (u32s la)], .agg [.bool nb, .slc rb (u32s lb)], .int .i64 k, .mptr 0 0 0, .mptr 1 0 0, .bool false, .bool true, .mptr 2 0 0, .int .i64 0, .und, .und, .und, .und, .und, .und, .und, .und]
      [some ⟨false, 2, [.agg [.bool na, .slc qa (u32s [])]]⟩, some ⟨false, 2, [.agg [.bool nb, .slc qb (u32s b)]]⟩, some ⟨false, 2, [.agg [.bool na, .slc true []]]⟩]
      (by simp [gv_nil, gbu_nil, tidy_eq, reach_end, reach_more, fuelIds, place_cons, pack, ren_self, Blk.ren, renL_self])
    obtain ⟨K1, K2⟩ := key j hj
    simp only [List.nil_append] at he0 K1 K2
    simp only [u32s_empty] at M1 f1
    have tl := ids_IV sum
    by_cases hlc : List.replicate j 0 = []
    · rw [hlc] at he0 K1 K2
      simp at he0 K1 K2
      obtain ⟨e, st, he1, rfl, rfl⟩ := forms_loop1_nil (F := F)
        [.und, .und, .int .i64 k, .mptr 0 0 0, .mptr 1 0 0, .und, .bool true, .mptr 2 0 0, .int .i64 j, .mptr 3 0 0, .mptr 4 0 0, .mptr 5 0 0, .bool true, .int .i64 0, .und, .und, .und]
        [some ⟨false, 2, [.agg [.bool na, .slc qa []]]⟩, some ⟨false, 2, [.agg [.bool nb, .slc qb (u32s b)]]⟩, some ⟨false, 2, [.agg [.bool na, .slc true []]]⟩, some ⟨false, 2, [.agg [.bool false, .slc true []]]⟩, some ⟨false, 2, [.agg [.bool false, .slc true []]]⟩, some ⟨false, 2, [IV sum]⟩]
        (some ⟨false, 2, [.agg [.bool na, .slc qa []]]⟩) (some ⟨false, 2, [.agg [.bool nb, .slc qb (u32s b)]]⟩) (some ⟨false, 2, [.agg [.bool na, .slc true []]]⟩) (some ⟨false, 2, [.agg [.bool false, .slc true []]]⟩) (some ⟨false, 2, [IV sum]⟩) [] (.bool true)
        (by simp [V1, tidy_eq, reach_end, reach_more, fuelIds, place_cons, pack, ren_self, Blk.ren, renL_self, tl])
      obtain ⟨e, st, he2, rfl, rfl⟩ := forms_loop2_nil (F := F)
        [.und, .und, .und, .mptr 0 0 0, .mptr 1 0 0, .und, .bool true, .mptr 2 0 0, .und, .mptr 3 0 0, .mptr 4 0 0, .mptr 5 0 0, .bool true, .int .i64 0, .int .i64 0, .und, .und]
        [some ⟨false, 2, [.agg [.bool na, .slc qa []]]⟩, some ⟨false, 2, [.agg [.bool nb, .slc qb (u32s b)]]⟩, some ⟨false, 2, [.agg [.bool na, .slc true []]]⟩, some ⟨false, 2, [.agg [.bool false, .slc true []]]⟩, some ⟨false, 2, [.agg [.bool false, .slc true []]]⟩, some ⟨false, 2, [IV sum]⟩]
        na qa (some ⟨false, 2, [.agg [.bool nb, .slc qb (u32s b)]]⟩) (some ⟨false, 2, [.agg [.bool na, .slc true []]]⟩) (some ⟨false, 2, [.agg [.bool false, .slc true []]]⟩) (some ⟨false, 2, [IV sum]⟩) [] (.bool true)
        (by simp [V2, tidy_eq, reach_end, reach_more, fuelIds, place_cons, pack, ren_self, Blk.ren, renL_self, tl])
      simp only [V1, V2, List.append_nil] at he1 he2
      simp (maxSteps := 2000000) (disch := omega) [c_ashlarlaw1_IntForms, any_pure, hb, ca, cb, he0, he1, he2, gv_nil, gbu_nil, fillA, setAll, putElem, putAgg, elemsOf, goodElems, M1, K1, K2, E1, f1, f2, b1, b3, c1, c3, agg_IV]
    · have K1 := K1; have K2 := K2
      rw [decide_eq_false hlc] at K1 K2
      rw [gv_cons hlc, gbu_cons hlc] at he0
      simp only [u32s_empty, List.cons_append, List.nil_append] at he0
      have E1 := E1
      generalize List.replicate j 0 = lc at *
      obtain ⟨e, st, he1, rfl, rfl⟩ := forms_loop1_nil (F := F)
        [.und, .und, .int .i64 k, .mptr 0 0 0, .mptr 1 0 0, .und, .bool true, .mptr 2 0 0, .int .i64 j, .mptr 4 0 0, .mptr 5 0 0, .mptr 6 0 0, .bool true, .int .i64 0, .und, .und, .und]
        [some ⟨false, 2, [.agg [.bool na, .slc qa []]]⟩, some ⟨false, 2, [.agg [.bool nb, .slc qb (u32s b)]]⟩, some ⟨false, 2, [.agg [.bool na, .mslc 3 0 lc.length]]⟩, some ⟨true, 1, u32s lc⟩, some ⟨false, 2, [.agg [.bool false, .slc true []]]⟩, some ⟨false, 2, [.agg [.bool false, .slc true []]]⟩, some ⟨false, 2, [IV sum]⟩]
        (some ⟨false, 2, [.agg [.bool na, .slc qa []]]⟩) (some ⟨false, 2, [.agg [.bool nb, .slc qb (u32s b)]]⟩) (some ⟨false, 2, [.agg [.bool na, .mslc 6 0 lc.length]]⟩) (some ⟨false, 2, [.agg [.bool false, .slc true []]]⟩) (some ⟨false, 2, [IV sum]⟩) [some ⟨true, 1, u32s lc⟩] (.bool true)
        (by simp [V1, V2, tidy_eq, reach_end, reach_more, fuelIds, place_cons, pack, ren_self, Blk.ren, renL_self, tl])
      obtain ⟨e, st, he2, rfl, rfl⟩ := forms_loop2_nil (F := F) [.und, .und, .und, .mptr 0 0 0, .mptr 1 0 0, .und, .bool true, .mptr 2 0 0, .und, .mptr 3 0 0, .mptr 4 0 0, .mptr 5 0 0, .bool true, .int .i64 0, .int .i64 0, .und, .und]
        [some ⟨false, 2, [.agg [.bool na, .slc qa []]]⟩, some ⟨false, 2, [.agg [.bool nb, .slc qb (u32s b)]]⟩, some ⟨false, 2, [.agg [.bool na, .mslc 6 0 lc.length]]⟩, some ⟨false, 2, [.agg [.bool false, .slc true []]]⟩, some ⟨false, 2, [.agg [.bool false, .slc true []]]⟩, some ⟨false, 2, [IV sum]⟩, some ⟨true, 1, u32s lc⟩]
        na qa (some ⟨false, 2, [.agg [.bool nb, .slc qb (u32s b)]]⟩) (some ⟨false, 2, [.agg [.bool na, .mslc 5 0 lc.length]]⟩) (some ⟨false, 2, [.agg [.bool false, .slc true []]]⟩) (some ⟨false, 2, [IV sum]⟩) [some ⟨true, 1, u32s lc⟩] (.bool true)
        (by simp [V1, V2, tidy_eq, reach_end, reach_more, fuelIds, place_cons, pack, ren_self, Blk.ren, renL_self, tl])
      simp only [V1, V2, List.cons_append, List.nil_append] at he1 he2
      simp (maxSteps := 2000000) (disch := omega) [c_ashlarlaw1_IntForms, any_pure, hb, ca, cb, he0, he1, he2, fillA, setAll, putElem, putAgg, elemsOf, goodElems, good_u32s, maxB, M1, P1, K1, K2, E1, f1, f2, b1, b3, c1, c3, agg_IV, List.cons_append, List.nil_append]
  · obtain ⟨e, st, he0, rfl, j, hj, rfl⟩ := forms_loop0 (F := F) na qa a (.agg [.bool nb, .slc qb (u32s b)]) (by simp) k la24
      [.agg [.bool na, .slc ra (u32s la)], .agg [.bool nb, .slc rb (u32s lb)], .int .i64 k, .mptr 0 0 0, .mptr 1 0 0, .bool false, .bool true, .mptr 3 0 0, .int .i64 0, .und, .und, .und, .und, .und, .und, .und, .und]
      [some ⟨false, 2, [.agg [.bool na, .slc qa (u32s a)]]⟩, some ⟨false, 2, [.agg [.bool nb, .slc qb (u32s b)]]⟩, some ⟨false, 1, u32s a⟩, some ⟨false, 2, [.agg [.bool na, .mslc 2 0 a.length]]⟩]
      (by simp [gv_cons ha0, gbu_cons ha0, tidy_eq, reach_end, reach_more, fuelIds, place_cons, pack, ren_self, Blk.ren, renL_self])
    obtain ⟨K1, K2⟩ := key j hj
    have tl := ids_IV sum
    have hlc : a ++ List.replicate j 0 ≠ [] := by simp [ha0]
    rw [decide_eq_false hlc] at K1 K2
    rw [gv_cons hlc, gbu_cons hlc] at he0
    simp only [List.cons_append, List.nil_append] at he0
    obtain ⟨lc, hlc'⟩ : ∃ lc, lc = a ++ List.replicate j 0 := ⟨_, rfl⟩
    rw [← hlc'] at he0 K1 K2
    have mm1 : a.length * 4 ≤ 70368744177664 := by omega
    have mm2 : a.length ≤ 70368744177664 := by omega
    by_cases hp : p = 0
    · have M1 := M1 hp
      subst hp
      rw [e0] at K1 c3
      obtain ⟨e, st, he1, rfl, rfl⟩ := forms_loop1_nil (F := F)
        [.und, .und, .int .i64 k, .mptr 0 0 0, .mptr 1 0 0, .und, .bool true, .mptr 2 0 0, .int .i64 j, .mptr 4 0 0, .mptr 5 0 0, .mptr 6 0 0, .bool true, .int .i64 0, .und, .und, .und]
        [some ⟨false, 2, [.agg [.bool na, .slc qa (u32s a)]]⟩, some ⟨false, 2, [.agg [.bool nb, .slc qb (u32s b)]]⟩, some ⟨false, 2, [.agg [.bool na, .mslc 3 0 lc.length]]⟩, some ⟨true, 1, u32s lc⟩, some ⟨false, 2, [.agg [.bool false, .slc true []]]⟩, some ⟨false, 2, [.agg [.bool false, .slc true []]]⟩, some ⟨false, 2, [IV sum]⟩]
        (some ⟨false, 2, [.agg [.bool na, .slc qa (u32s a)]]⟩) (some ⟨false, 2, [.agg [.bool nb, .slc qb (u32s b)]]⟩) (some ⟨false, 2, [.agg [.bool na, .mslc 6 0 lc.length]]⟩) (some ⟨false, 2, [.agg [.bool false, .slc true []]]⟩) (some ⟨false, 2, [IV sum]⟩) [some ⟨true, 1, u32s lc⟩] (.bool true)
        (by simp [V1, V2, tidy_eq, reach_end, reach_more, fuelIds, place_cons, pack, ren_self, Blk.ren, renL_self, tl])
      obtain ⟨e, st, he2, rfl, i2, rfl⟩ := forms_loop2' (F := F) [.und, .und, .und, .mptr 0 0 0, .mptr 1 0 0, .und, .bool true, .mptr 2 0 0, .und, .mptr 3 0 0, .mptr 4 0 0, .mptr 5 0 0, .bool true, .int .i64 0, .int .i64 0, .und, .und]
        [some ⟨false, 2, [.agg [.bool na, .slc qa (u32s a)]]⟩, some ⟨false, 2, [.agg [.bool nb, .slc qb (u32s b)]]⟩, some ⟨false, 2, [.agg [.bool na, .mslc 6 0 lc.length]]⟩, some ⟨false, 2, [.agg [.bool false, .slc true []]]⟩, some ⟨false, 2, [.agg [.bool false, .slc true []]]⟩, some ⟨false, 2, [IV sum]⟩, some ⟨true, 1, u32s lc⟩]
        (.agg [.bool nb, .slc qb (u32s b)]) (.agg [.bool false, .slc true []]) (IV sum) (by simp) (by simp) tl na qa a (List.replicate j 0) lc hlc' (by omega) (.bool true) (by simp)
        (by simp [V1, V2, tidy_eq, reach_end, reach_more, fuelIds, place_cons, pack, ren_self, Blk.ren, renL_self, tl])
      simp only [V1, V2, List.cons_append, List.nil_append] at he1 he2
      simp (maxSteps := 2000000) (disch := omega) [c_ashlarlaw1_IntForms, any_pure, hb, ca, cb, he0, he1, he2, fillA, setAll, putElem, putAgg, elemsOf, good_u32s, maxB, mm1, mm2, ha0, M1, P1, K1, K2, E1, f1, f2, b1, b3, c1, c3, agg_IV, List.cons_append, List.nil_append]
    · have M2 := M2 hp
      rw [iv_ne hp] at K1 c3
      obtain ⟨e, st, he1, rfl, i1, zs, rfl⟩ := forms_loop1 (F := F)
        [.und, .und, .int .i64 k, .mptr 0 0 0, .mptr 1 0 0, .und, .bool true, .mptr 2 0 0, .int .i64 j, .mptr 5 0 0, .mptr 6 0 0, .mptr 7 0 0, .bool true, .int .i64 0, .und, .und, .und]
        [some ⟨false, 2, [.agg [.bool na, .slc qa (u32s a)]]⟩, some ⟨false, 2, [.agg [.bool nb, .slc qb (u32s b)]]⟩, some ⟨false, 2, [.agg [.bool na, .mslc 3 0 lc.length]]⟩, some ⟨true, 1, u32s lc⟩, some ⟨false, 1, u32s (D p)⟩, some ⟨false, 2, [.agg [.bool s, .mslc 4 0 (D p).length]]⟩, some ⟨false, 2, [.agg [.bool s, .slc false (u32s (D p))]]⟩, some ⟨false, 2, [IV sum]⟩]
        (.agg [.bool na, .slc qa (u32s a)]) (.agg [.bool nb, .slc qb (u32s b)]) (.agg [.bool s, .slc false (u32s (D p))]) (IV sum) (by simp) (by simp) (by simp) tl na s lc.length lc (D p) (by omega) (.bool true) (by simp)
        (by simp [V1, V2, tidy_eq, reach_end, reach_more, fuelIds, place_cons, pack, ren_self, Blk.ren, renL_self, tl])
      obtain ⟨e, st, he2, rfl, i2, rfl⟩ := forms_loop2' (F := F) [.und, .und, .und, .mptr 0 0 0, .mptr 1 0 0, .und, .bool true, .mptr 2 0 0, .und, .mptr 3 0 0, .mptr 4 0 0, .mptr 5 0 0, .bool true, .int .i64 i1, .int .i64 0, .und, .und]
        [some ⟨false, 2, [.agg [.bool na, .slc qa (u32s a)]]⟩, some ⟨false, 2, [.agg [.bool nb, .slc qb (u32s b)]]⟩, some ⟨false, 2, [.agg [.bool na, .mslc 6 0 lc.length]]⟩, some ⟨false, 2, [.agg [.bool s, .mslc 7 0 (D p).length]]⟩, some ⟨false, 2, [.agg [.bool s, .slc false (u32s (D p))]]⟩, some ⟨false, 2, [IV sum]⟩, some ⟨true, 1, u32s lc⟩, some ⟨false, 1, u32s zs⟩]
        (.agg [.bool nb, .slc qb (u32s b)]) (.agg [.bool s, .slc false (u32s (D p))]) (IV sum) (by simp) (by simp) tl na qa a (List.replicate j 0) lc hlc' (by omega) (.bool true) (by simp)
        (by simp [V1, V2, tidy_eq, reach_end, reach_more, fuelIds, place_cons, pack, ren_self, Blk.ren, renL_self, tl])
      simp only [V1, V2, List.cons_append, List.nil_append] at he1 he2
      simp (maxSteps := 2000000) (disch := omega) [c_ashlarlaw1_IntForms, any_pure, hb, ca, cb, he0, he1, he2, fillA, setAll, putElem, putAgg, elemsOf, good_u32s, maxB, mm1, mm2, ha0, M2, P1, K1, K2, E2, f1, f2, b1, b3, c1, c3, agg_IV, List.cons_append, List.nil_append]

theorem int_forms' (hb : pureCall (run F) 22 [] = some (.bool true)) (na ra : Bool) (la : List Nat) (hla : Lim la) (ha : la.length < 2^63) (nb rb : Bool) (lb : List Nat) (hlb : Lim lb) (hb' : lb.length < 2^63)
    (k : Int) (_ : -9223372036854775808 ≤ k) (_ : k < 9223372036854775808) :
    pureCall (run F) 45 [.agg [.bool na, .slc ra (u32s la)], .agg [.bool nb, .slc rb (u32s lb)], .int .i64 k] = some (.bool true) := int_forms hb na ra nb rb la lb hla hlb ha hb' k
end Go.Ash
/- Operations on blocks that agree. -/
namespace Go.Ash

/-- The same block, but for being frozen. -/
def AgreeAt (H H' : Heap) (id : Nat) : Prop := ∀ b, H.at id = some b → ∃ b', H'.at id = some b' ∧ b'.esz = b.esz ∧ b'.elems = b.elems ∧ (b.frozen = true → b'.frozen = true)

def headId : AVal → Option Nat
  | .mslc id _ _ => some id
  | .mptr id _ _ => some id
  | _ => none

theorem AgreeAt.refl (H : Heap) (id : Nat) : AgreeAt H H id := fun b hb => ⟨b, hb, rfl, rfl, fun h => h⟩
theorem AgreeAt.trans {H1 H2 H3 : Heap} {id : Nat} (a : AgreeAt H1 H2 id) (b : AgreeAt H2 H3 id) : AgreeAt H1 H3 id := by
  intro k hk
  obtain ⟨k1, h1, e1, e2, f1⟩ := a k hk
  obtain ⟨k2, h2, e3, e4, f2⟩ := b k1 h1
  exact ⟨k2, h2, e3.trans e1, e4.trans e2, fun h => f2 (f1 h)⟩

/-- Which operations write, which make blocks, which read them. -/
def isW (r : ROp) : Bool :=
  match r.k with
  | .store _ => true
  | .app _ _ => match r.args with
    | .c (.slc true []) :: _ => false
    | _ => true
  | .call raw _ => raw
  | .callv raw => raw
  | _ => false

def isA (r : ROp) : Bool :=
  match r.k with
  | .box | .alloc _ | .bslice .. | .mkslice .. => true
  | .app _ _ => !isW r
  | .call raw _ => !raw
  | .callv raw => !raw
  | _ => false

def isLoad (r : ROp) : Bool := match r.k with | .load .. => true | _ => false
def isR (r : ROp) : Bool := match r.k with | .load .. | .iaddr _ | .slice .. | .bytesToStr => true | _ => false

def quiet : OpK → Bool
  | .box | .alloc _ | .bslice .. | .load .. | .bytesToStr | .store _ | .mkslice .. | .slice .. | .iaddr _ | .app .. | .call .. | .callv _ => false
  | _ => true

theorem quiet_of {r : ROp} (hc : notCall r.k = true) (hw : isW r = false) (ha : isA r = false) (hr : isR r = false) : quiet r.k = true := by
  obtain ⟨k, as, d, g, ap⟩ := r
  cases k <;> first | rfl | (simp [isA] at ha; done) | (simp [isR] at hr; done) | (simp [isW] at hw; done) | (simp [notCall] at hc; done) | skip
  simp only [isA, Bool.not_eq_false'] at ha; rw [hw] at ha; simp at ha

/-- What touches no block. -/
theorem opSem_indep {K : OpK} {args : List AVal} {H H' : Heap} {f f' : Nat} (hq : quiet K = true) {v : AVal} {e : Eff}
    (h : opSem K args H f = some (v, e)) : opSem K args H' f' = some (v, e) ∧ e = .none := by
  unfold opSem at h
  split at h <;> try (simp [quiet] at hq; done)
  all_goals try (cases h; done)
  all_goals
    simp only [opSem]
    refine ⟨h, ?_⟩
    try (simp only [Option.some.injEq, Prod.mk.injEq, Option.map_eq_some_iff, Prod.exists, Option.ite_none_right_eq_some, Option.ite_none_left_eq_some] at h)
  all_goals try (obtain ⟨_, rfl⟩ := h; rfl)
  all_goals try (obtain ⟨_, _, rfl⟩ := h; rfl)
  all_goals try (obtain ⟨_, _, _, rfl⟩ := h; rfl)
  all_goals try (obtain ⟨_, _, _, _, rfl⟩ := h; rfl)
  all_goals try (obtain ⟨_, _, _, _, _, rfl⟩ := h; rfl)
  all_goals (repeat' (split at h))
  all_goals try (cases h; done)
  all_goals try (simp only [Option.some.injEq, Prod.mk.injEq, Option.map_eq_some_iff, Prod.exists] at h)
  all_goals try (obtain ⟨_, rfl⟩ := h; rfl)
  all_goals try (obtain ⟨_, _, _, rfl⟩ := h; rfl)

def reads : OpK → Bool
  | .load .. | .iaddr _ | .slice .. | .bytesToStr => true
  | _ => false

def makes : OpK → Bool
  | .box | .alloc _ | .bslice .. | .mkslice .. | .app .. => true
  | _ => false

theorem elemsOf_agree {H H' : Heap} {esz : Nat} {x : AVal} {l : List AVal} (hag : ∀ id, headId x = some id → AgreeAt H H' id) (h : elemsOf H esz x = some l) : elemsOf H' esz x = some l := by
  cases x <;> simp only [elemsOf] at h ⊢ <;> try (cases h; done)
  · exact h
  · rename_i id off len
    split at h
    · rename_i b hb
      obtain ⟨b', hb', he, hel, _⟩ := hag id rfl b hb
      rw [hb']
      simp only [he, hel]
      exact h
    · simp at h

/-- What reads blocks. -/
theorem opSem_reads {K : OpK} {args : List AVal} {H H' : Heap} {f f' : Nat} (hr : reads K = true) (hag : ∀ x ∈ args, ∀ id, headId x = some id → AgreeAt H H' id) {v : AVal} {e : Eff}
    (h : opSem K args H f = some (v, e)) : opSem K args H' f' = some (v, e) ∧ e = .none := by
  unfold opSem at h
  split at h <;> try (simp [reads] at hr; done)
  all_goals try (cases h; done)
  all_goals simp only [opSem]
  · simp only [Option.map_eq_some_iff, Prod.mk.injEq] at h ⊢
    obtain ⟨x, hx, rfl, rfl⟩ := h
    exact ⟨⟨x, hx, rfl, rfl⟩, rfl⟩
  · rename_i id i o
    split at h
    · rename_i b hb
      obtain ⟨b', hb', he, hel, _⟩ := hag (.mptr id i o) (by simp) id rfl b hb
      rw [hb']
      simp only [hel]
      split at h
      · rename_i el hel
        simp only [Option.map_eq_some_iff, Prod.mk.injEq] at h ⊢
        obtain ⟨x, hx, rfl, rfl⟩ := h
        exact ⟨⟨x, hx, rfl, rfl⟩, rfl⟩
      · simp at h
    · simp at h
  · rename_i x
    split at h
    · rename_i l hl
      rw [elemsOf_agree (hag x (by simp)) hl]
      simp only [Option.map_eq_some_iff, Prod.mk.injEq] at h ⊢
      obtain ⟨ns, hn, rfl, rfl⟩ := h
      exact ⟨⟨ns, hn, rfl, rfl⟩, rfl⟩
    · simp at h
  · split at h
    · rename_i hc
      rw [if_pos hc]
      refine ⟨h, ?_⟩
      simp only [Option.map_eq_some_iff, Prod.exists, Prod.mk.injEq] at h
      obtain ⟨_, _, _, _, rfl⟩ := h
      rfl
    · simp at h
  · rename_i id off len vs
    split at h
    · rename_i b hb
      obtain ⟨b', hb', he, hel, _⟩ := hag (.mslc id off len) (by simp) id rfl b hb
      rw [hb']
      simp only [he]
      split at h
      · rename_i hes
        rw [if_pos hes]
        refine ⟨h, ?_⟩
        simp only [Option.map_eq_some_iff, Prod.exists, Prod.mk.injEq] at h
        obtain ⟨_, _, _, _, rfl⟩ := h
        rfl
      · simp at h
    · simp at h
  · simp only [Option.ite_none_right_eq_some, Option.some.injEq, Prod.mk.injEq] at h ⊢
    obtain ⟨h1, h2, rfl, rfl⟩ := h
    exact ⟨⟨h1, h2, rfl, rfl⟩, rfl⟩
  · rename_i id off len k i
    split at h
    · rename_i hi
      rw [if_pos hi]
      split at h
      · rename_i b hb
        obtain ⟨b', hb', he, hel, _⟩ := hag (.mslc id off len) (by simp) id rfl b hb
        rw [hb']
        simp only [he]
        split at h
        · rename_i hes
          rw [if_pos hes]
          simp only [Option.some.injEq, Prod.mk.injEq] at h
          obtain ⟨rfl, rfl⟩ := h
          exact ⟨rfl, rfl⟩
        · simp at h
      · simp at h
    · simp at h

/-- What makes a block, or none. -/
theorem opSem_makes {K : OpK} {args : List AVal} {H H' : Heap} {f f' : Nat} (hm : makes K = true) (hf : ∀ b e, K = .app b e → args.head? = some (.slc true []))
    (hag : ∀ x ∈ args, ∀ id, headId x = some id → AgreeAt H H' id) {v : AVal} {e : Eff}
    (h : opSem K args H f = some (v, e)) : (e = .none ∧ opSem K args H' f' = some (v, e)) ∨ ((∃ esz xs, e = .new esz xs) ∧ opSem K args H' f = some (v, e)) := by
  unfold opSem at h
  split at h <;> try (simp [makes] at hm; done)
  all_goals try (cases h; done)
  all_goals simp only [opSem]
  rotate_right 1
  · rename_i bytes esz s x
    have h0 := hf _ _ rfl
    simp only [List.head?_cons, Option.some.injEq] at h0
    subst h0
    cases hel : elemsOf H esz x with
    | none => rw [hel] at h; simp at h
    | some new =>
      rw [hel] at h
      rw [elemsOf_agree (hag x (by simp)) hel]
      simp only at h ⊢
      split at h
      · simp at h
      · rename_i hg
        rw [if_neg hg]
        split at h
        · rename_i hn
          rw [if_pos hn]
          simp only [Option.some.injEq, Prod.mk.injEq] at h ⊢
          obtain ⟨rfl, rfl⟩ := h
          exact .inl ⟨rfl, rfl, rfl⟩
        · rename_i hn
          rw [if_neg hn]
          split at h
          · rename_i hb
            rw [if_pos hb]
            simp only [Option.some.injEq, Prod.mk.injEq] at h ⊢
            obtain ⟨rfl, rfl⟩ := h
            exact .inr ⟨⟨_, _, rfl⟩, by rw [if_neg hg, if_neg hn, if_pos hb]⟩
          · simp at h
  all_goals
    refine .inr ⟨?_, h⟩
    split at h <;> try (cases h; done)
    simp only [Option.some.injEq, Prod.mk.injEq, Option.map_eq_some_iff] at h
    first
      | (obtain ⟨_, rfl⟩ := h; exact ⟨_, _, rfl⟩)
      | (obtain ⟨_, _, _, rfl⟩ := h; exact ⟨_, _, rfl⟩)

theorem idsL_mem_get : ∀ {l : List AVal} {id : Nat}, id ∈ idsL l → ∃ (i : Nat) (x : AVal), l[i]? = some x ∧ id ∈ x.ids
  | [], id, h => by simp [idsL] at h
  | v :: vs, id, h => by
    simp only [idsL, List.mem_append] at h
    rcases h with h | h
    · exact ⟨0, v, rfl, h⟩
    · obtain ⟨i, x, hx, hi⟩ := idsL_mem_get h
      exact ⟨i + 1, x, by simpa using hx, hi⟩

/-- Trees of blocks that agree. -/
theorem tree_agree {H H' : Heap} {C : Nat → Prop} (hag : ∀ id, C id → AgreeAt H H' id) (hcl : ∀ id b, C id → H.at id = some b → ∀ y ∈ idsL b.elems, C y) : ∀ n : Nat,
    (∀ (c : AVal) (r : AVal × List Nat), (∀ y ∈ c.ids, C y) → c.tree H n = some r → c.tree H' n = some r) ∧
    (∀ (l : List AVal) (r : List AVal × List Nat), (∀ y ∈ idsL l, C y) → treeL H n l = some r → treeL H' n l = some r)
  | 0 => ⟨fun _ _ _ h => by simp [AVal.tree] at h, fun _ _ _ h => by simp [treeL] at h⟩
  | n + 1 => by
    obtain ⟨ihv, ihl⟩ := tree_agree hag hcl n
    constructor
    · intro c r hi hc
      cases c <;> simp only [AVal.tree] at hc ⊢ <;> try (exact hc)
      case mslc id off len =>
        have hC : C id := hi id (by simp [AVal.ids])
        split at hc
        · rename_i b hb
          obtain ⟨b', hb', _, hel, _⟩ := hag id hC b hb
          rw [hb']
          simp only [hel]
          split at hc
          · rename_i hle
            rw [if_pos hle]
            simp only [Option.map_eq_some_iff] at hc ⊢
            obtain ⟨x, hx, rfl⟩ := hc
            refine ⟨x, ihl _ _ ?_ hx, rfl⟩
            intro y hy
            refine hcl id b hC hb y ?_
            obtain ⟨k, c, hk, hy⟩ := idsL_mem_get hy
            rw [List.getElem?_take] at hk
            split at hk
            · rw [List.getElem?_drop] at hk
              exact idsL_mem_of hk hy
            · simp at hk
          · simp at hc
        · simp at hc
      case mptr id i o =>
        have hC : C id := hi id (by simp [AVal.ids])
        split at hc
        · rename_i b hb
          obtain ⟨b', hb', _, hel, _⟩ := hag id hC b hb
          rw [hb']
          simp only [hel]
          split at hc
          · rename_i el hel
            simp only [Option.map_eq_some_iff] at hc ⊢
            obtain ⟨x, hx, rfl⟩ := hc
            refine ⟨x, ihl _ _ ?_ hx, rfl⟩
            intro y hy
            refine hcl id b hC hb y (idsL_mem_of hel ?_)
            obtain ⟨k, c, hk, hy⟩ := idsL_mem_get hy
            rw [List.getElem?_drop] at hk
            exact cells_ids hk hy
          · simp at hc
        · simp at hc
      case agg cs =>
        simp only [Option.map_eq_some_iff] at hc ⊢
        obtain ⟨x, hx, rfl⟩ := hc
        exact ⟨x, ihl _ _ (fun y hy => hi y (by simpa [AVal.ids] using hy)) hx, rfl⟩
      case tup cs =>
        simp only [Option.map_eq_some_iff] at hc ⊢
        obtain ⟨x, hx, rfl⟩ := hc
        exact ⟨x, ihl _ _ (fun y hy => hi y (by simpa [AVal.ids] using hy)) hx, rfl⟩
      case ifc ty v =>
        simp only [Option.map_eq_some_iff] at hc ⊢
        obtain ⟨x, hx, rfl⟩ := hc
        exact ⟨x, ihv _ _ (fun y hy => hi y (by simpa [AVal.ids] using hy)) hx, rfl⟩
      case fn f a b =>
        simp only [Option.bind_eq_some_iff, Option.map_eq_some_iff] at hc ⊢
        obtain ⟨x, hx, y, hy, rfl⟩ := hc
        exact ⟨x, ihl _ _ (fun y hy => hi y (by simp [AVal.ids, hy])) hx, y, ihl _ _ (fun y hy => hi y (by simp [AVal.ids, hy])) hy, rfl⟩
    · intro l r hi hl
      unfold treeL at hl ⊢
      split at hl
      · rename_i h; rw [if_pos h]; exact hl
      · rename_i h
        rw [if_neg h]
        cases l with
        | nil => exact hl
        | cons v vs =>
          simp only [Option.bind_eq_some_iff, Option.map_eq_some_iff] at hl ⊢
          obtain ⟨x, hx, y, hy, rfl⟩ := hl
          exact ⟨x, ihv _ _ (fun y hy => hi y (by simp [idsL, hy])) hx, y, ihl _ _ (fun y hy => hi y (by simp [idsL, hy])) hy, rfl⟩

section
variable {L : Link} {w : World} {B : Nat → Prop} {m : PMap}

theorem mem_arr_ids {cs : List AVal} {Q : Nat → Prop} (h : ∀ (i : Nat) (c : AVal), cs[i]? = some c → ∀ id ∈ c.ids, Q id) : ∀ id ∈ idsL cs, Q id := by
  intro id hid
  obtain ⟨k, c, hk, hy⟩ := idsL_mem_get hid
  exact h k c hk id hy

theorem Reps.mapped {v : Value} {a : AVal} (h : Reps L w B m v a) : ∀ id ∈ a.ids, ∃ p, m id = some p := by
  induction h with
  | mslc id off len cap p arr el fz hm hcap hblk hroom => intro x hx; simp [AVal.ids] at hx; subst hx; exact ⟨p, hm⟩
  | mptr id i o p hm => intro x hx; simp [AVal.ids] at hx; subst hx; exact ⟨p, hm⟩
  | agg vs cs hl _ ih => intro x hx; simp only [AVal.ids] at hx; exact mem_arr_ids ih x hx
  | tup vs cs hl _ ih => intro x hx; simp only [AVal.ids] at hx; exact mem_arr_ids ih x hx
  | fn f first cap vf vc hok hf hc _ _ ihf ihc =>
    intro x hx
    simp only [AVal.ids, List.mem_append] at hx
    exact hx.elim (mem_arr_ids ihf x) (mem_arr_ids ihc x)
  | ifc t v a _ ih => intro x hx; simp only [AVal.ids] at hx; exact ih x hx
  | _ => intro x hx; simp [AVal.ids] at hx
end
end Go.Ash
/- A region whose order is drawn: what is asked of its text, and what its text does. -/
namespace Go.Ash

def hardOn (o : Oper) : List Nat := o.after.toList.filterMap fun e => if Region.binds .any e then some e.on else none

/-- A set of numbers, as the bits of one. -/
structure Mask where
  bits : Nat

def Mask.contains (s : Mask) (j : Nat) : Bool := s.bits.testBit j
instance : Membership Nat Mask := ⟨fun s j => s.contains j = true⟩
theorem Mask.contains_iff_mem {s : Mask} {j : Nat} : s.contains j = true ↔ j ∈ s := Iff.rfl

/-- What must come before each operation, directly or through others: as bits, the last operation's first. -/
abbrev BT := Nat × List Nat

def maskAt (bt : BT) (i : Nat) : Nat := (bt.2[bt.1 - 1 - i]?).getD 0
def befAt (bt : BT) (i : Nat) : Mask := ⟨maskAt bt i⟩
def maskOf (bt : BT) (o : Oper) : Nat := (hardOn o).foldl (fun m j => m ||| (1 <<< j ||| maskAt bt j)) 0

/-- The number is reckoned out before it is used. -/
def strict {α : Type} (f : Nat → α) : Nat → α
  | 0 => f 0
  | n + 1 => f (n + 1)

def tabK {α : Type} (k : BT → α) : List Oper → BT → α
  | [], bt => k bt
  | o :: os, bt => strict (fun m => tabK k os (bt.1 + 1, m :: bt.2)) (maskOf bt o)

theorem strict_eq {α : Type} (f : Nat → α) (n : Nat) : strict f n = f n := by cases n <;> rfl

theorem tabK_some {α : Type} (k : BT → α) : ∀ (os : List Oper) (bt : BT), ∃ bt', tabK k os bt = k bt'
  | [], bt => ⟨bt, rfl⟩
  | o :: os, bt => by
    simp only [tabK, strict_eq]
    exact tabK_some k os _

def okBefAt (bt : BT) (i : Nat) (o : Oper) : Bool := (hardOn o).all (fun j => decide (j < i)) && Nat.beq (maskAt bt i) (maskOf bt o)

theorem foldl_bits (g : Nat → Nat) (k : Nat) : ∀ (l : List Nat) (m : Nat), (l.foldl (fun m j => m ||| (1 <<< j ||| g j)) m).testBit k = true → m.testBit k = true ∨ ∃ j ∈ l, k = j ∨ (g j).testBit k = true
  | [], m, h => .inl h
  | j :: l, m, h => by
    rw [List.foldl_cons] at h
    rcases foldl_bits g k l _ h with h | ⟨j', hj', h⟩
    · simp only [Nat.testBit_or, Nat.one_shiftLeft, Nat.testBit_two_pow, Bool.or_eq_true, decide_eq_true_eq] at h
      rcases h with h | h | h
      · exact .inl h
      · exact .inr ⟨j, by simp, .inl h.symm⟩
      · exact .inr ⟨j, by simp, .inr h⟩
    · exact .inr ⟨j', List.mem_cons_of_mem _ hj', h⟩

theorem okBefAt_spec {bt : BT} {i : Nat} {o : Oper} (h : okBefAt bt i o = true) : (∀ j ∈ hardOn o, j < i) ∧ ∀ k ∈ befAt bt i, ∃ j ∈ hardOn o, k = j ∨ k ∈ befAt bt j := by
  unfold okBefAt at h
  simp only [Bool.and_eq_true, List.all_eq_true, decide_eq_true_eq, Nat.beq_eq] at h
  refine ⟨h.1, fun k hk => ?_⟩
  have hk' : (maskAt bt i).testBit k = true := hk
  rw [h.2] at hk'
  rcases foldl_bits _ k _ _ hk' with h | h
  · simp at h
  · exact h

def okSlot (rs : List ROp) (bt : BT) (i s : Nat) : Bool :=
  (List.range rs.length).all fun k => match rs[k]? with
    | some r => r.dst != some s || k == i || (if k < i then (befAt bt i).contains k else (befAt bt k).contains i)
    | none => true

def okOpd (rs : List ROp) (bt : BT) (i : Nat) : Opd → Bool
  | .c _ => true
  | .p j => (befAt bt i).contains (i - 1 - j)
  | .v s => okSlot rs bt i s

def okGrd (bt : BT) (i : Nat) : Option (Nat × Bool) → Bool
  | none => true
  | some (j, _) => (befAt bt i).contains (i - 1 - j)

def isStore (r : ROp) : Bool := match r.k with | .store _ => true | _ => false

/-- A load that need not come before a store: the store asks for another block. -/
def marked (rs : List ROp) (i k : Nat) (r rk : ROp) : Bool :=
  decide (i < k) && isLoad r && isStore rk && match r.args with
  | [.p j] => rk.apart.any fun | .p j' => j' == j + (k - i) | _ => false
  | [.v s] => rs.all (fun q => q.dst != some s) && rk.apart.any fun | .v s' => s' == s | _ => false
  | _ => false

def okPair (rs : List ROp) (bt : BT) (i : Nat) (r : ROp) : Bool :=
  if isW r || isA r || isR r then
    (List.range rs.length).all fun k => match rs[k]? with
      | some rk => !isW rk || k == i || (befAt bt k).contains i || (!isA r && (befAt bt i).contains k) || (isR r && marked rs i k r rk)
      | none => true
  else true

def okOp (rs : List ROp) (bt : BT) (i : Nat) (o : Oper) (r : ROp) : Bool :=
  okBefAt bt i o && r.args.all (okOpd rs bt i) && okGrd bt i r.guard && okPair rs bt i r

/-- The check of a region whose order is drawn. -/
def drawB (ops : Array Oper) (rs : List ROp) (bt : BT) : Bool :=
  (List.range rs.length).all fun i => match ops[i]?, rs[i]? with
    | some o, some r => okOp rs bt i o r
    | _, _ => false

def drawC (_slots : List Nat) (_nt : Nat) (ops : Array Oper) (rs : List ROp) : Bool := tabK (drawB ops rs) ops.toList (0, [])

/-! ### The text -/

def envA (env : List AVal) (val : Nat → AVal) : Nat → List AVal
  | 0 => env
  | i + 1 => val i :: envA env val i

theorem gd_envA (val : Nat → AVal) : ∀ (i j : Nat), gd (envA [] val i) j = if j < i then val (i - 1 - j) else .und
  | 0, j => by simp [envA, gd]
  | i + 1, 0 => by simp [envA, gd]
  | i + 1, j + 1 => by
    simp only [envA, gd]
    rw [gd_envA val i j]
    by_cases h : j < i
    · rw [if_pos h, if_pos (by omega)]; congr 1; omega
    · rw [if_neg h, if_neg (by omega)]

def envE (E : List (Option Nat)) (os : List Oper) : Nat → List (Option Nat)
  | 0 => E
  | i + 1 => ((os[i]?).bind (·.dst)) :: envE E os i

theorem envE_cons (E : List (Option Nat)) (o : Oper) (os : List Oper) : ∀ i, envE E (o :: os) (i + 1) = envE (o.dst :: E) os i
  | 0 => rfl
  | i + 1 => by
    have := envE_cons E o os i
    simp only [envE] at this ⊢
    rw [this]; simp

theorem envE_dsts : ∀ (os : List Oper) (E : List (Option Nat)), os.foldl (fun E o => o.dst :: E) E = envE E os os.length
  | [], _ => rfl
  | o :: os, E => by rw [List.foldl_cons, envE_dsts os, List.length_cons, envE_cons]

theorem envE_get (os : List Oper) : ∀ (i j t : Nat), (envE [] os i)[j]? = some (some t) → j < i ∧ ∃ o, os[i - 1 - j]? = some o ∧ o.dst = some t
  | 0, j, t, h => by simp [envE] at h
  | i + 1, 0, t, h => by
    simp only [envE, List.getElem?_cons_zero, Option.some.injEq, Option.bind_eq_some_iff] at h
    obtain ⟨o, ho, hd⟩ := h
    exact ⟨by omega, o, by simpa using ho, hd⟩
  | i + 1, j + 1, t, h => by
    simp only [envE, List.getElem?_cons_succ] at h
    obtain ⟨h1, o, ho, hd⟩ := envE_get os i j t h
    exact ⟨by omega, o, by rw [show i + 1 - 1 - (j + 1) = i - 1 - j from by omega]; exact ho, hd⟩

theorem envE_mem (os : List Oper) {k : Nat} {o : Oper} (ho : os[k]? = some o) : ∀ i, k < i → o.dst ∈ envE [] os i
  | 0, h => by omega
  | i + 1, h => by
    by_cases hk : k = i
    · subst hk; simp [envE, ho]
    · exact List.mem_cons_of_mem _ (envE_mem os ho i (by omega))

theorem envA_cons (env : List AVal) (v : AVal) (val : Nat → AVal) : ∀ i, envA env (fun | 0 => v | i + 1 => val i) (i + 1) = envA (v :: env) val i
  | 0 => rfl
  | i + 1 => by
    have := envA_cons env v val i
    simp only [envA] at this ⊢
    rw [this]

theorem trace {call : CallF} : ∀ (rs : List ROp) (env : List AVal) (st st' : St), execOps call rs env st = some st' → ∃ (stt : Nat → St) (val : Nat → AVal), stt 0 = st ∧
    (∀ i r, rs[i]? = some r → stepROp call r (envA env val i) (stt i) = some (val i, stt (i + 1))) ∧ st' = { stt rs.length with env := envA env val rs.length }
  | [], env, st, st', h => by
    simp only [execOps, Option.some.injEq] at h
    exact ⟨fun _ => st, fun _ => .und, rfl, fun i r hr => by simp at hr, h.symm⟩
  | r :: rs, env, st, st', h => by
    simp only [execOps] at h
    cases hs : stepROp call r env st with
    | none => rw [hs] at h; simp at h
    | some x =>
      obtain ⟨v, st1⟩ := x
      rw [hs] at h
      simp only at h
      obtain ⟨stt, val, h0, h1, h2⟩ := trace rs (v :: env) st1 st' h
      refine ⟨fun | 0 => st | i + 1 => stt i, fun | 0 => v | i + 1 => val i, rfl, ?_, ?_⟩
      · intro i q hq
        cases i with
        | zero =>
          simp only [List.getElem?_cons_zero, Option.some.injEq] at hq
          subst hq
          simp only [envA, Nat.zero_add]
          rw [h0]; exact hs
        | succ i =>
          simp only [List.getElem?_cons_succ] at hq
          rw [envA_cons]
          exact h1 i q hq
      · rw [List.length_cons, envA_cons]
        exact h2

section
variable {P : Program} {fn ty : Nat → Nat} {okb : Nat → Bool} {slots : List Nat} {nt : Nat} {ops : Array Oper}

theorem chkOps_get : ∀ (E : List (Option Nat)) (os : List Oper) (rs : List ROp), chkOps P fn ty okb slots nt ops E os rs = true → os.length = rs.length ∧
    ∀ i o r, os[i]? = some o → rs[i]? = some r → chkROp P fn ty okb slots nt ops (envE E os i) o r = true
  | _, [], [], _ => ⟨rfl, fun i o r h => by simp at h⟩
  | E, o :: os, r :: rs, h => by
    simp only [chkOps, Bool.and_eq_true] at h
    obtain ⟨h1, h2⟩ := chkOps_get (o.dst :: E) os rs h.2
    refine ⟨by simp [h1], ?_⟩
    intro i o' r' ho hr
    cases i with
    | zero =>
      simp only [List.getElem?_cons_zero, Option.some.injEq] at ho hr
      subst ho; subst hr
      exact h.1
    | succ i =>
      simp only [List.getElem?_cons_succ] at ho hr
      rw [envE_cons]
      exact h2 i o' r' ho hr
  | _, [], _ :: _, h => by simp [chkOps] at h
  | _, _ :: _, [], h => by simp [chkOps] at h
end

structure Tx (L : Link) (okb : Nat → Bool) (slots : List Nat) (nt : Nat) (call : CallF) (ops : Array Oper) (rs : List ROp) (bt : BT) (stt : Nat → St) (val : Nat → AVal) : Prop where
  nodup : slots.Nodup
  len : ops.size = rs.length
  step : ∀ i r, rs[i]? = some r → stepROp call r (envA [] val i) (stt i) = some (val i, stt (i + 1))
  chk : ∀ i o r, ops[i]? = some o → rs[i]? = some r → chkROp L.P L.fn L.ty okb slots nt ops (envE [] ops.toList i) o r = true
  stat : ∀ i o r, ops[i]? = some o → rs[i]? = some r → okOp rs bt i o r = true

section
variable {L : Link} {okb : Nat → Bool} {slots : List Nat} {nt : Nat} {call : CallF} {ops : Array Oper} {rs : List ROp} {bt : BT} {stt : Nat → St} {val : Nat → AVal}

theorem tx_of (hn : slots.Nodup) (hc : chkOps L.P L.fn L.ty okb slots nt ops [] ops.toList rs = true) (hd : drawC slots nt ops rs = true)
    (hs : ∀ i r, rs[i]? = some r → stepROp call r (envA [] val i) (stt i) = some (val i, stt (i + 1))) : ∃ bt, Tx L okb slots nt call ops rs bt stt val := by
  obtain ⟨hl, hg⟩ := chkOps_get _ _ _ hc
  obtain ⟨bt, hbt⟩ := tabK_some (drawB ops rs) ops.toList (0, [])
  unfold drawC at hd
  rw [hbt] at hd
  refine ⟨bt, hn, by simpa using hl, hs, fun i o r ho hr => hg i o r (by simpa using ho) hr, ?_⟩
  intro i o r ho hr
  simp only [drawB, List.all_eq_true, List.mem_range] at hd
  have := hd i (lt_of_getx hr)
  rw [ho, hr] at this
  exact this

variable (T : Tx L okb slots nt call ops rs bt stt val)
include T

theorem Tx.getR {i : Nat} {o : Oper} (ho : ops[i]? = some o) : ∃ r, rs[i]? = some r := by
  have hi : i < rs.length := by
    rw [← T.len]
    rcases Nat.lt_or_ge i ops.size with h | h
    · exact h
    · simp [Array.getElem?_eq_none h] at ho
  exact ⟨rs[i], List.getElem?_eq_getElem hi⟩

theorem Tx.getO {i : Nat} (hi : i < rs.length) : ∃ o r, ops[i]? = some o ∧ rs[i]? = some r :=
  ⟨ops[i]'(by rw [T.len]; exact hi), rs[i], Array.getElem?_eq_getElem _, List.getElem?_eq_getElem hi⟩

theorem Tx.dst {i : Nat} {o : Oper} {r : ROp} (ho : ops[i]? = some o) (hr : rs[i]? = some r) : chkDst slots nt (envE [] ops.toList i) o.dst r.dst = true := by
  have := T.chk i o r ho hr
  unfold chkROp at this
  simp only [Bool.and_eq_true] at this
  exact this.1.2

theorem Tx.dst_uniq {i k : Nat} {o q : Oper} (ho : ops[i]? = some o) (hq : ops[k]? = some q) {t : Nat} (h1 : o.dst = some t) (h2 : q.dst = some t) : i = k := by
  have main : ∀ (i k : Nat) (o q : Oper), ops[i]? = some o → ops[k]? = some q → o.dst = some t → q.dst = some t → ¬ i < k := by
    intro i k o q ho hq h1 h2 hlt
    obtain ⟨r, hr⟩ := T.getR hq
    have hc := T.dst hq hr
    have hm := envE_mem ops.toList (k := i) (o := o) (by simpa using ho) k hlt
    rw [h1] at hm
    rw [h2] at hc
    have hct : (envE [] ops.toList k).contains (some t) = true := by simpa using hm
    unfold chkDst at hc
    split at hc <;> simp_all
  have := main i k o q ho hq h1 h2
  have := main k i q o hq ho h2 h1
  omega

theorem Tx.dst_lt {i : Nat} {o : Oper} (ho : ops[i]? = some o) {t : Nat} (h : o.dst = some t) : t < nt := by
  obtain ⟨r, hr⟩ := T.getR ho
  have hc := T.dst ho hr
  rw [h] at hc
  unfold chkDst at hc
  split at hc <;> simp_all

theorem Tx.dst_slot {i : Nat} {o : Oper} {r : ROp} (ho : ops[i]? = some o) (hr : rs[i]? = some r) {s : Nat} (h : r.dst = some s) : ∃ t, o.dst = some t ∧ slots[s]? = some t := by
  have hc := T.dst ho hr
  rw [h] at hc
  unfold chkDst at hc
  split at hc <;> simp_all

theorem Tx.slot_dst {i : Nat} {o : Oper} {r : ROp} (ho : ops[i]? = some o) (hr : rs[i]? = some r) {s t : Nat} (h : o.dst = some t) (hs : slots[s]? = some t) : r.dst = some s := by
  have hc := T.dst ho hr
  rw [h] at hc
  unfold chkDst at hc
  split at hc
  · simp_all
  · rename_i t' h1 h2
    cases h1
    simp only [Bool.and_eq_true, Bool.not_eq_true'] at hc
    have := List.mem_of_getElem? hs
    have h3 := hc.1.2
    simp at h3
    exact absurd this h3
  · rename_i t' k h1 h2
    cases h1
    simp only [Bool.and_eq_true, decide_eq_true_eq] at hc
    have h3 := hc.1.2
    rw [h2]
    have hk1 : k < slots.length := lt_of_getx h3
    have hk2 : s < slots.length := lt_of_getx hs
    rw [List.getElem?_eq_getElem hk1] at h3
    rw [List.getElem?_eq_getElem hk2] at hs
    rw [(List.getElem_inj (h₀ := hk1) (h₁ := hk2) T.nodup).1 ((Option.some.inj h3).trans (Option.some.inj hs).symm)]
  · simp_all

/-- What a step of the text is. -/
theorem Tx.text {i : Nat} {r : ROp} (hr : rs[i]? = some r) :
    (wantedA (envA [] val i) r.guard = some false ∧ val i = .tup [] ∧ stt (i + 1) = (stt i).put r.dst (.tup [])) ∨
    (wantedA (envA [] val i) r.guard = some true ∧ apartA (gd (r.args.map ((stt i).opd (envA [] val i))) 0) (r.apart.map ((stt i).opd (envA [] val i))) = true ∧
      ∃ H, stepOp call r.k (r.args.map ((stt i).opd (envA [] val i))) (stt i).heap = some (val i, H) ∧ stt (i + 1) = { stt i with heap := H }.put r.dst (val i)) := by
  have hs := T.step i r hr
  unfold stepROp at hs
  split at hs
  · simp at hs
  · rename_i hw
    simp only [Option.some.injEq, Prod.mk.injEq] at hs
    obtain ⟨h1, h2⟩ := hs
    exact .inl ⟨hw, h1.symm, h2.symm⟩
  · rename_i hw
    split at hs
    · rename_i hap
      split at hs
      · rename_i v H hst
        simp only [Option.some.injEq, Prod.mk.injEq] at hs
        obtain ⟨rfl, h2⟩ := hs
        exact .inr ⟨hw, hap, H, hst, h2.symm⟩
      · simp at hs
    · simp at hs

omit T in
theorem put_heap {st : St} {d : Option Nat} {v : AVal} : (st.put d v).heap = st.heap := by cases d <;> rfl
omit T in
theorem put_vars {st : St} {d : Option Nat} {v : AVal} : (st.put d v).vars = match d with | some s => sv st.vars s v | none => st.vars := by cases d <;> rfl

theorem Tx.vars {i : Nat} {r : ROp} (hr : rs[i]? = some r) : (stt (i + 1)).vars = match r.dst with | some s => sv (stt i).vars s (val i) | none => (stt i).vars := by
  rcases T.text hr with ⟨_, hv, he⟩ | ⟨_, _, H, _, he⟩
  · rw [he, put_vars, hv]
  · rw [he, put_vars]

theorem Tx.pin {i : Nat} {r : ROp} (hr : rs[i]? = some r) : (stt (i + 1)).pin = (stt i).pin := stepROp_pin (T.step i r hr)

theorem Tx.pins (i : Nat) (h : i ≤ rs.length) : (stt i).pin = (stt 0).pin := by
  induction i with
  | zero => rfl
  | succ i ih =>
    obtain ⟨o, r, _, hr⟩ := T.getO (i := i) (by omega)
    rw [T.pin hr, ih (by omega)]

theorem Tx.heap {i : Nat} {r : ROp} (hr : rs[i]? = some r) : (stt (i + 1)).heap = (stt i).heap ∨
    stepOp call r.k (r.args.map ((stt i).opd (envA [] val i))) (stt i).heap = some (val i, (stt (i + 1)).heap) := by
  rcases T.text hr with ⟨_, hv, he⟩ | ⟨_, _, H, hs, he⟩
  · rw [he, put_heap]; exact .inl rfl
  · rw [he, put_heap]; exact .inr hs

/-- What stands in a slot. -/
theorem Tx.slot {s t : Nat} (hs : slots[s]? = some t) (i : Nat) (hi : i ≤ rs.length) :
    (∃ k o, k < i ∧ ops[k]? = some o ∧ o.dst = some t ∧ (gd (stt i).vars s = val k ∨ gd (stt i).vars s = .und)) ∨
    ((∀ k o, k < i → ops[k]? = some o → o.dst ≠ some t) ∧ gd (stt i).vars s = gd (stt 0).vars s) := by
  induction i with
  | zero => exact .inr ⟨fun k o hk => by omega, rfl⟩
  | succ i ih =>
    obtain ⟨o, r, ho, hr⟩ := T.getO (i := i) (by omega)
    have hv := T.vars hr
    by_cases hd : o.dst = some t
    · have hrd := T.slot_dst ho hr hd hs
      rw [hrd] at hv
      simp only at hv
      rw [hv]
      exact .inl ⟨i, o, by omega, ho, hd, gd_sv_same _ _ _⟩
    · have hsame : gd (stt (i + 1)).vars s = gd (stt i).vars s := by
        rw [hv]
        cases hrd : r.dst with
        | none => rfl
        | some s' =>
          obtain ⟨t', h1, h2⟩ := T.dst_slot ho hr hrd
          have : s ≠ s' := by
            rintro rfl
            rw [h2] at hs; cases hs
            exact hd h1
          simp only
          rw [gd_sv_ne _ _ _ _ this]
      rw [hsame]
      rcases ih (by omega) with ⟨k, q, hk, hq, hqd, h⟩ | ⟨h1, h2⟩
      · exact .inl ⟨k, q, by omega, hq, hqd, h⟩
      · refine .inr ⟨?_, h2⟩
        intro k q hk hq
        by_cases hki : k = i
        · subst hki; rw [ho] at hq; cases hq; exact hd
        · exact h1 k q (by omega) hq

end
end Go.Ash
/- A region whose order is drawn: the blocks along its text, and what is true on the way in any order. -/
namespace Go.Ash

theorem apply_len {e : Eff} {H : Heap} : H.length ≤ (e.apply H).length := by cases e <;> simp [Eff.apply, newBlk]

theorem handOn_len {vs ts : List AVal} {H H' : Heap} (h : handOn vs H = some (ts, H')) : H'.length = H.length := by
  unfold handOn at h
  split at h
  · simp only [Option.some.injEq, Prod.mk.injEq] at h; rw [h.2]
  · simp only [Option.map_eq_some_iff, Prod.mk.injEq, Prod.exists] at h
    obtain ⟨_, _, _, _, rfl⟩ := h
    exact freeze_length _ _

theorem anyCall_len {call : CallF} {raw : Bool} {f : Nat} {args : List AVal} {H H' : Heap} {v : AVal} (h : anyCall call raw f args H = some (v, H')) : H.length ≤ H'.length := by
  unfold anyCall at h
  split at h
  · unfold rawCall at h
    simp only [Option.bind_eq_some_iff] at h
    obtain ⟨l, _, h⟩ := h
    split at h
    · simp only [Option.bind_eq_some_iff, Prod.exists, Option.some.injEq, Prod.mk.injEq] at h
      obtain ⟨_, _, _, _, rfl⟩ := h
      rw [List.length_append, putBack_length]; omega
    · simp at h
  · simp only [Option.bind_eq_some_iff, Option.map_eq_some_iff, Prod.exists, Prod.mk.injEq] at h
    obtain ⟨_, _, hh, _, _, _, rfl⟩ := h
    rw [handOn_len hh]; exact Nat.le_refl _

theorem call_cases {K : OpK} (h : notCall K = false) : (∃ raw f, K = .call raw f) ∨ (∃ raw, K = .callv raw) := by
  cases K <;> first | exact .inl ⟨_, _, rfl⟩ | exact .inr ⟨_, rfl⟩ | (simp [notCall] at h)

theorem stepOp_call {call : CallF} {K : OpK} {args : List AVal} {H H' : Heap} {v : AVal} (hc : notCall K = false) (h : stepOp call K args H = some (v, H')) :
    ∃ raw f as, anyCall call raw f as H = some (v, H') ∧ ((K = .call raw f ∧ as = args) ∨ (K = .callv raw ∧ ∃ first cap vs, args = .fn f first cap :: vs ∧ as = first ++ vs ++ cap)) := by
  rcases call_cases hc with ⟨raw, f, rfl⟩ | ⟨raw, rfl⟩
  · exact ⟨raw, f, args, h, .inl ⟨rfl, rfl⟩⟩
  · cases args with
    | nil => simp [stepOp, opSem] at h
    | cons x vs =>
      cases x <;> simp only [stepOp] at h <;> try (simp [opSem] at h; done)
      exact ⟨raw, _, _, h, .inr ⟨rfl, _, _, _, rfl, rfl⟩⟩

theorem stepOp_len {call : CallF} {K : OpK} {args : List AVal} {H H' : Heap} {v : AVal} (h : stepOp call K args H = some (v, H')) : H.length ≤ H'.length := by
  cases hc : notCall K with
  | true =>
    rw [stepOp_plain hc] at h
    simp only [Option.map_eq_some_iff, Prod.exists, Prod.mk.injEq] at h
    obtain ⟨_, e, _, _, rfl⟩ := h
    exact apply_len
  | false =>
    obtain ⟨_, _, _, h1, _⟩ := stepOp_call hc h
    exact anyCall_len h1

/-- Blocks grown: old ones the same, but for being frozen. -/
def Grow (H H' : Heap) : Prop := H.length ≤ H'.length ∧ ∀ id, id < H.length → AgreeAt H H' id ∧ (H.at id = none → H'.at id = none)

theorem Grow.refl (H : Heap) : Grow H H := ⟨Nat.le_refl _, fun id _ => ⟨.refl H id, fun h => h⟩⟩
theorem Grow.trans {H1 H2 H3 : Heap} (a : Grow H1 H2) (b : Grow H2 H3) : Grow H1 H3 :=
  ⟨Nat.le_trans a.1 b.1, fun id h => ⟨(a.2 id h).1.trans (b.2 id (Nat.lt_of_lt_of_le h a.1)).1, fun h1 => (b.2 id (Nat.lt_of_lt_of_le h a.1)).2 ((a.2 id h).2 h1)⟩⟩
theorem Grow.agree {H H' : Heap} (g : Grow H H') (id : Nat) : AgreeAt H H' id := fun b hb => (g.2 id (heap_at_lt hb)).1 b hb

theorem grow_freeze (H : Heap) (l : List Nat) : Grow H (freeze H l) := by
  refine ⟨by rw [freeze_length]; exact Nat.le_refl _, fun id _ => ⟨fun b hb => ?_, fun h => ?_⟩⟩
  · rw [freeze_at, hb]
    by_cases h : id ∈ l
    · rw [if_pos h]; exact ⟨_, rfl, rfl, rfl, fun _ => rfl⟩
    · rw [if_neg h]; exact ⟨_, rfl, rfl, rfl, fun h => h⟩
  · rw [freeze_at, h]; simp

theorem grow_handOn {vs ts : List AVal} {H H' : Heap} (h : handOn vs H = some (ts, H')) : Grow H H' := by
  unfold handOn at h
  split at h
  · simp only [Option.some.injEq, Prod.mk.injEq] at h; rw [h.2]; exact .refl _
  · simp only [Option.map_eq_some_iff, Prod.mk.injEq, Prod.exists] at h
    obtain ⟨_, _, _, _, rfl⟩ := h
    exact grow_freeze _ _

theorem grow_new (H : Heap) (esz : Nat) (xs : List AVal) : Grow H ((Eff.new esz xs).apply H) := by
  refine ⟨apply_len, fun id hid => ?_⟩
  have : Heap.at ((Eff.new esz xs).apply H) id = H.at id := by
    simp only [Eff.apply, newBlk]; rw [at_append, if_pos hid]
  exact ⟨fun b hb => ⟨b, by rw [this]; exact hb, rfl, rfl, fun h => h⟩, fun h => by rw [this]; exact h⟩

theorem isA_notW {r : ROp} (h : isA r = true) : isW r = false := by
  obtain ⟨k, as, d, g, ap⟩ := r
  cases k <;> simp_all [isA, isW]

theorem isR_notW {r : ROp} (h : isR r = true) : isW r = false := by
  obtain ⟨k, as, d, g, ap⟩ := r
  cases k <;> simp_all [isR, isW]

theorem isR_reads {r : ROp} (h : isR r = true) : reads r.k = true := by
  obtain ⟨k, as, d, g, ap⟩ := r
  cases k <;> simp_all [isR, reads]

theorem isR_plain {r : ROp} (h : isR r = true) : notCall r.k = true := by
  obtain ⟨k, as, d, g, ap⟩ := r
  cases k <;> simp_all [isR, notCall]

theorem call_pure {r : ROp} (hc : notCall r.k = false) (hw : isW r = false) : isA r = true ∧ ((∃ f, r.k = .call false f) ∨ r.k = .callv false) := by
  obtain ⟨k, as, d, g, ap⟩ := r
  cases k <;> simp_all [isA, isW, notCall]

theorem isA_makes {r : ROp} (h : isA r = true) (hc : notCall r.k = true) {args : List AVal} {st : St} {env : List AVal} (ha : args = r.args.map (st.opd env)) :
    makes r.k = true ∧ ∀ b e, r.k = .app b e → args.head? = some (.slc true []) := by
  obtain ⟨k, as, d, g, ap⟩ := r
  cases k <;> simp_all [isA, makes, notCall]
  case app b e =>
    simp only [isW] at h
    split at h
    · simp [St.opd]
    · simp at h

def stores : OpK → Bool
  | .store _ => true
  | _ => false

theorem opSem_store {K : OpK} {args : List AVal} {H : Heap} {f : Nat} (hK : stores K = true) {v : AVal} {e : Eff} (h : opSem K args H f = some (v, e)) :
    ∃ id i o x b, args = [.mptr id i o, x] ∧ e = .upd id b := by
  unfold opSem at h
  split at h <;> try (simp [stores] at hK; done)
  all_goals try (cases h; done)
  split at h
  · split at h
    · split at h
      · simp at h
      · split at h
        · simp only [Option.map_eq_some_iff, Prod.mk.injEq] at h
          obtain ⟨_, _, _, rfl⟩ := h
          exact ⟨_, _, _, _, _, rfl, rfl⟩
        · simp at h
    · simp at h
  · simp at h

section
variable {L : Link} {okb : Nat → Bool} {slots : List Nat} {nt : Nat} {call : CallF} {ops : Array Oper} {rs : List ROp} {bt : BT} {stt : Nat → St} {val : Nat → AVal}
variable (T : Tx L okb slots nt call ops rs bt stt val)
include T

theorem Tx.len1 {i : Nat} {r : ROp} (hr : rs[i]? = some r) : (stt i).heap.length ≤ (stt (i + 1)).heap.length := by
  rcases T.heap hr with h | h
  · rw [h]; exact Nat.le_refl _
  · exact stepOp_len h

theorem Tx.lens {i j : Nat} (hij : i ≤ j) (hj : j ≤ rs.length) : (stt i).heap.length ≤ (stt j).heap.length := by
  induction j with
  | zero => rw [Nat.le_zero.1 hij]; exact Nat.le_refl _
  | succ j ih =>
    by_cases h : i = j + 1
    · rw [h]; exact Nat.le_refl _
    · obtain ⟨o, r, _, hr⟩ := T.getO (i := j) (by omega)
      exact Nat.le_trans (ih (by omega) (by omega)) (T.len1 hr)

theorem Tx.same {i : Nat} {r : ROp} (hr : rs[i]? = some r) (hw : isW r = false) (ha : isA r = false) : (stt (i + 1)).heap = (stt i).heap := by
  rcases T.heap hr with h | h
  · exact h
  · have hnc : notCall r.k = true := by
      cases hc : notCall r.k with
      | true => rfl
      | false => have := (call_pure hc hw).1; rw [ha] at this; cases this
    rw [stepOp_plain hnc] at h
    simp only [Option.map_eq_some_iff, Prod.exists, Prod.mk.injEq] at h
    obtain ⟨v, e, hs, _, he⟩ := h
    have : e = .none := by
      cases hr' : isR r with
      | true => exact (opSem_reads (H' := (stt i).heap) (f' := 0) (isR_reads hr') (fun _ _ id _ => .refl _ id) hs).2
      | false => exact (opSem_indep (H' := (stt i).heap) (f' := 0) (quiet_of hnc hw ha hr') hs).2
    subst this
    exact he.symm

theorem Tx.grow {i : Nat} {r : ROp} (hr : rs[i]? = some r) (hw : isW r = false) : Grow (stt i).heap (stt (i + 1)).heap := by
  cases ha : isA r with
  | false => rw [T.same hr hw ha]; exact .refl _
  | true =>
    rcases T.heap hr with h | h
    · rw [h]; exact .refl _
    · cases hnc : notCall r.k with
      | true =>
        rw [stepOp_plain hnc] at h
        simp only [Option.map_eq_some_iff, Prod.exists, Prod.mk.injEq] at h
        obtain ⟨v, e, hs, _, he⟩ := h
        obtain ⟨h1, h2⟩ := isA_makes ha hnc rfl
        rcases opSem_makes (H' := (stt i).heap) (f' := 0) h1 h2 (fun _ _ id _ => .refl _ id) hs with ⟨rfl, _⟩ | ⟨⟨_, _, rfl⟩, _⟩
        · rw [← he]; exact .refl _
        · rw [← he]; exact grow_new _ _ _
      | false =>
        have hp := (call_pure hnc hw).2
        obtain ⟨raw, f, as, h1, h2⟩ := stepOp_call hnc h
        have : raw = false := by
          rcases hp with ⟨g, hg⟩ | hg <;> rcases h2 with ⟨h2, _⟩ | ⟨h2, _⟩ <;> rw [hg] at h2 <;> cases h2 <;> rfl
        subst this
        simp only [anyCall, Bool.false_eq_true, if_false, Option.bind_eq_some_iff, Option.map_eq_some_iff, Prod.exists, Prod.mk.injEq] at h1
        obtain ⟨_, _, hh, _, _, _, rfl⟩ := h1
        exact grow_handOn hh

theorem Tx.grows {i j : Nat} (hij : i ≤ j) (hj : j ≤ rs.length) (hw : ∀ k r, i ≤ k → k < j → rs[k]? = some r → isW r = false) : Grow (stt i).heap (stt j).heap := by
  induction j with
  | zero => rw [Nat.le_zero.1 hij]; exact .refl _
  | succ j ih =>
    by_cases h : i = j + 1
    · rw [h]; exact .refl _
    · obtain ⟨o, r, _, hr⟩ := T.getO (i := j) (by omega)
      exact (ih (by omega) (by omega) (fun k q h1 h2 => hw k q h1 (by omega))).trans (T.grow hr (hw j r (by omega) (by omega) hr))

theorem Tx.unwritten {s : Nat} (hs : ∀ q ∈ rs, q.dst ≠ some s) (i : Nat) (hi : i ≤ rs.length) : gd (stt i).vars s = gd (stt 0).vars s := by
  induction i with
  | zero => rfl
  | succ i ih =>
    obtain ⟨o, r, _, hr⟩ := T.getO (i := i) (by omega)
    rw [T.vars hr, ← ih (by omega)]
    have := hs r (List.mem_of_getElem? hr)
    cases hd : r.dst with
    | none => rfl
    | some s' => exact gd_sv_ne _ _ _ _ (by rintro rfl; exact this hd)

theorem Tx.static {i : Nat} {o : Oper} {r : ROp} (ho : ops[i]? = some o) (hr : rs[i]? = some r) :
    okBefAt bt i o = true ∧ r.args.all (okOpd rs bt i) = true ∧ okGrd bt i r.guard = true ∧ okPair rs bt i r = true := by
  have := T.stat i o r ho hr
  unfold okOp at this
  simp only [Bool.and_eq_true] at this
  exact ⟨this.1.1.1, this.1.1.2, this.1.2, this.2⟩

theorem Tx.pair {i k : Nat} {r rk : ROp} (hr : rs[i]? = some r) (hk : rs[k]? = some rk) (hw : isW rk = true) (h : isW r = true ∨ isA r = true ∨ isR r = true) (hne : k ≠ i) :
    i ∈ befAt bt k ∨ (isA r = false ∧ k ∈ befAt bt i) ∨ (isR r = true ∧ marked rs i k r rk = true) := by
  obtain ⟨o, ho⟩ : ∃ o, ops[i]? = some o := by
    obtain ⟨o, _, ho, _⟩ := T.getO (lt_of_getx hr)
    exact ⟨o, ho⟩
  have := (T.static ho hr).2.2.2
  unfold okPair at this
  rw [if_pos (by rcases h with h | h | h <;> simp [h])] at this
  simp only [List.all_eq_true, List.mem_range] at this
  have := this k (lt_of_getx hk)
  rw [hk] at this
  simp only [hw, Bool.not_true, Bool.false_or, Bool.or_eq_true, beq_iff_eq, hne, false_or, Bool.and_eq_true, Bool.not_eq_true', Mask.contains_iff_mem, or_assoc] at this
  exact this

theorem Tx.bef_lt {i : Nat} (hi : i < rs.length) {j : Nat} (hj : j ∈ befAt bt i) : j < i := by
  induction i using Nat.strongRecOn generalizing j with
  | ind i ih =>
    obtain ⟨o, r, ho, hr⟩ := T.getO hi
    obtain ⟨h1, h2⟩ := okBefAt_spec (T.static ho hr).1
    obtain ⟨l, hl, h | h⟩ := h2 j hj
    · rw [h]; exact h1 l hl
    · have hli := h1 l hl
      have := ih l hli (by omega) h
      omega

/-- The block of a load that is marked stays as it is. -/
theorem Tx.marked {i k : Nat} {r rk : ROp} (hr : rs[i]? = some r) (hk : rs[k]? = some rk) (hm : marked rs i k r rk = true) {x : AVal}
    (hx : x ∈ r.args.map ((stt i).opd (envA [] val i))) {id : Nat} (hid : headId x = some id) : AgreeAt (stt k).heap (stt (k + 1)).heap id := by
  unfold Ash.marked at hm
  simp only [Bool.and_eq_true, decide_eq_true_eq] at hm
  obtain ⟨⟨⟨hik, hl⟩, hst⟩, hm⟩ := hm
  have hkl := lt_of_getx hk
  have hin : x ∈ rk.apart.map ((stt k).opd (envA [] val k)) := by
    split at hm
    · rename_i j hargs
      rw [hargs] at hx
      simp only [List.map_cons, List.map_nil, List.mem_singleton, St.opd] at hx
      subst hx
      simp only [List.any_eq_true] at hm
      obtain ⟨y, hy, hyj⟩ := hm
      split at hyj
      · rename_i j'
        simp only [beq_iff_eq] at hyj
        refine List.mem_map.2 ⟨_, hy, ?_⟩
        simp only [St.opd, gd_envA]
        by_cases h : j < i
        · rw [if_pos h, if_pos (by omega)]; congr 1; omega
        · rw [if_neg h, if_neg (by omega)]
      · simp at hyj
    · rename_i s hargs
      rw [hargs] at hx
      simp only [List.map_cons, List.map_nil, List.mem_singleton, St.opd] at hx
      subst hx
      simp only [Bool.and_eq_true, List.all_eq_true, List.any_eq_true, bne_iff_ne] at hm
      obtain ⟨hno, y, hy, hys⟩ := hm
      split at hys
      · rename_i s'
        simp only [beq_iff_eq] at hys
        subst hys
        refine List.mem_map.2 ⟨_, hy, ?_⟩
        simp only [St.opd]
        rw [T.unwritten hno k (by omega), T.unwritten hno i (by omega)]
      · simp at hys
    · simp at hm
  rcases T.text hk with ⟨_, _, he⟩ | ⟨_, hap, H, hs, he⟩
  · rw [he, put_heap]; exact .refl _ _
  · rw [he, put_heap]
    simp only
    have hsk : ∃ sz, rk.k = .store sz := by
      unfold isStore at hst
      split at hst
      · rename_i sz h; exact ⟨sz, h⟩
      · simp at hst
    obtain ⟨sz, hsk⟩ := hsk
    rw [hsk, stepOp_plain rfl] at hs
    simp only [Option.map_eq_some_iff, Prod.exists, Prod.mk.injEq] at hs
    obtain ⟨v, e, hs, _, hH⟩ := hs
    generalize rk.args.map ((stt k).opd (envA [] val k)) = args at *
    generalize rk.apart.map ((stt k).opd (envA [] val k)) = oth at *
    obtain ⟨id', i', o', x', b', rfl, rfl⟩ := opSem_store rfl hs
    have hne : id' ≠ id := by
      unfold apartA at hap
      split at hap
      · simp at hin
      · simp only [gd, List.all_eq_true] at hap
        have := hap x hin
        cases x <;> simp only [headId, Option.some.injEq, reduceCtorEq] at hid
        · simp at this
        · subst hid; simpa using this
    subst hH
    intro b hb
    refine ⟨b, ?_, rfl, rfl, fun h => h⟩
    simp only [Eff.apply]
    rw [at_set, if_neg (fun h => hne h.1.symm)]
    exact hb

/-- The blocks that an operation reads are the same at the cut. -/
theorem Tx.stable {D : Nat → Prop} (hcl : ∀ k, D k → k < rs.length → ∀ j ∈ befAt bt k, D j) {i c : Nat} {r : ROp} (hr : rs[i]? = some r) (hk : isA r = true ∨ isR r = true) (hi : ¬ D i)
    (hic : i ≤ c) (hc : c ≤ rs.length) (hD : ∀ k q, i ≤ k → k < c → rs[k]? = some q → isW q = true → D k) {x : AVal}
    (hx : x ∈ r.args.map ((stt i).opd (envA [] val i))) {id : Nat} (hid : headId x = some id) : AgreeAt (stt i).heap (stt c).heap id := by
  induction c with
  | zero => rw [Nat.le_zero.1 hic]; exact .refl _ _
  | succ c ih =>
    by_cases h : i = c + 1
    · rw [h]; exact .refl _ _
    · have ih := ih (by omega) (by omega) (fun k q h1 h2 => hD k q h1 (by omega))
      obtain ⟨o, q, _, hq⟩ := T.getO (i := c) (by omega)
      refine ih.trans ?_
      cases hw : isW q with
      | false => exact (T.grow hq hw).agree id
      | true =>
        have hne : c ≠ i := by
          rintro rfl
          rw [hr] at hq; cases hq
          rcases hk with h | h
          · rw [isA_notW h] at hw; cases hw
          · rw [isR_notW h] at hw; cases hw
        have hDc := hD c q (by omega) (by omega) hq hw
        rcases T.pair hr hq hw (.inr hk) hne with h | ⟨_, h⟩ | ⟨_, h⟩
        · exact absurd (hcl c hDc (by omega) i h) hi
        · have := T.bef_lt (lt_of_getx hr) h; omega
        · exact T.marked hr hq h hx hid
end
end Go.Ash
