/- The abstract interpreter of this work and its uses, part 13: AshInts, AshOpen, AshOpenInt. -/
import Derived.ChangeArms
import Derived.ChangeSlices
import Derived.Carry
import Derived.Test.YtaojijahpdnjhaaAshP12
set_option linter.all false
/- Laws of integers: each answers true. -/
namespace Go.Ash
variable {F : Nat → Option RFunc} [h : CodeLimbs F] [h1 : CodeRef1 F] [h2 : CodeLaw1 F]

theorem dwl {z : Int} {n : Nat} (hz : z.natAbs < B32 ^ n) : (DW z.natAbs).length ≤ 2 * n := DW_len_le (by rw [B16_pow2]; exact hz)
theorem dl {z : Int} {n : Nat} (hz : z.natAbs < B32 ^ n) : (D z.natAbs).length ≤ n := D_len_le hz

theorem is_true (nl : Bool) (z : Int) {n : Nat} (hz : z.natAbs < B32 ^ n) (hn : n < 2^36) : pureCall (run F) 29 [IV z, RI nl z] = some (.bool true) := by
  have := ris (F := F) nl z z (by have := dl hz; omega) (by have := dwl hz; omega)
  rwa [decide_eq_true rfl] at this

theorem bl_lim {z : Int} {n : Nat} (hz : z.natAbs < B32 ^ n) : bl z.natAbs ≤ 32 * n := bl_le.2 (by rw [← B32_pow]; exact hz)

theorem int_sums (hb : pureCall (run F) 22 [] = some (.bool true)) (na ra nb rb : Bool) (la lb : List Nat) (hla : Lim la) (hlb : Lim lb) (ha : la.length < 2^63) (hb' : lb.length < 2^63) :
    pureCall (run F) 55 [.agg [.bool na, .slc ra (u32s la)], .agg [.bool nb, .slc rb (u32s lb)]] = some (.bool true) := by
  obtain ⟨qa, ca⟩ := pc_cut (F := F) na ra la ha
  obtain ⟨qb, cb⟩ := pc_cut (F := F) nb rb lb hb'
  have ia := isI_cut na qa hla
  have ib := isI_cut nb qb hlb
  generalize sgn na (ev (la.take 24)) = x at ia
  generalize sgn nb (ev (lb.take 24)) = y at ib
  have xl := isI_lt ia
  have yl := isI_lt ib
  obtain ⟨k1, f1⟩ := rfrom (F := F) ia (by decide)
  obtain ⟨k2, f2⟩ := rfrom (F := F) ib (by decide)
  have dx := dwl xl
  have dy := dwl yl
  have sxy := isI_lt (isI_add xl yl)
  have mxy := isI_lt (isI_mul xl yl)
  have hmy : (-y).natAbs < B32 ^ 24 := by rw [Int.natAbs_neg]; exact yl
  have hmx : (-x).natAbs < B32 ^ 24 := by rw [Int.natAbs_neg]; exact xl
  have dxy : (x - y).natAbs < B32 ^ 25 := by rw [Int.sub_eq_add_neg]; exact isI_lt (isI_add xl hmy)
  have a1 := add_is (F := F) ia ib (by decide) (by decide)
  have a2 := sub_is (F := F) ia ib (by decide) (by decide)
  have a3 := mul_is (F := F) ia ib (by decide) (by decide)
  have a4 := neg_is (F := F) ia (by decide)
  have a5 := cmp_is (F := F) ia ib (by decide) (by decide)
  have a6 := sign_is (F := F) ia (by decide)
  have a7 := pc_bits_D (F := F) ia (by decide)
  obtain ⟨j1, b1⟩ := rAdd (F := F) k1 k2 x y (by omega) (by omega)
  obtain ⟨j2, b2⟩ := rSub (F := F) k1 k2 x y (by omega) (by omega)
  obtain ⟨j3, b3⟩ := rMul (F := F) k1 k2 x y (by omega) (by omega)
  have b4 := rneg (F := F) k1 x (by omega)
  have b5 := rCmp (F := F) k1 k2 x y (by omega) (by omega)
  have b6 := rsign (F := F) k1 x
  have b7 := rBits (F := F) k1 x (by omega)
  have c1 := is_true (F := F) j1 _ sxy (by decide)
  have c2 := is_true (F := F) j2 _ dxy (by decide)
  have c3 := is_true (F := F) j3 _ mxy (by decide)
  have c4 := is_true (F := F) k1 _ hmx (by decide)
  refine pure_ret h2.ashlarlaw1_IntSums rfl ?_
  simp [c_ashlarlaw1_IntSums, any_pure, hb, ca, cb, f1, f2, a1, a2, a3, a4, a5, a6, a7, b1, b2, b3, b4, b5, b6, b7, c1, c2, c3, c4, putElem, putAgg]

theorem int_mod (hb : pureCall (run F) 22 [] = some (.bool true)) (na ra : Bool) (la : List Nat) (hla : Lim la) (ha : la.length < 2^63) (m : Int) (m0 : -9223372036854775808 ≤ m) (m1 : m < 9223372036854775808) :
    pureCall (run F) 42 [.agg [.bool na, .slc ra (u32s la)], .int .i64 m] = some (.bool true) := by
  obtain ⟨qa, ca⟩ := pc_cut (F := F) na ra la ha
  have ia := isI_cut na qa hla
  generalize sgn na (ev (la.take 24)) = x at ia
  have xl := isI_lt ia
  obtain ⟨k1, f1⟩ := rfrom (F := F) ia (by decide)
  have dx := dwl xl
  have a1 := mod_is (F := F) ia (by decide) m m0 m1
  refine pure_ret h2.ashlarlaw1_IntMod rfl ?_
  by_cases hm : m < 1 ∨ 2147483647 < m
  · rw [if_pos hm] at a1
    by_cases hm1 : m < 1
    · simp (disch := omega) [c_ashlarlaw1_IntMod, any_pure, hb, ca, a1, if_pos, if_neg, decide_eq_true, decide_eq_false, putElem, putAgg]
    · simp (disch := omega) [c_ashlarlaw1_IntMod, any_pure, hb, ca, a1, if_pos, if_neg, decide_eq_true, decide_eq_false, putElem, putAgg]
  · rw [if_neg hm] at a1
    have b1 := rMod (F := F) k1 x m (by omega) (by omega) (by omega)
    simp (disch := omega) [c_ashlarlaw1_IntMod, any_pure, hb, ca, a1, f1, b1, if_pos, if_neg, decide_eq_true, decide_eq_false, putElem, putAgg]

theorem isI_div {x y : Int} {n : Nat} (hx : x.natAbs < B32 ^ n) : (x / y).natAbs < B32 ^ n := Nat.lt_of_le_of_lt (Int.natAbs_ediv_le_natAbs x y) hx
theorem isI_emod {x y : Int} {n : Nat} (hy0 : y ≠ 0) (hy : y.natAbs < B32 ^ n) : (x % y).natAbs < B32 ^ n := by
  have h1 := Int.emod_nonneg x hy0
  have h2 := Int.emod_lt x hy0
  omega

theorem int_quo (hb : pureCall (run F) 22 [] = some (.bool true)) (na ra nb rb : Bool) (la lb : List Nat) (hla : Lim la) (hlb : Lim lb) (ha : la.length < 2^63) (hb' : lb.length < 2^63) :
    pureCall (run F) 31 [.agg [.bool na, .slc ra (u32s la)], .agg [.bool nb, .slc rb (u32s lb)]] = some (.bool true) := by
  obtain ⟨qa, ca⟩ := pc_cut (F := F) na ra la ha
  obtain ⟨qb, cb⟩ := pc_cut (F := F) nb rb lb hb'
  have ia := isI_cut na qa hla
  have ib := isI_cut nb qb hlb
  generalize sgn na (ev (la.take 24)) = x at ia
  generalize sgn nb (ev (lb.take 24)) = y at ib
  have xl := isI_lt ia
  have yl := isI_lt ib
  obtain ⟨k1, f1⟩ := rfrom (F := F) ia (by decide)
  obtain ⟨k2, f2⟩ := rfrom (F := F) ib (by decide)
  have dx := dwl xl
  have dy := dwl yl
  have a1 := quo_is (F := F) ia ib (by decide) (by decide)
  have b1 := rsign (F := F) k2 y
  refine pure_ret h2.ashlarlaw1_IntQuo rfl ?_
  by_cases hy : y = 0
  · subst hy
    simp only [if_true] at a1
    have b1' : pureCall (run F) 25 [RI k2 0] = some (.int .i64 0) := b1
    simp [c_ashlarlaw1_IntQuo, any_pure, hb, ca, cb, f1, f2, a1, b1', putElem, putAgg]
  · rw [if_neg hy] at a1
    have hc : ¬ cmpZ y 0 = 0 := by unfold cmpZ; split <;> (try split) <;> omega
    have ql := isI_div (y := y) xl
    have rl := isI_emod (x := x) hy yl
    obtain ⟨k3, f3⟩ := rfrom (F := F) (isI_IV ql) (by decide)
    obtain ⟨k4, f4⟩ := rfrom (F := F) (isI_IV rl) (by decide)
    have dq := dwl ql
    have dr := dwl rl
    have ml := isI_lt (isI_mul ql yl)
    obtain ⟨j1, b2⟩ := rMul (F := F) k3 k2 (x / y) y (by omega) (by omega)
    obtain ⟨j2, b3⟩ := rAdd (F := F) j1 k4 (x / y * y) (x % y) (by have := dwl ml; omega) (by omega)
    have e : x / y * y + x % y = x := by have := Int.mul_ediv_add_emod x y; rw [Int.mul_comm]; exact this
    rw [e] at b3
    have b4 := rCmp (F := F) j2 k1 x x (by omega) (by omega)
    have hcx : cmpZ x x = 0 := by unfold cmpZ; rw [if_neg (by omega), if_pos rfl]
    rw [hcx] at b4
    have c1 := is_true (F := F) k3 _ ql (by decide)
    have c2 := is_true (F := F) k4 _ rl (by decide)
    have b5 := rsign (F := F) k4 (x % y)
    have h0 := Int.emod_nonneg x hy
    have h3 := Int.emod_lt x hy
    have hs : 0 ≤ cmpZ (x % y) 0 := by unfold cmpZ; rw [if_neg (by omega)]; split <;> omega
    have b6 := rabs (F := F) k2 y
    have b7 := rCmp (F := F) k4 k2 (x % y) (y.natAbs : Int) (by omega) (by rw [Int.natAbs_natCast]; omega)
    have hlt : cmpZ (x % y) (y.natAbs : Int) = -1 := by unfold cmpZ; rw [if_pos h3]
    rw [hlt] at b7
    generalize x / y = q at *
    generalize x % y = r at *
    generalize cmpZ r 0 = s at *
    generalize cmpZ y 0 = t at *
    simp (disch := omega) [c_ashlarlaw1_IntQuo, any_pure, hb, ca, cb, f1, f2, f3, f4, a1, b1, b2, b3, b4, b5, b6, b7, c1, c2, hc, putElem, putAgg, if_pos, if_neg, decide_eq_true, decide_eq_false]

theorem gcd_lt {x y : Int} {n : Nat} (hx : x.natAbs < B32 ^ n) (hy : y.natAbs < B32 ^ n) : ((Int.gcd x y : Nat) : Int).natAbs < B32 ^ n := by
  rw [Int.natAbs_natCast]
  rcases Nat.eq_zero_or_pos x.natAbs with h0 | h0
  · have : Int.gcd x y = y.natAbs := by rw [Int.gcd, h0, Nat.gcd_zero_left]
    omega
  · have : Int.gcd x y ≤ x.natAbs := Nat.gcd_le_left _ h0
    omega

theorem int_gcd (hb : pureCall (run F) 22 [] = some (.bool true)) (na ra nb rb nc rc : Bool) (la lb lc : List Nat) (hla : Lim la) (hlb : Lim lb) (hlc : Lim lc)
    (ha : la.length < 2^63) (hb' : lb.length < 2^63) (hc : lc.length < 2^63) :
    pureCall (run F) 39 [.agg [.bool na, .slc ra (u32s la)], .agg [.bool nb, .slc rb (u32s lb)], .agg [.bool nc, .slc rc (u32s lc)]] = some (.bool true) := by
  obtain ⟨qa, ca⟩ := pc_cut (F := F) na ra la ha
  obtain ⟨qb, cb⟩ := pc_cut (F := F) nb rb lb hb'
  obtain ⟨qc, cc⟩ := pc_cut (F := F) nc rc lc hc
  have ia := isI_cut na qa hla
  have ib := isI_cut nb qb hlb
  have ic := isI_cut nc qc hlc
  generalize sgn na (ev (la.take 24)) = x at ia
  generalize sgn nb (ev (lb.take 24)) = y at ib
  generalize sgn nc (ev (lc.take 24)) = z at ic
  have xl := isI_lt ia
  have yl := isI_lt ib
  have zl := isI_lt ic
  obtain ⟨k1, f1⟩ := rfrom (F := F) ia (by decide)
  obtain ⟨k2, f2⟩ := rfrom (F := F) ib (by decide)
  obtain ⟨k3, f3⟩ := rfrom (F := F) ic (by decide)
  have dx := dwl xl
  have dy := dwl yl
  have dz := dwl zl
  have gl := gcd_lt xl yl
  have dg := dwl gl
  have a1 := gcd_is (F := F) ia ib (by decide) (by decide)
  obtain ⟨k4, f4⟩ := rfrom (F := F) (isI_IV gl) (by decide)
  obtain ⟨k5, b1⟩ := rGcd (F := F) k1 k2 x y (by omega) (by omega)
  have c1 := is_true (F := F) k5 _ gl (by decide)
  have a2 := mul_is (F := F) ia ic (by decide) (by decide)
  have a3 := mul_is (F := F) ib ic (by decide) (by decide)
  have a4 := gcd_is (F := F) (isI_mul xl zl) (isI_mul yl zl) (by decide) (by decide)
  have b2 := rabs (F := F) k3 z
  obtain ⟨k6, b3⟩ := rMul (F := F) k4 k3 (Int.gcd x y : Nat) (z.natAbs : Int) (by omega) (by rw [Int.natAbs_natCast]; omega)
  have e : ((Int.gcd (x * z) (y * z) : Nat) : Int) = (Int.gcd x y : Nat) * (z.natAbs : Int) := by
    rw [Int.gcd_mul_right, Int.natCast_mul]
  rw [e] at a4
  have ml : (((Int.gcd x y : Nat) : Int) * (z.natAbs : Int)).natAbs < B32 ^ 48 := isI_lt (isI_mul gl (by rw [Int.natAbs_natCast]; exact zl))
  have c2 := is_true (F := F) k6 _ ml (by decide)
  refine pure_ret h2.ashlarlaw1_IntGcd rfl ?_
  generalize ((Int.gcd x y : Nat) : Int) * (z.natAbs : Int) = w at *
  generalize ((Int.gcd x y : Nat) : Int) = g at *
  generalize (z.natAbs : Int) = zz at *
  simp [c_ashlarlaw1_IntGcd, any_pure, hb, ca, cb, cc, f1, f2, f3, f4, a1, a2, a3, a4, b1, b2, b3, c1, c2, putElem, putAgg]

theorem int_small (hb : pureCall (run F) 22 [] = some (.bool true)) (n : Int) (n0 : -9223372036854775808 ≤ n) (n1 : n < 9223372036854775808) (na ra : Bool) (la : List Nat) (hla : Lim la) (ha : la.length < 2^63) :
    pureCall (run F) 35 [.int .i64 n, .agg [.bool na, .slc ra (u32s la)]] = some (.bool true) := by
  obtain ⟨qa, ca⟩ := pc_cut (F := F) na ra la ha
  have ia := isI_cut na qa hla
  generalize sgn na (ev (la.take 24)) = x at ia
  have xl := isI_lt ia
  obtain ⟨k1, f1⟩ := rfrom (F := F) ia (by decide)
  have dx := dwl xl
  have a1 := pc_of (F := F) n n0 n1
  have hnl : n.natAbs < B32 ^ 2 := by show n.natAbs < 18446744073709551616; omega
  have a2 := small_is (F := F) (isI_IV hnl) (by decide)
  rw [if_pos ⟨n0, n1⟩] at a2
  obtain ⟨k2, b1⟩ := rof (F := F) n n0 n1
  have c1 := is_true (F := F) k2 _ hnl (by decide)
  have a3 := small_is (F := F) ia (by decide)
  obtain ⟨k3, b2⟩ := rof (F := F) (-9223372036854775808) (by decide) (by decide)
  obtain ⟨k4, b3⟩ := rof (F := F) 9223372036854775807 (by decide) (by decide)
  have l3 : (DW (-9223372036854775808 : Int).natAbs).length < 2^39 := by
    have := DW_len_le (n := (-9223372036854775808 : Int).natAbs) (k := 4) (by decide)
    omega
  have l4 : (DW (9223372036854775807 : Int).natAbs).length < 2^39 := by
    have := DW_len_le (n := (9223372036854775807 : Int).natAbs) (k := 4) (by decide)
    omega
  have b4 := rCmp (F := F) k1 k3 x (-9223372036854775808) (by omega) l3
  have b5 := rCmp (F := F) k1 k4 x 9223372036854775807 (by omega) l4
  refine pure_ret h2.ashlarlaw1_IntSmall rfl ?_
  by_cases hx : -9223372036854775808 ≤ x ∧ x < 9223372036854775808
  · rw [if_pos hx] at a3
    obtain ⟨k5, b6⟩ := rof (F := F) x hx.1 hx.2
    have b7 := rCmp (F := F) k5 k1 x x (by omega) (by omega)
    have hcx : cmpZ x x = 0 := by unfold cmpZ; rw [if_neg (by omega), if_pos rfl]
    rw [hcx] at b7
    have e1 : 0 ≤ cmpZ x (-9223372036854775808) := by unfold cmpZ; rw [if_neg (by omega)]; split <;> omega
    have e2 : cmpZ x 9223372036854775807 ≤ 0 := by unfold cmpZ; split; omega; rw [if_pos (by omega)]; omega
    generalize cmpZ x (-9223372036854775808) = s1 at *
    generalize cmpZ x 9223372036854775807 = s2 at *
    simp (disch := omega) [c_ashlarlaw1_IntSmall, any_pure, hb, ca, f1, a1, a2, a3, b1, b2, b3, b4, b5, b6, b7, c1, if_pos, if_neg, decide_eq_true, decide_eq_false, putElem, putAgg]
  · rw [if_neg hx] at a3
    have e1 : 0 ≤ cmpZ x (-9223372036854775808) ∧ ¬ cmpZ x 9223372036854775807 ≤ 0 ∨ ¬ 0 ≤ cmpZ x (-9223372036854775808) := by
      unfold cmpZ
      by_cases h : x < -9223372036854775808
      · right; rw [if_pos h]; omega
      · left
        rw [if_neg h, if_neg (show ¬ x < 9223372036854775807 from by omega), if_neg (show ¬ x = 9223372036854775807 from by omega)]
        refine ⟨?_, by omega⟩
        split <;> omega
    generalize cmpZ x (-9223372036854775808) = s1 at *
    generalize cmpZ x 9223372036854775807 = s2 at *
    rcases e1 with ⟨e1, e2⟩ | e1
    · simp (disch := omega) [c_ashlarlaw1_IntSmall, any_pure, hb, ca, f1, a1, a2, a3, b1, b2, b3, b4, b5, c1, if_pos, if_neg, decide_eq_true, decide_eq_false, putElem, putAgg]
    · simp (disch := omega) [c_ashlarlaw1_IntSmall, any_pure, hb, ca, f1, a1, a2, a3, b1, b2, b3, b4, b5, c1, if_pos, if_neg, decide_eq_true, decide_eq_false, putElem, putAgg]

theorem int_power (hb : pureCall (run F) 22 [] = some (.bool true)) (na ra : Bool) (la : List Nat) (hla : Lim la) (ha : la.length < 2^63) (n : Int) (n0 : -9223372036854775808 ≤ n) (n1 : n < 9223372036854775808) :
    pureCall (run F) 63 [.agg [.bool na, .slc ra (u32s la)], .int .i64 n] = some (.bool true) := by
  obtain ⟨qa, ca⟩ := pc_cut (F := F) na ra la ha
  have ia := isI_cut na qa hla
  generalize sgn na (ev (la.take 24)) = x at ia
  have xl := isI_lt ia
  obtain ⟨k1, f1⟩ := rfrom (F := F) ia (by decide)
  have dx := dwl xl
  have hbl := bl_lim xl
  have a1 := power_is (F := F) ia (by decide) n n0 n1
  have b1 := rBits (F := F) k1 x (by omega)
  refine pure_ret h2.ashlarlaw1_IntPower rfl ?_
  by_cases hn : n < 0
  · rw [if_pos hn] at a1
    simp (disch := omega) [c_ashlarlaw1_IntPower, any_pure, hb, ca, f1, a1, b1, if_pos, if_neg, decide_eq_true, decide_eq_false, putElem, putAgg]
  · rw [if_neg hn] at a1
    obtain ⟨N, rfl⟩ : ∃ N : Nat, n = N := ⟨n.toNat, by omega⟩
    simp only [Int.toNat_natCast] at a1
    rcases Nat.lt_or_ge 1 (bl x.natAbs) with hb1 | hb1
    · have htd : (1048576 : Int).tdiv ((bl x.natAbs : Nat) : Int) = ((1048576 / bl x.natAbs : Nat) : Int) := tdiv_nat 1048576 (bl x.natAbs)
      have hle : 1048576 / bl x.natAbs ≤ 1048576 := Nat.div_le_self _ _
      have hb0 : ¬ bl x.natAbs = 0 := by omega
      by_cases hbig : 1048576 / bl x.natAbs < N
      · rw [if_pos ⟨hb1, hbig⟩] at a1
        generalize 1048576 / bl x.natAbs = w at *
        simp (disch := omega) [c_ashlarlaw1_IntPower, any_pure, hb, ca, f1, a1, b1, htd, hb0, wrap_i64, if_pos, if_neg, decide_eq_true, decide_eq_false, putElem, putAgg]
      · rw [if_neg (fun h => hbig h.2)] at a1
        rcases Nat.lt_or_ge 20 N with h20 | h20
        · generalize 1048576 / bl x.natAbs = w at *
          simp (disch := omega) [c_ashlarlaw1_IntPower, any_pure, hb, ca, f1, a1, b1, htd, hb0, wrap_i64, if_pos, if_neg, decide_eq_true, decide_eq_false, putElem, putAgg]
        · have hbn : bl x.natAbs * N ≤ 32 * 24 * 20 := Nat.mul_le_mul hbl h20
          obtain ⟨k2, b2⟩ := rPower (F := F) k1 x N (by omega) (by omega) (by omega)
          obtain ⟨K, hK⟩ : ∃ K : Nat, K = 481 := ⟨_, rfl⟩
          have hpl : (x ^ N).natAbs < B32 ^ K := by
            rw [Int.natAbs_pow, B32_pow]
            have h1 := bl_pow_le x.natAbs N
            have h2 : 2 ^ (bl x.natAbs * N + 1) ≤ 2 ^ (32 * K) := Nat.pow_le_pow_right (by decide) (by omega)
            omega
          have c1 := is_true (F := F) k2 _ hpl (by omega)
          clear hpl hbn
          generalize 1048576 / bl x.natAbs = w at *
          generalize x ^ N = z at *
          simp (disch := omega) [c_ashlarlaw1_IntPower, any_pure, hb, ca, f1, a1, b1, b2, c1, htd, hb0, wrap_i64, if_pos, if_neg, decide_eq_true, decide_eq_false, putElem, putAgg]
    · rw [if_neg (fun h => by omega)] at a1
      have hx1 : x.natAbs < 2 := by
        have := (bl_le (n := x.natAbs) (k := 1)).1 hb1
        simpa using this
      obtain ⟨k2, b2⟩ := rof (F := F) 1 (by decide) (by decide)
      have c1 := is_true (F := F) k2 1 (n := 1) (by decide) (by decide)
      have c2 := is_true (F := F) k1 x (n := 1) (by show x.natAbs < 4294967296; omega) (by decide)
      have htm := tmod2 N
      have hz : (N = 0 ∨ (N % 2 = 0 ∧ bl x.natAbs = 1)) → x ^ N = 1 := by
        rintro (rfl | ⟨h1, h2⟩)
        · exact Int.pow_zero _
        · have h3 : x ≠ 0 := by rintro rfl; exact absurd h2 (by decide)
          rcases (by omega : x = 1 ∨ x = -1) with rfl | rfl
          · exact Int.one_pow
          · have := sgn_pow_even (a := 1) (s := true) h1
            rw [Nat.one_pow] at this
            exact this
      have hz2 : ¬ (N = 0 ∨ (N % 2 = 0 ∧ bl x.natAbs = 1)) → x ^ N = x := by
        intro hc
        rcases (by omega : x = 0 ∨ x = 1 ∨ x = -1) with rfl | rfl | rfl
        · exact Int.zero_pow (fun h => hc (.inl h))
        · exact Int.one_pow
        · have hodd : N % 2 = 1 := by
            rcases Nat.mod_two_eq_zero_or_one N with h | h
            · exact absurd (.inr ⟨h, by decide⟩) hc
            · exact h
          have := sgn_pow_odd (a := 1) (s := true) hodd
          rw [Nat.one_pow] at this
          exact this
      generalize bl x.natAbs = B at *
      generalize x ^ N = z at *
      by_cases hN0 : N = 0
      · have := hz (.inl hN0)
        subst this
        clear hz hz2
        simp (disch := omega) [c_ashlarlaw1_IntPower, any_pure, hb, ca, f1, a1, b1, b2, c1, if_pos, if_neg, decide_eq_true, decide_eq_false, putElem, putAgg]
      · by_cases h2 : N % 2 = 0
        · rw [h2] at htm
          by_cases hB : B = 1
          · have := hz (.inr ⟨h2, hB⟩)
            subst this
            clear hz hz2
            simp (disch := omega) [c_ashlarlaw1_IntPower, any_pure, hb, ca, f1, a1, b1, b2, c1, hN0, htm, hB, if_pos, if_neg, decide_eq_true, decide_eq_false, putElem, putAgg]
          · have := hz2 (fun h => h.elim hN0 (fun h => hB h.2))
            subst this
            clear hz hz2
            simp (disch := omega) [c_ashlarlaw1_IntPower, any_pure, hb, ca, f1, a1, b1, b2, c2, hN0, htm, hB, if_pos, if_neg, decide_eq_true, decide_eq_false, putElem, putAgg]
        · have h1 : N % 2 = 1 := by omega
          rw [h1] at htm
          have := hz2 (fun h => h.elim hN0 (fun h => h2 h.1))
          subst this
          clear hz hz2
          simp (disch := omega) [c_ashlarlaw1_IntPower, any_pure, hb, ca, f1, a1, b1, b2, c2, hN0, htm, if_pos, if_neg, decide_eq_true, decide_eq_false, putElem, putAgg]
end Go.Ash
/- What a law is handed, as trees: plain data of any shape. -/
namespace Go.Ash
open Go.RowKit

def isStructT (P : Program) (t : TypeId) : Bool := match P.underlying t with | some (.struct _) => true | _ => false

/-- Fields that lie one behind the other. -/
def tiles (P : Program) : Nat → List Field → Option Nat
  | o, [] => some o
  | o, f :: fs => if f.offset = o then tiles P (o + P.cellsOf f.type) fs else none

def plainTy (P : Program) : Nat → TypeId → Bool
  | 0, _ => false
  | k + 1, t => match P.underlying t with
    | some .bool | some (.int _) | some .string => true
    | some (.slice e) => plainTy P k e && decide (0 < P.cellsOf e)
    | some (.struct fs) => fs.toList.all (fun f => plainTy P k f.type) && decide (tiles P 0 fs.toList = some (P.cellsOf t))
    | _ => false

def mkA (agg : Bool) (ys : List AVal) : AVal := if agg then .agg ys else ys.headD .und

/-- What the cells of a type show. -/
def ShapeC (P : Program) : Nat → TypeId → List AVal → Prop
  | 0, _, _ => False
  | k + 1, t, as => match P.underlying t with
    | some .bool => ∃ b, as = [.bool b]
    | some (.int kd) => ∃ n, as = [.int kd n] ∧ kd.min ≤ n ∧ n ≤ kd.max
    | some .string => ∃ s : ByteArray, as = [.str s] ∧ s.size ≤ maxLen
    | some (.slice e) => as = [.slc true []] ∨ ∃ xs, as = [.slc false xs] ∧ xs.length ≤ maxLen ∧ ∀ x ∈ xs, ∃ ys, x = mkA (isStructT P e) ys ∧ ShapeC P k e ys
    | some (.struct fs) => as.length = P.cellsOf t ∧ ∀ f ∈ fs.toList, ShapeC P k f.type ((as.drop f.offset).take (P.cellsOf f.type))
    | _ => False

theorem shape_one {P : Program} {k : Nat} {t : TypeId} {ys : List AVal} (h : ShapeC P k t ys) (hs : isStructT P t = false) : ∃ c, ys = [c] ∧ c.cells = [c] := by
  cases k with
  | zero => exact h.elim
  | succ k =>
    unfold ShapeC at h
    unfold isStructT at hs
    split at h
    · obtain ⟨b, rfl⟩ := h; exact ⟨_, rfl, rfl⟩
    · obtain ⟨n, rfl, _⟩ := h; exact ⟨_, rfl, rfl⟩
    · obtain ⟨s, rfl, _⟩ := h; exact ⟨_, rfl, rfl⟩
    · rcases h with rfl | ⟨xs, rfl, _⟩ <;> exact ⟨_, rfl, rfl⟩
    · rename_i ht; rw [ht] at hs; simp at hs
    · exact h.elim

theorem mkA_cells {P : Program} {k : Nat} {t : TypeId} {ys : List AVal} (h : ShapeC P k t ys) : (mkA (isStructT P t) ys).cells = ys := by
  unfold mkA
  split
  · rfl
  · rename_i hs
    obtain ⟨c, rfl, hc⟩ := shape_one h (by simpa using hs)
    exact hc

theorem mkA_ids {agg : Bool} {ys : List AVal} (h : idsL ys = []) : (mkA agg ys).ids = [] := by
  unfold mkA
  split
  · exact h
  · cases ys with
    | nil => rfl
    | cons y ys => simp only [idsL, List.append_eq_nil_iff] at h; exact h.1

section
variable {L : Link} {H : Type} {enc : TypeId × Value → H} {w : World} {base : Nat} {spare : Nat → Bool} {held : Bool}

def RowRead (L : Link) (w : World) (cs : List Value) (as : List AVal) : Prop :=
  as.length = cs.length ∧ idsL as = [] ∧ ∀ (i : Nat) (c : AVal) (u : Value), as[i]? = some c → cs[i]? = some u → Reps L w (fun _ => False) (fun _ => none) u c

theorem idsL_append : ∀ (a b : List AVal), idsL (a ++ b) = idsL a ++ idsL b
  | [], b => rfl
  | x :: a, b => by simp only [List.cons_append, idsL, idsL_append a b, List.append_assoc]

theorem RowRead.append {c1 c2 : List Value} {a1 a2 : List AVal} (h1 : RowRead L w c1 a1) (h2 : RowRead L w c2 a2) : RowRead L w (c1 ++ c2) (a1 ++ a2) := by
  obtain ⟨l1, i1, r1⟩ := h1
  obtain ⟨l2, i2, r2⟩ := h2
  refine ⟨by simp [l1, l2], by rw [idsL_append, i1, i2]; rfl, ?_⟩
  intro i c u hc hu
  by_cases hi : i < a1.length
  · rw [List.getElem?_append_left hi] at hc
    rw [List.getElem?_append_left (by omega)] at hu
    exact r1 i c u hc hu
  · rw [List.getElem?_append_right (by omega)] at hc
    rw [List.getElem?_append_right (by omega), ← l1] at hu
    exact r2 _ c u hc hu

theorem rowRead_one {u : Value} {c : AVal} (hi : c.ids = []) (h : Reps L w (fun _ => False) (fun _ => none) u c) : RowRead L w [u] [c] := by
  refine ⟨rfl, by simp [idsL, hi], ?_⟩
  intro i c' u' hc hu
  cases i with
  | zero => simp at hc hu; subst hc; subst hu; exact h
  | succ i => simp at hc

theorem cell_spot_none {a : Addr} {i s j : Nat} {u : Value} (h0 : a.spot = none) (h : w.cell? ((a.add (i * s)).add j) = some u) : w.cell? ⟨a.block, a.off + (i * s + j), none⟩ = some u := by
  rw [addr_add h0, Addr.add_lit] at h
  rw [← Nat.add_assoc]; exact h

theorem open_cells : ∀ (k : Nat) (t : TypeId), plainTy L.P k t = true → ∀ (fuel : Nat) (cs : List Value) (x : DataW H × List MemPlace), DataW.trod enc L.P w base spare held fuel t cs = some x →
    ∃ as, RowRead L w cs as ∧ ShapeC L.P k t as
  | 0, _, h => by simp [plainTy] at h
  | k + 1, t, hp => by
    intro fuel cs x hx
    unfold plainTy at hp
    split at hp
    · rename_i ht
      obtain ⟨b, rfl, _⟩ := DataW.trod_bool ht hx
      exact ⟨[.bool b], rowRead_one rfl (.bool b), by unfold ShapeC; rw [ht]; exact ⟨b, rfl⟩⟩
    · rename_i kd ht
      obtain ⟨n, rfl, _, hw⟩ := DataW.trod_int ht hx
      simp only [Lit.wf, Bool.and_eq_true, decide_eq_true_eq] at hw
      exact ⟨[.int kd n], rowRead_one rfl (.int kd n), by unfold ShapeC; rw [ht]; exact ⟨n, rfl, hw.1, hw.2⟩⟩
    · rename_i ht
      obtain ⟨s, rfl, _, hs⟩ := DataW.trod_string ht hx
      exact ⟨[.str s], rowRead_one rfl (.str s), by unfold ShapeC; rw [ht]; exact ⟨s, rfl, hs⟩⟩
    · rename_i e ht
      simp only [Bool.and_eq_true, decide_eq_true_eq] at hp
      obtain ⟨hpe, hpos⟩ := hp
      rcases DataW.trod_slice ht hx with ⟨rfl, _⟩ | ⟨a, len, cap, elems, rest, n, _, rfl, _, hb, hl, hm, hlen, hel, _, _⟩
      · exact ⟨[.slc true []], rowRead_one rfl .nils, by unfold ShapeC; rw [ht]; exact .inl rfl⟩
      · have each : ∀ i, i < len → ∃ ci as, (∀ j, j < L.P.cellsOf e → w.cell? ((a.add (i * L.P.cellsOf e)).add j) = ci[j]?) ∧ ci.length = L.P.cellsOf e ∧ RowRead L w ci as ∧ ShapeC L.P k e as := by
          intro i hi
          have h1 := hel i hi
          rw [List.getElem?_eq_getElem (by omega), Option.bind_eq_some_iff] at h1
          obtain ⟨ci, hci, htr⟩ := h1
          obtain ⟨_, hcl, hcell⟩ := World.cells?_some hci
          obtain ⟨as, hr, hs⟩ := open_cells k e hpe n ci _ htr
          exact ⟨ci, as, hcell, hcl, hr, hs⟩
        have hch : ∃ f : Nat → List AVal, ∀ i, i < len → ∃ ci, (∀ j, j < L.P.cellsOf e → w.cell? ((a.add (i * L.P.cellsOf e)).add j) = ci[j]?) ∧ ci.length = L.P.cellsOf e ∧ RowRead L w ci (f i) ∧ ShapeC L.P k e (f i) := by
          refine ⟨fun i => if h : i < len then Classical.choose (Classical.choose_spec (each i h)) else [], fun i h => ?_⟩
          simp only [dif_pos h]
          exact ⟨_, Classical.choose_spec (Classical.choose_spec (each i h))⟩
        obtain ⟨f, hf⟩ := hch
        have hxl : ((List.range len).map fun i => mkA (isStructT L.P e) (f i)).length = len := by simp
        have hget : ∀ (i : Nat) (y : AVal), ((List.range len).map fun i => mkA (isStructT L.P e) (f i))[i]? = some y → i < len ∧ y = mkA (isStructT L.P e) (f i) := by
          intro i y hy
          have hi : i < len := by have := lt_of_getx hy; rw [hxl] at this; exact this
          simp [hi] at hy
          exact ⟨hi, hy.symm⟩
        have hspot : 0 < len → a.spot = none := by
          intro h0
          obtain ⟨ci, hc, hcl, _, _⟩ := hf 0 h0
          have := hc 0 hpos
          rw [List.getElem?_eq_getElem (by omega)] at this
          have h2 := World.cell?_spot this
          simpa [Addr.add] using h2
        have hcell : ∀ (i : Nat) (y : AVal) (j : Nat) (c : AVal), ((List.range len).map fun i => mkA (isStructT L.P e) (f i))[i]? = some y → y.cells[j]? = some c →
            ∃ u, w.cell? ⟨a.block, a.off + (i * L.P.cellsOf e + j), none⟩ = some u ∧ Reps L w (fun _ => False) (fun _ => none) u c := by
          intro i y j c hy hj
          obtain ⟨hi, rfl⟩ := hget i y hy
          obtain ⟨ci, hc, hcl, ⟨hl1, _, hrep⟩, hs⟩ := hf i hi
          rw [mkA_cells hs] at hj
          have hjl : j < L.P.cellsOf e := by have := lt_of_getx hj; omega
          have h1 := hc j hjl
          rw [List.getElem?_eq_getElem (by omega)] at h1
          exact ⟨_, cell_spot_none (hspot (by omega)) h1, hrep j c _ hj (List.getElem?_eq_getElem (by omega))⟩
        refine ⟨[.slc false ((List.range len).map fun i => mkA (isStructT L.P e) (f i))], rowRead_one rfl ?_, ?_⟩
        · have := Reps.slc (L := L) (w := w) (B := fun _ => False) (m := fun _ => none) a (L.P.cellsOf e) cap ((List.range len).map fun i => mkA (isStructT L.P e) (f i))
            (fun i j => (w.cell? ⟨a.block, a.off + (i * L.P.cellsOf e + j), none⟩).getD undef) (fun hne => hspot (by
              rcases Nat.eq_zero_or_pos len with h | h
              · subst h; simp at hne
              · exact h)) (by rw [hxl]; exact hl) (by
              intro i y hy
              obtain ⟨hi, rfl⟩ := hget i y hy
              obtain ⟨ci, _, hcl, ⟨hl1, _, _⟩, hs⟩ := hf i hi
              rw [mkA_cells hs]; omega) (ids_of_mem fun i y hy => by
              obtain ⟨hi, rfl⟩ := hget i y hy
              obtain ⟨ci, _, _, ⟨_, hids, _⟩, _⟩ := hf i hi
              exact mkA_ids hids) (by
              intro i y j c hy hj
              obtain ⟨u, hu, _⟩ := hcell i y j c hy hj
              rw [hu]; rfl) (by
              intro i y j c hy hj
              obtain ⟨u, hu, hr⟩ := hcell i y j c hy hj
              rw [hu]; exact hr) (by
              intro hne
              refine ⟨fun h => h, ?_⟩
              have h0 : 0 < len := by
                rcases Nat.eq_zero_or_pos len with h | h
                · subst h; simp at hne
                · exact h
              obtain ⟨ci, hc, hcl, _, _⟩ := hf 0 h0
              have h1 := hc 0 hpos
              rw [List.getElem?_eq_getElem (by omega)] at h1
              have hblk : ((a.add (0 * L.P.cellsOf e)).add 0).block = a.block := by rw [ChangeShapes.block_add, ChangeShapes.block_add]
              unfold World.cell? at h1
              rw [hblk] at h1
              rcases Nat.lt_or_ge a.block w.heap.size with h | h
              · exact h
              · rw [Array.getElem?_eq_none h] at h1; simp at h1)
          rw [hxl] at this
          exact this
        · unfold ShapeC
          rw [ht]
          refine .inr ⟨_, rfl, by rw [hxl]; omega, ?_⟩
          intro y hy
          obtain ⟨i, hi⟩ := List.mem_iff_getElem?.1 hy
          obtain ⟨hil, rfl⟩ := hget i y hi
          obtain ⟨_, _, _, _, hs⟩ := hf i hil
          exact ⟨f i, rfl, hs⟩
    · rename_i fs ht
      simp only [Bool.and_eq_true, decide_eq_true_eq, List.all_eq_true] at hp
      obtain ⟨hpf, htile⟩ := hp
      obtain ⟨xs, n, _, _, hcl, hxl, hfd⟩ := DataW.trod_struct ht hx
      have each : ∀ f ∈ fs.toList, ∃ as, RowRead L w ((cs.drop f.offset).take (L.P.cellsOf f.type)) as ∧ ShapeC L.P k f.type as := by
        intro f hf
        obtain ⟨i, hi⟩ := List.mem_iff_getElem?.1 hf
        have h1 := hfd i f (by simpa using hi)
        have hil : i < xs.length := by
          rw [hxl]
          have := lt_of_getx hi
          simpa using this
        rw [List.getElem?_eq_getElem hil] at h1
        exact open_cells k f.type (hpf f hf) n _ _ h1
      -- one field behind the other
      have build : ∀ (l : List Field) (o top : Nat), tiles L.P o l = some top → o ≤ cs.length → top = cs.length → (∀ f ∈ l, ∃ as, RowRead L w ((cs.drop f.offset).take (L.P.cellsOf f.type)) as ∧ ShapeC L.P k f.type as) →
          ∃ as, RowRead L w (cs.drop o) as ∧ ∀ f ∈ l, o ≤ f.offset ∧ ShapeC L.P k f.type ((as.drop (f.offset - o)).take (L.P.cellsOf f.type)) := by
        intro l
        induction l with
        | nil =>
          intro o top hti ho htop _
          simp only [tiles, Option.some.injEq] at hti
          refine ⟨[], ⟨?_, rfl, fun i c u hc => by simp at hc⟩, fun f hf => by cases hf⟩
          simp; omega
        | cons f l ih =>
          intro o top hti ho htop hall
          simp only [tiles] at hti
          split at hti
          · rename_i hfo
            obtain ⟨a1, hr1, hs1⟩ := hall f (by simp)
            have hle : o + L.P.cellsOf f.type ≤ cs.length := by
              have : ∀ (l : List Field) (p q : Nat), tiles L.P p l = some q → p ≤ q := by
                intro l
                induction l with
                | nil => intro p q h; simp only [tiles, Option.some.injEq] at h; omega
                | cons g l ih => intro p q h; simp only [tiles] at h; split at h; · have := ih _ _ h; omega
                                 · simp at h
              have := this _ _ _ hti; omega
            obtain ⟨a2, hr2, hs2⟩ := ih _ top hti hle htop (fun g hg => hall g (by simp [hg]))
            rw [hfo] at hr1
            have hl1 : a1.length = L.P.cellsOf f.type := by rw [hr1.1]; simp; omega
            have hsplit : cs.drop o = (cs.drop o).take (L.P.cellsOf f.type) ++ cs.drop (o + L.P.cellsOf f.type) := by
              rw [← List.drop_drop, List.take_append_drop]
            refine ⟨a1 ++ a2, by rw [hsplit]; exact hr1.append hr2, ?_⟩
            intro g hg
            rcases List.mem_cons.1 hg with rfl | hg
            · refine ⟨by omega, ?_⟩
              rw [hfo, Nat.sub_self, List.drop_zero, List.take_append_of_le_length (by omega), List.take_of_length_le (by omega)]
              exact hs1
            · obtain ⟨h1, h2⟩ := hs2 g hg
              refine ⟨by omega, ?_⟩
              rw [List.drop_append, List.drop_of_length_le (by omega), List.nil_append]
              rw [show g.offset - o - a1.length = g.offset - (o + L.P.cellsOf f.type) from by omega]
              exact h2
          · simp at hti
      obtain ⟨as, hr, hs⟩ := build fs.toList 0 _ htile (by omega) hcl.symm each
      simp only [List.drop_zero] at hr
      refine ⟨as, hr, ?_⟩
      unfold ShapeC
      rw [ht]
      refine ⟨by rw [hr.1, hcl], fun f hf => ?_⟩
      have := (hs f hf).2
      simpa using this
    · simp at hp

/-- An argument as a tree. -/
theorem open_arg {r : Reach} {b0 k : Nat} {t : TypeId} {v : Value} {d : DataW H} {ps : List MemPlace} (hp : plainTy L.P k t = true) (hval : Value.okWide L.P w r b0 t v)
    (hd : DataW.Trod enc L.P w base spare held t v d ps) : ∃ ys, Reps L w (fun _ => False) (fun _ => none) v (mkA (isStructT L.P t) ys) ∧ (mkA (isStructT L.P t) ys).ids = [] ∧ ShapeC L.P k t ys := by
  obtain ⟨fuel, hx⟩ := hd
  obtain ⟨as, ⟨hl, hids, hrep⟩, hs⟩ := open_cells k t hp fuel _ _ hx
  refine ⟨as, ?_, mkA_ids hids, hs⟩
  unfold mkA
  split
  · rename_i hst
    unfold isStructT at hst
    unfold Value.okWide at hval
    split at hst
    · rename_i fs ht
      rw [ht] at hval
      obtain ⟨cs, rfl, _, _⟩ := hval
      have hcs : (Value.agg cs).cells.toList = cs.toList := rfl
      rw [hcs] at hl hrep
      refine .agg cs as (by simpa using hl.symm) fun i c hc => ?_
      have hi : i < cs.size := by have := lt_of_getx hc; simp at hl; omega
      refine hrep i c _ hc ?_
      simp [Array.getD, hi]
    · simp at hst
  · rename_i hst
    obtain ⟨c, rfl, hc⟩ := shape_one hs (by simpa using hst)
    have hone : v.cells.toList = [v] := by
      cases v <;> first | rfl | skip
      rename_i vs
      exfalso
      unfold Value.okWide at hval
      unfold isStructT at hst
      cases ht : L.P.underlying t with
      | none => rw [ht] at hval; simp [Cell.okWide, ht, Cell.ok] at hval
      | some d =>
        rw [ht] at hval hst
        cases d <;> simp [Cell.okWide, ht, Cell.ok] at hval hst
        cases k with
        | zero => simp [plainTy] at hp
        | succ k => unfold plainTy at hp; rw [ht] at hp; simp at hp
    rw [hone] at hrep
    exact hrep 0 c v rfl rfl
end

/-- A law's call: it answers true, and nothing that was there is touched. -/
theorem law_calls {L : Link} {call : CallF} (hcall : CallOk L call) {f : Nat} (hok : L.ok f) {args : Array Value} {as : List AVal} {H : Heap} (hc : call f as [] = some (.bool true, H)) {W : World}
    (hl : args.size = as.length) (hr : ∀ (i : Nat) (a : AVal), as[i]? = some a → Reps L W (fun _ => False) (fun _ => none) (args.getD i undef) a) :
    Calls L.P (L.fn f) args W fun e W' => e = .returned (.bool true) ∧ Below W.heap.size W W' := by
  have hB : ∀ b, ¬ Bof (fun _ => False) (Heap.at []) (fun _ => none) b := by
    rintro b (h | ⟨id, k, p, hk, _⟩)
    · exact h
    · simp [Heap.at] at hk
  have s0 : Sim L (fun _ => False) W (Heap.at []) (fun _ => none) :=
    ⟨fun b hb => hb.elim, fun id k hk => by simp [Heap.at] at hk, fun id1 id2 k1 k2 p1 p2 h1 => by simp [Heap.at] at h1⟩
  refine (hcall f as [] _ H hc hok (fun _ => False) W (fun _ => none) args s0 (fun _ _ h => by cases h) hl (fun i a ha => (hr i a ha).less (fun b hb => hB b hb))).mono ?_
  rintro e W' ⟨u, m', rfl, _, _, hf, _, _, hru⟩
  have := hru.bool_inv
  subst this
  exact ⟨rfl, ⟨hf.ext.rest.1, hf.ext.rest.2.1, hf.ext.rest.2.2, hf.ext.size, fun k hk => hf.ext.old k hk (by
    rintro ⟨id, kb, p, hk', _⟩
    simp [Heap.at] at hk')⟩⟩
end Go.Ash
/- Integers among what a law is handed; a law's call from its run. -/
namespace Go.Ash
open Go.RowKit

/-- The type of integers: a sign and a slice of limbs. -/
structure IntTy (P : Program) (t : TypeId) : Prop where
  ex : ∃ (f0 f1 : Field) (e : TypeId), P.underlying t = some (.struct #[f0, f1]) ∧ f0.offset = 0 ∧ f1.offset = 1 ∧ P.cellsOf t = 2 ∧ P.cellsOf f0.type = 1 ∧ P.cellsOf f1.type = 1 ∧
    P.underlying f0.type = some .bool ∧ P.underlying f1.type = some (.slice e) ∧ P.underlying e = some (.int .u32)

theorem ints_list {P : Program} {k : Nat} {e : TypeId} (he : P.underlying e = some (.int .u32)) : ∀ (xs : List AVal), (∀ x ∈ xs, ∃ ys, x = mkA (isStructT P e) ys ∧ ShapeC P k e ys) → ∃ l, xs = u32s l ∧ Lim l
  | [], _ => ⟨[], rfl, fun x hx => by cases hx⟩
  | x :: xs, h => by
    obtain ⟨l, rfl, hl⟩ := ints_list he xs (fun y hy => h y (by simp [hy]))
    obtain ⟨ys, rfl, hs⟩ := h x (by simp)
    cases k with
    | zero => exact hs.elim
    | succ k =>
      unfold ShapeC at hs
      rw [he] at hs
      obtain ⟨n, rfl, h1, h2⟩ := hs
      have hst : isStructT P e = false := by unfold isStructT; rw [he]
      have h1' : 0 ≤ n := h1
      have h2' : n ≤ 4294967295 := h2
      refine ⟨n.toNat :: l, ?_, ?_⟩
      · simp only [hst, mkA, u32s, List.map_cons, Int.toNat_of_nonneg h1']
        rfl
      · intro y hy
        show y < 4294967296
        rcases List.mem_cons.1 hy with rfl | hy
        · omega
        · exact hl y hy

theorem shape_int {P : Program} {k : Nat} {t : TypeId} (ht : IntTy P t) {ys : List AVal} (h : ShapeC P k t ys) :
    ∃ neg r l, mkA (isStructT P t) ys = .agg [.bool neg, .slc r (u32s l)] ∧ Lim l ∧ l.length < 2^63 := by
  obtain ⟨f0, f1, e, h1, o0, o1, c, c0, c1, hb, hs, he⟩ := ht.ex
  have hst : isStructT P t = true := by unfold isStructT; rw [h1]
  cases k with
  | zero => exact h.elim
  | succ k =>
    unfold ShapeC at h
    rw [h1] at h
    obtain ⟨hlen, hf⟩ := h
    have g0 := hf f0 (by simp)
    have g1 := hf f1 (by simp)
    rw [c] at hlen
    match ys, hlen with
    | [y0, y1], _ =>
      rw [o0, c0] at g0
      rw [o1, c1] at g1
      simp only [List.drop_zero, List.take_succ_cons, List.take_zero, List.drop_succ_cons] at g0 g1
      cases k with
      | zero => exact g0.elim
      | succ k =>
        unfold ShapeC at g0 g1
        rw [hb] at g0
        rw [hs] at g1
        obtain ⟨b, hb'⟩ := g0
        have hy0 : y0 = .bool b := by simpa using hb'
        subst hy0
        rcases g1 with hy1 | ⟨xs, hy1, hle, hxs⟩
        · have : y1 = .slc true [] := by simpa using hy1
          subst this
          exact ⟨b, true, [], by rw [hst]; rfl, (fun x hx => absurd hx (by simp)), by decide⟩
        · have : y1 = .slc false xs := by simpa using hy1
          subst this
          obtain ⟨l, rfl, hl⟩ := ints_list he xs hxs
          refine ⟨b, false, l, by rw [hst]; rfl, hl, ?_⟩
          rw [length_u32s] at hle
          have : maxLen = 9223372036854775807 := rfl
          omega

theorem shape_i64 {P : Program} {k : Nat} {t : TypeId} (ht : P.underlying t = some (.int .i64)) {ys : List AVal} (h : ShapeC P k t ys) :
    ∃ n, mkA (isStructT P t) ys = .int .i64 n ∧ -9223372036854775808 ≤ n ∧ n < 9223372036854775808 := by
  have hst : isStructT P t = false := by unfold isStructT; rw [ht]
  cases k with
  | zero => exact h.elim
  | succ k =>
    unfold ShapeC at h
    rw [ht] at h
    obtain ⟨n, rfl, h1, h2⟩ := h
    have h1' : -9223372036854775808 ≤ n := h1
    have h2' : n ≤ 9223372036854775807 := h2
    exact ⟨n, by rw [hst]; rfl, h1', by omega⟩

theorem shape_str {P : Program} {k : Nat} {t : TypeId} (ht : P.underlying t = some .string) {ys : List AVal} (h : ShapeC P k t ys) :
    ∃ s : ByteArray, mkA (isStructT P t) ys = .str s ∧ s.size < 9223372036854775808 := by
  have hst : isStructT P t = false := by unfold isStructT; rw [ht]
  cases k with
  | zero => exact h.elim
  | succ k =>
    unfold ShapeC at h
    rw [ht] at h
    obtain ⟨s, rfl, h1⟩ := h
    have : maxLen = 9223372036854775807 := rfl
    exact ⟨s, by rw [hst]; rfl, by omega⟩

/-- A law's call, from its run. -/
theorem law_pure {L : Link} {call : CallF} (hcall : CallOk L call) {f : Nat} (hok : L.ok f) {args : Array Value} {as : List AVal} (hc : pureCall call f as = some (.bool true)) {W : World}
    (hids : idsL as = []) (hl : args.size = as.length) (hr : ∀ (i : Nat) (a : AVal), as[i]? = some a → Reps L W (fun _ => False) (fun _ => none) (args.getD i undef) a) :
    Calls L.P (L.fn f) args W fun e W' => e = .returned (.bool true) ∧ Below W.heap.size W W' := by
  have hB : ∀ b, ¬ Bof (fun _ => False) (Heap.at []) (fun _ => none) b := by
    rintro b (h | ⟨id, k, p, hk, _⟩)
    · exact h
    · simp [Heap.at] at hk
  have s0 : Sim L (fun _ => False) W (Heap.at []) (fun _ => none) :=
    ⟨fun b hb => hb.elim, fun id k hk => by simp [Heap.at] at hk, fun id1 id2 k1 k2 p1 p2 h1 => by simp [Heap.at] at h1⟩
  refine (pureCall_ok hcall hc hok s0 hids hl (fun i a ha => (hr i a ha).less (fun b hb => hB b hb))).mono ?_
  rintro e W' ⟨u, rfl, hext, hru⟩
  have := hru.bool_inv
  subst this
  exact ⟨rfl, ⟨hext.rest.1, hext.rest.2.1, hext.rest.2.2, hext.size, fun k hk => hext.old k hk (fun h => h)⟩⟩
end Go.Ash
