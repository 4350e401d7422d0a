/- The law IntRing answers true. -/
import Derived.Test.YtaojijahpdnjhaaAshRefEq
set_option linter.all false
namespace Go.Ash
variable {F : Nat → Option RFunc} [h : CodeLimbs F] [h1 : CodeRef1 F] [h2 : CodeLaw1 F]

theorem pow_lt {a : Nat} {m n : Nat} (h : a < B32 ^ m) (hmn : m ≤ n) : a < B32 ^ n := Nat.lt_of_lt_of_le h (Nat.pow_le_pow_right (by decide) hmn)

theorem isI_cut (neg r : Bool) {l : List Nat} (hl : Lim l) : IsI (.agg [.bool neg, .slc r (u32s (l.take 24))]) (sgn neg (ev (l.take 24))) 24 :=
  ⟨neg, r, l.take 24, rfl, lim_take hl 24, by rw [List.length_take]; omega, rfl⟩

theorem eq_is {x y : Int} {m n : Nat} (hx : x.natAbs < B32 ^ m) (hy : y.natAbs < B32 ^ n) (hm : m < 2^40) (hn : n < 2^40) : pureCall (run F) 44 [IV x, IV y] = some (.bool (decide (x = y))) :=
  eq_IV (by have := D_len_le hx; omega) (by have := D_len_le hy; omega)

theorem int_ring (hb : pureCall (run F) 22 [] = some (.bool true)) (na ra nb rb nc rc : Bool) (la lb lc : List Nat) (hla : Lim la) (hlb : Lim lb) (hlc : Lim lc)
    (ha : la.length < 2^63) (hb' : lb.length < 2^63) (hc : lc.length < 2^63) :
    pureCall (run F) 47 [.agg [.bool na, .slc ra (u32s la)], .agg [.bool nb, .slc rb (u32s lb)], .agg [.bool nc, .slc rc (u32s lc)]] = some (.bool true) := by
  obtain ⟨qa, ca⟩ := pc_cut (F := F) na ra la ha
  obtain ⟨qb, cb⟩ := pc_cut (F := F) nb rb lb hb'
  obtain ⟨qc, cc⟩ := pc_cut (F := F) nc rc lc hc
  have ia := isI_cut na qa hla
  have ib := isI_cut nb qb hlb
  have ic := isI_cut nc qc hlc
  generalize sgn na (ev (la.take 24)) = x at ia
  generalize sgn nb (ev (lb.take 24)) = y at ib
  generalize sgn nc (ev (lc.take 24)) = z at ic
  have xl := isI_lt ia
  have yl := isI_lt ib
  have zl := isI_lt ic
  have iyz := isI_add yl zl
  have ixy := isI_mul xl yl
  have ixz := isI_mul xl zl
  have iyz' := isI_mul yl zl
  have ixy' := isI_add xl yl
  have a1 := add_is (F := F) ib ic (by decide) (by decide)
  have a2 := mul_is (F := F) ia iyz (by decide) (by decide)
  have a3 := mul_is (F := F) ia ib (by decide) (by decide)
  have a4 := mul_is (F := F) ia ic (by decide) (by decide)
  have a5 := add_is (F := F) ixy ixz (by decide) (by decide)
  have l1 := isI_lt (isI_mul xl (isI_lt iyz))
  have l2 := isI_lt (isI_add (isI_lt ixy) (isI_lt ixz))
  have a6 := eq_is (F := F) l1 l2 (by decide) (by decide)
  rw [decide_eq_true (Int.mul_add x y z)] at a6
  have b1 := mul_is (F := F) ixy ic (by decide) (by decide)
  have b2 := mul_is (F := F) ib ic (by decide) (by decide)
  have b3 := mul_is (F := F) ia iyz' (by decide) (by decide)
  have b4 := eq_is (F := F) (isI_lt (isI_mul (isI_lt ixy) zl)) (isI_lt (isI_mul xl (isI_lt iyz'))) (by decide) (by decide)
  rw [decide_eq_true (Int.mul_assoc x y z)] at b4
  have c1 := add_is (F := F) ia ib (by decide) (by decide)
  have c2 := sub_is (F := F) ixy' ib (by decide) (by decide)
  have c3 := pc_of (F := F) 0 (by decide) (by decide)
  have i0 : IsI (IV 0) 0 24 := isI_IV (by decide)
  have c4 := add_is (F := F) ia i0 (by decide) (by decide)
  have e1 : x + y - y = x := by omega
  have e2 : x + 0 = x := by omega
  rw [e1] at c2
  rw [e2] at c4
  have c5 := eq_is (F := F) xl xl (by decide) (by decide)
  rw [decide_eq_true rfl] at c5
  refine pure_ret h2.ashlarlaw1_IntRing rfl ?_
  simp [c_ashlarlaw1_IntRing, any_pure, hb, ca, cb, cc, a1, a2, a3, a4, a5, a6, b1, b2, b3, b4, c1, c2, c3, c4, c5, putElem, putAgg]
end Go.Ash
