/- Package limbs: Mul, Of; integers in any form. -/
import Derived.Test.YtaojijahpdnjhaaAshLimbs6
set_option linter.all false
namespace Go.Ash
variable {F : Nat → Option RFunc} [h : CodeLimbs F]

theorem pc_mul (na n1 nb n2 : Bool) (la lb : List Nat) (hla : Lim la) (hlb : Lim lb) (h1 : la.length < 2^36) (h2 : lb.length < 2^36) :
    pureCall (run F) 38 [.agg [.bool na, .slc n1 (u32s la)], .agg [.bool nb, .slc n2 (u32s lb)]] = some (IV (sgn na (ev la) * sgn nb (ev lb))) := by
  have hm1 := pc_mag (F := F) na n1 la hla (by omega)
  have hm2 := pc_mag (F := F) nb n2 lb hlb (by omega)
  have hn1 := pc_neg (F := F) na n1 la hla (by omega)
  have hn2 := pc_neg (F := F) nb n2 lb hlb (by omega)
  have hla' := len_D_ev hla
  have hlb' := len_D_ev hlb
  have ht := pc_times (F := F) _ n1 n2 (ev la) (ev lb) (Nat.le_refl _) (by omega) (by omega)
  have hl := D_mul_len (ev la) (ev lb)
  have hd : ∀ s, pureCall (run F) 89 [.bool s, .slc false (u32s (D (ev la * ev lb)))] = some (IV (sgn s (ev la * ev lb))) := fun s => by
    have := pc_made (F := F) s false (D (ev la * ev lb)) (lim_D _) (by omega)
    rwa [ev_D] at this
  have e1 : sgn na (ev la) = sgn (na && decide (ev la ≠ 0)) (ev la) := by cases na <;> by_cases h0 : ev la = 0 <;> simp [sgn, h0]
  have e2 : sgn nb (ev lb) = sgn (nb && decide (ev lb ≠ 0)) (ev lb) := by cases nb <;> by_cases h0 : ev lb = 0 <;> simp [sgn, h0]
  rw [e1, e2]
  generalize (na && decide (ev la ≠ 0)) = s at *
  generalize (nb && decide (ev lb ≠ 0)) = t at *
  have e : sgn s (ev la) * sgn t (ev lb) = sgn (s != t) (ev la * ev lb) := by cases s <;> cases t <;> simp [sgn, Int.neg_mul, Int.mul_neg]
  rw [e]
  refine pure_ret h.limbs_Mul rfl ?_
  cases s <;> cases t <;> simp [c_limbs_Mul, any_pure, hm1, hm2, hn1, hn2, ht, hd, IV, putElem, putAgg]

/-- An integer in some form. -/
def IsI (v : AVal) (z : Int) (n : Nat) : Prop := ∃ neg r l, v = .agg [.bool neg, .slc r (u32s l)] ∧ Lim l ∧ l.length ≤ n ∧ sgn neg (ev l) = z

@[simp] theorem ids_IV (z : Int) : (IV z).ids = [] := by simp [IV]

theorem isI_IV {z : Int} {n : Nat} (hz : z.natAbs < B32 ^ n) : IsI (IV z) z n := by
  refine ⟨_, _, _, rfl, lim_D _, D_len_le hz, ?_⟩
  rw [ev_D]
  unfold sgn
  by_cases h : z < 0 <;> simp [h] <;> omega

theorem isI_lt {v : AVal} {z : Int} {n : Nat} (hv : IsI v z n) : z.natAbs < B32 ^ n := by
  obtain ⟨neg, r, l, _, hl, hn, rfl⟩ := hv
  rw [sgn_abs]
  exact Nat.lt_of_lt_of_le (ev_lt hl) (Nat.pow_le_pow_right (by decide) hn)

theorem add_is {a b : AVal} {x y : Int} {m n : Nat} (ha : IsI a x m) (hb : IsI b y n) (hm : m < 2^36) (hn : n < 2^36) : pureCall (run F) 43 [a, b] = some (IV (x + y)) := by
  obtain ⟨na, ra, la, rfl, hla, hlen, rfl⟩ := ha
  obtain ⟨nb, rb, lb, rfl, hlb, hlenb, rfl⟩ := hb
  exact pc_add na ra nb rb la lb hla hlb (by omega) (by omega)

theorem sub_is {a b : AVal} {x y : Int} {m n : Nat} (ha : IsI a x m) (hb : IsI b y n) (hm : m < 2^36) (hn : n < 2^36) : pureCall (run F) 46 [a, b] = some (IV (x - y)) := by
  obtain ⟨na, ra, la, rfl, hla, hlen, rfl⟩ := ha
  obtain ⟨nb, rb, lb, rfl, hlb, hlenb, rfl⟩ := hb
  exact pc_sub na ra nb rb la lb hla hlb (by omega) (by omega)

theorem mul_is {a b : AVal} {x y : Int} {m n : Nat} (ha : IsI a x m) (hb : IsI b y n) (hm : m < 2^36) (hn : n < 2^36) : pureCall (run F) 38 [a, b] = some (IV (x * y)) := by
  obtain ⟨na, ra, la, rfl, hla, hlen, rfl⟩ := ha
  obtain ⟨nb, rb, lb, rfl, hlb, hlenb, rfl⟩ := hb
  exact pc_mul na ra nb rb la lb hla hlb (by omega) (by omega)

theorem isI_mul {x y : Int} {m n : Nat} (hx : x.natAbs < B32 ^ m) (hy : y.natAbs < B32 ^ n) : IsI (IV (x * y)) (x * y) (m + n) := by
  refine isI_IV ?_
  rw [Int.natAbs_mul, Nat.pow_add]
  exact Nat.mul_lt_mul'' hx hy

theorem isI_add {x y : Int} {m : Nat} (hx : x.natAbs < B32 ^ m) (hy : y.natAbs < B32 ^ m) : IsI (IV (x + y)) (x + y) (m + 1) := by
  refine isI_IV ?_
  rw [Nat.pow_succ]
  have : B32 ^ m * 2 ≤ B32 ^ m * B32 := Nat.mul_le_mul_left _ (by decide)
  omega

theorem hand_two {x : Option Blk} {fz b : Bool} {esz n : Nat} {l : List Nat} (hn : n ≤ l.length) : handOn [.bool b, .mslc 1 0 n] [x, some ⟨fz, esz, u32s l⟩] =
    some ([.bool b, .slc false (u32s (l.take n))], [x, some ⟨true, esz, u32s l⟩]) := by
  have h1 : AVal.tree [x, some ⟨fz, esz, u32s l⟩] 38 (.mslc 1 0 n) = some (.slc false (u32s (l.take n)), [1]) := by
    simp only [AVal.tree, Heap.at, length_u32s, Nat.zero_add, hn, if_true, List.drop_zero, u32s_take, treeL_free (n := 36) (idsL_u32s _), Option.map_some]
  have h2 : treeL [x, some ⟨fz, esz, u32s l⟩] 39 [.mslc 1 0 n] = some ([.slc false (u32s (l.take n))], [1]) := by
    rw [treeL_cons (by simp), h1]; rfl
  have h3 : treeL [x, some ⟨fz, esz, u32s l⟩] fuelTree [.bool b, .mslc 1 0 n] = some ([.bool b, .slc false (u32s (l.take n))], [1]) := by
    unfold fuelTree
    rw [treeL_cons (by simp), h2]; rfl
  simp only [handOn, h3, Option.map_some, idsL, AVal.ids, List.append_nil, List.nil_append, List.cons_ne_nil, if_false]
  rfl

theorem hand_two2 {x : Option Blk} {fz b : Bool} {esz p q : Nat} : handOn [.bool b, .mslc 1 0 2] [x, some ⟨fz, esz, u32s [p, q]⟩] =
    some ([.bool b, .slc false (u32s [p, q])], [x, some ⟨true, esz, u32s [p, q]⟩]) := hand_two (l := [p, q]) (n := 2) (by simp)

theorem u32s_two {p q : Int} (hp : 0 ≤ p) (hq : 0 ≤ q) : [AVal.int .u32 p, AVal.int .u32 q] = u32s [p.toNat, q.toNat] := by
  simp [u32s, Int.toNat_of_nonneg hp, Int.toNat_of_nonneg hq]

theorem place_two (x y a b : Nat) : placeAll (u32s [x, y]) [0, 1] (u32s [a, b]) = some (u32s [a, b]) := rfl

theorem pc_of (n : Int) (h1 : -9223372036854775808 ≤ n) (h2 : n < 9223372036854775808) : pureCall (run F) 32 [.int .i64 n] = some (IV n) := by
  have key : ∀ (p q : Int), 0 ≤ p → p < 4294967296 → 0 ≤ q → q < 4294967296 → p + 4294967296 * q = n.natAbs → pureCall (run F) 89 [.bool (decide (n < 0)), .slc false (u32s [p.toNat, q.toNat])] = some (IV n) := by
    intro p q hp hp' hq hq' he
    have hl : Lim [p.toNat, q.toNat] := by
      intro x hx
      simp only [List.mem_cons, List.not_mem_nil, or_false] at hx
      show x < 4294967296
      rcases hx with rfl | rfl <;> omega
    have := pc_made (F := F) (decide (n < 0)) false [p.toNat, q.toNat] hl (by simp)
    have hev : ev [p.toNat, q.toNat] = n.natAbs := by
      show p.toNat + 4294967296 * (q.toNat + 4294967296 * 0) = n.natAbs
      omega
    rw [hev] at this
    have hs : sgn (decide (n < 0)) n.natAbs = n := by
      unfold sgn
      by_cases h : n < 0 <;> simp [h] <;> omega
    rwa [hs] at this
  refine pure_ret h.limbs_Of rfl ?_
  by_cases hn : n < 0
  · have e1 : (-(n % 18446744073709551616)) % 18446744073709551616 = -n := by omega
    have hk := key (-n % 4294967296) (-n / 4294967296 % 4294967296) (by omega) (by omega) (by omega) (by omega) (by omega)
    simp only [hn, decide_true] at hk
    simp (disch := omega) [c_limbs_Of, hn, wrap_u64', wrap_u32', e1, good_u32s, place_two, u32s_two, any_pure, hand_two2, hk, IV, putElem, putAgg]
  · have e1 : n % 18446744073709551616 = n := by omega
    have hk := key (n % 4294967296) (n / 4294967296 % 4294967296) (by omega) (by omega) (by omega) (by omega) (by omega)
    simp only [hn, decide_false] at hk
    simp (disch := omega) [c_limbs_Of, hn, wrap_u64', wrap_u32', e1, good_u32s, place_two, u32s_two, any_pure, hand_two2, hk, IV, putElem, putAgg]
end Go.Ash
