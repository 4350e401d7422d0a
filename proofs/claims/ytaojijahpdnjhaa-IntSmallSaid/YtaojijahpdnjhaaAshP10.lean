/- The abstract interpreter of this work and its uses, part 10: AshLimbs6, AshLimbs7, AshLimbs8, AshBits, AshLimbs9, AshRef1a, AshRef1b, AshShift, AshLimbs10, AshLimbs11. -/
import Derived.Test.YtaojijahpdnjhaaAshP09
set_option linter.all false
/- Package limbs: up, times, Mul. -/
namespace Go.Ash
variable {F : Nat → Option RFunc} [h : CodeLimbs F]

theorem ev_drop {l : List Nat} (hl : Lim l) (k : Nat) (hk : k ≤ l.length) : ev (l.drop k) = ev l / B32 ^ k ∧ ev (l.take k) = ev l % B32 ^ k := by
  have h1 : ev l = ev (l.take k) + B32 ^ k * ev (l.drop k) := by
    have := ev_append (l.take k) (l.drop k)
    rw [List.take_append_drop, List.length_take, Nat.min_eq_left hk] at this
    exact this
  have h2 := ev_lt (lim_take hl k)
  rw [List.length_take, Nat.min_eq_left hk] at h2
  have hp : 0 < B32 ^ k := Nat.pow_pos (by decide)
  constructor
  · rw [h1, Nat.add_mul_div_left _ _ hp, Nat.div_eq_of_lt h2, Nat.zero_add]
  · rw [h1, Nat.add_mul_mod_self_left, Nat.mod_eq_of_lt h2]

theorem D_drop (a k : Nat) (hk : k ≤ (D a).length) : (D a).drop k = D (a / B32 ^ k) := by
  have h1 := (ev_drop (lim_D a) k hk).1
  rw [ev_D] at h1
  rw [← h1]
  refine (D_ev (lim_drop (lim_D a) k) fun hne => ?_).symm
  rw [List.getLast_drop]
  exact D_last (by rintro h0; rw [h0] at hne; simp at hne)

theorem D_mul_pow {c : Nat} (hc : c ≠ 0) (k : Nat) : D (c * B32 ^ k) = List.replicate k 0 ++ D c := by
  have hev : ev (List.replicate k 0 ++ D c) = c * B32 ^ k := by
    rw [ev_append, ev_D, List.length_replicate, Nat.mul_comm]
    have : ev (List.replicate k 0) = 0 := by have := ev_zeros [] k; simpa [ev] using this
    rw [this, Nat.zero_add]
  rw [← hev]
  refine D_ev (lim_append (lim_replicate k) (lim_D c)) fun hne => ?_
  have hd : D c ≠ [] := by simpa using hc
  rw [List.getLast_append_of_ne_nil _ hd]
  exact D_last hd

theorem tree_mslc_two {x : Option Blk} {fz : Bool} {esz n : Nat} {l : List Nat} (hn : n ≤ l.length) : treeL [x, some ⟨fz, esz, u32s l⟩] fuelTree [.mslc 1 0 n] = some ([.slc false (u32s (l.take n))], [1]) := by
  have h1 : AVal.tree [x, some ⟨fz, esz, u32s l⟩] 39 (.mslc 1 0 n) = some (.slc false (u32s (l.take n)), [1]) := by
    simp only [AVal.tree, Heap.at, length_u32s, Nat.zero_add, hn, if_true, List.drop_zero, u32s_take, treeL_free (n := 37) (idsL_u32s _), Option.map_some]
  unfold fuelTree
  rw [treeL_cons (by simp), h1]
  rfl

theorem pc_up (nx : Bool) (c k : Nat) (hc : (D c).length < 2^38) (hk : k < 2^38) : ∃ r, pureCall (run F) 116 [.slc nx (u32s (D c)), .int .i64 k] = some (.slc r (u32s (D (c * B32 ^ k)))) := by
  by_cases h0 : c = 0
  · refine ⟨true, pure_ret h.limbs_up rfl ?_⟩
    subst h0
    simp [c_limbs_up, u32s]
  · refine ⟨false, pure_ret h.limbs_up rfl ?_⟩
    have m1 : (k : Int) * 4 ≤ 70368744177664 := by omega
    have m2 : (k : Int) ≤ 70368744177664 := by omega
    have m3 : (k + (D c).length) * 4 ≤ 70368744177664 := by omega
    have m4 : k + (D c).length ≤ 70368744177664 := by omega
    have m5 : (List.replicate k 0 ++ D c).take (k + (D c).length) = List.replicate k 0 ++ D c := List.take_of_length_le (by simp)
    have m6 : (List.replicate k 0 ++ D c).length = k + (D c).length := by simp
    rw [D_mul_pow h0]
    simp (disch := omega) [c_limbs_up, h0, u32s_replicate, maxB, m1, m2, m3, m4, elemsOf, good_u32s, u32s_take, u32s_append, tree_mslc_two, m5]

theorem D_len_lt_pow {a k : Nat} (h : (D a).length ≤ k) : a < B32 ^ k := le_of_D_len h

theorem kara (a0 a1 b0 b1 : Nat) : (a0 + a1) * (b0 + b1) - a0 * b0 - a1 * b1 = a0 * b1 + a1 * b0 := by
  have : (a0 + a1) * (b0 + b1) = a0 * b0 + a1 * b1 + (a0 * b1 + a1 * b0) := by
    simp only [Nat.add_mul, Nat.mul_add]; omega
  omega

theorem D_mul_len (a b : Nat) : (D (a * b)).length ≤ (D a).length + (D b).length := by
  refine D_len_le ?_
  rw [Nat.pow_add]
  have h1 := D_lt a
  have h2 := D_lt b
  exact Nat.mul_lt_mul'' h1 h2

theorem D_add_len (a b : Nat) : (D (a + b)).length ≤ max (D a).length (D b).length + 1 := by
  refine D_len_le ?_
  have h4 := D_lt a
  have h5 := D_lt b
  have h6 : B32 ^ (D a).length ≤ B32 ^ (max (D a).length (D b).length) := Nat.pow_le_pow_right (by decide) (by omega)
  have h7 : B32 ^ (D b).length ≤ B32 ^ (max (D a).length (D b).length) := Nat.pow_le_pow_right (by decide) (by omega)
  rw [Nat.pow_succ]
  have : B32 ^ (max (D a).length (D b).length) * 2 ≤ B32 ^ (max (D a).length (D b).length) * B32 := Nat.mul_le_mul_left _ (by decide)
  omega

set_option maxHeartbeats 2000000 in
theorem pc_times : ∀ (n : Nat) (nx ny : Bool) (a b : Nat), (D a).length + (D b).length ≤ n → (D a).length < 2^36 → (D b).length < 2^36 →
    pureCall (run F) 95 [.slc nx (u32s (D a)), .slc ny (u32s (D b))] = some (.slc false (u32s (D (a * b)))) := by
  intro n
  induction n using Nat.strongRecOn with
  | ind n ih =>
    -- the longer one first
    have main : ∀ (nx ny : Bool) (a b : Nat), (D b).length ≤ (D a).length → (D a).length + (D b).length ≤ n → (D a).length < 2^36 → ∀ (X Y : AVal),
        (X = .slc nx (u32s (D a)) ∧ Y = .slc ny (u32s (D b))) ∨ ((D b).length < (D a).length ∧ Y = .slc nx (u32s (D a)) ∧ X = .slc ny (u32s (D b))) →
        pureCall (run F) 95 [X, Y] = some (.slc false (u32s (D (a * b)))) := by
      intro nx ny a b hba hn ha X Y hXY
      have hs := pc_school (F := F) nx ny (D a) (D b) (lim_D a) (lim_D b) (by omega) (by omega)
      rw [ev_D, ev_D] at hs
      refine pure_ret h.limbs_times rfl ?_
      by_cases h40 : (D b).length < 40
      · have h40' : ((D b).length : Int) < 40 := by omega
        rcases hXY with ⟨rfl, rfl⟩ | ⟨hlt, rfl, rfl⟩
        · have hlt : ¬ (D a).length < (D b).length := by omega
          simp [c_limbs_times, any_pure, hlt, h40, h40', hs]
        · simp [c_limbs_times, any_pure, hlt, h40, h40', hs]
      · -- in halves
        have hlen : (D a).length + 1 = (D a).length + 1 := rfl
        obtain ⟨k, hk⟩ : ∃ k, k = ((D a).length + 1) / 2 := ⟨_, rfl⟩
        have hkd : (((D a).length : Int) + 1).tdiv 2 = k := by rw [Int.tdiv_eq_ediv_of_nonneg (by omega)]; omega
        have hka : k ≤ (D a).length := by omega
        have hp : 0 < B32 ^ k := Nat.pow_pos (by decide)
        have hda := D_drop a k hka
        obtain ⟨_, hta⟩ := ev_drop (lim_D a) k hka
        have hT0 := pc_trim (F := F) nx ((D a).take k) (lim_take (lim_D a) k) (by simp; omega)
        rw [hta, ev_D] at hT0
        have haa : a = a % B32 ^ k + B32 ^ k * (a / B32 ^ k) := (Nat.mod_add_div a (B32 ^ k)).symm
        have hl0 : (D (a % B32 ^ k)).length ≤ k := D_len_le (Nat.mod_lt _ hp)
        have hl1 : (D (a / B32 ^ k)).length = (D a).length - k := by rw [← hda]; simp
        generalize a % B32 ^ k = a0 at *
        generalize a / B32 ^ k = a1 at *
        have hki : (k : Int) ≤ (D a).length := by omega
        by_cases hyk : (D b).length ≤ k
        · have t1 := ih ((D a0).length + (D b).length) (by omega) nx ny a0 b (Nat.le_refl _) (by omega) (by omega)
          have t2 := ih ((D a1).length + (D b).length) (by omega) nx ny a1 b (Nat.le_refl _) (by omega) (by omega)
          have l1 := D_mul_len a0 b
          have l2 := D_mul_len a1 b
          obtain ⟨r, hu⟩ := pc_up (F := F) false (a1 * b) k (by omega) (by omega)
          have l3 : (D (a1 * b * B32 ^ k)).length ≤ (D a1).length + (D b).length + k := by
            refine D_len_le ?_
            rw [Nat.pow_add]
            exact Nat.mul_lt_mul_of_pos_right (D_len_lt_pow l2) hp
          have hpl := pc_plus (F := F) false r (D (a0 * b)) (D (a1 * b * B32 ^ k)) (lim_D _) (lim_D _) (by omega) (by omega)
          rw [ev_D, ev_D] at hpl
          have he : a * b = a0 * b + a1 * b * B32 ^ k := by
            rw [haa, Nat.add_mul, Nat.mul_comm (B32 ^ k) a1, Nat.mul_assoc, Nat.mul_assoc, Nat.mul_comm (B32 ^ k) b]
          rw [he]
          have hyk' : ((D b).length : Int) ≤ k := by omega
          have h40' : ¬ ((D b).length : Int) < 40 := by omega
          rcases hXY with ⟨rfl, rfl⟩ | ⟨hlt, rfl, rfl⟩
          · have hlt : ¬ (D a).length < (D b).length := by omega
            simp (disch := omega) [c_limbs_times, any_pure, hlt, h40', hkd, wrap_i64, bounds, hka, hki, allSz_u32s, u32s_take, u32s_drop, hT0, hda, hyk', t1, t2, hu, hpl]
          · simp (disch := omega) [c_limbs_times, any_pure, hlt, h40', hkd, wrap_i64, bounds, hka, hki, allSz_u32s, u32s_take, u32s_drop, hT0, hda, hyk', t1, t2, hu, hpl]
        · have hkb : k ≤ (D b).length := by omega
          have hkbi : (k : Int) ≤ (D b).length := by omega
          have hdb := D_drop b k hkb
          obtain ⟨_, htb⟩ := ev_drop (lim_D b) k hkb
          have hS0 := pc_trim (F := F) ny ((D b).take k) (lim_take (lim_D b) k) (by simp; omega)
          rw [htb, ev_D] at hS0
          have hbb : b = b % B32 ^ k + B32 ^ k * (b / B32 ^ k) := (Nat.mod_add_div b (B32 ^ k)).symm
          have hm0 : (D (b % B32 ^ k)).length ≤ k := D_len_le (Nat.mod_lt _ hp)
          have hm1 : (D (b / B32 ^ k)).length = (D b).length - k := by rw [← hdb]; simp
          generalize b % B32 ^ k = b0 at *
          generalize b / B32 ^ k = b1 at *
          have t1 := ih ((D a0).length + (D b0).length) (by omega) nx ny a0 b0 (Nat.le_refl _) (by omega) (by omega)
          have t2 := ih ((D a1).length + (D b1).length) (by omega) nx ny a1 b1 (Nat.le_refl _) (by omega) (by omega)
          have l1 := D_mul_len a0 b0
          have l2 := D_mul_len a1 b1
          have la' := D_add_len a0 a1
          have lb' := D_add_len b0 b1
          have p1 := pc_plus (F := F) nx nx (D a0) (D a1) (lim_D _) (lim_D _) (by omega) (by omega)
          have p2 := pc_plus (F := F) ny ny (D b0) (D b1) (lim_D _) (lim_D _) (by omega) (by omega)
          rw [ev_D, ev_D] at p1 p2
          have t3 := ih ((D (a0 + a1)).length + (D (b0 + b1)).length) (by omega) false false (a0 + a1) (b0 + b1) (Nat.le_refl _) (by omega) (by omega)
          have l3 := D_mul_len (a0 + a1) (b0 + b1)
          have hexp : (a0 + a1) * (b0 + b1) = a0 * b0 + a1 * b1 + (a0 * b1 + a1 * b0) := by simp only [Nat.add_mul, Nat.mul_add]; omega
          have q1 := pc_minus (F := F) false false (D ((a0 + a1) * (b0 + b1))) (D (a0 * b0)) (lim_D _) (lim_D _) (D_len_mono (by omega)) (by rw [ev_D, ev_D]; omega) (by omega)
          rw [ev_D, ev_D] at q1
          have lq : (D ((a0 + a1) * (b0 + b1) - a0 * b0)).length ≤ (D ((a0 + a1) * (b0 + b1))).length := D_len_mono (Nat.sub_le _ _)
          have q2 := pc_minus (F := F) false false (D ((a0 + a1) * (b0 + b1) - a0 * b0)) (D (a1 * b1)) (lim_D _) (lim_D _) (D_len_mono (by omega)) (by rw [ev_D, ev_D]; omega) (by omega)
          rw [ev_D, ev_D, kara] at q2
          have lm : (D (a0 * b1 + a1 * b0)).length ≤ (D ((a0 + a1) * (b0 + b1))).length := D_len_mono (by omega)
          obtain ⟨r1, u1⟩ := pc_up (F := F) false (a0 * b1 + a1 * b0) k (by omega) (by omega)
          obtain ⟨r2, u2⟩ := pc_up (F := F) false (a1 * b1) (2 * k) (by omega) (by omega)
          have l4 : (D ((a0 * b1 + a1 * b0) * B32 ^ k)).length ≤ (D ((a0 + a1) * (b0 + b1))).length + k := by
            refine D_len_le ?_
            rw [Nat.pow_add]
            exact Nat.mul_lt_mul_of_pos_right (D_len_lt_pow lm) hp
          have l5 : (D (a1 * b1 * B32 ^ (2 * k))).length ≤ (D a1).length + (D b1).length + 2 * k := by
            refine D_len_le ?_
            rw [Nat.pow_add]
            exact Nat.mul_lt_mul_of_pos_right (D_len_lt_pow l2) (Nat.pow_pos (by decide))
          have v1 := pc_plus (F := F) false r1 (D (a0 * b0)) (D ((a0 * b1 + a1 * b0) * B32 ^ k)) (lim_D _) (lim_D _) (by omega) (by omega)
          rw [ev_D, ev_D] at v1
          have l6 := D_add_len (a0 * b0) ((a0 * b1 + a1 * b0) * B32 ^ k)
          have v2 := pc_plus (F := F) false r2 (D (a0 * b0 + (a0 * b1 + a1 * b0) * B32 ^ k)) (D (a1 * b1 * B32 ^ (2 * k))) (lim_D _) (lim_D _) (by omega) (by omega)
          rw [ev_D, ev_D] at v2
          have he : a * b = a0 * b0 + (a0 * b1 + a1 * b0) * B32 ^ k + a1 * b1 * B32 ^ (2 * k) := by
            rw [haa, hbb, show 2 * k = k + k from by omega, Nat.pow_add]
            generalize B32 ^ k = p
            simp only [Nat.add_mul, Nat.mul_add, Nat.mul_assoc, Nat.mul_comm, Nat.mul_left_comm]
            omega
          rw [he]
          have hyk' : ¬ ((D b).length : Int) ≤ k := by omega
          have h40' : ¬ ((D b).length : Int) < 40 := by omega
          have hu2 : ((2 * k : Nat) : Int) = 2 * (k : Int) := by omega
          rw [hu2] at u2
          rcases hXY with ⟨rfl, rfl⟩ | ⟨hlt, rfl, rfl⟩
          · have hlt : ¬ (D a).length < (D b).length := by omega
            simp (disch := omega) [c_limbs_times, any_pure, hlt, h40', hkd, wrap_i64, bounds, hka, hki, hkb, hkbi, allSz_u32s, u32s_take, u32s_drop, hT0, hda, hS0, hdb, hyk', t1, t2, t3, p1, p2, q1, q2, u1, u2, v1, v2]
          · simp (disch := omega) [c_limbs_times, any_pure, hlt, h40', hkd, wrap_i64, bounds, hka, hki, hkb, hkbi, allSz_u32s, u32s_take, u32s_drop, hT0, hda, hS0, hdb, hyk', t1, t2, t3, p1, p2, q1, q2, u1, u2, v1, v2]
    intro nx ny a b hn ha hb
    rcases Nat.lt_or_ge (D a).length (D b).length with hlt | hge
    · rw [Nat.mul_comm]
      exact main ny nx b a (by omega) (by omega) hb _ _ (.inr ⟨hlt, rfl, rfl⟩)
    · exact main nx ny a b hge hn ha _ _ (.inl ⟨rfl, rfl⟩)
end Go.Ash
/- Package limbs: Mul, Of; integers in any form. -/
namespace Go.Ash
variable {F : Nat → Option RFunc} [h : CodeLimbs F]

theorem pc_mul (na n1 nb n2 : Bool) (la lb : List Nat) (hla : Lim la) (hlb : Lim lb) (h1 : la.length < 2^36) (h2 : lb.length < 2^36) :
    pureCall (run F) 38 [.agg [.bool na, .slc n1 (u32s la)], .agg [.bool nb, .slc n2 (u32s lb)]] = some (IV (sgn na (ev la) * sgn nb (ev lb))) := by
  have hm1 := pc_mag (F := F) na n1 la hla (by omega)
  have hm2 := pc_mag (F := F) nb n2 lb hlb (by omega)
  have hn1 := pc_neg (F := F) na n1 la hla (by omega)
  have hn2 := pc_neg (F := F) nb n2 lb hlb (by omega)
  have hla' := len_D_ev hla
  have hlb' := len_D_ev hlb
  have ht := pc_times (F := F) _ n1 n2 (ev la) (ev lb) (Nat.le_refl _) (by omega) (by omega)
  have hl := D_mul_len (ev la) (ev lb)
  have hd : ∀ s, pureCall (run F) 89 [.bool s, .slc false (u32s (D (ev la * ev lb)))] = some (IV (sgn s (ev la * ev lb))) := fun s => by
    have := pc_made (F := F) s false (D (ev la * ev lb)) (lim_D _) (by omega)
    rwa [ev_D] at this
  have e1 : sgn na (ev la) = sgn (na && decide (ev la ≠ 0)) (ev la) := by cases na <;> by_cases h0 : ev la = 0 <;> simp [sgn, h0]
  have e2 : sgn nb (ev lb) = sgn (nb && decide (ev lb ≠ 0)) (ev lb) := by cases nb <;> by_cases h0 : ev lb = 0 <;> simp [sgn, h0]
  rw [e1, e2]
  generalize (na && decide (ev la ≠ 0)) = s at *
  generalize (nb && decide (ev lb ≠ 0)) = t at *
  have e : sgn s (ev la) * sgn t (ev lb) = sgn (s != t) (ev la * ev lb) := by cases s <;> cases t <;> simp [sgn, Int.neg_mul, Int.mul_neg]
  rw [e]
  refine pure_ret h.limbs_Mul rfl ?_
  cases s <;> cases t <;> simp [c_limbs_Mul, any_pure, hm1, hm2, hn1, hn2, ht, hd, IV, putElem, putAgg]

/-- An integer in some form. -/
def IsI (v : AVal) (z : Int) (n : Nat) : Prop := ∃ neg r l, v = .agg [.bool neg, .slc r (u32s l)] ∧ Lim l ∧ l.length ≤ n ∧ sgn neg (ev l) = z

theorem isI_IV {z : Int} {n : Nat} (hz : z.natAbs < B32 ^ n) : IsI (IV z) z n := by
  refine ⟨_, _, _, rfl, lim_D _, D_len_le hz, ?_⟩
  rw [ev_D]
  unfold sgn
  by_cases h : z < 0 <;> simp [h] <;> omega

theorem isI_lt {v : AVal} {z : Int} {n : Nat} (hv : IsI v z n) : z.natAbs < B32 ^ n := by
  obtain ⟨neg, r, l, _, hl, hn, rfl⟩ := hv
  rw [sgn_abs]
  exact Nat.lt_of_lt_of_le (ev_lt hl) (Nat.pow_le_pow_right (by decide) hn)

theorem add_is {a b : AVal} {x y : Int} {m n : Nat} (ha : IsI a x m) (hb : IsI b y n) (hm : m < 2^36) (hn : n < 2^36) : pureCall (run F) 43 [a, b] = some (IV (x + y)) := by
  obtain ⟨na, ra, la, rfl, hla, hlen, rfl⟩ := ha
  obtain ⟨nb, rb, lb, rfl, hlb, hlenb, rfl⟩ := hb
  exact pc_add na ra nb rb la lb hla hlb (by omega) (by omega)

theorem sub_is {a b : AVal} {x y : Int} {m n : Nat} (ha : IsI a x m) (hb : IsI b y n) (hm : m < 2^36) (hn : n < 2^36) : pureCall (run F) 46 [a, b] = some (IV (x - y)) := by
  obtain ⟨na, ra, la, rfl, hla, hlen, rfl⟩ := ha
  obtain ⟨nb, rb, lb, rfl, hlb, hlenb, rfl⟩ := hb
  exact pc_sub na ra nb rb la lb hla hlb (by omega) (by omega)

theorem mul_is {a b : AVal} {x y : Int} {m n : Nat} (ha : IsI a x m) (hb : IsI b y n) (hm : m < 2^36) (hn : n < 2^36) : pureCall (run F) 38 [a, b] = some (IV (x * y)) := by
  obtain ⟨na, ra, la, rfl, hla, hlen, rfl⟩ := ha
  obtain ⟨nb, rb, lb, rfl, hlb, hlenb, rfl⟩ := hb
  exact pc_mul na ra nb rb la lb hla hlb (by omega) (by omega)

theorem isI_mul {x y : Int} {m n : Nat} (hx : x.natAbs < B32 ^ m) (hy : y.natAbs < B32 ^ n) : IsI (IV (x * y)) (x * y) (m + n) := by
  refine isI_IV ?_
  rw [Int.natAbs_mul, Nat.pow_add]
  exact Nat.mul_lt_mul'' hx hy

theorem isI_add {x y : Int} {m : Nat} (hx : x.natAbs < B32 ^ m) (hy : y.natAbs < B32 ^ m) : IsI (IV (x + y)) (x + y) (m + 1) := by
  refine isI_IV ?_
  rw [Nat.pow_succ]
  have : B32 ^ m * 2 ≤ B32 ^ m * B32 := Nat.mul_le_mul_left _ (by decide)
  omega

theorem hand_two {x : Option Blk} {fz b : Bool} {esz n : Nat} {l : List Nat} (hn : n ≤ l.length) : handOn [.bool b, .mslc 1 0 n] [x, some ⟨fz, esz, u32s l⟩] =
    some ([.bool b, .slc false (u32s (l.take n))], [x, some ⟨true, esz, u32s l⟩]) := by
  have h1 : AVal.tree [x, some ⟨fz, esz, u32s l⟩] 38 (.mslc 1 0 n) = some (.slc false (u32s (l.take n)), [1]) := by
    simp only [AVal.tree, Heap.at, length_u32s, Nat.zero_add, hn, if_true, List.drop_zero, u32s_take, treeL_free (n := 36) (idsL_u32s _), Option.map_some]
  have h2 : treeL [x, some ⟨fz, esz, u32s l⟩] 39 [.mslc 1 0 n] = some ([.slc false (u32s (l.take n))], [1]) := by
    rw [treeL_cons (by simp), h1]; rfl
  have h3 : treeL [x, some ⟨fz, esz, u32s l⟩] fuelTree [.bool b, .mslc 1 0 n] = some ([.bool b, .slc false (u32s (l.take n))], [1]) := by
    unfold fuelTree
    rw [treeL_cons (by simp), h2]; rfl
  simp only [handOn, h3, Option.map_some, idsL, AVal.ids, List.append_nil, List.nil_append, List.cons_ne_nil, if_false]
  rfl

theorem hand_two2 {x : Option Blk} {fz b : Bool} {esz p q : Nat} : handOn [.bool b, .mslc 1 0 2] [x, some ⟨fz, esz, u32s [p, q]⟩] =
    some ([.bool b, .slc false (u32s [p, q])], [x, some ⟨true, esz, u32s [p, q]⟩]) := hand_two (l := [p, q]) (n := 2) (by simp)

theorem u32s_two {p q : Int} (hp : 0 ≤ p) (hq : 0 ≤ q) : [AVal.int .u32 p, AVal.int .u32 q] = u32s [p.toNat, q.toNat] := by
  simp [u32s, Int.toNat_of_nonneg hp, Int.toNat_of_nonneg hq]

theorem place_two (x y a b : Nat) : placeAll (u32s [x, y]) [0, 1] (u32s [a, b]) = some (u32s [a, b]) := rfl

theorem pc_of (n : Int) (h1 : -9223372036854775808 ≤ n) (h2 : n < 9223372036854775808) : pureCall (run F) 32 [.int .i64 n] = some (IV n) := by
  have key : ∀ (p q : Int), 0 ≤ p → p < 4294967296 → 0 ≤ q → q < 4294967296 → p + 4294967296 * q = n.natAbs → pureCall (run F) 89 [.bool (decide (n < 0)), .slc false (u32s [p.toNat, q.toNat])] = some (IV n) := by
    intro p q hp hp' hq hq' he
    have hl : Lim [p.toNat, q.toNat] := by
      intro x hx
      simp only [List.mem_cons, List.not_mem_nil, or_false] at hx
      show x < 4294967296
      rcases hx with rfl | rfl <;> omega
    have := pc_made (F := F) (decide (n < 0)) false [p.toNat, q.toNat] hl (by simp)
    have hev : ev [p.toNat, q.toNat] = n.natAbs := by
      show p.toNat + 4294967296 * (q.toNat + 4294967296 * 0) = n.natAbs
      omega
    rw [hev] at this
    have hs : sgn (decide (n < 0)) n.natAbs = n := by
      unfold sgn
      by_cases h : n < 0 <;> simp [h] <;> omega
    rwa [hs] at this
  refine pure_ret h.limbs_Of rfl ?_
  by_cases hn : n < 0
  · have e1 : (-(n % 18446744073709551616)) % 18446744073709551616 = -n := by omega
    have hk := key (-n % 4294967296) (-n / 4294967296 % 4294967296) (by omega) (by omega) (by omega) (by omega) (by omega)
    simp only [hn, decide_true] at hk
    simp (disch := omega) [c_limbs_Of, hn, wrap_u64', wrap_u32', e1, good_u32s, place_two, u32s_two, any_pure, hand_two2, hk, IV, putElem, putAgg]
  · have e1 : n % 18446744073709551616 = n := by omega
    have hk := key (n % 4294967296) (n / 4294967296 % 4294967296) (by omega) (by omega) (by omega) (by omega) (by omega)
    simp only [hn, decide_false] at hk
    simp (disch := omega) [c_limbs_Of, hn, wrap_u64', wrap_u32', e1, good_u32s, place_two, u32s_two, any_pure, hand_two2, hk, IV, putElem, putAgg]
end Go.Ash
/- Package limbs: small. -/
namespace Go.Ash
variable {F : Nat → Option RFunc} [h : CodeLimbs F]

theorem or_u64 {r b : Nat} (hr : r < 4294967296) (hb : b < 4294967296) : intBitsA .or .u64 (((r * 4294967296 : Nat) : Int)) (b : Int) = some (.int .u64 (((r * 4294967296 + b : Nat) : Int))) := by
  have h1 : (BitVec.ofInt 64 (((r * 4294967296 : Nat) : Int)) ||| BitVec.ofInt 64 (b : Int)).toNat = r * 4294967296 + b := by
    rw [BitVec.ofInt_natCast, BitVec.ofInt_natCast, BitVec.toNat_or, BitVec.toNat_ofNat, BitVec.toNat_ofNat, Nat.mod_eq_of_lt (by omega), Nat.mod_eq_of_lt (by omega)]
    have := Nat.two_pow_add_eq_or_of_lt (i := 32) (b := b) (by omega) r
    rw [Nat.mul_comm r]
    exact this.symm
  show some (AVal.int .u64 (IntKind.u64.wrap (((BitVec.ofInt 64 (((r * 4294967296 : Nat) : Int)) ||| BitVec.ofInt 64 (b : Int)).toNat : Nat) : Int))) = _
  rw [h1, wrap_u64 (by omega) (by omega)]

theorem or_u64' {r b : Nat} (hr : r < 4294967296) (hb : b < 4294967296) : intA .or .u64 ((r : Int) * 4294967296) (b : Int) = some (.int .u64 (((r * 4294967296 + b : Nat) : Int))) := by
  have := or_u64 hr hb
  rw [Int.natCast_mul] at this
  exact this

theorem tdiv_nat (a b : Nat) : (a : Int).tdiv b = ((a / b : Nat) : Int) := (Int.ofNat_tdiv _ _).symm
theorem tmod_nat (a b : Nat) : (a : Int).tmod b = ((a % b : Nat) : Int) := (Int.ofNat_tmod _ _).symm

theorem set_u32n (l : List Nat) (k v : Nat) : (u32s l).set k (.int .u32 (v : Int)) = u32s (l.set k v) := u32s_set l k v

theorem drop_set_succ {l : List Nat} {i v : Nat} (hi : i < l.length) : (l.set i v).drop i = v :: l.drop (i + 1) := by
  rw [List.drop_eq_getElem_cons (by simpa using hi), List.drop_set_of_lt (by omega)]; simp

theorem small_loop (nx : Bool) (x : List Nat) (d : Nat) (hx : Lim x) (hd : 0 < d) (hdB : d < 4294967296) (hlen : x.length < 2^40) :
    ∃ e st, (∀ env, exec F l_limbs_small_0 ⟨[.slc nx (u32s x), .int .u32 d, .slc true [], .int .u32 0, .mslc 0 0 x.length, .int .u64 0, .int .i64 ((x.length : Int) - 1)], env, [some ⟨false, 1, u32s (List.replicate x.length 0)⟩], 0⟩ = some (e, st)) ∧
      (e = .exit 0 ∧ ∃ out r, st = ⟨[.slc nx (u32s x), .int .u32 d, .und, .und, .mslc 0 0 x.length, .int .u64 (r : Nat), .int .i64 (-1)], [], [some ⟨false, 1, u32s out⟩], 0⟩ ∧
        out.length = x.length ∧ Lim out ∧ r < d ∧ ev x = d * ev out + r) := by
  refine loop_rule
    (fun n st => ∃ (out : List Nat) (r : Nat), st = ⟨[.slc nx (u32s x), .int .u32 d, .und, .und, .mslc 0 0 x.length, .int .u64 r, .int .i64 ((n : Int) - 1)], [], [some ⟨false, 1, u32s out⟩], 0⟩ ∧
      n ≤ x.length ∧ out.length = x.length ∧ Lim out ∧ r < d ∧ ev (x.drop n) = d * ev (out.drop n) + r) _ x.length _ ?_
    (tidy_one (by simp) (by simp)) ⟨_, 0, rfl, Nat.le_refl _, by simp, lim_replicate _, hd, by simp [ev]⟩
  rintro n st ⟨out, r, rfl, hn, hout, hlim, hr, hev⟩
  rcases Nat.eq_zero_or_pos n with rfl | hpos
  · refine .out (.exit 0) _ (by simp) ⟨rfl, out, r, rfl, hout, hlim, hr, by simpa using hev⟩ ?_
    simp [after]
  · obtain ⟨n, rfl⟩ : ∃ k, n = k + 1 := ⟨n - 1, by omega⟩
    have hidx : ((n + 1 : Nat) : Int) - 1 = n := by omega
    have hnx : n < x.length := hn
    have hxn := hx.get hnx
    have hno : n < out.length := by omega
    have hM : r * 4294967296 + x[n] < 18446744073709551616 := by omega
    have hq : (r * 4294967296 + x[n]) / d < 4294967296 := by
      rw [Nat.div_lt_iff_lt_mul hd]
      have : (r + 1) * 4294967296 ≤ d * 4294967296 := Nat.mul_le_mul_right _ hr
      omega
    have hr2 : (r * 4294967296 + x[n]) % d < d := Nat.mod_lt _ hd
    have hdm := Nat.div_add_mod (r * 4294967296 + x[n]) d
    have hor := or_u64' (r := r) (b := x[n]) (by omega) hxn
    rw [hidx]
    have hd0 : ¬ d = 0 := by omega
    generalize hMM : r * 4294967296 + x[n] = M at *
    have htd := tdiv_nat M d
    have htm := tmod_nat M d
    generalize hQQ : M / d = q at *
    generalize hRR : M % d = m at *
    refine .more n _ (Nat.lt_succ_self _) ⟨out.set n q, m, rfl, by omega, by simpa using hout, lim_set hlim (by omega), hr2, ?_⟩ ?_
    · rw [drop_set_succ hno, drop_ev hnx, hev]
      simp only [ev]
      have e1 : B32 * (d * ev (out.drop (n + 1))) = d * (B32 * ev (out.drop (n + 1))) := Nat.mul_left_comm _ _ _
      have e2 : B32 * r = r * 4294967296 := Nat.mul_comm _ _
      rw [Nat.mul_add, Nat.mul_add, e1, e2]
      omega
    · simp (disch := first | omega | simp) [after, tidy_one, hnx, wrap_u64, wrap_u32, wrap_i64, get?_u32s, set_u32n, putElem, putOne, hor, hd0, htd, htm]

theorem pc_small (nl : Bool) (x : List Nat) (d : Nat) (hx : Lim x) (hd : 0 < d) (hdB : d < 4294967296) (hlen : x.length < 2^39) :
    pureCall (run F) 96 [.slc nl (u32s x), .int .u32 d] = some (.tup [.slc false (u32s (D (ev x / d))), .int .u32 (ev x % d : Nat)]) := by
  obtain ⟨e, st, he, rfl, out, r, rfl, ho, hl, hr, hev⟩ := small_loop (F := F) nl x d hx hd hdB (by omega)
  have h1 : ev x / d = ev out := by rw [hev, Nat.mul_add_div hd, Nat.div_eq_of_lt hr, Nat.add_zero]
  have h2 : ev x % d = r := by rw [hev, Nat.mul_add_mod, Nat.mod_eq_of_lt hr]
  have ht := pc_trim (F := F) false out hl (by omega)
  have hto : out.take x.length = out := List.take_of_length_le (by omega)
  have m2 : (x.length : Int) * 4 ≤ 70368744177664 := by omega
  have m3 : (x.length : Int) ≤ 70368744177664 := by omega
  rw [h1, h2]
  refine pure_ret h.limbs_small rfl ?_
  simp (disch := omega) [c_limbs_small, wrap_i64, u32s_replicate, maxB, m2, m3, he, any_pure, hand_u32, hto, ht, wrap_u32]
end Go.Ash
/- How many bits a number has. -/
namespace Go.Ash

def bl (n : Nat) : Nat := if n = 0 then 0 else n.log2 + 1

theorem bl_le {n k : Nat} : bl n ≤ k ↔ n < 2 ^ k := by
  unfold bl
  by_cases h : n = 0
  · subst h; simp [Nat.two_pow_pos]
  · rw [if_neg h, Nat.succ_le_iff, Nat.log2_lt h]

theorem bl_eq {a b : Nat} (h : ∀ k, a ≤ k ↔ b ≤ k) : a = b := Nat.le_antisymm ((h b).2 (Nat.le_refl _)) ((h a).1 (Nat.le_refl _))

theorem bl_shift {n k : Nat} (h : 2 ^ k ≤ n) : bl n = bl (n / 2 ^ k) + k := by
  refine bl_eq fun j => ?_
  rw [bl_le]
  rcases Nat.lt_or_ge j k with hj | hj
  · have : 2 ^ j < 2 ^ k := Nat.pow_lt_pow_right (by decide) hj
    omega
  · obtain ⟨i, rfl⟩ : ∃ i, j = k + i := ⟨j - k, by omega⟩
    have h1 : bl (n / 2 ^ k) + k ≤ k + i ↔ bl (n / 2 ^ k) ≤ i := by omega
    rw [h1, bl_le, Nat.div_lt_iff_lt_mul (Nat.two_pow_pos k), Nat.pow_add, Nat.mul_comm]

@[simp] theorem bl_zero : bl 0 = 0 := rfl
theorem bl_pos {n : Nat} (h : n ≠ 0) : 0 < bl n := by unfold bl; rw [if_neg h]; omega
theorem bl_mono {a b : Nat} (h : a ≤ b) : bl a ≤ bl b := bl_le.2 (Nat.lt_of_le_of_lt h (bl_le.1 (Nat.le_refl _)))
theorem lt_bl {n k : Nat} : k < bl n ↔ 2 ^ k ≤ n := by
  have := bl_le (n := n) (k := k)
  omega

theorem div_of_eq {n p q r : Nat} (h : n = r + p * q) (hr : r < p) : n / p = q := by
  rw [h, Nat.add_mul_div_left _ _ (by omega), Nat.div_eq_of_lt hr, Nat.zero_add]

theorem last_div {n : Nat} (h : n ≠ 0) : ∃ hl : (D n).length - 1 < (D n).length, (D n)[(D n).length - 1] = n / B32 ^ ((D n).length - 1) ∧ (D n)[(D n).length - 1] ≠ 0 := by
  have hne : D n ≠ [] := by simpa using h
  have hpos : 0 < (D n).length := List.length_pos_iff.2 hne
  refine ⟨by omega, ?_⟩
  have h1 := ev_take_succ (l := D n) (i := (D n).length - 1) (by omega)
  rw [Nat.sub_add_cancel hpos, List.take_length, ev_D] at h1
  have h2 := ev_lt (lim_take (lim_D n) ((D n).length - 1))
  rw [List.length_take, Nat.min_eq_left (by omega)] at h2
  have h3 := div_of_eq h1 h2
  refine ⟨h3.symm, ?_⟩
  intro h0
  rw [h0] at h1
  have h4 : n < B32 ^ ((D n).length - 1) := by omega
  have := D_len_le h4
  omega

theorem B32_pow (k : Nat) : B32 ^ k = 2 ^ (32 * k) := by rw [Nat.pow_mul]

theorem bl_D {n : Nat} (h : n ≠ 0) : ∃ hl : (D n).length - 1 < (D n).length, bl n = 32 * ((D n).length - 1) + bl (D n)[(D n).length - 1] := by
  obtain ⟨hl, h1, h2⟩ := last_div h
  refine ⟨hl, ?_⟩
  rw [h1, B32_pow, bl_shift (k := 32 * ((D n).length - 1)), Nat.add_comm]
  rw [h1, B32_pow] at h2
  exact Nat.le_of_not_lt (fun h3 => h2 (Nat.div_eq_of_lt h3))

def bitsTab : ByteArray := ⟨#[0, 1, 2, 2, 3, 3, 3, 3, 4, 4, 4, 4, 4, 4, 4, 4, 5, 5, 5, 5, 5, 5, 5, 5, 5, 5, 5, 5, 5, 5, 5, 5, 6, 6, 6, 6, 6, 6, 6, 6, 6, 6, 6, 6, 6, 6, 6, 6, 6, 6, 6, 6, 6, 6, 6, 6, 6, 6, 6, 6, 6, 6, 6, 6, 7, 7, 7, 7, 7, 7, 7, 7, 7, 7, 7, 7, 7, 7, 7, 7, 7, 7, 7, 7, 7, 7, 7, 7, 7, 7, 7, 7, 7, 7, 7, 7, 7, 7, 7, 7, 7, 7, 7, 7, 7, 7, 7, 7, 7, 7, 7, 7, 7, 7, 7, 7, 7, 7, 7, 7, 7, 7, 7, 7, 7, 7, 7, 7, 8, 8, 8, 8, 8, 8, 8, 8, 8, 8, 8, 8, 8, 8, 8, 8, 8, 8, 8, 8, 8, 8, 8, 8, 8, 8, 8, 8, 8, 8, 8, 8, 8, 8, 8, 8, 8, 8, 8, 8, 8, 8, 8, 8, 8, 8, 8, 8, 8, 8, 8, 8, 8, 8, 8, 8, 8, 8, 8, 8, 8, 8, 8, 8, 8, 8, 8, 8, 8, 8, 8, 8, 8, 8, 8, 8, 8, 8, 8, 8, 8, 8, 8, 8, 8, 8, 8, 8, 8, 8, 8, 8, 8, 8, 8, 8, 8, 8, 8, 8, 8, 8, 8, 8, 8, 8, 8, 8, 8, 8, 8, 8, 8, 8, 8, 8, 8, 8, 8, 8, 8, 8, 8, 8, 8, 8, 8, 8]⟩

theorem tab_fin : ∀ i : Fin 256, (bitsTab.data.getD i.1 0).toNat = bl i.1 := by decide +kernel
theorem tab_bl {i : Nat} (h : i < 256) : (bitsTab.data.getD i 0).toNat = bl i := tab_fin ⟨i, h⟩
theorem tab_size : bitsTab.size = 256 := by decide +kernel
end Go.Ash
/- Package limbs: Neg, Cmp, Bits, Mod, Small; package bits. -/
namespace Go.Ash
variable {F : Nat → Option RFunc} [h : CodeLimbs F]

theorem fdiv_nat (x k : Nat) : (x : Int).fdiv (k : Int) = ((x / k : Nat) : Int) := by
  rw [Int.fdiv_eq_ediv_of_nonneg _ (Int.natCast_nonneg _)]; rfl
theorem fdiv_16 (x : Nat) : (x : Int).fdiv 65536 = ((x / 65536 : Nat) : Int) := fdiv_nat x 65536
theorem fdiv_8 (x : Nat) : (x : Int).fdiv 256 = ((x / 256 : Nat) : Int) := fdiv_nat x 256
theorem fdiv_32n (x : Nat) : (x : Int).fdiv 4294967296 = ((x / 4294967296 : Nat) : Int) := fdiv_nat x 4294967296
theorem wrap_u8n {n : Nat} (h : n < 256) : IntKind.u8.wrap (n : Int) = n := by
  simp only [IntKind.wrap, IntKind.bits, IntKind.signed]; simp; omega

theorem tab_bl' {i : Nat} (h : i < 256) : (bitsTab.data[i]?.getD 0).toNat = bl i := by rw [← tab_bl h]; simp

theorem bl8 {i : Nat} (h : i < 256) : bl i ≤ 8 := bl_le.2 h

theorem pc_len32 (n : Nat) (hn : n < 4294967296) : pureCall (run F) 99 [.int .u32 n] = some (.int .i64 (bl n : Nat)) := by
  have hs := tab_size
  refine pure_ret h.bits_Len32 rfl ?_
  unfold c_bits_Len32
  rw [show (ByteArray.mk _ : ByteArray) = bitsTab from rfl]
  by_cases h1 : 65536 ≤ n
  · have e1 := bl_shift (n := n) (k := 16) h1
    rw [show n / 2 ^ 16 = n / 65536 from rfl] at e1
    have hn2 : n / 65536 < 65536 := by omega
    have f1 := fdiv_16 n
    generalize n / 65536 = m at *
    by_cases h2 : 256 ≤ m
    · have e2 := bl_shift (n := m) (k := 8) h2
      rw [show m / 2 ^ 8 = m / 256 from rfl] at e2
      have hm2 : m / 256 < 256 := by omega
      have f2 := fdiv_8 m
      generalize m / 256 = k at *
      have hb := bl8 hm2
      rw [e1, e2]
      simp (disch := omega) [if_pos, f1, f2, hs, wrap_i64, wrap_u32, wrap_u8n, tab_bl']
      omega
    · have hb := bl8 (i := m) (by omega)
      rw [e1]
      simp (disch := omega) [if_pos, if_neg, f1, hs, wrap_i64, wrap_u32, wrap_u8n, tab_bl']
      omega
  · by_cases h2 : 256 ≤ n
    · have e2 := bl_shift (n := n) (k := 8) h2
      rw [show n / 2 ^ 8 = n / 256 from rfl] at e2
      have hm2 : n / 256 < 256 := by omega
      have f2 := fdiv_8 n
      generalize n / 256 = k at *
      have hb := bl8 hm2
      rw [e2]
      simp (disch := omega) [if_pos, if_neg, f2, hs, wrap_i64, wrap_u32, wrap_u8n, tab_bl']
      omega
    · have hb := bl8 (i := n) (by omega)
      simp (disch := omega) [if_pos, if_neg, hs, wrap_i64, wrap_u32, wrap_u8n, tab_bl']

theorem pc_lz32 (n : Nat) (hn : n < 4294967296) : pureCall (run F) 108 [.int .u32 n] = some (.int .i64 (32 - bl n : Nat)) := by
  have h1 := pc_len32 (F := F) n hn
  have h2 : bl n ≤ 32 := bl_le.2 hn
  refine pure_ret h.bits_LeadingZeros32 rfl ?_
  simp (disch := omega) [c_bits_LeadingZeros32, any_pure, h1, wrap_i64]
  omega

theorem bl_over16 {n : Nat} (h : 65536 ≤ n) : bl n = bl (n / 65536) + 16 := bl_shift (k := 16) h
theorem bl_over8 {n : Nat} (h : 256 ≤ n) : bl n = bl (n / 256) + 8 := bl_shift (k := 8) h
theorem bl_over32 {n : Nat} (h : 4294967296 ≤ n) : bl n = bl (n / 4294967296) + 32 := bl_shift (k := 32) h

theorem len64_last (m c : Nat) (hm : m < 256) (hc : c ≤ 56) : IntKind.i64.wrap ((c : Int) + IntKind.i64.wrap ((bitsTab.data[m]?.getD 0).toNat : Int)) = ((bl m + c : Nat) : Int) := by
  have := bl8 hm
  rw [tab_bl' hm, wrap_i64 (n := (bl m : Int)) (by omega) (by omega), wrap_i64 (by omega) (by omega)]
  omega

theorem pc_len64 (n : Nat) (hn : n < 18446744073709551616) : pureCall (run F) 117 [.int .u64 n] = some (.int .i64 (bl n : Nat)) := by
  have hs := tab_size
  refine pure_ret h.bits_Len64 rfl ?_
  unfold c_bits_Len64
  rw [show (ByteArray.mk _ : ByteArray) = bitsTab from rfl]
  have f8 := fdiv_8
  have f16 := fdiv_16
  have f32 := fdiv_32n
  by_cases h1 : 4294967296 ≤ n
  · rw [bl_over32 h1]
    have g1 : n / 4294967296 < 4294967296 := by omega
    have f1 := f32 n
    generalize n / 4294967296 = m at *
    by_cases h2 : 65536 ≤ m
    · rw [bl_over16 h2]
      have g2 : m / 65536 < 65536 := by omega
      have f2 := f16 m
      generalize m / 65536 = k at *
      by_cases h3 : 256 ≤ k
      · rw [bl_over8 h3]
        have g3 : k / 256 < 256 := by omega
        have f3 := f8 k
        generalize k / 256 = j at *
        have hb := bl8 g3
        simp (disch := omega) [if_pos, if_neg, f1, f2, f3, hs, wrap_i64, wrap_u64, wrap_u8n, tab_bl']
        omega
      · have hb := bl8 (i := k) (by omega)
        simp (disch := omega) [if_pos, if_neg, f1, f2, hs, wrap_i64, wrap_u64, wrap_u8n, tab_bl']
        omega
    · by_cases h3 : 256 ≤ m
      · rw [bl_over8 h3]
        have g3 : m / 256 < 256 := by omega
        have f3 := f8 m
        generalize m / 256 = j at *
        have hb := bl8 g3
        simp (disch := omega) [if_pos, if_neg, f1, f3, hs, wrap_i64, wrap_u64, wrap_u8n, tab_bl']
        omega
      · have hb := bl8 (i := m) (by omega)
        simp (disch := omega) [if_pos, if_neg, f1, hs, wrap_i64, wrap_u64, wrap_u8n, tab_bl']
        omega
  · by_cases h2 : 65536 ≤ n
    · rw [bl_over16 h2]
      have g2 : n / 65536 < 65536 := by omega
      have f2 := f16 n
      generalize n / 65536 = k at *
      by_cases h3 : 256 ≤ k
      · rw [bl_over8 h3]
        have g3 : k / 256 < 256 := by omega
        have f3 := f8 k
        generalize k / 256 = j at *
        have hb := bl8 g3
        simp (disch := omega) [if_pos, if_neg, f2, f3, hs, wrap_i64, wrap_u64, wrap_u8n, tab_bl']
        omega
      · have hb := bl8 (i := k) (by omega)
        simp (disch := omega) [if_pos, if_neg, f2, hs, wrap_i64, wrap_u64, wrap_u8n, tab_bl']
        omega
    · by_cases h3 : 256 ≤ n
      · rw [bl_over8 h3]
        have g3 : n / 256 < 256 := by omega
        have f3 := f8 n
        generalize n / 256 = j at *
        have hb := bl8 g3
        simp (disch := omega) [if_pos, if_neg, f3, hs, wrap_i64, wrap_u64, wrap_u8n, tab_bl']
        omega
      · have hb := bl8 (i := n) (by omega)
        simp (disch := omega) [if_pos, if_neg, hs, wrap_i64, wrap_u64, wrap_u8n, tab_bl']

theorem pc_len (n : Nat) (hn : n < 18446744073709551616) : pureCall (run F) 102 [.int .u64 n] = some (.int .i64 (bl n : Nat)) := by
  have h1 := pc_len64 (F := F) n hn
  refine pure_ret h.bits_Len rfl ?_
  simp [c_bits_Len, any_pure, h1]

theorem neg_is {a : AVal} {x : Int} {m : Nat} (ha : IsI a x m) (hm : m < 2^36) : pureCall (run F) 49 [a] = some (IV (-x)) := by
  obtain ⟨na, ra, la, rfl, hla, hlen, rfl⟩ := ha
  have h1 := pc_mag (F := F) na ra la hla (by omega)
  have h2 := pc_neg (F := F) na ra la hla (by omega)
  have h3 := len_D_ev hla
  have h4 := pc_made (F := F) (!(na && decide (ev la ≠ 0))) ra (D (ev la)) (lim_D _) (by omega)
  rw [ev_D] at h4
  have e : sgn (!(na && decide (ev la ≠ 0))) (ev la) = - sgn na (ev la) := by
    cases na <;> by_cases h0 : ev la = 0 <;> simp [sgn, h0]
  rw [e] at h4
  generalize (na && decide (ev la ≠ 0)) = s at *
  refine pure_ret h.limbs_Neg rfl ?_
  simp [c_limbs_Neg, any_pure, h1, h2, h4]

/-- The order of integers. -/
def cmpZ (x y : Int) : Int := if x < y then -1 else if x = y then 0 else 1

theorem sign_is {a : AVal} {x : Int} {m : Nat} (ha : IsI a x m) (hm : m < 2^36) : pureCall (run F) 52 [a] = some (.int .i64 (cmpZ x 0)) := by
  obtain ⟨na, ra, la, rfl, hla, hlen, rfl⟩ := ha
  rw [pc_sign na ra la hla (by omega)]
  congr 2
  unfold cmpZ sgn
  cases na <;> by_cases h0 : ev la = 0 <;> simp [h0] <;> omega

theorem cmp_is {a b : AVal} {x y : Int} {m n : Nat} (ha : IsI a x m) (hb : IsI b y n) (hm : m < 2^36) (hn : n < 2^36) : pureCall (run F) 51 [a, b] = some (.int .i64 (cmpZ x y)) := by
  have hs := sign_is (F := F) ha hm
  have ht := sign_is (F := F) hb hn
  obtain ⟨na, ra, la, rfl, hla, hlen, rfl⟩ := ha
  obtain ⟨nb, rb, lb, rfl, hlb, hlenb, rfl⟩ := hb
  have h1 := pc_mag (F := F) na ra la hla (by omega)
  have h2 := pc_mag (F := F) nb rb lb hlb (by omega)
  have h3 := len_D_ev hla
  have h4 := len_D_ev hlb
  have h5 := pc_cmp (F := F) ra rb (ev la) (ev lb) (by omega) (by omega)
  unfold cmpZ at hs ht ⊢
  unfold cmpI at h5
  refine pure_ret h.limbs_Cmp rfl ?_
  cases na <;> cases nb <;> simp only [sgn, if_true, if_false, Bool.false_eq_true] at hs ht ⊢
  all_goals
    rcases Nat.lt_trichotomy (ev la) (ev lb) with g | g | g <;> by_cases g1 : ev la = 0 <;> by_cases g2 : ev lb = 0 <;>
      first
      | (exfalso; omega)
      | (simp (disch := omega) [if_pos, if_neg] at hs ht h5 ⊢
         simp (disch := omega) [c_limbs_Cmp, any_pure, h1, h2, h5, hs, ht, wrap_i64, if_pos, if_neg])

theorem pc_bits_D {a : AVal} {x : Int} {m : Nat} (ha : IsI a x m) (hm : m < 2^36) : pureCall (run F) 53 [a] = some (.int .i64 (bl x.natAbs : Nat)) := by
  obtain ⟨na, ra, la, rfl, hla, hlen, rfl⟩ := ha
  have h1 := pc_mag (F := F) na ra la hla (by omega)
  have h3 := len_D_ev hla
  rw [sgn_abs]
  refine pure_ret h.limbs_Bits rfl ?_
  by_cases h0 : ev la = 0
  · simp [c_limbs_Bits, any_pure, h1, h0]
  · obtain ⟨hl, hb⟩ := bl_D h0
    have hlim := (lim_D (ev la)).get hl
    have h4 := pc_len32 (F := F) _ hlim
    rw [hb]
    have hb32 : bl (D (ev la))[(D (ev la)).length - 1] ≤ 32 := bl_le.2 hlim
    have hi : (((D (ev la)).length : Int) - 1).toNat = (D (ev la)).length - 1 := by omega
    simp (disch := omega) [c_limbs_Bits, any_pure, h1, h0, wrap_i64, if_pos, hi, h4]
    omega

theorem mod_is {a : AVal} {x : Int} {m : Nat} (ha : IsI a x m) (hm : m < 2^36) (d : Int) (h0 : -9223372036854775808 ≤ d) (h1 : d < 9223372036854775808) :
    pureCall (run F) 40 [a, .int .i64 d] = some (if d < 1 ∨ 2147483647 < d then .tup [.int .i64 0, .int .i64 1] else .tup [.int .i64 (x % d), .int .i64 0]) := by
  obtain ⟨na, ra, la, rfl, hla, hlen, rfl⟩ := ha
  have g1 := pc_mag (F := F) na ra la hla (by omega)
  have g2 := pc_neg (F := F) na ra la hla (by omega)
  have g3 := len_D_ev hla
  refine pure_ret h.limbs_Mod rfl ?_
  by_cases hd : d < 1 ∨ 2147483647 < d
  · rw [if_pos hd]
    rcases Int.lt_or_le d 1 with hd1 | hd1
    · simp (disch := omega) [c_limbs_Mod, if_pos, if_neg, decide_eq_true, decide_eq_false]
    · simp (disch := omega) [c_limbs_Mod, if_pos, if_neg, decide_eq_true, decide_eq_false]
  · rw [if_neg hd]
    obtain ⟨k, rfl⟩ : ∃ k : Nat, d = k := ⟨d.toNat, by omega⟩
    have g4 := pc_small (F := F) ra (D (ev la)) k (lim_D _) (by omega) (by omega) (by omega)
    rw [ev_D] at g4
    have hlt : ev la % k < k := Nat.mod_lt _ (by omega)
    have hr : sgn na (ev la) % (k : Int) = if (na && decide (ev la ≠ 0)) = true ∧ 0 < ev la % k then ((k - ev la % k : Nat) : Int) else ((ev la % k : Nat) : Int) := by
      have hc : (((ev la) % k : Nat) : Int) = (ev la : Int) % (k : Int) := Int.natCast_emod _ _
      cases na
      · simp [sgn]
      · by_cases hr0 : ev la % k = 0
        · rw [if_neg (by omega)]
          have : (k : Int) ∣ (ev la : Int) := Int.natCast_dvd_natCast.2 (Nat.dvd_of_mod_eq_zero hr0)
          rw [hr0]
          exact Int.emod_eq_zero_of_dvd (Int.dvd_neg.2 this)
        · have h0 : ev la ≠ 0 := by intro h0; rw [h0] at hr0; simp at hr0
          rw [if_pos ⟨by simp [h0], by omega⟩]
          have e : sgn true (ev la) = ((k - ev la % k : Nat) : Int) + (k : Int) * (-((ev la / k : Nat) : Int) - 1) := by
            have := Nat.div_add_mod (ev la) k
            have h5 : ((ev la : Nat) : Int) = (k : Int) * ((ev la / k : Nat) : Int) + ((ev la % k : Nat) : Int) := by
              rw [← Int.natCast_mul, ← Int.natCast_add, this]
            simp only [sgn, if_true, Int.mul_sub, Int.mul_neg]
            omega
          rw [e, Int.add_mul_emod_self_left, Int.emod_eq_of_lt (by omega) (by omega)]
    rw [hr]
    generalize (na && decide (ev la ≠ 0)) = s at *
    generalize ev la % k = r at *
    cases s
    · simp (disch := omega) [c_limbs_Mod, if_pos, if_neg, decide_eq_true, decide_eq_false, any_pure, g1, g2, g4, wrap_i64, wrap_u32]
    · by_cases hr0 : 0 < r
      · simp (disch := omega) [c_limbs_Mod, if_pos, if_neg, decide_eq_true, decide_eq_false, any_pure, g1, g2, g4, wrap_i64, wrap_u32]
        omega
      · simp (disch := omega) [c_limbs_Mod, if_pos, if_neg, decide_eq_true, decide_eq_false, any_pure, g1, g2, g4, wrap_i64, wrap_u32]

theorem D_one {n : Nat} (h0 : n ≠ 0) (h : n < 4294967296) : D n = [n] := by
  rw [D_pos h0, Nat.mod_eq_of_lt h, Nat.div_eq_of_lt h, D_zero]
theorem D_two {n : Nat} (h0 : 4294967296 ≤ n) (h : n < 18446744073709551616) : D n = [n % 4294967296, n / 4294967296] := by
  have e : D n = n % 4294967296 :: D (n / 4294967296) := D_pos (by omega)
  rw [e, D_one (by omega) (by omega)]

theorem or_u64_lo {a b : Nat} (ha : a < 4294967296) (hb : b < 4294967296) : intA .or .u64 (a : Int) ((b : Int) * 4294967296) = some (.int .u64 (((b * 4294967296 + a : Nat) : Int))) := by
  have h1 : (BitVec.ofInt 64 (a : Int) ||| BitVec.ofInt 64 (((b * 4294967296 : Nat) : Int))).toNat = b * 4294967296 + a := by
    rw [BitVec.ofInt_natCast, BitVec.ofInt_natCast, BitVec.toNat_or, BitVec.toNat_ofNat, BitVec.toNat_ofNat, Nat.mod_eq_of_lt (by omega), Nat.mod_eq_of_lt (by omega), Nat.or_comm]
    have := Nat.two_pow_add_eq_or_of_lt (i := 32) (b := a) (by omega) b
    rw [Nat.mul_comm b]
    exact this.symm
  have h2 : ((b : Int) * 4294967296) = ((b * 4294967296 : Nat) : Int) := by omega
  rw [h2]
  show some (AVal.int .u64 (IntKind.u64.wrap (((BitVec.ofInt 64 (a : Int) ||| BitVec.ofInt 64 (((b * 4294967296 : Nat) : Int))).toNat : Nat) : Int))) = _
  rw [h1, wrap_u64 (by omega) (by omega)]

theorem or_u64_zero {a : Nat} (ha : a < 4294967296) : intA .or .u64 0 (a : Int) = some (.int .u64 (a : Int)) := by
  have h1 : (BitVec.ofInt 64 0 ||| BitVec.ofInt 64 (a : Int)).toNat = a := by
    rw [BitVec.ofInt_natCast, BitVec.toNat_or, BitVec.toNat_ofNat, Nat.mod_eq_of_lt (by omega)]
    simp
  show some (AVal.int .u64 (IntKind.u64.wrap (((BitVec.ofInt 64 0 ||| BitVec.ofInt 64 (a : Int)).toNat : Nat) : Int))) = _
  rw [h1, wrap_u64 (by omega) (by omega)]

/-- limbs.Small: the bits of a magnitude of two limbs at most. -/
theorem small2_loop (nl : Bool) (n : Nat) (hn : n < 18446744073709551616) (b0 : AVal) (H : Heap) (a : AVal) (hH : H = [some ⟨false, 2, [a]⟩]) (ha : a.ids = []) (env : List AVal) :
    ∃ x, exec F l_limbs_Small_0 ⟨[b0, .mptr 0 0 0, .int .i64 0, .bool false, .slc nl (u32s (D n)), .int .u64 0, .und, .und, .slc nl (u32s (D n)), .int .i64 (D n).length, .int .i64 0], env, H, 0⟩ =
      some (.exit 0, ⟨[.und, .mptr 0 0 0, .und, .und, .und, .int .u64 (n : Nat), .und, .und, .slc nl (u32s (D n)), .int .i64 (D n).length, x], [], H, 0⟩) := by
  subst hH
  have t : ∀ {live vars env}, idsL (mask live vars) = [0] → tidy live ⟨vars, env, [some ⟨false, 2, [a]⟩], 0⟩ = some ⟨mask live vars, [], [some ⟨false, 2, [a]⟩], 0⟩ := fun hv => tidy_one hv (by simp [ha])
  rcases Nat.eq_zero_or_pos n with rfl | h0
  · refine ⟨.int .i64 0, ?_⟩
    unfold l_limbs_Small_0
    rw [exec_loop, t (by simp)]
    simp [u32s]
  · rcases Nat.lt_or_ge n 4294967296 with h1 | h1
    · rw [D_one (by omega) h1]
      have ho := or_u64_zero h1
      refine ⟨.int .i64 1, ?_⟩
      unfold l_limbs_Small_0
      rw [exec_loop, t (by simp)]
      simp (disch := omega) [u32s, wrap_i64, wrap_u64, ho]
      rw [exec_loop, t (by simp)]
      simp
    · rw [D_two h1 hn]
      have ho := or_u64_zero (a := n % 4294967296) (by omega)
      have ho2 := or_u64_lo (a := n % 4294967296) (b := n / 4294967296) (by omega) (by omega)
      have hnn : n / 4294967296 * 4294967296 + n % 4294967296 = n := by omega
      rw [hnn] at ho2
      generalize n % 4294967296 = p at *
      generalize n / 4294967296 = q at *
      refine ⟨.int .i64 2, ?_⟩
      unfold l_limbs_Small_0
      rw [exec_loop, t (by simp)]
      simp (disch := omega) [u32s, wrap_i64, wrap_u64, ho]
      rw [exec_loop, t (by simp)]
      simp (disch := omega) [wrap_i64, wrap_u64, ho2]
      rw [exec_loop, t (by simp)]
      simp

theorem D_len_two {n : Nat} : (D n).length ≤ 2 ↔ n < 18446744073709551616 :=
  ⟨fun h => le_of_D_len h, fun h => D_len_le (k := 2) h⟩

theorem wrap_u64_neg {u : Int} (h0 : 0 < u) (h1 : u ≤ 9223372036854775808) : IntKind.i64.wrap (IntKind.u64.wrap (-u)) = -u := by
  simp only [IntKind.wrap, IntKind.bits, IntKind.signed]; simp; omega

/-- limbs.Small. -/
theorem small_is {a : AVal} {x : Int} {m : Nat} (ha : IsI a x m) (hm : m < 2^36) :
    pureCall (run F) 33 [a] = some (if -9223372036854775808 ≤ x ∧ x < 9223372036854775808 then .tup [.int .i64 x, .bool true] else .tup [.int .i64 0, .bool false]) := by
  obtain ⟨na, ra, la, rfl, hla, hlen, rfl⟩ := ha
  have g1 := pc_mag (F := F) na ra la hla (by omega)
  have g2 := pc_neg (F := F) na ra la hla (by omega)
  have e1 : sgn na (ev la) = sgn (na && decide (ev la ≠ 0)) (ev la) := by cases na <;> by_cases h0 : ev la = 0 <;> simp [sgn, h0]
  have e2 : (na && decide (ev la ≠ 0)) = true → ev la ≠ 0 := by cases na <;> by_cases h0 : ev la = 0 <;> simp [h0]
  rw [e1]
  generalize (na && decide (ev la ≠ 0)) = s at *
  refine pure_ret h.limbs_Small rfl ?_
  by_cases hn : ev la < 18446744073709551616
  · obtain ⟨x, hx⟩ := small2_loop (F := F) ra (ev la) hn (.agg [.bool na, .slc ra (u32s la)]) [some ⟨false, 2, [.agg [.bool na, .slc ra (u32s la)]]⟩] (.agg [.bool na, .slc ra (u32s la)]) rfl (by simp) [.int .i64 0, .int .i64 (D (ev la)).length, .slc ra (u32s (D (ev la)))]
    have h2 := D_len_two.2 hn
    cases s
    · by_cases hs : ev la < 9223372036854775808
      · simp (disch := omega) [c_limbs_Small, any_pure, g1, g2, if_pos, if_neg, decide_eq_true, decide_eq_false, hx, sgn, wrap_i64]
      · simp (disch := omega) [c_limbs_Small, any_pure, g1, g2, if_pos, if_neg, decide_eq_true, decide_eq_false, hx, sgn, wrap_i64]
    · have h0 := e2 rfl
      by_cases hs : ev la ≤ 9223372036854775808
      · simp (disch := omega) [c_limbs_Small, any_pure, g1, g2, if_pos, if_neg, decide_eq_true, decide_eq_false, hx, sgn, wrap_u64_neg]
      · simp (disch := omega) [c_limbs_Small, any_pure, g1, g2, if_pos, if_neg, decide_eq_true, decide_eq_false, hx, sgn]
  · have h2 : ¬ (D (ev la)).length ≤ 2 := fun h => hn (D_len_two.1 h)
    have h3 : ¬ (-9223372036854775808 ≤ sgn s (ev la) ∧ sgn s (ev la) < 9223372036854775808) := by cases s <;> simp [sgn] <;> omega
    rw [if_neg h3]
    simp (disch := omega) [c_limbs_Small, any_pure, g1, if_pos, if_neg, decide_eq_true, decide_eq_false]
end Go.Ash
/- The document's integers: trim, cmp, Sign, Abs, Neg, Cmp. -/
namespace Go.Ash
variable {F : Nat → Option RFunc} [h : CodeRef1 F]

theorem rtrim_loop (neg nl : Bool) (d : List Nat) (b : Blk) (hb : idsL b.elems = []) (hd : LimW d) (hlen : d.length < 2^40) :
    ∃ e st, (∀ env, exec F l_ashlarref1_trim_0 ⟨[.bool neg, .slc nl (i64s d), .mptr 0 0 0, .int .i64 d.length], env, [some b], 0⟩ = some (e, st)) ∧
      (e = .exit 0 ∧ st = ⟨[.bool neg, .slc nl (i64s d), .mptr 0 0 0, .int .i64 (DW (ew d)).length], [], [some b], 0⟩) := by
  refine loop_rule
    (fun n st => st = ⟨[.bool neg, .slc nl (i64s d), .mptr 0 0 0, .int .i64 n], [], [some b], 0⟩ ∧ n ≤ d.length ∧ ew (d.take n) = ew d) _ d.length _ ?_
    (tidy_one (by simp) hb) ⟨rfl, Nat.le_refl _, by simp⟩
  rintro n st ⟨rfl, hn, hev⟩
  rcases Nat.eq_zero_or_pos n with rfl | hpos
  · refine .out (.exit 0) _ (by simp) ⟨rfl, rfl⟩ ?_
    rw [← hev]
    simp [after, ew]
  · obtain ⟨n, rfl⟩ : ∃ k, n = k + 1 := ⟨n - 1, by omega⟩
    have hnl : n < d.length := hn
    by_cases h0 : d[n] = 0
    · refine .more n _ (by omega) ⟨rfl, by omega, ?_⟩ ?_
      · rw [← hev, ew_take_succ hnl, h0]; simp
      · simp (disch := first | omega | simp) [after, tidy_one, if_pos, if_neg, decide_eq_true, wrap_i64, h0, hb]
    · have ht : DW (ew d) = d.take (n + 1) := by
        rw [← hev]
        refine DW_ew (limW_take hd _) (fun hne => ?_)
        rw [List.getLast_eq_getElem]
        simp only [List.length_take, Nat.min_eq_left hn, Nat.add_sub_cancel, List.getElem_take]
        exact h0
      have hlen' : (DW (ew d)).length = n + 1 := by rw [ht]; simp; omega
      refine .out (.exit 0) _ (by simp) ⟨rfl, rfl⟩ ?_
      rw [hlen']
      simp (disch := first | omega | simp) [after, if_pos, if_neg, decide_eq_true, wrap_i64, h0]

@[simp] theorem bounds_ftt {n k k' h m} : bounds n false true true [.int k h, .int k' m] = if 0 ≤ h ∧ h ≤ m ∧ m ≤ n then some (0, h.toNat) else none := by
  simp only [bounds]
  by_cases h1 : 0 ≤ m ∧ m ≤ n
  · rw [if_pos h1, Option.bind_some]
    by_cases h2 : 0 ≤ h ∧ h ≤ ((m.toNat : Nat) : Int)
    · rw [if_pos h2, if_pos (by omega)]; rfl
    · rw [if_neg h2, if_neg (by omega)]; rfl
  · rw [if_neg h1, if_neg (by omega)]; rfl

theorem pc_rtrim (neg nl : Bool) (d : List Nat) (hd : LimW d) (hlen : d.length < 2^40) : pureCall (run F) 71 [.bool neg, .slc nl (i64s d)] = some (RI nl (sgn neg (ew d))) := by
  obtain ⟨e, st, he, rfl, rfl⟩ := rtrim_loop (F := F) neg nl d ⟨false, 2, [.agg [.bool false, .slc true []]]⟩ (by simp) hd hlen
  have hle := len_DW_ew hd
  have htk := take_DW d hd
  refine pure_ret h.ashlarref1_trim rfl ?_
  by_cases h0 : ew d = 0
  · have : RI nl (sgn neg (ew d)) = .agg [.bool false, .slc nl []] := by rw [h0]; cases neg <;> simp [RI, sgn, i64s]
    rw [this]
    rw [h0, DW_zero] at he
    cases neg <;> simp (disch := first | omega | simp) [c_ashlarref1_trim, he, if_pos, fillA, setAll, i64s_take, putElem, putAgg]
  · have hpos : 0 < (DW (ew d)).length := List.length_pos_iff.2 (by simpa using h0)
    have : RI nl (sgn neg (ew d)) = .agg [.bool neg, .slc nl (i64s (DW (ew d)))] := by
      cases neg <;> simp [RI, sgn, h0] <;> omega
    rw [this]
    cases neg <;> simp (disch := first | omega | simp) [c_ashlarref1_trim, he, if_pos, decide_eq_true, fillA, setAll, i64s_take, putElem, putAgg, htk]

theorem rcmp_lt {a b p u v : Nat} (ha : a < p) (h : u < v) : a + p * u < b + p * v := by
  have := Nat.mul_le_mul_left p (Nat.succ_le_of_lt h)
  rw [Nat.mul_succ] at this
  omega

theorem rcmp_loop (nx ny : Bool) (x y : List Nat) (hx : LimW x) (hy : LimW y) (hxy : x.length = y.length) (hlen : x.length < 2^40) :
    ∃ e st, (∀ env, exec F l_ashlarref1_cmp_0 ⟨[.slc nx (i64s x), .slc ny (i64s y), .int .i64 0, .int .i64 ((x.length : Int) - 1)], env, [], 0⟩ = some (e, st)) ∧
      ((ew x = ew y ∧ e = .exit 0 ∧ ∃ a b c d, st = ⟨[a, b, c, d], [], [], 0⟩) ∨ (ew x ≠ ew y ∧ e = .ret ∧ ∃ a b c, st = ⟨[a, b, .int .i64 (if ew x < ew y then -1 else 1), c], [], [], 0⟩)) := by
  refine loop_rule
    (fun n st => st = ⟨[.slc nx (i64s x), .slc ny (i64s y), .und, .int .i64 ((n : Int) - 1)], [], [], 0⟩ ∧ n ≤ x.length ∧ ew (x.drop n) = ew (y.drop n)) _ x.length _ ?_
    (tidy_none (by simp)) ⟨rfl, Nat.le_refl _, by rw [List.drop_of_length_le (Nat.le_refl _), List.drop_of_length_le (by omega)]⟩
  rintro n st ⟨rfl, hn, hev⟩
  rcases Nat.eq_zero_or_pos n with rfl | hpos
  · refine .out (.exit 0) _ (by simp) (.inl ⟨by simpa using hev, rfl, .slc nx (i64s x), .slc ny (i64s y), .und, .int .i64 (-1), rfl⟩) ?_
    simp [after]
  · obtain ⟨n, rfl⟩ : ∃ k, n = k + 1 := ⟨n - 1, by omega⟩
    have hidx : ((n + 1 : Nat) : Int) - 1 = n := by omega
    have hnx : n < x.length := hn
    have hny : n < y.length := by omega
    rw [hidx]
    have split : ∀ (l : List Nat), ew l = ew (l.take n) + B16 ^ (l.take n).length * ew (l.drop n) := fun l => by rw [← ew_append, List.take_append_drop]
    have sx := split x
    have sy := split y
    rw [List.length_take, Nat.min_eq_left (by omega), drop_ew hnx] at sx
    rw [List.length_take, Nat.min_eq_left (by omega), drop_ew hny, ← hev] at sy
    have lx := ew_lt (limW_take hx n)
    have ly := ew_lt (limW_take hy n)
    rw [List.length_take, Nat.min_eq_left (by omega)] at lx ly
    by_cases h0 : x[n] = y[n]
    · refine .more n _ (by omega) ⟨rfl, by omega, by rw [drop_ew hnx, drop_ew hny, h0, hev]⟩ ?_
      simp (disch := first | omega | simp) [after, tidy_none, if_pos, if_neg, decide_eq_true, decide_eq_false, wrap_i64, h0]
    · rcases Nat.lt_or_gt_of_ne h0 with hlt | hgt
      · have h1 : ew x < ew y := by rw [sx, sy]; exact rcmp_lt lx (by omega)
        refine .out .ret _ (by simp) (.inr ⟨by omega, rfl, .slc nx (i64s x), .slc ny (i64s y), .int .i64 n, rfl⟩) ?_
        simp (disch := first | omega | simp) [after, if_pos, if_neg, decide_eq_true, decide_eq_false, wrap_i64]
      · have h1 : ew y < ew x := by rw [sx, sy]; exact rcmp_lt ly (by omega)
        refine .out .ret _ (by simp) (.inr ⟨by omega, rfl, .slc nx (i64s x), .slc ny (i64s y), .int .i64 n, rfl⟩) ?_
        simp (disch := first | omega | simp) [after, if_pos, if_neg, decide_eq_true, decide_eq_false, wrap_i64]

theorem DW_len_lt {a b : Nat} (h : (DW a).length < (DW b).length) : a < b := by
  rcases Nat.lt_or_ge a b with h' | h'
  · exact h'
  · have := DW_len_mono h'; omega

theorem pc_rcmp (nx ny : Bool) (a b : Nat) (ha : (DW a).length < 2^39) (hb : (DW b).length < 2^39) : pureCall (run F) 90 [.slc nx (i64s (DW a)), .slc ny (i64s (DW b))] = some (.int .i64 (cmpI a b)) := by
  refine pure_ret h.ashlarref1_cmp rfl ?_
  by_cases hl : (DW a).length = (DW b).length
  · obtain ⟨e, st, he, hq⟩ := rcmp_loop (F := F) nx ny (DW a) (DW b) (limW_DW a) (limW_DW b) hl (by omega)
    rw [ew_DW, ew_DW] at hq
    rw [hl] at he
    rcases hq with ⟨hab, rfl, p, q, r, s, rfl⟩ | ⟨hab, rfl, p, q, r, rfl⟩
    · have hc : cmpI a b = 0 := by unfold cmpI; rw [if_neg (by omega), if_pos hab]
      rw [hc]
      simp (disch := first | omega | simp) [c_ashlarref1_cmp, hl, wrap_i64, he]
    · have hc : cmpI a b = if a < b then -1 else 1 := by unfold cmpI; rw [if_neg hab]
      rw [hc]
      simp (disch := first | omega | simp) [c_ashlarref1_cmp, hl, wrap_i64, he]
  · rcases Nat.lt_or_gt_of_ne hl with hlt | hgt
    · have hab := DW_len_lt hlt
      have hc : cmpI a b = -1 := by unfold cmpI; rw [if_pos hab]
      rw [hc]
      simp (disch := first | omega | simp) [c_ashlarref1_cmp, if_pos, if_neg, decide_eq_true, decide_eq_false, wrap_i64]
    · have hab := DW_len_lt hgt
      have hc : cmpI a b = 1 := by unfold cmpI; rw [if_neg (by omega), if_neg (by omega)]
      rw [hc]
      simp (disch := first | omega | simp) [c_ashlarref1_cmp, if_pos, if_neg, decide_eq_true, decide_eq_false, wrap_i64]

theorem rsign (nl : Bool) (z : Int) : pureCall (run F) 25 [RI nl z] = some (.int .i64 (cmpZ z 0)) := by
  refine pure_ret h.ashlarref1_Sign rfl ?_
  unfold cmpZ
  rcases Int.lt_trichotomy z 0 with h1 | h1 | h1
  · have h0 : ¬ z = 0 := by omega
    simp (disch := first | omega | simp) [c_ashlarref1_Sign, RI, h0, h1]
  · subst h1
    simp [c_ashlarref1_Sign, RI]
  · have h0 : ¬ z = 0 := by omega
    simp (disch := first | omega | simp) [c_ashlarref1_Sign, RI, h0, if_neg, decide_eq_false]

theorem rabs (nl : Bool) (z : Int) : pureCall (run F) 30 [RI nl z] = some (RI nl (z.natAbs : Int)) := by
  have e : RI nl (z.natAbs : Int) = .agg [.bool false, .slc nl (i64s (DW z.natAbs))] := by
    simp only [RI, Int.natAbs_natCast]; congr 3
  rw [e]
  refine pure_ret h.ashlarref1_Abs rfl ?_
  simp [c_ashlarref1_Abs, RI, fillA, setAll, putElem, putAgg]

theorem rneg (nl : Bool) (z : Int) (hz : (DW z.natAbs).length < 2^39) : pureCall (run F) 50 [RI nl z] = some (RI nl (-z)) := by
  have ht := pc_rtrim (F := F) (!decide (z < 0)) nl (DW z.natAbs) (limW_DW _) (by omega)
  rw [ew_DW] at ht
  have e : sgn (!decide (z < 0)) z.natAbs = -z := by
    by_cases h : z < 0 <;> simp [sgn, h] <;> first | done | omega
  rw [e] at ht
  refine pure_ret h.ashlarref1_Neg rfl ?_
  have e2 : RI nl z = .agg [.bool (decide (z < 0)), .slc nl (i64s (DW z.natAbs))] := rfl
  rw [e2]
  generalize decide (z < 0) = s at *
  simp [c_ashlarref1_Neg, any_pure, ht]

theorem rCmp (n1 n2 : Bool) (x y : Int) (hx : (DW x.natAbs).length < 2^39) (hy : (DW y.natAbs).length < 2^39) : pureCall (run F) 28 [RI n1 x, RI n2 y] = some (.int .i64 (cmpZ x y)) := by
  have h1 := rsign (F := F) n1 x
  have h2 := rsign (F := F) n2 y
  have h3 := pc_rcmp (F := F) n1 n2 x.natAbs y.natAbs hx hy
  unfold cmpZ at h1 h2 ⊢
  unfold cmpI at h3
  refine pure_ret h.ashlarref1_Cmp rfl ?_
  rcases Int.lt_trichotomy x 0 with a1 | a1 | a1 <;> rcases Int.lt_trichotomy y 0 with a2 | a2 | a2 <;> rcases Int.lt_trichotomy x y with a3 | a3 | a3 <;> first
    | (exfalso; omega)
    | (simp (disch := omega) only [if_pos, if_neg] at h1 h2 h3 ⊢
       simp (disch := first | omega | simp) [c_ashlarref1_Cmp, any_pure, h1, h2, h3, wrap_i64])
end Go.Ash
/- The document's integers: add, sub, Add, Sub. -/
namespace Go.Ash
variable {F : Nat → Option RFunc} [h : CodeRef1 F]

/-- A slice that grows from nothing: what it is, and its block. -/
def gv (id : Nat) (l : List Nat) : AVal := if l = [] then .slc true [] else .mslc id 0 l.length
def gb (l : List Nat) : Heap := if l = [] then [] else [some ⟨false, 1, i64s l⟩]
theorem gv_nil (id : Nat) : gv id [] = .slc true [] := rfl
theorem gb_nil : gb [] = [] := rfl
theorem gv_cons {id : Nat} {l : List Nat} (h : l ≠ []) : gv id l = .mslc id 0 l.length := by simp [gv, h]
theorem gb_cons {l : List Nat} (h : l ≠ []) : gb l = [some ⟨false, 1, i64s l⟩] := by simp [gb, h]
theorem gv_snoc (id : Nat) (l : List Nat) (v : Nat) : gv id (l ++ [v]) = .mslc id 0 (l.length + 1) := by rw [gv_cons (by simp)]; simp
theorem gb_snoc (l : List Nat) (v : Nat) : gb (l ++ [v]) = [some ⟨false, 1, i64s (l ++ [v])⟩] := gb_cons (by simp)
theorem i64s_one (n : Nat) : i64s [n] = [.int .i64 (n : Int)] := rfl
theorem i64s_snoc (l : List Nat) (n : Nat) : i64s l ++ [.int .i64 (n : Int)] = i64s (l ++ [n]) := by simp [i64s]
theorem i64s_take_len (l : List Nat) : (i64s l).take l.length = i64s l := List.take_of_length_le (by simp)

theorem i64_mod (n : Nat) : (n : Int).tmod 65536 = ((n % 65536 : Nat) : Int) := tmod_nat n 65536
theorem i64_div (n : Nat) : (n : Int).tdiv 65536 = ((n / 65536 : Nat) : Int) := tdiv_nat n 65536

theorem radd_loop (nx ny : Bool) (x y : List Nat) (hx : LimW x) (hy : LimW y) (hlx : x.length < 2^39) (hly : y.length < 2^39) :
    ∃ e st, (∀ env, exec F l_ashlarref1_add_0 ⟨[.slc nx (i64s x), .slc ny (i64s y), .slc true [], .slc true [], .int .i64 0, .int .i64 0], env, [], 0⟩ = some (e, st)) ∧
      (e = .exit 0 ∧ ∃ d i, st = ⟨[.slc nx (i64s x), .slc ny (i64s y), .und, gv 0 d, .int .i64 0, i], [], gb d, 0⟩ ∧ d.length ≤ max x.length y.length + 1 ∧ LimW d ∧ ew d = ew x + ew y) := by
  refine loop_rule
    (fun n st => ∃ (d : List Nat) (c i : Nat), st = ⟨[.slc nx (i64s x), .slc ny (i64s y), .und, gv 0 d, .int .i64 c, .int .i64 i], [], gb d, 0⟩ ∧ n = 2 * (max x.length y.length - i) + c ∧ d.length = i ∧ LimW d ∧ c ≤ 1 ∧
      i ≤ max x.length y.length + 1 ∧ (i = max x.length y.length + 1 → c = 0) ∧ ew d + B16 ^ i * c = ew (x.take i) + ew (y.take i)) _ (2 * max x.length y.length) _ ?_
    (tidy_none (by simp)) ⟨[], 0, 0, rfl, by omega, rfl, (fun a ha => by cases ha), by omega, by omega, fun _ => rfl, by simp [ew]⟩
  rintro n st ⟨d, c, i, rfl, hn, hdl, hdlim, hc, hi, hic, hev⟩
  by_cases hout : x.length ≤ i ∧ y.length ≤ i ∧ c = 0
  · obtain ⟨h1, h2, rfl⟩ := hout
    refine .out (.exit 0) _ (by simp) ⟨rfl, d, .int .i64 i, rfl, by omega, hdlim, ?_⟩ ?_
    · rw [List.take_of_length_le h1, List.take_of_length_le h2] at hev
      simpa using hev
    · simp (disch := first | omega | simp) [after, if_pos, if_neg, decide_eq_false]
  · have key : ∀ (a b : Nat), a < 65536 → b < 65536 → ew (x.take (i + 1)) = ew (x.take i) + B16 ^ i * a → ew (y.take (i + 1)) = ew (y.take i) + B16 ^ i * b → (i < max x.length y.length ∨ (a = 0 ∧ b = 0)) →
        (d ++ [(c + a + b) % 65536]).length = i + 1 ∧ LimW (d ++ [(c + a + b) % 65536]) ∧ (c + a + b) / 65536 ≤ 1 ∧ i + 1 ≤ max x.length y.length + 1 ∧ (i + 1 = max x.length y.length + 1 → (c + a + b) / 65536 = 0) ∧
          ew (d ++ [(c + a + b) % 65536]) + B16 ^ (i + 1) * ((c + a + b) / 65536) = ew (x.take (i + 1)) + ew (y.take (i + 1)) := by
      intro a b ha hb ea eb hor
      refine ⟨by simp [hdl], limW_append hdlim (by intro z hz; simp at hz; subst hz; exact Nat.mod_lt _ (by decide)), by omega, by omega, by omega, ?_⟩
      rw [ew_snoc, hdl, ea, eb, Nat.pow_succ]
      have hdm := Nat.div_add_mod (c + a + b) 65536
      have e5 : B16 ^ i * (65536 * ((c + a + b) / 65536) + (c + a + b) % 65536) = B16 ^ i * (c + a + b) := by rw [hdm]
      have e8 : B16 ^ i * (B16 * ((c + a + b) / 65536)) = B16 ^ i * (65536 * ((c + a + b) / 65536)) := rfl
      rw [Nat.mul_assoc]
      simp only [Nat.mul_add] at e5 hev ⊢
      omega
    have xt : x.length ≤ i → ew (x.take (i + 1)) = ew (x.take i) + B16 ^ i * 0 := fun h => by rw [List.take_of_length_le (by omega), List.take_of_length_le h]; simp
    have yt : y.length ≤ i → ew (y.take (i + 1)) = ew (y.take i) + B16 ^ i * 0 := fun h => by rw [List.take_of_length_le (by omega), List.take_of_length_le h]; simp
    have mB := maxB
    have hci : i ≤ max x.length y.length := by omega
    rcases Nat.lt_or_ge i x.length with hix | hix
    · have hxi := hx.get hix
      rcases Nat.lt_or_ge i y.length with hiy | hiy
      · have hyi := hy.get hiy
        obtain ⟨n1, n2, n3, n4, n5, n6⟩ := key x[i] y[i] hxi hyi (ew_take_succ hix) (ew_take_succ hiy) (.inl (by omega))
        refine .more (2 * (max x.length y.length - (i + 1)) + (c + x[i] + y[i]) / 65536) _ (by omega) ⟨d ++ [(c + x[i] + y[i]) % 65536], (c + x[i] + y[i]) / 65536, i + 1, rfl, rfl, n1, n2, n3, n4, n5, n6⟩ ?_
        have hm := i64_mod (c + x[i] + y[i])
        have hq := i64_div (c + x[i] + y[i])
        have hlt : c + x[i] + y[i] < 131073 := by omega
        clear key xt yt hev hic n1 n2 n3 n4 n5 n6
        have hw1 : IntKind.i64.wrap ((c : Int) + (x[i] : Int)) = ((c + x[i] : Nat) : Int) := by rw [← Int.natCast_add]; exact wrap_i64 (by omega) (by omega)
        have hw2 : IntKind.i64.wrap (((c + x[i] : Nat) : Int) + (y[i] : Int)) = ((c + x[i] + y[i] : Nat) : Int) := by rw [← Int.natCast_add]; exact wrap_i64 (by omega) (by omega)
        generalize c + x[i] + y[i] = M at *
        generalize c + x[i] = M2 at *
        generalize hq2 : M / 65536 = q at *
        generalize hr2 : M % 65536 = r at *
        by_cases h0 : d = []
        · subst h0
          simp (disch := first | omega | simp) [after, gv_nil, gb_nil, gv_snoc, gb_snoc, tidy_eq, reach_end, reach_more, fuelIds, place_cons, pack, if_pos, if_neg, decide_eq_true, decide_eq_false, wrap_i64, hw1, hw2, hm, hq, goodElems, placeAll, elemsOf, maxB, i64s_one]
          try (exact ⟨(gv_snoc 0 [] r).symm, (gb_snoc [] r).symm⟩)
        · rw [gv_cons h0, gb_cons h0, gv_snoc, gb_snoc]
          simp (disch := first | omega | simp) [after, tidy_eq, reach_end, reach_more, fuelIds, place_cons, pack, if_pos, if_neg, decide_eq_true, decide_eq_false, wrap_i64, hw1, hw2, hm, hq, goodElems, placeAll, elemsOf, maxB, i64s_snoc, i64s_take_len]
      · obtain ⟨n1, n2, n3, n4, n5, n6⟩ := key x[i] 0 hxi (by decide) (ew_take_succ hix) (yt hiy) (.inl (by omega))
        simp only [Nat.add_zero] at n1 n2 n3 n4 n5 n6
        refine .more (2 * (max x.length y.length - (i + 1)) + (c + x[i]) / 65536) _ (by omega) ⟨d ++ [(c + x[i]) % 65536], (c + x[i]) / 65536, i + 1, rfl, rfl, n1, n2, n3, n4, n5, n6⟩ ?_
        have hm := i64_mod (c + x[i])
        have hq := i64_div (c + x[i])
        have hlt : c + x[i] < 131073 := by omega
        clear key xt yt hev hic n1 n2 n3 n4 n5 n6
        have hw1 : IntKind.i64.wrap ((c : Int) + (x[i] : Int)) = ((c + x[i] : Nat) : Int) := by rw [← Int.natCast_add]; exact wrap_i64 (by omega) (by omega)
        generalize c + x[i] = M at *
        generalize hq2 : M / 65536 = q at *
        generalize hr2 : M % 65536 = r at *
        by_cases h0 : d = []
        · subst h0
          simp (disch := first | omega | simp) [after, gv_nil, gb_nil, gv_snoc, gb_snoc, tidy_eq, reach_end, reach_more, fuelIds, place_cons, pack, if_pos, if_neg, decide_eq_true, decide_eq_false, wrap_i64, hw1, hm, hq, goodElems, placeAll, elemsOf, maxB, i64s_one]
          try (exact ⟨(gv_snoc 0 [] r).symm, (gb_snoc [] r).symm⟩)
        · rw [gv_cons h0, gb_cons h0, gv_snoc, gb_snoc]
          simp (disch := first | omega | simp) [after, tidy_eq, reach_end, reach_more, fuelIds, place_cons, pack, if_pos, if_neg, decide_eq_true, decide_eq_false, wrap_i64, hw1, hm, hq, goodElems, placeAll, elemsOf, maxB, i64s_snoc, i64s_take_len]
    · rcases Nat.lt_or_ge i y.length with hiy | hiy
      · have hyi := hy.get hiy
        obtain ⟨n1, n2, n3, n4, n5, n6⟩ := key 0 y[i] (by decide) hyi (xt hix) (ew_take_succ hiy) (.inl (by omega))
        simp only [Nat.add_zero] at n1 n2 n3 n4 n5 n6
        refine .more (2 * (max x.length y.length - (i + 1)) + (c + y[i]) / 65536) _ (by omega) ⟨d ++ [(c + y[i]) % 65536], (c + y[i]) / 65536, i + 1, rfl, rfl, n1, n2, n3, n4, n5, n6⟩ ?_
        have hm := i64_mod (c + y[i])
        have hq := i64_div (c + y[i])
        have hlt : c + y[i] < 131073 := by omega
        clear key xt yt hev hic n1 n2 n3 n4 n5 n6
        have hw2 : IntKind.i64.wrap ((c : Int) + (y[i] : Int)) = ((c + y[i] : Nat) : Int) := by rw [← Int.natCast_add]; exact wrap_i64 (by omega) (by omega)
        generalize c + y[i] = M at *
        generalize hq2 : M / 65536 = q at *
        generalize hr2 : M % 65536 = r at *
        by_cases h0 : d = []
        · subst h0
          simp (disch := first | omega | simp) [after, gv_nil, gb_nil, gv_snoc, gb_snoc, tidy_eq, reach_end, reach_more, fuelIds, place_cons, pack, if_pos, if_neg, decide_eq_true, decide_eq_false, wrap_i64, hw2, hm, hq, goodElems, placeAll, elemsOf, maxB, i64s_one]
          try (exact ⟨(gv_snoc 0 [] r).symm, (gb_snoc [] r).symm⟩)
        · rw [gv_cons h0, gb_cons h0, gv_snoc, gb_snoc]
          simp (disch := first | omega | simp) [after, tidy_eq, reach_end, reach_more, fuelIds, place_cons, pack, if_pos, if_neg, decide_eq_true, decide_eq_false, wrap_i64, hw2, hm, hq, goodElems, placeAll, elemsOf, maxB, i64s_snoc, i64s_take_len]
      · obtain ⟨n1, n2, n3, n4, n5, n6⟩ := key 0 0 (by decide) (by decide) (xt hix) (yt hiy) (.inr ⟨rfl, rfl⟩)
        simp only [Nat.add_zero] at n1 n2 n3 n4 n5 n6
        refine .more (2 * (max x.length y.length - (i + 1)) + (c) / 65536) _ (by omega) ⟨d ++ [(c) % 65536], (c) / 65536, i + 1, rfl, rfl, n1, n2, n3, n4, n5, n6⟩ ?_
        have hm := i64_mod (c)
        have hq := i64_div (c)
        have hlt : c < 131073 := by omega
        clear key xt yt hev hic n1 n2 n3 n4 n5 n6
        generalize hq2 : c / 65536 = q at *
        generalize hr2 : c % 65536 = r at *
        by_cases h0 : d = []
        · subst h0
          simp (disch := first | omega | simp) [after, gv_nil, gb_nil, gv_snoc, gb_snoc, tidy_eq, reach_end, reach_more, fuelIds, place_cons, pack, if_pos, if_neg, decide_eq_true, decide_eq_false, wrap_i64, hm, hq, goodElems, placeAll, elemsOf, maxB, i64s_one]
          try (exact ⟨(gv_snoc 0 [] r).symm, (gb_snoc [] r).symm⟩)
        · rw [gv_cons h0, gb_cons h0, gv_snoc, gb_snoc]
          simp (disch := first | omega | simp) [after, tidy_eq, reach_end, reach_more, fuelIds, place_cons, pack, if_pos, if_neg, decide_eq_true, decide_eq_false, wrap_i64, hm, hq, goodElems, placeAll, elemsOf, maxB, i64s_snoc, i64s_take_len]

end Go.Ash
/- Shifts and ors of unsigned numbers. -/
namespace Go.Ash

theorem pow_cast (k : Nat) : ((2 ^ k : Nat) : Int) = (2 : Int) ^ k := by
  rw [Int.natCast_pow]; rfl

theorem wrap_u32n (n : Nat) : IntKind.u32.wrap (n : Int) = ((n % 4294967296 : Nat) : Int) := by
  rw [wrap_u32', Int.natCast_emod]; rfl
theorem wrap_u64n (n : Nat) : IntKind.u64.wrap (n : Int) = ((n % 18446744073709551616 : Nat) : Int) := by
  rw [wrap_u64', Int.natCast_emod]; rfl

theorem shl_u32 {l k : Nat} (hk : k < 32) : shiftA .shl .u32 (l : Int) (k : Int) = some (.int .u32 ((l * 2 ^ k % 4294967296 : Nat) : Int)) := by
  rw [shiftA_shl, if_neg (by omega)]
  have : (k : Int).toNat.min (IntKind.bits .u32) = k := by
    show min ((k : Int).toNat) 32 = k
    omega
  rw [this, ← pow_cast, ← Int.natCast_mul, wrap_u32n]
theorem shl_u64 {l k : Nat} (hk : k < 64) (h : l * 2 ^ k < 18446744073709551616) : shiftA .shl .u64 (l : Int) (k : Int) = some (.int .u64 ((l * 2 ^ k : Nat) : Int)) := by
  rw [shiftA_shl, if_neg (by omega)]
  have : (k : Int).toNat.min (IntKind.bits .u64) = k := by
    show min ((k : Int).toNat) 64 = k
    omega
  rw [this, ← pow_cast, ← Int.natCast_mul, wrap_u64n, Nat.mod_eq_of_lt h]
theorem shr_u32 {l k : Nat} (hk : k < 32) : shiftA .shr .u32 (l : Int) (k : Int) = some (.int .u32 ((l / 2 ^ k : Nat) : Int)) := by
  rw [shiftA_shr, if_neg (by omega)]
  have : (k : Int).toNat.min (IntKind.bits .u32) = k := by
    show min ((k : Int).toNat) 32 = k
    omega
  rw [this, ← pow_cast, Int.fdiv_eq_ediv_of_nonneg _ (Int.natCast_nonneg _)]; rfl
theorem shr_u64 {l k : Nat} (hk : k < 64) : shiftA .shr .u64 (l : Int) (k : Int) = some (.int .u64 ((l / 2 ^ k : Nat) : Int)) := by
  rw [shiftA_shr, if_neg (by omega)]
  have : (k : Int).toNat.min (IntKind.bits .u64) = k := by
    show min ((k : Int).toNat) 64 = k
    omega
  rw [this, ← pow_cast, Int.fdiv_eq_ediv_of_nonneg _ (Int.natCast_nonneg _)]; rfl
theorem shl_u64_32 {l : Nat} (h : l < 4294967296) : shiftA .shl .u64 (l : Int) 32 = some (.int .u64 ((l * 4294967296 : Nat) : Int)) :=
  shl_u64 (l := l) (k := 32) (by decide) (by omega)
theorem shr_u64_32 {l : Nat} : shiftA .shr .u64 (l : Int) 32 = some (.int .u64 ((l / 4294967296 : Nat) : Int)) := shr_u64 (l := l) (k := 32) (by decide)
theorem shr_u64_63 {l : Nat} : shiftA .shr .u64 (l : Int) 63 = some (.int .u64 ((l / 9223372036854775808 : Nat) : Int)) := shr_u64 (l := l) (k := 63) (by decide)

theorem or_nat32 {a b c : Nat} (ha : a < 4294967296) (hb : b < 4294967296) (h : a ||| b = c) : intA .or .u32 (a : Int) (b : Int) = some (.int .u32 (c : Int)) := by
  have hc : c < 4294967296 := by rw [← h]; exact Nat.or_lt_two_pow (n := 32) ha hb
  have h1 : (BitVec.ofInt 32 (a : Int) ||| BitVec.ofInt 32 (b : Int)).toNat = c := by
    rw [BitVec.ofInt_natCast, BitVec.ofInt_natCast, BitVec.toNat_or, BitVec.toNat_ofNat, BitVec.toNat_ofNat, Nat.mod_eq_of_lt (by omega), Nat.mod_eq_of_lt (by omega)]
    exact h
  show some (AVal.int .u32 (IntKind.u32.wrap (((BitVec.ofInt 32 (a : Int) ||| BitVec.ofInt 32 (b : Int)).toNat : Nat) : Int))) = _
  rw [h1, wrap_u32 (by omega) (by omega)]

theorem or_nat64 {a b c : Nat} (ha : a < 18446744073709551616) (hb : b < 18446744073709551616) (h : a ||| b = c) : intA .or .u64 (a : Int) (b : Int) = some (.int .u64 (c : Int)) := by
  have hc : c < 18446744073709551616 := by rw [← h]; exact Nat.or_lt_two_pow (n := 64) ha hb
  have h1 : (BitVec.ofInt 64 (a : Int) ||| BitVec.ofInt 64 (b : Int)).toNat = c := by
    rw [BitVec.ofInt_natCast, BitVec.ofInt_natCast, BitVec.toNat_or, BitVec.toNat_ofNat, BitVec.toNat_ofNat, Nat.mod_eq_of_lt (by omega), Nat.mod_eq_of_lt (by omega)]
    exact h
  show some (AVal.int .u64 (IntKind.u64.wrap (((BitVec.ofInt 64 (a : Int) ||| BitVec.ofInt 64 (b : Int)).toNat : Nat) : Int))) = _
  rw [h1, wrap_u64 (by omega) (by omega)]

theorem or_hi {a b : Nat} {i : Nat} (hb : b < 2 ^ i) : (a * 2 ^ i) ||| b = a * 2 ^ i + b := by
  rw [Nat.mul_comm]; exact (Nat.two_pow_add_eq_or_of_lt hb a).symm
theorem or_lo {a b : Nat} {i : Nat} (hb : b < 2 ^ i) : b ||| (a * 2 ^ i) = b + a * 2 ^ i := by
  rw [Nat.or_comm, or_hi hb, Nat.add_comm]
end Go.Ash
/- Package limbs: left and right. -/
namespace Go.Ash
variable {F : Nat → Option RFunc} [h : CodeLimbs F]

theorem get?_set_u32s (l : List Nat) (i j v : Nat) (h : i < l.length) : (u32s (l.set j v))[i]? = some (.int .u32 (((l.set j v)[i]'(by simpa using h) : Nat) : Int)) := get?_u32s _ _ (by simpa using h)

theorem left_loop (nx : Bool) (x : List Nat) (k : Nat) (hx : Lim x) (hk : k < 32) (hlen : x.length < 2^40) :
    ∃ e st, (∀ env, exec F l_limbs_left_0 ⟨[.slc nx (u32s x), .int .i64 k, .slc true [], .mslc 0 0 (x.length + 1), .und, .und, .slc nx (u32s x), .int .i64 x.length, .int .i64 0], env, [some ⟨false, 1, u32s (List.replicate (x.length + 1) 0)⟩], 0⟩ = some (e, st)) ∧
      (e = .exit 0 ∧ ∃ out, st = ⟨[.und, .int .i64 k, .und, .mslc 0 0 (x.length + 1), .und, .und, .slc nx (u32s x), .int .i64 x.length, .int .i64 x.length], [], [some ⟨false, 1, u32s out⟩], 0⟩ ∧
        out.length = x.length + 1 ∧ Lim out ∧ ev out = ev x * 2 ^ k) := by
  have hz0 : ∀ k, ev (List.replicate k 0) = 0 := fun k => by have := ev_zeros [] k; simpa [ev] using this
  have hB : 2 ^ k * 2 ^ (32 - k) = 4294967296 := by rw [← Nat.pow_add, show k + (32 - k) = 32 from by omega]
  have hk1 : 2 ^ k ≤ 2147483648 := Nat.pow_le_pow_right (n := 2) (i := k) (j := 31) (by decide) (by omega)
  have hkp := Nat.two_pow_pos k
  refine loop_rule
    (fun n st => ∃ (out : List Nat) (i : Nat), st = ⟨[.und, .int .i64 k, .und, .mslc 0 0 (x.length + 1), .und, .und, .slc nx (u32s x), .int .i64 x.length, .int .i64 i], [], [some ⟨false, 1, u32s out⟩], 0⟩ ∧
      i + n = x.length ∧ out.length = x.length + 1 ∧ Lim out ∧ ev out = ev (x.take i) * 2 ^ k ∧ (∀ q (hq : q < out.length), i < q → out[q] = 0) ∧ (∀ hq : i < out.length, out[i] < 2 ^ k)) _ x.length _ ?_
    (tidy_one (by simp) (by simp)) ⟨_, 0, rfl, by omega, by simp, lim_replicate _, by rw [hz0]; simp [ev], by intro q hq _; simp, by intro _; simp; exact hkp⟩
  rintro n st ⟨out, i, rfl, hn, hout, hlim, hev, hz, hc⟩
  rcases Nat.eq_zero_or_pos n with rfl | hpos
  · have hi : i = x.length := by omega
    subst hi
    refine .out (.exit 0) _ (by simp) ⟨rfl, out, rfl, hout, hlim, by simpa using hev⟩ ?_
    simp [after]
  · have hix : i < x.length := by omega
    have hxi := hx.get hix
    have hio : i < out.length := by omega
    have hio1 : i + 1 < out.length := by omega
    have hci := hc hio
    have hz1 := hz (i + 1) hio1 (by omega)
    have hoi := hlim.get hio
    have hdm := Nat.div_add_mod (x[i] * 2 ^ k) 4294967296
    have hmul : x[i] * 2 ^ k < 4294967296 * 2 ^ k := (Nat.mul_lt_mul_right hkp).2 hxi
    have hbig : 4294967296 * 2 ^ k ≤ 9223372036854775808 := by omega
    have hhi : x[i] * 2 ^ k / 4294967296 < 2 ^ k := by
      rw [Nat.div_lt_iff_lt_mul (by decide), Nat.mul_comm (2 ^ k)]; exact hmul
    have hmod : x[i] * 2 ^ k % 4294967296 = (x[i] % 2 ^ (32 - k)) * 2 ^ k := by
      rw [← hB, Nat.mul_comm (2 ^ k), Nat.mul_mod_mul_right]
    have hor : out[i] ||| (x[i] * 2 ^ k % 4294967296) = out[i] + x[i] * 2 ^ k % 4294967296 := by rw [hmod]; exact or_lo hci
    have hlo : x[i] * 2 ^ k % 4294967296 < 4294967296 := Nat.mod_lt _ (by decide)
    have ho := or_nat32 hoi hlo hor
    have hsum : out[i] + x[i] * 2 ^ k % 4294967296 < 4294967296 := by rw [← hor]; exact Nat.or_lt_two_pow (n := 32) hoi hlo
    have s1 := shl_u32 (l := x[i]) hk
    have s2 := shl_u64 (l := x[i]) (k := k) (by omega) (by omega)
    have s3 := shr_u64_32 (l := x[i] * 2 ^ k)
    have e1 := set_ev hio (out[i] + x[i] * 2 ^ k % 4294967296)
    have e2 := set_ev (l := out.set i (out[i] + x[i] * 2 ^ k % 4294967296)) (k := i + 1) (by simpa using hio1) (x[i] * 2 ^ k / 4294967296)
    rw [List.getElem_set_ne (by omega), hz1] at e2
    have hidx : ((i : Int) + 1).toNat = i + 1 := by omega
    refine .more (n - 1) _ (by omega) ⟨(out.set i (out[i] + x[i] * 2 ^ k % 4294967296)).set (i + 1) (x[i] * 2 ^ k / 4294967296), i + 1, rfl, by omega, by simpa using hout,
      lim_set (lim_set hlim hsum) (by omega), ?_, ?_, ?_⟩ ?_
    · rw [ev_take_succ hix, Nat.add_mul, Nat.mul_assoc]
      have e3 : B32 ^ (i + 1) * (x[i] * 2 ^ k / 4294967296) = B32 ^ i * (4294967296 * (x[i] * 2 ^ k / 4294967296)) := by rw [Nat.pow_succ, Nat.mul_assoc]
      have e4 : B32 ^ i * (x[i] * 2 ^ k) = B32 ^ i * (4294967296 * (x[i] * 2 ^ k / 4294967296)) + B32 ^ i * (x[i] * 2 ^ k % 4294967296) := by rw [← Nat.mul_add, hdm]
      rw [Nat.mul_add] at e1
      omega
    · intro q hq hiq
      rw [List.getElem_set_ne (by omega), List.getElem_set_ne (by omega)]
      exact hz q (by simpa using hq) (by omega)
    · intro hq
      simpa using hhi
    · generalize x[i] * 2 ^ k = M at *
      generalize hMd : M / 4294967296 = d at *
      generalize hMm : M % 4294967296 = m at *
      generalize hoo : out[i] + m = o at *
      simp (disch := first | omega | simp) [after, tidy_one, hix, wrap_u64, wrap_u32, wrap_i64, get?_u32s, get?_set_u32s, set_u32n, putElem, putOne, s1, s2, s3, ho, hidx, if_pos, -shiftA_shl, -shiftA_shr]

theorem renL_u32s (ρ : Nat → Nat) (l : List Nat) : renL ρ (u32s l) = u32s l := renL_self _ _ (idsL_u32s l)

theorem leave_one {fn : RFunc} {vars env : List AVal} {off len esz : Nat} {fz : Bool} {l : List Nat} (hr : resL ⟨vars, env, [some ⟨fz, esz, u32s l⟩], 0⟩ fn.res = some [.mslc 0 off len]) :
    fn.leave ⟨vars, env, [some ⟨fz, esz, u32s l⟩], 0⟩ = some (.mslc 0 off len, [some ⟨fz, esz, u32s l⟩]) := by
  have h1 : reach [some ⟨fz, esz, u32s l⟩] fuelIds [0] [] = some [0] := by simp [reach, fuelIds]
  simp only [RFunc.leave, hr, Option.bind_some, tupled]
  rw [if_neg (by simp)]
  simp [h1, place, pack, Blk.ren, renL_u32s]

theorem run_left (nx : Bool) (x : List Nat) (k : Nat) (hx : Lim x) (hk : k < 32) (hlen : x.length < 2^39) :
    ∃ out, run F 109 [.slc nx (u32s x), .int .i64 k] [] = some (.mslc 0 0 (x.length + 1), [some ⟨false, 1, u32s out⟩]) ∧ out.length = x.length + 1 ∧ Lim out ∧ ev out = ev x * 2 ^ k := by
  obtain ⟨e, st, he, rfl, out, rfl, h1, h2, h3⟩ := left_loop (F := F) nx x k hx hk (by omega)
  refine ⟨out, ?_, h1, h2, h3⟩
  rw [run_eq h.limbs_left rfl]
  simp (disch := omega) [c_limbs_left, wrap_i64, u32s_replicate, maxB, if_pos, he]
  exact leave_one (by simp)

theorem right_loop (nx : Bool) (x : List Nat) (k : Nat) (hx : Lim x) (hk : k < 32) (hlen : x.length < 2^40) :
    ∃ e st, (∀ env, exec F l_limbs_right_0 ⟨[.slc nx (u32s x), .int .i64 k, .slc true [], .mslc 0 0 x.length, .und, .int .i64 x.length, .int .i64 0], env, [some ⟨false, 1, u32s (List.replicate x.length 0)⟩], 0⟩ = some (e, st)) ∧
      (e = .exit 0 ∧ ∃ out, st = ⟨[.slc nx (u32s x), .int .i64 k, .und, .mslc 0 0 x.length, .und, .int .i64 x.length, .int .i64 x.length], [], [some ⟨false, 1, u32s out⟩], 0⟩ ∧
        out.length = x.length ∧ Lim out ∧ ev out = ev x / 2 ^ k) := by
  have hB : 2 ^ k * 2 ^ (32 - k) = 4294967296 := by rw [← Nat.pow_add, show k + (32 - k) = 32 from by omega]
  have hkp := Nat.two_pow_pos k
  have hk2 := Nat.two_pow_pos (32 - k)
  refine loop_rule
    (fun n st => ∃ (out : List Nat) (i : Nat), st = ⟨[.slc nx (u32s x), .int .i64 k, .und, .mslc 0 0 x.length, .und, .int .i64 x.length, .int .i64 i], [], [some ⟨false, 1, u32s out⟩], 0⟩ ∧
      i + n = x.length ∧ out.length = x.length ∧ Lim out ∧ ev (out.take i) + B32 ^ i * (ev (x.drop i) / 2 ^ k) = ev x / 2 ^ k) _ x.length _ ?_
    (tidy_one (by simp) (by simp)) ⟨_, 0, rfl, by omega, by simp, lim_replicate _, by simp [ev]⟩
  rintro n st ⟨out, i, rfl, hn, hout, hlim, hev⟩
  rcases Nat.eq_zero_or_pos n with rfl | hpos
  · have hi : i = x.length := by omega
    subst hi
    refine .out (.exit 0) _ (by simp) ⟨rfl, out, rfl, hout, hlim, ?_⟩ ?_
    · rw [← hev, List.take_of_length_le (by omega), List.drop_of_length_le (Nat.le_refl _)]; simp [ev]
    · simp [after]
  · have hix : i < x.length := by omega
    have hxi := hx.get hix
    have hio : i < out.length := by omega
    have s1 := shr_u32 (l := x[i]) hk
    have hlo : x[i] / 2 ^ k < 2 ^ (32 - k) := by
      rw [Nat.div_lt_iff_lt_mul hkp, Nat.mul_comm, hB]; exact hxi
    have hlo' : x[i] / 2 ^ k < 4294967296 := Nat.lt_of_le_of_lt (Nat.div_le_self _ _) hxi
    by_cases hi1 : i + 1 < x.length
    · have hxj := hx.get hi1
      have hidx : ((i : Int) + 1).toNat = i + 1 := by omega
      have s2 := shl_u64_32 hxj
      have s3 := shr_u64 (l := x[i + 1] * 4294967296) (k := k) (by omega)
      have hq : x[i + 1] * 4294967296 / 2 ^ k % 4294967296 = x[i + 1] % 2 ^ k * 2 ^ (32 - k) := by
        have e1 : x[i + 1] * 4294967296 / 2 ^ k = x[i + 1] * 2 ^ (32 - k) := by
          rw [← hB, Nat.mul_left_comm, Nat.mul_comm (2 ^ k), Nat.mul_div_cancel _ hkp]
        rw [e1, ← hB, Nat.mul_mod_mul_right]
      have hw : x[i + 1] * 4294967296 / 2 ^ k < 18446744073709551616 := Nat.lt_of_le_of_lt (Nat.div_le_self _ _) (by omega)
      have hor : x[i] / 2 ^ k ||| (x[i + 1] * 4294967296 / 2 ^ k % 4294967296) = x[i] / 2 ^ k + x[i + 1] * 4294967296 / 2 ^ k % 4294967296 := by rw [hq]; exact or_lo hlo
      have hlim2 : x[i + 1] * 4294967296 / 2 ^ k % 4294967296 < 4294967296 := Nat.mod_lt _ (by decide)
      have ho := or_nat32 hlo' hlim2 hor
      have hsum : x[i] / 2 ^ k + x[i + 1] * 4294967296 / 2 ^ k % 4294967296 < 4294967296 := by rw [← hor]; exact Nat.or_lt_two_pow (n := 32) hlo' hlim2
      have hcv := wrap_u32n (x[i + 1] * 4294967296 / 2 ^ k)
      refine .more (n - 1) _ (by omega) ⟨out.set i (x[i] / 2 ^ k + x[i + 1] * 4294967296 / 2 ^ k % 4294967296), i + 1, rfl, by omega, by simpa using hout, lim_set hlim hsum, ?_⟩ ?_
      · rw [set_plus hio, ← hev, Nat.add_assoc, Nat.pow_succ, Nat.mul_assoc, ← Nat.mul_add]
        congr 2
        rw [drop_ev hix, drop_ev hi1, hq]
        generalize ev (x.drop (i + 1 + 1)) = Y
        generalize x[i + 1] = b at *
        generalize x[i] = a at *
        have hm : (b + B32 * Y) % 2 ^ k = b % 2 ^ k := by
          show (b + 4294967296 * Y) % 2 ^ k = b % 2 ^ k
          rw [← hB, Nat.mul_assoc, Nat.add_mul_mod_self_left]
        have hd := Nat.div_add_mod (b + B32 * Y) (2 ^ k)
        rw [hm] at hd
        generalize (b + B32 * Y) / 2 ^ k = Z at *
        rw [← hd]
        have e2 : a + B32 * (2 ^ k * Z + b % 2 ^ k) = a + 2 ^ k * (B32 * Z + 2 ^ (32 - k) * (b % 2 ^ k)) := by
          have e3 : B32 * (b % 2 ^ k) = 2 ^ k * (2 ^ (32 - k) * (b % 2 ^ k)) := by rw [← Nat.mul_assoc, hB]
          rw [Nat.mul_add, Nat.mul_add, e3, Nat.mul_left_comm]
        rw [e2, Nat.add_mul_div_left _ _ hkp, Nat.mul_comm (b % 2 ^ k)]
        omega
      · generalize x[i + 1] * 4294967296 / 2 ^ k % 4294967296 = m at *
        have hcast : ((x[i + 1] * 4294967296 / 2 ^ k : Nat) : Int) = (((x[i + 1] * 4294967296) / 2 ^ k : Nat) : Int) := rfl
        generalize x[i + 1] * 4294967296 / 2 ^ k = w at *
        generalize x[i + 1] * 4294967296 = w2 at *
        generalize x[i] / 2 ^ k = d at *
        generalize d + m = o at *
        simp (disch := first | omega | simp) [after, tidy_one, hix, hi1, wrap_u64, wrap_u32, wrap_i64, get?_u32s, get?_set_u32s, set_u32n, putElem, putOne, s1, s2, s3, ho, hidx, if_pos, hcv, -shiftA_shl, -shiftA_shr]
    · have hl : x.drop (i + 1) = [] := List.drop_of_length_le (by omega)
      refine .more (n - 1) _ (by omega) ⟨out.set i (x[i] / 2 ^ k), i + 1, rfl, by omega, by simpa using hout, lim_set hlim hlo', ?_⟩ ?_
      · rw [set_plus hio, ← hev, drop_ev hix, hl]
        simp [ev]
      · generalize x[i] / 2 ^ k = d at *
        simp (disch := first | omega | simp) [after, tidy_one, hix, wrap_u64, wrap_u32, wrap_i64, get?_u32s, get?_set_u32s, set_u32n, putElem, putOne, s1, if_pos, if_neg, decide_eq_false, -shiftA_shl, -shiftA_shr]

theorem pc_right (nx : Bool) (x : List Nat) (k : Nat) (hx : Lim x) (hk : k < 32) (hlen : x.length < 2^39) :
    pureCall (run F) 113 [.slc nx (u32s x), .int .i64 k] = some (.slc false (u32s (D (ev x / 2 ^ k)))) := by
  obtain ⟨e, st, he, rfl, out, rfl, h1, h2, h3⟩ := right_loop (F := F) nx x k hx hk (by omega)
  have ht := pc_trim (F := F) false out h2 (by omega)
  have hto : out.take x.length = out := List.take_of_length_le (by omega)
  rw [h3] at ht
  refine pure_ret h.limbs_right rfl ?_
  simp (disch := omega) [c_limbs_right, wrap_i64, u32s_replicate, maxB, if_pos, he, any_pure, hand_u32, hto, ht]
end Go.Ash
/- Package limbs: guess, takes, gives; trim of a block. -/
namespace Go.Ash
variable {F : Nat → Option RFunc} [h : CodeLimbs F]

theorem guess_loop (x2 x1 x0 y1 y0 : Nat) (h2 : x2 ≤ y1) (h1 : x1 < 4294967296) (h0 : x0 < 4294967296) (hy1 : 2147483648 ≤ y1) (hy1' : y1 < 4294967296) (hy0 : y0 < 4294967296) (q0 r0 : Nat)
    (hq0 : q0 * y1 + r0 = x2 * 4294967296 + x1) (hr0 : r0 < y1) :
    ∃ e st, (∀ env, exec F l_limbs_guess_0 ⟨[.int .u32 x2, .int .u32 x1, .int .u32 x0, .int .u32 y1, .int .u32 y0, .int .u64 0, .int .u64 ((x2 : Int) * 4294967296 + x1), .int .u64 q0, .int .u64 r0], env, [], 0⟩ = some (e, st)) ∧
      (e = .exit 0 ∧ ∃ (q : Nat) (r l : AVal), st = ⟨[l, .und, .int .u32 x0, .int .u32 y1, .int .u32 y0, .und, .und, .int .u64 q, r], [], [], 0⟩ ∧
        q < 4294967296 ∧ q * (y1 * 4294967296 + y0) ≤ (x2 * 4294967296 + x1) * 4294967296 + x0 ∧
        (∀ t, t < 4294967296 → t * (y1 * 4294967296 + y0) ≤ (x2 * 4294967296 + x1) * 4294967296 + x0 → t ≤ q)) := by
  refine loop_rule
    (fun n st => ∃ (q r : Nat), st = ⟨[.und, .und, .int .u32 x0, .int .u32 y1, .int .u32 y0, .und, .und, .int .u64 q, .int .u64 r], [], [], 0⟩ ∧ n = q ∧ r < 4294967296 ∧
      q * y1 + r = x2 * 4294967296 + x1 ∧ (∀ t, t < 4294967296 → t * (y1 * 4294967296 + y0) ≤ (x2 * 4294967296 + x1) * 4294967296 + x0 → t ≤ q)) _ q0 _ ?_
    (tidy_none (by simp)) ⟨q0, r0, rfl, rfl, by omega, hq0, ?_⟩
  · rintro n st ⟨q, r, rfl, rfl, hr, hqr, hmax⟩
    have hqle : n ≤ 4294967297 := by
      rcases Nat.lt_or_ge n 4294967298 with hh | hh
      · omega
      · have e1 : 4294967298 * y1 ≤ n * y1 := Nat.mul_le_mul_right _ hh
        omega
    have hqy : n * (y1 * 4294967296 + y0) = (n * y1) * 4294967296 + n * y0 := by rw [Nat.mul_add, Nat.mul_assoc]
    have hxe : (x2 * 4294967296 + x1) * 4294967296 + x0 = (n * y1) * 4294967296 + (r * 4294967296 + x0) := by rw [← hqr, Nat.add_mul, Nat.add_assoc]
    have ho := or_u64' hr h0
    by_cases hB : 4294967296 ≤ n
    · -- too great
      have hr' : r + y1 < 8589934592 := by omega
      have hn1 : n - 1 + 1 = n := by omega
      have e5 : n * y1 = (n - 1) * y1 + y1 := by rw [← Nat.succ_mul, Nat.succ_eq_add_one, hn1]
      have hmax' : ∀ t, t < 4294967296 → t * (y1 * 4294967296 + y0) ≤ (x2 * 4294967296 + x1) * 4294967296 + x0 → t ≤ n - 1 := fun t ht _ => by omega
      by_cases hbr : 4294967296 ≤ r + y1
      · have hlt : n - 1 < 4294967296 := by
          rcases Nat.lt_or_ge n 4294967297 with hh | hh
          · omega
          · have e1 : 4294967297 * y1 ≤ n * y1 := Nat.mul_le_mul_right _ hh
            omega
        refine .out (.exit 0) _ (by simp) ⟨rfl, n - 1, .int .u64 (r + y1 : Nat), .und, rfl, hlt, ?_, hmax'⟩ ?_
        · have e2 : (n - 1) * y0 ≤ 4294967295 * 4294967295 := Nat.mul_le_mul (by omega) (by omega)
          rw [Nat.mul_add, ← Nat.mul_assoc]
          omega
        · have hc : ((n - 1 : Nat) : Int) = (n : Int) - 1 := by omega
          simp (disch := first | omega | simp) [after, tidy_none, if_pos, if_neg, decide_eq_true, decide_eq_false, wrap_u64, hc]
      · refine .more (n - 1) _ (by omega) ⟨n - 1, r + y1, rfl, rfl, by omega, by omega, hmax'⟩ ?_
        have hc : ((n - 1 : Nat) : Int) = (n : Int) - 1 := by omega
        simp (disch := first | omega | simp) [after, tidy_none, if_pos, if_neg, decide_eq_true, decide_eq_false, wrap_u64, hc]
    · have hny : n * y0 ≤ 4294967295 * 4294967295 := Nat.mul_le_mul (by omega) (by omega)
      have hwm : IntKind.u64.wrap ((n : Int) * (y0 : Int)) = (n : Int) * (y0 : Int) := by
        rw [← Int.natCast_mul]; exact wrap_u64 (by omega) (by omega)
      by_cases hgt : r * 4294967296 + x0 < n * y0
      · have hn0 : 1 ≤ n := by
          rcases Nat.eq_zero_or_pos n with h | h
          · rw [h] at hgt; simp at hgt
          · exact h
        have hn1 : n - 1 + 1 = n := by omega
        have e5 : n * y1 = (n - 1) * y1 + y1 := by rw [← Nat.succ_mul, Nat.succ_eq_add_one, hn1]
        have hmax' : ∀ t, t < 4294967296 → t * (y1 * 4294967296 + y0) ≤ (x2 * 4294967296 + x1) * 4294967296 + x0 → t ≤ n - 1 := fun t ht htx => by
          have := hmax t ht htx
          rcases Nat.lt_or_ge t n with h | h
          · omega
          · have : t = n := by omega
            subst this
            omega
        have hgt' : ((r : Int) * 4294967296 + (x0 : Int)) < (n : Int) * (y0 : Int) := by rw [← Int.natCast_mul]; omega
        by_cases hbr : 4294967296 ≤ r + y1
        · refine .out (.exit 0) _ (by simp) ⟨rfl, n - 1, .int .u64 (r + y1 : Nat), .und, rfl, by omega, ?_, hmax'⟩ ?_
          · have e2 : (n - 1) * y0 ≤ 4294967295 * 4294967295 := Nat.mul_le_mul (by omega) (by omega)
            rw [Nat.mul_add, ← Nat.mul_assoc]
            omega
          · have hc : ((n - 1 : Nat) : Int) = (n : Int) - 1 := by omega
            simp (disch := first | omega | simp) [after, tidy_none, if_pos, if_neg, decide_eq_true, decide_eq_false, wrap_u64, hwm, ho, hgt', hc]
        · refine .more (n - 1) _ (by omega) ⟨n - 1, r + y1, rfl, rfl, by omega, by omega, hmax'⟩ ?_
          have hc : ((n - 1 : Nat) : Int) = (n : Int) - 1 := by omega
          simp (disch := first | omega | simp) [after, tidy_none, if_pos, if_neg, decide_eq_true, decide_eq_false, wrap_u64, hwm, ho, hgt', hc]
      · have hgt' : ¬ ((r : Int) * 4294967296 + (x0 : Int)) < (n : Int) * (y0 : Int) := by rw [← Int.natCast_mul]; omega
        refine .out (.exit 0) _ (by simp) ⟨rfl, n, .int .u64 r, .und, rfl, by omega, by omega, hmax⟩ ?_
        simp (disch := first | omega | simp) [after, tidy_none, if_pos, if_neg, decide_eq_true, decide_eq_false, wrap_u64, hwm, ho, hgt']
  · intro t ht htx
    rcases Nat.lt_or_ge q0 t with hh | hh
    · have e1 : (q0 + 1) * y1 ≤ t * y1 := Nat.mul_le_mul_right _ hh
      rw [Nat.succ_mul] at e1
      rw [Nat.mul_add, ← Nat.mul_assoc] at htx
      have e2 : x2 * 4294967296 + x1 + 1 ≤ t * y1 := by clear htx ht; omega
      have e3 := Nat.mul_le_mul_right 4294967296 e2
      omega
    · exact hh

theorem pc_guess (x2 x1 x0 y1 y0 : Nat) (h2 : x2 ≤ y1) (h1 : x1 < 4294967296) (h0 : x0 < 4294967296) (hy1 : 2147483648 ≤ y1) (hy1' : y1 < 4294967296) (hy0 : y0 < 4294967296) :
    ∃ q : Nat, pureCall (run F) 110 [.int .u32 x2, .int .u32 x1, .int .u32 x0, .int .u32 y1, .int .u32 y0] = some (.int .u64 q) ∧
      q < 4294967296 ∧ q * (y1 * 4294967296 + y0) ≤ (x2 * 4294967296 + x1) * 4294967296 + x0 ∧
        (∀ t, t < 4294967296 → t * (y1 * 4294967296 + y0) ≤ (x2 * 4294967296 + x1) * 4294967296 + x0 → t ≤ q) := by
  have hdm := Nat.div_add_mod (x2 * 4294967296 + x1) y1
  have hml := Nat.mod_lt (x2 * 4294967296 + x1) (show y1 > 0 by omega)
  obtain ⟨e, st, he, rfl, q, r, l, rfl, g1, g2, g3⟩ := guess_loop (F := F) x2 x1 x0 y1 y0 h2 h1 h0 hy1 hy1' hy0 _ _ (by rw [Nat.mul_comm]; exact hdm) hml
  refine ⟨q, ?_, g1, g2, g3⟩
  have ho := or_u64' (r := x2) (b := x1) (by omega) h1
  have htd := tdiv_nat (x2 * 4294967296 + x1) y1
  have htm := tmod_nat (x2 * 4294967296 + x1) y1
  have hM : x2 * 4294967296 + x1 < 18446744073709551616 := by omega
  have hle : (x2 * 4294967296 + x1) / y1 ≤ x2 * 4294967296 + x1 := Nat.div_le_self _ _
  have hcast : (x2 : Int) * 4294967296 + (x1 : Int) = ((x2 * 4294967296 + x1 : Nat) : Int) := by omega
  rw [hcast] at he
  obtain ⟨M, hMM⟩ : ∃ M, x2 * 4294967296 + x1 = M := ⟨_, rfl⟩
  simp only [hMM] at he ho htd htm hM hle hml hdm
  generalize M / y1 = Q at *
  generalize M % y1 = R at *
  refine pure_ret h.limbs_guess rfl ?_
  simp (disch := first | omega | simp) [c_limbs_guess, if_pos, if_neg, wrap_u64, ho, htd, htm, he]

/-! ### Parts of blocks -/

theorem get_mid (A P Z : List Nat) (i : Nat) (hi : i < P.length) : (u32s (A ++ (P ++ Z)))[A.length + i]? = some (.int .u32 ((P[i] : Nat) : Int)) := by
  rw [get?_u32s _ _ (by simp; omega), List.getElem_append_right (by omega)]
  simp only [Nat.add_sub_cancel_left]
  rw [List.getElem_append_left hi]
theorem get_fst (Y W : List Nat) (i : Nat) (hi : i < Y.length) : (u32s (Y ++ W))[i]? = some (.int .u32 ((Y[i] : Nat) : Int)) := by
  rw [get?_u32s _ _ (by simp; omega), List.getElem_append_left hi]
theorem set_mid (A P Z : List Nat) (i v : Nat) (hi : i < P.length) : (u32s (A ++ (P ++ Z))).set (A.length + i) (.int .u32 (v : Int)) = u32s (A ++ (P.set i v ++ Z)) := by
  rw [u32s_set, List.set_append_right _ _ (by omega), Nat.add_sub_cancel_left, List.set_append_left _ _ hi]

theorem tidy_pin2 {live : List Bool} {vars env : List AVal} {b0 b1 : Blk} (hv : idsL (mask live vars) = [0, 1]) (h0 : idsL b0.elems = []) (h1 : idsL b1.elems = []) :
    tidy live ⟨vars, env, [some b0, some b1], 2⟩ = some ⟨mask live vars, [], [some b0, some b1], 2⟩ := by
  refine tidy_keep ?_ ?_
  · simp [hv, reach, fuelIds, Heap.at, h0, h1, List.range_succ]
  · intro x hx k hk y hy
    simp at hx
    rcases hx with rfl | rfl <;> cases hk
    · rw [h0] at hy; cases hy
    · rw [h1] at hy; cases hy

theorem ev_take_get {l : List Nat} {i : Nat} : ev (l.take (i + 1)) = ev (l.take i) + B32 ^ i * l.getD i 0 := by
  rcases Nat.lt_or_ge i l.length with h | h
  · rw [ev_take_succ h]; simp [List.getD, h]
  · rw [List.take_of_length_le (by omega), List.take_of_length_le (by omega)]; simp [List.getD, h]

theorem wrap_sub2 {a b c : Nat} (ha : a < 4294967296) (hb : b < 4294967296) (hc : c ≤ 1) : ∃ v w : Nat, IntKind.u64.wrap (IntKind.u64.wrap ((a : Int) - b) - c) = ((v : Nat) : Int) ∧ v < 18446744073709551616 ∧ v / 9223372036854775808 = w ∧
    v % 4294967296 < 4294967296 ∧ w ≤ 1 ∧ a + 4294967296 * w = v % 4294967296 + b + c := by
  refine ⟨(((a : Int) - b - c) % 18446744073709551616).toNat, (((a : Int) - b - c) % 18446744073709551616).toNat / 9223372036854775808, ?_, by omega, rfl, by omega, by omega, by omega⟩
  rw [wrap_u64', wrap_u64']
  omega

theorem takes_loop (A P0 Z Y W : List Nat) (q : Nat) (fz : Bool) (hP : Lim P0) (hY : Lim Y) (hq : q < 4294967296) (hl : P0.length < 2^40) (hPY : P0.length = Y.length + 1) :
    ∃ e st, (∀ env, exec F l_limbs_takes_0 ⟨[.mslc 0 A.length P0.length, .mslc 1 0 Y.length, .int .u64 q, .bool false, .int .u64 0, .int .u64 0, .und, .und, .int .i64 P0.length, .int .i64 0], env,
        [some ⟨false, 1, u32s (A ++ (P0 ++ Z))⟩, some ⟨fz, 1, u32s (Y ++ W)⟩], 2⟩ = some (e, st)) ∧
      (e = .exit 0 ∧ ∃ (P : List Nat) (c b : Nat), st = ⟨[.mslc 0 A.length P0.length, .mslc 1 0 Y.length, .int .u64 q, .und, .int .u64 c, .int .u64 b, .und, .und, .int .i64 P0.length, .int .i64 P0.length], [],
        [some ⟨false, 1, u32s (A ++ (P ++ Z))⟩, some ⟨fz, 1, u32s (Y ++ W)⟩], 2⟩ ∧ P.length = P0.length ∧ Lim P ∧ b ≤ 1 ∧ ev P0 + B32 ^ P0.length * b = ev P + q * ev Y) := by
  refine loop_rule
    (fun n st => ∃ (P : List Nat) (c b i : Nat), st = ⟨[.mslc 0 A.length P0.length, .mslc 1 0 Y.length, .int .u64 q, .und, .int .u64 c, .int .u64 b, .und, .und, .int .i64 P0.length, .int .i64 i], [],
        [some ⟨false, 1, u32s (A ++ (P ++ Z))⟩, some ⟨fz, 1, u32s (Y ++ W)⟩], 2⟩ ∧ i + n = P0.length ∧ P.length = P0.length ∧ Lim P ∧ b ≤ 1 ∧ c < 4294967296 ∧ (Y.length < i → c = 0) ∧ (∀ k (h1 : k < P.length) (h2 : k < P0.length), i ≤ k → P[k] = P0[k]) ∧
        ev (P0.take i) + B32 ^ i * (b + c) = ev (P.take i) + q * ev (Y.take i)) _ P0.length _ ?_
    (tidy_pin2 (by simp) (by simp) (by simp)) ⟨P0, 0, 0, 0, rfl, by omega, rfl, hP, by omega, by omega, fun _ => rfl, fun _ _ _ _ => rfl, by simp [ev]⟩
  rintro n st ⟨P, c, b, i, rfl, hn, hlen, hlim, hb, hc, hcz, hrest, hev⟩
  rcases Nat.eq_zero_or_pos n with rfl | hpos
  · have hi : i = P0.length := by omega
    subst hi
    refine .out (.exit 0) _ (by simp) ⟨rfl, P, c, b, rfl, hlen, hlim, hb, ?_⟩ ?_
    · have := hcz (by omega)
      subst this
      rw [List.take_length, List.take_of_length_le (by omega), List.take_of_length_le (by omega)] at hev
      exact hev
    · simp [after]
  · have hi0 : i < P0.length := by omega
    have hiP : i < P.length := by omega
    have hPi := hlim.get hiP
    have hPe := hrest i hiP hi0 (Nat.le_refl _)
    have e0 := ev_take_succ hi0
    rw [← hPe] at e0
    by_cases hiY : i < Y.length
    · have hYi := hY.get hiY
      have hqY : q * Y[i] ≤ 4294967295 * 4294967295 := Nat.mul_le_mul (by omega) (by omega)
      have hwm : IntKind.u64.wrap ((q : Int) * (Y[i] : Int)) = ((q * Y[i] : Nat) : Int) := by
        rw [← Int.natCast_mul]; exact wrap_u64 (by omega) (by omega)
      have hwa : IntKind.u64.wrap ((c : Int) + ((q * Y[i] : Nat) : Int)) = ((c + q * Y[i] : Nat) : Int) := by
        rw [← Int.natCast_add]; exact wrap_u64 (by omega) (by omega)
      have hlo := wrap_u32n (c + q * Y[i])
      have hlo64 : IntKind.u64.wrap (((c + q * Y[i]) % 4294967296 : Nat) : Int) = (((c + q * Y[i]) % 4294967296 : Nat) : Int) := wrap_u64 (by omega) (by omega)
      obtain ⟨v, w, hv, hv1, hv2, hv3, hw, hrel⟩ := wrap_sub2 (a := P[i]) (b := (c + q * Y[i]) % 4294967296) (c := b) hPi (Nat.mod_lt _ (by decide)) hb
      have hsv := wrap_u32n v
      have s1 := shr_u64_63 (l := v)
      have s2 := shr_u64_32 (l := c + q * Y[i])
      rw [hv2] at s1
      refine .more (n - 1) _ (by omega) ⟨P.set i (v % 4294967296), (c + q * Y[i]) / 4294967296, w, i + 1, rfl, by omega, by simpa using hlen, lim_set hlim hv3, hw, by omega, fun h => by omega, ?_, ?_⟩ ?_
      · intro k h1 h2 hk
        rw [List.getElem_set_ne (by omega)]
        exact hrest k (by simpa using h1) h2 (by omega)
      · rw [e0, set_plus hiP, ev_take_succ hiY, Nat.pow_succ]
        have hdm := Nat.div_add_mod (c + q * Y[i]) 4294967296
        generalize hMM : c + q * Y[i] = M at *
        have e4 : P[i] + 4294967296 * (w + M / 4294967296) = v % 4294967296 + b + c + q * Y[i] := by omega
        have e5 : B32 ^ i * (P[i] + 4294967296 * (w + M / 4294967296)) = B32 ^ i * (v % 4294967296 + b + c + q * Y[i]) := by rw [e4]
        have e6 : q * (ev (Y.take i) + B32 ^ i * Y[i]) = q * ev (Y.take i) + B32 ^ i * (q * Y[i]) := by rw [Nat.mul_add, Nat.mul_left_comm]
        rw [e6, Nat.mul_assoc]
        simp only [Nat.mul_add] at e5 hev ⊢
        have e7 : B32 ^ i * (B32 * w) = B32 ^ i * (4294967296 * w) := rfl
        have e8 : B32 ^ i * (B32 * (M / 4294967296)) = B32 ^ i * (4294967296 * (M / 4294967296)) := rfl
        omega
      · generalize c + q * Y[i] = M at *
        generalize q * Y[i] = M2 at *
        generalize hm1 : M % 4294967296 = m at *
        generalize hm2 : M / 4294967296 = m2 at *
        generalize hm3 : v % 4294967296 = v2 at *
        simp (disch := first | omega | simp) [after, tidy_pin2, get_mid, get_fst, set_mid, if_pos, if_neg, decide_eq_true, putElem, putOne, wrap_i64, wrap_u64, hwm, hwa, hlo, hlo64, hv, hsv, s1, s2, -shiftA_shl, -shiftA_shr]
    · have hYt : Y.take (i + 1) = Y.take i := by rw [List.take_of_length_le (by omega), List.take_of_length_le (by omega)]
      have hlo := wrap_u32n c
      rw [Nat.mod_eq_of_lt hc] at hlo
      obtain ⟨v, w, hv, hv1, hv2, hv3, hw, hrel⟩ := wrap_sub2 (a := P[i]) (b := c) (c := b) hPi hc hb
      have hsv := wrap_u32n v
      have s1 := shr_u64_63 (l := v)
      have s2 := shr_u64_32 (l := c)
      rw [Nat.div_eq_of_lt hc] at s2
      rw [hv2] at s1
      refine .more (n - 1) _ (by omega) ⟨P.set i (v % 4294967296), 0, w, i + 1, rfl, by omega, by simpa using hlen, lim_set hlim hv3, hw, by omega, fun _ => rfl, ?_, ?_⟩ ?_
      · intro k h1 h2 hk
        rw [List.getElem_set_ne (by omega)]
        exact hrest k (by simpa using h1) h2 (by omega)
      · rw [e0, set_plus hiP, hYt, Nat.pow_succ]
        have e5 : B32 ^ i * (P[i] + 4294967296 * w) = B32 ^ i * (v % 4294967296 + c + b) := by rw [hrel]
        rw [Nat.mul_assoc]
        simp only [Nat.mul_add] at e5 hev ⊢
        have e7 : B32 ^ i * (B32 * w) = B32 ^ i * (4294967296 * w) := rfl
        omega
      · generalize hm3 : v % 4294967296 = v2 at *
        simp (disch := first | omega | simp) [after, tidy_pin2, get_mid, get_fst, set_mid, if_pos, if_neg, decide_eq_true, decide_eq_false, putElem, putOne, wrap_i64, wrap_u64, hlo, hv, hsv, s1, s2, -shiftA_shl, -shiftA_shr]
end Go.Ash
