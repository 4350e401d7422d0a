/- Package limbs: up, times, Mul. -/
import Derived.Test.YtaojijahpdnjhaaAshLimbs5
set_option linter.all false
namespace Go.Ash
variable {F : Nat → Option RFunc} [h : CodeLimbs F]

theorem ev_drop {l : List Nat} (hl : Lim l) (k : Nat) (hk : k ≤ l.length) : ev (l.drop k) = ev l / B32 ^ k ∧ ev (l.take k) = ev l % B32 ^ k := by
  have h1 : ev l = ev (l.take k) + B32 ^ k * ev (l.drop k) := by
    have := ev_append (l.take k) (l.drop k)
    rw [List.take_append_drop, List.length_take, Nat.min_eq_left hk] at this
    exact this
  have h2 := ev_lt (lim_take hl k)
  rw [List.length_take, Nat.min_eq_left hk] at h2
  have hp : 0 < B32 ^ k := Nat.pow_pos (by decide)
  constructor
  · rw [h1, Nat.add_mul_div_left _ _ hp, Nat.div_eq_of_lt h2, Nat.zero_add]
  · rw [h1, Nat.add_mul_mod_self_left, Nat.mod_eq_of_lt h2]

theorem D_drop (a k : Nat) (hk : k ≤ (D a).length) : (D a).drop k = D (a / B32 ^ k) := by
  have h1 := (ev_drop (lim_D a) k hk).1
  rw [ev_D] at h1
  rw [← h1]
  refine (D_ev (lim_drop (lim_D a) k) fun hne => ?_).symm
  rw [List.getLast_drop]
  exact D_last (by rintro h0; rw [h0] at hne; simp at hne)

theorem D_mul_pow {c : Nat} (hc : c ≠ 0) (k : Nat) : D (c * B32 ^ k) = List.replicate k 0 ++ D c := by
  have hev : ev (List.replicate k 0 ++ D c) = c * B32 ^ k := by
    rw [ev_append, ev_D, List.length_replicate, Nat.mul_comm]
    have : ev (List.replicate k 0) = 0 := by have := ev_zeros [] k; simpa [ev] using this
    rw [this, Nat.zero_add]
  rw [← hev]
  refine D_ev (lim_append (lim_replicate k) (lim_D c)) fun hne => ?_
  have hd : D c ≠ [] := by simpa using hc
  rw [List.getLast_append_of_ne_nil _ hd]
  exact D_last hd

theorem tree_mslc_two {x : Option Blk} {fz : Bool} {esz n : Nat} {l : List Nat} (hn : n ≤ l.length) : treeL [x, some ⟨fz, esz, u32s l⟩] fuelTree [.mslc 1 0 n] = some ([.slc false (u32s (l.take n))], [1]) := by
  have h1 : AVal.tree [x, some ⟨fz, esz, u32s l⟩] 39 (.mslc 1 0 n) = some (.slc false (u32s (l.take n)), [1]) := by
    simp only [AVal.tree, Heap.at, length_u32s, Nat.zero_add, hn, if_true, List.drop_zero, u32s_take, treeL_free (n := 37) (idsL_u32s _), Option.map_some]
  unfold fuelTree
  rw [treeL_cons (by simp), h1]
  rfl

theorem pc_up (nx : Bool) (c k : Nat) (hc : (D c).length < 2^38) (hk : k < 2^38) : ∃ r, pureCall (run F) 116 [.slc nx (u32s (D c)), .int .i64 k] = some (.slc r (u32s (D (c * B32 ^ k)))) := by
  by_cases h0 : c = 0
  · refine ⟨true, pure_ret h.limbs_up rfl ?_⟩
    subst h0
    simp [c_limbs_up, u32s]
  · refine ⟨false, pure_ret h.limbs_up rfl ?_⟩
    have m1 : (k : Int) * 4 ≤ 70368744177664 := by omega
    have m2 : (k : Int) ≤ 70368744177664 := by omega
    have m3 : (k + (D c).length) * 4 ≤ 70368744177664 := by omega
    have m4 : k + (D c).length ≤ 70368744177664 := by omega
    have m5 : (List.replicate k 0 ++ D c).take (k + (D c).length) = List.replicate k 0 ++ D c := List.take_of_length_le (by simp)
    have m6 : (List.replicate k 0 ++ D c).length = k + (D c).length := by simp
    rw [D_mul_pow h0]
    simp (disch := omega) [c_limbs_up, h0, u32s_replicate, maxB, m1, m2, m3, m4, elemsOf, good_u32s, u32s_take, u32s_append, tree_mslc_two, m5]

theorem D_len_lt_pow {a k : Nat} (h : (D a).length ≤ k) : a < B32 ^ k := le_of_D_len h

theorem kara (a0 a1 b0 b1 : Nat) : (a0 + a1) * (b0 + b1) - a0 * b0 - a1 * b1 = a0 * b1 + a1 * b0 := by
  have : (a0 + a1) * (b0 + b1) = a0 * b0 + a1 * b1 + (a0 * b1 + a1 * b0) := by
    simp only [Nat.add_mul, Nat.mul_add]; omega
  omega

theorem D_mul_len (a b : Nat) : (D (a * b)).length ≤ (D a).length + (D b).length := by
  refine D_len_le ?_
  rw [Nat.pow_add]
  have h1 := D_lt a
  have h2 := D_lt b
  exact Nat.mul_lt_mul'' h1 h2

theorem D_add_len (a b : Nat) : (D (a + b)).length ≤ max (D a).length (D b).length + 1 := by
  refine D_len_le ?_
  have h4 := D_lt a
  have h5 := D_lt b
  have h6 : B32 ^ (D a).length ≤ B32 ^ (max (D a).length (D b).length) := Nat.pow_le_pow_right (by decide) (by omega)
  have h7 : B32 ^ (D b).length ≤ B32 ^ (max (D a).length (D b).length) := Nat.pow_le_pow_right (by decide) (by omega)
  rw [Nat.pow_succ]
  have : B32 ^ (max (D a).length (D b).length) * 2 ≤ B32 ^ (max (D a).length (D b).length) * B32 := Nat.mul_le_mul_left _ (by decide)
  omega

set_option maxHeartbeats 2000000 in
theorem pc_times : ∀ (n : Nat) (nx ny : Bool) (a b : Nat), (D a).length + (D b).length ≤ n → (D a).length < 2^36 → (D b).length < 2^36 →
    pureCall (run F) 95 [.slc nx (u32s (D a)), .slc ny (u32s (D b))] = some (.slc false (u32s (D (a * b)))) := by
  intro n
  induction n using Nat.strongRecOn with
  | ind n ih =>
    -- the longer one first
    have main : ∀ (nx ny : Bool) (a b : Nat), (D b).length ≤ (D a).length → (D a).length + (D b).length ≤ n → (D a).length < 2^36 → ∀ (X Y : AVal),
        (X = .slc nx (u32s (D a)) ∧ Y = .slc ny (u32s (D b))) ∨ ((D b).length < (D a).length ∧ Y = .slc nx (u32s (D a)) ∧ X = .slc ny (u32s (D b))) →
        pureCall (run F) 95 [X, Y] = some (.slc false (u32s (D (a * b)))) := by
      intro nx ny a b hba hn ha X Y hXY
      have hs := pc_school (F := F) nx ny (D a) (D b) (lim_D a) (lim_D b) (by omega) (by omega)
      rw [ev_D, ev_D] at hs
      refine pure_ret h.limbs_times rfl ?_
      by_cases h40 : (D b).length < 40
      · have h40' : ((D b).length : Int) < 40 := by omega
        rcases hXY with ⟨rfl, rfl⟩ | ⟨hlt, rfl, rfl⟩
        · have hlt : ¬ (D a).length < (D b).length := by omega
          simp [c_limbs_times, any_pure, hlt, h40, h40', hs]
        · simp [c_limbs_times, any_pure, hlt, h40, h40', hs]
      · -- in halves
        have hlen : (D a).length + 1 = (D a).length + 1 := rfl
        obtain ⟨k, hk⟩ : ∃ k, k = ((D a).length + 1) / 2 := ⟨_, rfl⟩
        have hkd : (((D a).length : Int) + 1).tdiv 2 = k := by rw [Int.tdiv_eq_ediv_of_nonneg (by omega)]; omega
        have hka : k ≤ (D a).length := by omega
        have hp : 0 < B32 ^ k := Nat.pow_pos (by decide)
        have hda := D_drop a k hka
        obtain ⟨_, hta⟩ := ev_drop (lim_D a) k hka
        have hT0 := pc_trim (F := F) nx ((D a).take k) (lim_take (lim_D a) k) (by simp; omega)
        rw [hta, ev_D] at hT0
        have haa : a = a % B32 ^ k + B32 ^ k * (a / B32 ^ k) := (Nat.mod_add_div a (B32 ^ k)).symm
        have hl0 : (D (a % B32 ^ k)).length ≤ k := D_len_le (Nat.mod_lt _ hp)
        have hl1 : (D (a / B32 ^ k)).length = (D a).length - k := by rw [← hda]; simp
        generalize a % B32 ^ k = a0 at *
        generalize a / B32 ^ k = a1 at *
        have hki : (k : Int) ≤ (D a).length := by omega
        by_cases hyk : (D b).length ≤ k
        · have t1 := ih ((D a0).length + (D b).length) (by omega) nx ny a0 b (Nat.le_refl _) (by omega) (by omega)
          have t2 := ih ((D a1).length + (D b).length) (by omega) nx ny a1 b (Nat.le_refl _) (by omega) (by omega)
          have l1 := D_mul_len a0 b
          have l2 := D_mul_len a1 b
          obtain ⟨r, hu⟩ := pc_up (F := F) false (a1 * b) k (by omega) (by omega)
          have l3 : (D (a1 * b * B32 ^ k)).length ≤ (D a1).length + (D b).length + k := by
            refine D_len_le ?_
            rw [Nat.pow_add]
            exact Nat.mul_lt_mul_of_pos_right (D_len_lt_pow l2) hp
          have hpl := pc_plus (F := F) false r (D (a0 * b)) (D (a1 * b * B32 ^ k)) (lim_D _) (lim_D _) (by omega) (by omega)
          rw [ev_D, ev_D] at hpl
          have he : a * b = a0 * b + a1 * b * B32 ^ k := by
            rw [haa, Nat.add_mul, Nat.mul_comm (B32 ^ k) a1, Nat.mul_assoc, Nat.mul_assoc, Nat.mul_comm (B32 ^ k) b]
          rw [he]
          have hyk' : ((D b).length : Int) ≤ k := by omega
          have h40' : ¬ ((D b).length : Int) < 40 := by omega
          rcases hXY with ⟨rfl, rfl⟩ | ⟨hlt, rfl, rfl⟩
          · have hlt : ¬ (D a).length < (D b).length := by omega
            simp (disch := omega) [c_limbs_times, any_pure, hlt, h40', hkd, wrap_i64, bounds, hka, hki, allSz_u32s, u32s_take, u32s_drop, hT0, hda, hyk', t1, t2, hu, hpl]
          · simp (disch := omega) [c_limbs_times, any_pure, hlt, h40', hkd, wrap_i64, bounds, hka, hki, allSz_u32s, u32s_take, u32s_drop, hT0, hda, hyk', t1, t2, hu, hpl]
        · have hkb : k ≤ (D b).length := by omega
          have hkbi : (k : Int) ≤ (D b).length := by omega
          have hdb := D_drop b k hkb
          obtain ⟨_, htb⟩ := ev_drop (lim_D b) k hkb
          have hS0 := pc_trim (F := F) ny ((D b).take k) (lim_take (lim_D b) k) (by simp; omega)
          rw [htb, ev_D] at hS0
          have hbb : b = b % B32 ^ k + B32 ^ k * (b / B32 ^ k) := (Nat.mod_add_div b (B32 ^ k)).symm
          have hm0 : (D (b % B32 ^ k)).length ≤ k := D_len_le (Nat.mod_lt _ hp)
          have hm1 : (D (b / B32 ^ k)).length = (D b).length - k := by rw [← hdb]; simp
          generalize b % B32 ^ k = b0 at *
          generalize b / B32 ^ k = b1 at *
          have t1 := ih ((D a0).length + (D b0).length) (by omega) nx ny a0 b0 (Nat.le_refl _) (by omega) (by omega)
          have t2 := ih ((D a1).length + (D b1).length) (by omega) nx ny a1 b1 (Nat.le_refl _) (by omega) (by omega)
          have l1 := D_mul_len a0 b0
          have l2 := D_mul_len a1 b1
          have la' := D_add_len a0 a1
          have lb' := D_add_len b0 b1
          have p1 := pc_plus (F := F) nx nx (D a0) (D a1) (lim_D _) (lim_D _) (by omega) (by omega)
          have p2 := pc_plus (F := F) ny ny (D b0) (D b1) (lim_D _) (lim_D _) (by omega) (by omega)
          rw [ev_D, ev_D] at p1 p2
          have t3 := ih ((D (a0 + a1)).length + (D (b0 + b1)).length) (by omega) false false (a0 + a1) (b0 + b1) (Nat.le_refl _) (by omega) (by omega)
          have l3 := D_mul_len (a0 + a1) (b0 + b1)
          have hexp : (a0 + a1) * (b0 + b1) = a0 * b0 + a1 * b1 + (a0 * b1 + a1 * b0) := by simp only [Nat.add_mul, Nat.mul_add]; omega
          have q1 := pc_minus (F := F) false false (D ((a0 + a1) * (b0 + b1))) (D (a0 * b0)) (lim_D _) (lim_D _) (D_len_mono (by omega)) (by rw [ev_D, ev_D]; omega) (by omega)
          rw [ev_D, ev_D] at q1
          have lq : (D ((a0 + a1) * (b0 + b1) - a0 * b0)).length ≤ (D ((a0 + a1) * (b0 + b1))).length := D_len_mono (Nat.sub_le _ _)
          have q2 := pc_minus (F := F) false false (D ((a0 + a1) * (b0 + b1) - a0 * b0)) (D (a1 * b1)) (lim_D _) (lim_D _) (D_len_mono (by omega)) (by rw [ev_D, ev_D]; omega) (by omega)
          rw [ev_D, ev_D, kara] at q2
          have lm : (D (a0 * b1 + a1 * b0)).length ≤ (D ((a0 + a1) * (b0 + b1))).length := D_len_mono (by omega)
          obtain ⟨r1, u1⟩ := pc_up (F := F) false (a0 * b1 + a1 * b0) k (by omega) (by omega)
          obtain ⟨r2, u2⟩ := pc_up (F := F) false (a1 * b1) (2 * k) (by omega) (by omega)
          have l4 : (D ((a0 * b1 + a1 * b0) * B32 ^ k)).length ≤ (D ((a0 + a1) * (b0 + b1))).length + k := by
            refine D_len_le ?_
            rw [Nat.pow_add]
            exact Nat.mul_lt_mul_of_pos_right (D_len_lt_pow lm) hp
          have l5 : (D (a1 * b1 * B32 ^ (2 * k))).length ≤ (D a1).length + (D b1).length + 2 * k := by
            refine D_len_le ?_
            rw [Nat.pow_add]
            exact Nat.mul_lt_mul_of_pos_right (D_len_lt_pow l2) (Nat.pow_pos (by decide))
          have v1 := pc_plus (F := F) false r1 (D (a0 * b0)) (D ((a0 * b1 + a1 * b0) * B32 ^ k)) (lim_D _) (lim_D _) (by omega) (by omega)
          rw [ev_D, ev_D] at v1
          have l6 := D_add_len (a0 * b0) ((a0 * b1 + a1 * b0) * B32 ^ k)
          have v2 := pc_plus (F := F) false r2 (D (a0 * b0 + (a0 * b1 + a1 * b0) * B32 ^ k)) (D (a1 * b1 * B32 ^ (2 * k))) (lim_D _) (lim_D _) (by omega) (by omega)
          rw [ev_D, ev_D] at v2
          have he : a * b = a0 * b0 + (a0 * b1 + a1 * b0) * B32 ^ k + a1 * b1 * B32 ^ (2 * k) := by
            rw [haa, hbb, show 2 * k = k + k from by omega, Nat.pow_add]
            generalize B32 ^ k = p
            simp only [Nat.add_mul, Nat.mul_add, Nat.mul_assoc, Nat.mul_comm, Nat.mul_left_comm]
            omega
          rw [he]
          have hyk' : ¬ ((D b).length : Int) ≤ k := by omega
          have h40' : ¬ ((D b).length : Int) < 40 := by omega
          have hu2 : ((2 * k : Nat) : Int) = 2 * (k : Int) := by omega
          rw [hu2] at u2
          rcases hXY with ⟨rfl, rfl⟩ | ⟨hlt, rfl, rfl⟩
          · have hlt : ¬ (D a).length < (D b).length := by omega
            simp (disch := omega) [c_limbs_times, any_pure, hlt, h40', hkd, wrap_i64, bounds, hka, hki, hkb, hkbi, allSz_u32s, u32s_take, u32s_drop, hT0, hda, hS0, hdb, hyk', t1, t2, t3, p1, p2, q1, q2, u1, u2, v1, v2]
          · simp (disch := omega) [c_limbs_times, any_pure, hlt, h40', hkd, wrap_i64, bounds, hka, hki, hkb, hkbi, allSz_u32s, u32s_take, u32s_drop, hT0, hda, hS0, hdb, hyk', t1, t2, t3, p1, p2, q1, q2, u1, u2, v1, v2]
    intro nx ny a b hn ha hb
    rcases Nat.lt_or_ge (D a).length (D b).length with hlt | hge
    · rw [Nat.mul_comm]
      exact main ny nx b a (by omega) (by omega) hb _ _ (.inr ⟨hlt, rfl, rfl⟩)
    · exact main nx ny a b hge hn ha _ _ (.inl ⟨rfl, rfl⟩)
end Go.Ash
