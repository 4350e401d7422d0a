/- The abstract interpreter of this work and its uses, part 10: AshLimbs14, AshLimbs15, AshLimbs16, AshLimbs17, AshRef1h, AshRef1i, AshRef1j, AshRef1k, AshRef1l, AshIntRing. -/
import Derived.Test.YtaojijahpdnjhaaAshP09
set_option linter.all false
/- Package limbs: divide, Quo. -/
namespace Go.Ash
variable {F : Nat → Option RFunc} [h : CodeLimbs F]

theorem D_single {n p : Nat} (hn : D n = [p]) : n = p := by
  have := ev_D n; rw [hn] at this; simpa [ev] using this.symm

theorem take_D' {l : List Nat} (hl : Lim l) {n : Nat} (hn : ev l = n) : l.take (D n).length = D n := by subst hn; exact take_D l hl

@[simp] theorem u32s_empty : u32s [] = [] := rfl

theorem u32s_one (n : Nat) : u32s [n] = [.int .u32 (n : Int)] := rfl

theorem ev_one (p : Nat) : ev [p] = p := by simp [ev]

theorem pow_bl {n : Nat} (h : n ≠ 0) (hlt : n < 4294967296) : 2147483648 ≤ 2 ^ (32 - bl n) * n ∧ 2 ^ (32 - bl n) * n < 4294967296 := by
  have h1 := bl_pos h
  have h2 : bl n ≤ 32 := bl_le.2 hlt
  have h3 : 2 ^ (bl n - 1) ≤ n := lt_bl.1 (by omega)
  have h4 : n < 2 ^ bl n := bl_le.1 (Nat.le_refl _)
  constructor
  · have := Nat.mul_le_mul_left (2 ^ (32 - bl n)) h3
    rw [← Nat.pow_add, show 32 - bl n + (bl n - 1) = 31 from by omega] at this
    exact this
  · have := (Nat.mul_lt_mul_left (Nat.two_pow_pos (32 - bl n))).2 h4
    rw [← Nat.pow_add, show 32 - bl n + bl n = 32 from by omega] at this
    exact this

theorem pc_divide (nx ny : Bool) (a b : Nat) (hb : b ≠ 0) (ha : (D a).length < 2^38) (hb' : (D b).length < 2^38) :
    ∃ n1 n2, pureCall (run F) 85 [.slc nx (u32s (D a)), .slc ny (u32s (D b))] = some (.tup [.slc n1 (u32s (D (a / b))), .slc n2 (u32s (D (a % b)))]) := by
  have hc := pc_cmp (F := F) nx ny a b (by omega) (by omega)
  rcases Nat.lt_or_ge a b with hlt | hge
  · refine ⟨true, nx, pure_ret h.limbs_divide rfl ?_⟩
    rw [Nat.div_eq_of_lt hlt, Nat.mod_eq_of_lt hlt]
    have hcv : cmpI a b = -1 := by unfold cmpI; rw [if_pos hlt]
    rw [hcv] at hc
    simp [c_limbs_divide, any_pure, hc, u32s_empty]
  · have hcv : ¬ cmpI a b < 0 := by unfold cmpI; rw [if_neg (by omega)]; split <;> omega
    have hpos : 0 < (D b).length := List.length_pos_iff.2 (by simpa using hb)
    rcases Nat.lt_or_ge 1 (D b).length with h2 | h1
    · -- the long way
      obtain ⟨hl, hlast, hne⟩ := last_div hb
      have hlim := (lim_D b).get hl
      have hlz := pc_lz32 (F := F) _ hlim
      obtain ⟨hp1, hp2⟩ := pow_bl hne hlim
      have hk1 := bl_pos hne
      generalize hk : 32 - bl (D b)[(D b).length - 1] = k at *
      have hk31 : k < 32 := by omega
      obtain ⟨o1, r1, l1, m1, v1⟩ := run_left (F := F) nx (D a) k (lim_D a) hk31 (by omega)
      obtain ⟨o2, r2, l2, m2, v2⟩ := run_left (F := F) ny (D b) k (lim_D b) hk31 (by omega)
      rw [ev_D] at v1 v2
      -- the divisor, moved up
      have hkp := Nat.two_pow_pos k
      have hbn : b < B32 ^ ((D b).length - 1) * ((D b)[(D b).length - 1] + 1) := by
        rw [hlast, Nat.mul_comm, ← Nat.div_lt_iff_lt_mul (Nat.pow_pos (by decide))]; omega
      have hbk : b * 2 ^ k < B32 ^ (D b).length := by
        have e1 : B32 ^ (D b).length = B32 ^ ((D b).length - 1) * B32 := by rw [← Nat.pow_succ]; congr 1; omega
        have e2 : b * 2 ^ k < B32 ^ ((D b).length - 1) * ((D b)[(D b).length - 1] + 1) * 2 ^ k := (Nat.mul_lt_mul_right hkp).2 hbn
        have e3 : ((D b)[(D b).length - 1] + 1) * 2 ^ k ≤ B32 := by
          have h31 : 2 ^ k ∣ 4294967296 := ⟨2 ^ (32 - k), by rw [← Nat.pow_add, show k + (32 - k) = 32 from by omega]⟩
          obtain ⟨c, hc'⟩ := h31
          show _ ≤ 4294967296
          rw [hc'] at hp2 ⊢
          rw [Nat.mul_comm]
          exact Nat.mul_le_mul_left _ (Nat.lt_of_mul_lt_mul_left hp2)
        have e4 := Nat.mul_le_mul_left (B32 ^ ((D b).length - 1)) e3
        rw [e1]
        rw [Nat.mul_assoc] at e2
        omega
      have hblow : B32 ^ ((D b).length - 1) * 2147483648 ≤ b * 2 ^ k := by
        have e1 : B32 ^ ((D b).length - 1) * (D b)[(D b).length - 1] ≤ b := by rw [hlast]; exact Nat.mul_div_le _ _
        have e2 := Nat.mul_le_mul_right (2 ^ k) e1
        have e3 := Nat.mul_le_mul_left (B32 ^ ((D b).length - 1)) hp1
        rw [Nat.mul_assoc, Nat.mul_comm _ (2 ^ k)] at e2
        omega
      have ho2 : ev (o2.drop (D b).length) = 0 := ev_zero_of_lt (n := (D b).length) (by rw [v2]; exact hbk) (Nat.le_refl _)
      have hYl : (o2.take (D b).length).length = (D b).length := by rw [List.length_take]; omega
      have hYe : ev (o2.take (D b).length) = b * 2 ^ k := by
        have e : ev o2 = ev (o2.take (D b).length) + B32 ^ (o2.take (D b).length).length * ev (o2.drop (D b).length) := by rw [← ev_append, List.take_append_drop]
        rw [ho2, v2] at e
        omega
      have hsplit : o2 = o2.take (D b).length ++ o2.drop (D b).length := (List.take_append_drop _ _).symm
      have hlenD : (D (ev o2)).length = (D b).length := by
        rw [v2]
        apply Nat.le_antisymm (D_len_le hbk)
        apply Nat.le_of_not_lt
        intro hlt
        have := le_of_D_len (n := b * 2 ^ k) (k := (D b).length - 1) (by omega)
        omega
      have htr := run_trim (F := F) o2 false m2 (by omega)
      rw [hlenD] at htr
      have hYlim : Lim (o2.take (D b).length) := lim_take m2 _
      generalize hYY : o2.take (D b).length = Y at *
      generalize o2.drop (D b).length = W at *
      subst hsplit
      obtain ⟨m, hm⟩ : ∃ m, m + 2 = Y.length := ⟨Y.length - 2, by omega⟩
      have hy : 2147483648 ≤ Y[m + 1]'(by omega) := by
        have e := ev_take_succ (l := Y) (i := m + 1) (by omega)
        rw [List.take_of_length_le (by omega), hYe] at e
        have l1 := ev_lt (lim_take hYlim (m + 1))
        rw [List.length_take, Nat.min_eq_left (by omega)] at l1
        rw [show (D b).length - 1 = m + 1 from by omega] at hblow
        apply Nat.le_of_not_lt
        intro hlt
        have e2 : B32 ^ (m + 1) * (Y[m + 1]'(by omega) + 1) ≤ B32 ^ (m + 1) * 2147483648 := Nat.mul_le_mul_left _ hlt
        rw [Nat.mul_succ] at e2
        omega
      have hDab : (D b).length ≤ (D a).length := D_len_mono hge
      have htop : ev (o1.drop (o1.length - Y.length)) < ev Y := by
        rw [hYe]
        have e : ev o1 = ev (o1.take (o1.length - Y.length)) + B32 ^ (o1.take (o1.length - Y.length)).length * ev (o1.drop (o1.length - Y.length)) := by rw [← ev_append, List.take_append_drop]
        rw [List.length_take, Nat.min_eq_left (by omega), v1] at e
        apply Nat.lt_of_not_le
        intro hle
        have e1 : B32 ^ ((D b).length - 1) ≤ b := by
          apply Nat.le_of_not_lt
          intro hlt
          have := D_len_le hlt
          omega
        have e2 : B32 ^ (o1.length - Y.length) * (B32 ^ ((D b).length - 1) * 2 ^ k) ≤ a * 2 ^ k := by
          have e3 : B32 ^ ((D b).length - 1) * 2 ^ k ≤ ev (o1.drop (o1.length - Y.length)) := Nat.le_trans (Nat.mul_le_mul_right _ e1) hle
          have e4 := Nat.mul_le_mul_left (B32 ^ (o1.length - Y.length)) e3
          omega
        rw [← Nat.mul_assoc, ← Nat.pow_add, show o1.length - Y.length + ((D b).length - 1) = (D a).length from by omega] at e2
        have e5 := Nat.le_of_mul_le_mul_right e2 hkp
        have e6 := D_lt a
        omega
      obtain ⟨e, st, he, rfl, R, Q, rfl, q1, q2, q3, q4, q5, q6⟩ := divide_loop (F := F) (.slc nx (u32s (D a))) (.slc ny (u32s (D b))) o1 Y W k m m1 hYlim hm hy (by omega) (by omega) htop
      have hbpos : 0 < b * 2 ^ k := Nat.mul_pos (Nat.pos_of_ne_zero hb) hkp
      rw [v1, hYe] at q6
      rw [hYe] at q5
      have hQe : ev Q = a / b := by
        have : a * 2 ^ k / (b * 2 ^ k) = ev Q := by rw [q6, Nat.add_mul_div_left _ _ hbpos, Nat.div_eq_of_lt q5, Nat.zero_add]
        rw [← this, Nat.mul_div_mul_right _ _ hkp]
      have hRe : ev R = a % b * 2 ^ k := by
        have : a * 2 ^ k % (b * 2 ^ k) = ev R := by rw [q6, Nat.add_mul_mod_self_left, Nat.mod_eq_of_lt q5]
        rw [← this, Nat.mul_mod_mul_right]
      have htQ := run_trim (F := F) Q false q4 (by omega)
      have htR := run_trim (F := F) R false q2 (by omega)
      have hright := pc_right (F := F) false (D (ev R)) k (lim_D _) hk31 (by have := D_len_le (ev_lt q2); omega)
      rw [ev_D, hRe, Nat.mul_div_cancel _ hkp, ← hRe] at hright
      have hRle : (D (ev R)).length ≤ R.length := D_len_le (ev_lt q2)
      have hQle : (D (ev Q)).length ≤ Q.length := D_len_le (ev_lt q4)
      have htakeR := take_D R q2
      have htakeQ := take_D Q q4
      refine ⟨false, false, pure_ret h.limbs_divide rfl ?_⟩
      rw [← hQe]
      have hYW : (Y ++ W).length = (D b).length + 1 := by simpa using l2
      rw [hYW] at htr
      have raw1 := raw_new (call := run F) (H := []) (by simp) r1 (by simp)
      have raw2 := raw_new (call := run F) (H := [some ⟨false, 1, u32s o1⟩]) (by simp) r2 (by simp)
      have raw3 := raw_at (call := run F) (H := [some ⟨false, 1, u32s o1⟩, some ⟨false, 1, u32s (Y ++ W)⟩]) (id := 1) rfl (by simp) htr (by simp)
      have raw4 := raw_at (call := run F) (H := [some ⟨false, 1, u32s R⟩, some ⟨false, 1, u32s (Y ++ W)⟩, some ⟨false, 1, u32s Q⟩]) (id := 2) rfl (by simp) htQ (by simp)
      have raw5 := raw_at (call := run F) (H := [some ⟨false, 1, u32s R⟩, some ⟨false, 1, u32s (Y ++ W)⟩, some ⟨false, 1, u32s Q⟩]) (id := 0) rfl (by simp) htR (by simp)
      have hd := hand_at (H := [some ⟨false, 1, u32s R⟩, some ⟨false, 1, u32s (Y ++ W)⟩, some ⟨false, 1, u32s Q⟩]) (id := 0) (rest := [.int .i64 k]) rfl hRle (by simp)
      rw [htakeR] at hd
      have hfr : freeze [some ⟨false, 1, u32s R⟩, some ⟨false, 1, u32s (Y ++ W)⟩, some ⟨false, 1, u32s Q⟩] [0] = [some ⟨true, 1, u32s R⟩, some ⟨false, 1, u32s (Y ++ W)⟩, some ⟨false, 1, u32s Q⟩] := rfl
      rw [hfr] at hd
      have hre := reach_at (H := [some ⟨true, 1, u32s R⟩, some ⟨false, 1, u32s (Y ++ W)⟩, some ⟨false, 1, u32s Q⟩]) (id := 2) rfl (by simp)
      have htree := tup2_first (H := [some ⟨true, 1, u32s R⟩, some ⟨false, 1, u32s (Y ++ W)⟩, some ⟨false, 1, u32s Q⟩]) (id := 2) (v := .slc false (u32s (D (a % b)))) rfl hQle (by simp)
      rw [htakeQ] at htree
      have q3' : Q.length = (D a).length + 1 - (D b).length := by omega
      have q1' : R.length = (D a).length + 1 := by omega
      rw [q3'] at raw4
      rw [q1'] at raw5
      have hcast : (((D a).length + 1 : Nat) : Int) = (D a).length + 1 := by omega
      rw [hYl, l1, hcast] at he
      have tn : (((D a).length : Int) + 1 - (D b).length).toNat = (D a).length + 1 - (D b).length := by omega
      have hi : (((D b).length : Int) - 1).toNat = (D b).length - 1 := by omega
      simp only [List.length_cons, List.length_nil, List.nil_append, List.cons_append, Nat.zero_add] at raw1 raw2 raw3 raw4 raw5
      clear hbn hbk hblow ho2 hlenD htr hy htop q5 q6 hQe hRe
      simp (disch := first | omega | simp) [c_limbs_divide, any_pure, hc, if_pos, if_neg, decide_eq_false, decide_eq_true, wrap_i64, hi, hlz, raw1, raw2, raw3, raw4, raw5, tn, u32s_replicate, maxB, he, hd, hright, hre, htree]
    · -- by one limb
      have hlen : (D b).length = 1 := by omega
      obtain ⟨p, hp⟩ := List.length_eq_one_iff.1 hlen
      have hbp := D_single hp
      subst hbp
      have hblim : b < 4294967296 := lim_D b b (by rw [hp]; simp)
      have hs := pc_small (F := F) nx (D a) b (lim_D _) (by omega) hblim (by omega)
      rw [ev_D] at hs
      have hmod : a % b < 4294967296 := Nat.lt_trans (Nat.mod_lt _ (by omega)) hblim
      have htr := run_trim (F := F) [a % b] false (fun x hx => by simp at hx; subst hx; exact hmod) (by simp)
      rw [ev_one] at htr
      have raw := raw_at (call := run F) (H := [some ⟨false, 1, u32s [a % b]⟩]) (id := 0) rfl (by simp) htr (by simp)
      have hre := reach_at (H := [some ⟨false, 1, u32s [a % b]⟩]) (id := 0) rfl (by simp)
      have hle : (D (a % b)).length ≤ [a % b].length := D_len_le (k := 1) hmod
      have htree := tup2_second (H := [some ⟨false, 1, u32s [a % b]⟩]) (id := 0) (nn := false) (xs := u32s (D (a / b))) rfl hle
      rw [take_D' (fun x hx => by simp at hx; subst hx; exact hmod) (ev_one _)] at htree
      rw [show u32s [a % b] = [.int .u32 ((a % b : Nat) : Int)] from rfl] at raw hre htree
      refine ⟨false, false, pure_ret h.limbs_divide rfl ?_⟩
      have h0 : (D b)[0]'(by omega) = b := by simp [hp]
      generalize a % b = r at *
      simp only [List.length_cons, List.length_nil, Nat.zero_add] at raw
      simp (disch := first | omega | simp) [c_limbs_divide, any_pure, hc, if_pos, if_neg, decide_eq_false, decide_eq_true, wrap_i64, goodElems, placeAll, hs, raw, hre, htree, hlen, h0]

end Go.Ash
/- Package limbs: Quo, Gcd. -/
namespace Go.Ash
variable {F : Nat → Option RFunc} [h : CodeLimbs F]

theorem quo_unique {x y Q R : Int} (hy : y ≠ 0) (h0 : 0 ≤ R) (h1 : R < y.natAbs) (e : x = y * Q + R) : x / y = Q ∧ x % y = R := by
  have hm : x % y = R := by
    rcases Int.lt_or_le y 0 with hn | hp
    · have e2 : x = R + (-y) * (-Q) := by rw [e, Int.neg_mul_neg]; omega
      rw [← Int.emod_neg, e2, Int.add_mul_emod_self_left, Int.emod_eq_of_lt h0 (by omega)]
    · have e2 : x = R + y * Q := by omega
      rw [e2, Int.add_mul_emod_self_left, Int.emod_eq_of_lt h0 (by omega)]
  refine ⟨?_, hm⟩
  have hd := Int.mul_ediv_add_emod x y
  rw [hm] at hd
  exact Int.eq_of_mul_eq_mul_left hy (by omega)

theorem len_D_succ (a : Nat) : (D (a + 1)).length ≤ (D a).length + 1 := by
  have h := D_lt a
  apply D_len_le
  rw [Nat.pow_succ]
  have : B32 ^ (D a).length * 2 ≤ B32 ^ (D a).length * B32 := Nat.mul_le_mul_left _ (by decide)
  omega

theorem hand_second {x : AVal} {H : Heap} {id len esz : Nat} {fz : Bool} {l : List Nat} {nn : Bool} {xs : List AVal} (h : H.at id = some ⟨fz, esz, u32s l⟩) (hle : len ≤ l.length) :
    handOn [.slc nn xs, .mslc id 0 len] H = some ([.slc nn xs, .slc false (u32s (l.take len))], freeze H [id]) := by
  have h1 : treeL H fuelTree [.slc nn xs, .mslc id 0 len] = some ([.slc nn xs, .slc false (u32s (l.take len))], [id]) := by
    unfold fuelTree
    rw [treeL_cons (by simp), treeL_cons (by simp), tree_at h hle, treeL_free (n := 37) (show idsL [] = [] from rfl)]
    simp [AVal.tree]
  simp [handOn, h1]

/-- limbs.Quo: the remainder is not below nought. -/
theorem quo_is {a b : AVal} {x y : Int} {m n : Nat} (ha : IsI a x m) (hb : IsI b y n) (hm : m < 2^36) (hn : n < 2^36) :
    pureCall (run F) 24 [a, b] = some (if y = 0 then .tup [IV 0, IV 0, .int .i64 2] else .tup [IV (x / y), IV (x % y), .int .i64 0]) := by
  obtain ⟨na, ra, la, rfl, hla, hlen, rfl⟩ := ha
  obtain ⟨nb, rb, lb, rfl, hlb, hlenb, rfl⟩ := hb
  have h1 := pc_mag (F := F) na ra la hla (by omega)
  have h2 := pc_mag (F := F) nb rb lb hlb (by omega)
  have h3 := pc_neg (F := F) na ra la hla (by omega)
  have h4 := pc_neg (F := F) nb rb lb hlb (by omega)
  have hla' := len_D_ev hla
  have hlb' := len_D_ev hlb
  have e1 : sgn na (ev la) = sgn (na && decide (ev la ≠ 0)) (ev la) := by cases na <;> by_cases h0 : ev la = 0 <;> simp [sgn, h0]
  have e2 : sgn nb (ev lb) = sgn (nb && decide (ev lb ≠ 0)) (ev lb) := by cases nb <;> by_cases h0 : ev lb = 0 <;> simp [sgn, h0]
  rw [e1, e2]
  by_cases h0 : ev lb = 0
  · have hy : sgn (nb && decide (ev lb ≠ 0)) (ev lb) = 0 := by rw [h0]; simp [sgn]
    rw [if_pos hy]
    refine pure_ret h.limbs_Quo rfl ?_
    simp [c_limbs_Quo, any_pure, h2, h0, fillA, IV, putElem, putAgg]
  · have hy : sgn (nb && decide (ev lb ≠ 0)) (ev lb) ≠ 0 := by cases nb <;> simp [sgn, h0]
    rw [if_neg hy]
    generalize (na && decide (ev la ≠ 0)) = s at *
    generalize (nb && decide (ev lb ≠ 0)) = t at *
    obtain ⟨n1, n2, hd⟩ := pc_divide (F := F) ra rb (ev la) (ev lb) h0 (by omega) (by omega)
    have hdm := Nat.div_add_mod (ev la) (ev lb)
    have hml := Nat.mod_lt (ev la) (Nat.pos_of_ne_zero h0)
    have hdl : (D (ev la / ev lb)).length ≤ (D (ev la)).length := D_len_mono (Nat.div_le_self _ _)
    have hrl : (D (ev la % ev lb)).length ≤ (D (ev lb)).length := D_len_mono (Nat.le_of_lt hml)
    have hmade : ∀ (u fl : Bool) (k : Nat), (D k).length ≤ 2^37 → pureCall (run F) 89 [.bool u, .slc fl (u32s (D k))] = some (IV (sgn u k)) := fun u fl k hk => by
      have := pc_made (F := F) u fl (D k) (lim_D _) (by omega)
      rwa [ev_D] at this
    have hcast : ((ev la : Nat) : Int) = (ev lb : Int) * ((ev la / ev lb : Nat) : Int) + ((ev la % ev lb : Nat) : Int) := by
      rw [← Int.natCast_mul, ← Int.natCast_add, hdm]
    generalize ev la / ev lb = Qn at *
    generalize ev la % ev lb = Rn at *
    by_cases hsr : s = true ∧ 0 < Rn
    · obtain ⟨rfl, hr⟩ := hsr
      have hpl := pc_plus (F := F) n1 false (D (Qn)) [1] (lim_D _) (by intro x hx; simp at hx; subst hx; decide) (by omega) (by simp)
      rw [ev_D, ev_one] at hpl
      have hmi := pc_minus (F := F) rb n2 (D (ev lb)) (D (Rn)) (lim_D _) (lim_D _) hrl (by rw [ev_D, ev_D]; omega) (by omega)
      rw [ev_D, ev_D] at hmi
      have hh : ∀ b0 b1 b2 b3 : Option Blk, handOn [.slc n1 (u32s (D (Qn))), .mslc 4 0 1] [b0, b1, b2, b3, some ⟨false, 1, [.int .u32 1]⟩] =
          some ([.slc n1 (u32s (D (Qn))), .slc false [.int .u32 1]], [b0, b1, b2, b3, some ⟨true, 1, [.int .u32 1]⟩]) := fun _ _ _ _ => hand_second (x := .und) (l := [1]) rfl (by simp)
      have hpl' : pureCall (run F) 87 [.slc n1 (u32s (D (Qn))), .slc false [.int .u32 1]] = _ := hpl
      have hq := quo_unique (x := sgn true (ev la)) (y := sgn t (ev lb)) (Q := sgn (true != t) (Qn + 1 : Nat)) (R := ((ev lb - Rn : Nat) : Int)) hy (by omega) (by rw [sgn_abs]; omega) (by
        have e5 : (ev lb : Int) * ((Qn + 1 : Nat) : Int) = (ev lb : Int) * ((Qn : Nat) : Int) + (ev lb : Int) := by
          rw [Int.natCast_add, Int.mul_add]; simp
        cases t <;> simp only [sgn, if_true, if_false, Bool.false_eq_true, bne_self_eq_false, Bool.true_bne, Bool.not_false, Bool.not_true, Int.neg_mul_neg, Int.mul_neg, Int.neg_mul] <;> omega)
      rw [hq.1, hq.2]
      have m1 := hmade (true != t) false (Qn + 1) (by have := len_D_succ (Qn); omega)
      have m2 := hmade false false (ev lb - Rn) (by have := D_len_mono (Nat.sub_le (ev lb) (Rn)); omega)
      clear hpl hq hcast hdm hla' hlb'
      refine pure_ret h.limbs_Quo rfl ?_
      have hr0 : 0 < (D Rn).length := List.length_pos_iff.2 (by simp; omega)
      have e6 : sgn false (ev lb - Rn) = ((ev lb - Rn : Nat) : Int) := by simp [sgn]
      rw [e6] at m2
      generalize ((ev lb - Rn : Nat) : Int) = rr at *
      cases t
      · replace m1 : pureCall (run F) 89 [.bool true, .slc false (u32s (D (Qn + 1)))] = some (IV (sgn true (Qn + 1 : Nat))) := m1
        simp (disch := first | omega | simp) [c_limbs_Quo, any_pure, h1, h2, h3, h4, h0, hd, if_pos, if_neg, decide_eq_true, hh, hpl', hmi, m1, m2, goodElems, placeAll, hr0]
      · replace m1 : pureCall (run F) 89 [.bool false, .slc false (u32s (D (Qn + 1)))] = some (IV (sgn false (Qn + 1 : Nat))) := m1
        simp (disch := first | omega | simp) [c_limbs_Quo, any_pure, h1, h2, h3, h4, h0, hd, if_pos, if_neg, decide_eq_true, hh, hpl', hmi, m1, m2, goodElems, placeAll, hr0]
    · have hq := quo_unique (x := sgn s (ev la)) (y := sgn t (ev lb)) (Q := sgn (s != t) (Qn)) (R := ((Rn : Nat) : Int)) hy (by omega) (by rw [sgn_abs]; omega) (by
        have hs : s = true → Rn = 0 := fun hs => Nat.eq_zero_of_not_pos (fun h => hsr ⟨hs, h⟩)
        cases s
        · cases t <;> simp [sgn, Int.neg_mul_neg] <;> omega
        · have := hs rfl
          rw [this] at hcast ⊢
          cases t <;> simp [sgn, Int.neg_mul_neg, Int.mul_neg, Int.neg_mul] <;> simp at hcast <;> omega)
      rw [hq.1, hq.2]
      have m1 := hmade (s != t) n1 (Qn) (by omega)
      have m2 := hmade false n2 (Rn) (by omega)
      have e6 : sgn false (Rn) = ((Rn : Nat) : Int) := by simp [sgn]
      rw [e6] at m2
      clear hq hcast hdm
      refine pure_ret h.limbs_Quo rfl ?_
      cases s
      · cases t
        · replace m1 : pureCall (run F) 89 [.bool false, .slc n1 (u32s (D Qn))] = some (IV (sgn false Qn)) := m1
          simp (disch := first | omega | simp) [c_limbs_Quo, any_pure, h1, h2, h3, h4, h0, hd, m1, m2]
        · replace m1 : pureCall (run F) 89 [.bool true, .slc n1 (u32s (D Qn))] = some (IV (sgn true Qn)) := m1
          simp (disch := first | omega | simp) [c_limbs_Quo, any_pure, h1, h2, h3, h4, h0, hd, m1, m2]
      · have hr0 : Rn = 0 := Nat.eq_zero_of_not_pos (fun h => hsr ⟨rfl, h⟩)
        subst hr0
        rw [D_zero, u32s_empty] at m2
        cases t
        · replace m1 : pureCall (run F) 89 [.bool true, .slc n1 (u32s (D Qn))] = some (IV (sgn true Qn)) := m1
          simp (disch := first | omega | simp) [c_limbs_Quo, any_pure, h1, h2, h3, h4, h0, hd, m1, m2]
        · replace m1 : pureCall (run F) 89 [.bool false, .slc n1 (u32s (D Qn))] = some (IV (sgn false Qn)) := m1
          simp (disch := first | omega | simp) [c_limbs_Quo, any_pure, h1, h2, h3, h4, h0, hd, m1, m2]
end Go.Ash
/- Package limbs: Gcd. -/
namespace Go.Ash
variable {F : Nat → Option RFunc} [h : CodeLimbs F]

theorem tidy_last3 {live : List Bool} {vars env : List AVal} {x0 x1 : Option Blk} {b2 : Blk} (hv : idsL (mask live vars) = [2]) (h2 : idsL b2.elems = []) :
    tidy live ⟨vars, env, [x0, x1, some b2], 0⟩ = some ⟨renL (place [2]) (mask live vars), [], [some b2], 0⟩ := by
  have hr : reach [x0, x1, some b2] fuelIds [2] [] = some [2] := reach_at (b := b2) rfl h2
  unfold tidy
  rw [if_neg (by simp), hv]
  simp [hr, pack, blk_ren h2]

theorem gcd_loop (b0 b1 b2 : Blk) (h2 : idsL b2.elems = []) (v0 v1 : AVal) (f1 f2 : Bool) (p0 q0 : Nat) (hp : (D p0).length < 2^38) (hq : (D q0).length < 2^38) :
    ∃ e st, (∀ env, exec F l_limbs_Gcd_0 ⟨[v0, v1, .mptr 0 0 0, .mptr 1 0 0, .mptr 2 0 0, .slc f1 (u32s (D p0)), .slc f2 (u32s (D q0)), .und], env, [some b0, some b1, some b2], 0⟩ = some (e, st)) ∧
      (e = .exit 0 ∧ ∃ f v, st = ⟨[.und, .und, .und, .und, .mptr 0 0 0, .slc f (u32s (D (p0.gcd q0))), v, .und], [], [some b2], 0⟩) := by
  refine loop_rule
    (fun n st => ∃ (f1 f2 : Bool) (p : Nat), st = ⟨[.und, .und, .und, .und, .mptr 0 0 0, .slc f1 (u32s (D p)), .slc f2 (u32s (D n)), .und], [], [some b2], 0⟩ ∧ (D p).length < 2^38 ∧ (D n).length < 2^38 ∧ p.gcd n = p0.gcd q0) _ q0 _ ?_
    (tidy_last3 (by simp) h2) ⟨f1, f2, p0, by simp [place], hp, hq, rfl⟩
  rintro n st ⟨f1, f2, p, rfl, hpl, hnl, hg⟩
  rcases Nat.eq_zero_or_pos n with rfl | hpos
  · refine .out (.exit 0) _ (by simp) ⟨rfl, f1, .slc f2 (u32s (D 0)), by rw [← hg, Nat.gcd_zero_right]⟩ ?_
    simp [after]
  · have hn0 : 0 < (D n).length := List.length_pos_iff.2 (by simp; omega)
    obtain ⟨n1, n2, hd⟩ := pc_divide (F := F) f1 f2 p n (by omega) hpl hnl
    have hlt := Nat.mod_lt p hpos
    refine .more (p % n) _ hlt ⟨f2, n2, n, rfl, hnl, by have := D_len_mono (Nat.le_of_lt hlt); omega, ?_⟩ ?_
    · rw [← hg, Nat.gcd_comm n, ← Nat.gcd_rec, Nat.gcd_comm]
    · simp (disch := first | omega | simp) [after, tidy_one, if_pos, any_pure, hd, h2]

/-- limbs.Gcd. -/
theorem gcd_is {a b : AVal} {x y : Int} {m n : Nat} (ha : IsI a x m) (hb : IsI b y n) (hm : m < 2^36) (hn : n < 2^36) : pureCall (run F) 36 [a, b] = some (IV (Int.gcd x y : Nat)) := by
  obtain ⟨na, ra, la, rfl, hla, hlen, rfl⟩ := ha
  obtain ⟨nb, rb, lb, rfl, hlb, hlenb, rfl⟩ := hb
  have h1 := pc_mag (F := F) na ra la hla (by omega)
  have h2 := pc_mag (F := F) nb rb lb hlb (by omega)
  have hla' := len_D_ev hla
  have hlb' := len_D_ev hlb
  obtain ⟨e, st, he, rfl, f, v, rfl⟩ := gcd_loop (F := F) ⟨false, 2, [.agg [.bool na, .slc ra (u32s la)]]⟩ ⟨false, 2, [.agg [.bool nb, .slc rb (u32s lb)]]⟩ ⟨false, 2, [.agg [.bool false, .slc true []]]⟩ (by simp)
    (.agg [.bool na, .slc ra (u32s la)]) (.agg [.bool nb, .slc rb (u32s lb)]) ra rb (ev la) (ev lb) (by omega) (by omega)
  have hg : Int.gcd (sgn na (ev la)) (sgn nb (ev lb)) = (ev la).gcd (ev lb) := by rw [Int.gcd, sgn_abs, sgn_abs]
  rw [hg]
  have hgl : (D ((ev la).gcd (ev lb))).length < 2^38 := by
    rcases Nat.eq_zero_or_pos (ev la) with h0 | h0
    · rw [h0, Nat.gcd_zero_left]; omega
    · have := D_len_mono (Nat.gcd_le_left (ev lb) h0); omega
  have hmd := pc_made (F := F) false f (D ((ev la).gcd (ev lb))) (lim_D _) (by omega)
  rw [ev_D] at hmd
  have e6 : sgn false ((ev la).gcd (ev lb)) = (((ev la).gcd (ev lb) : Nat) : Int) := by simp [sgn]
  rw [e6] at hmd
  refine pure_ret h.limbs_Gcd rfl ?_
  simp [c_limbs_Gcd, any_pure, h1, h2, he, hmd]
end Go.Ash
/- Package limbs: Power. -/
namespace Go.Ash
variable {F : Nat → Option RFunc} [h : CodeLimbs F]

theorem shr_i64 {l k : Nat} (hk : k < 64) : shiftA .shr .i64 (l : Int) (k : Int) = some (.int .i64 ((l / 2 ^ k : Nat) : Int)) := by
  rw [shiftA_shr, if_neg (by omega)]
  have : (k : Int).toNat.min (IntKind.bits .i64) = k := by
    show min ((k : Int).toNat) 64 = k
    omega
  rw [this, ← pow_cast, Int.fdiv_eq_ediv_of_nonneg _ (Int.natCast_nonneg _)]; rfl

theorem and_one_i64 {a : Nat} (h : a < 9223372036854775808) : intA .and .i64 (a : Int) 1 = some (.int .i64 ((a % 2 : Nat) : Int)) := by
  have h1 : (BitVec.ofInt 64 (a : Int) &&& BitVec.ofInt 64 1).toNat = a % 2 := by
    rw [BitVec.ofInt_natCast, BitVec.toNat_and, BitVec.toNat_ofNat, Nat.mod_eq_of_lt (by omega)]
    exact Nat.and_one_is_mod a
  show some (AVal.int .i64 (IntKind.i64.wrap (((BitVec.ofInt 64 (a : Int) &&& BitVec.ofInt 64 1).toNat : Nat) : Int))) = _
  rw [h1, wrap_i64 (by omega) (by omega)]

theorem bl_pow_le (x n : Nat) : x ^ n < 2 ^ (bl x * n + 1) := by
  have h1 : x < 2 ^ bl x := bl_le.1 (Nat.le_refl _)
  have h2 : x ^ n ≤ (2 ^ bl x) ^ n := Nat.pow_le_pow_left (Nat.le_of_lt h1) n
  rw [← Nat.pow_mul] at h2
  have h3 : 2 ^ (bl x * n) < 2 ^ (bl x * n + 1) := Nat.pow_lt_pow_right (by decide) (by omega)
  omega

theorem D_len_pow {x n c : Nat} (h : bl x * n ≤ c) : (D (x ^ n)).length ≤ c / 32 + 1 := by
  apply D_len_le
  rw [B32_pow]
  have h1 := bl_pow_le x n
  have h2 : 2 ^ (bl x * n + 1) ≤ 2 ^ (32 * (c / 32 + 1)) := Nat.pow_le_pow_right (by decide) (by omega)
  omega

theorem pow_half {x n k : Nat} : (x ^ (n / 2 ^ (k + 1))) * (x ^ (n / 2 ^ (k + 1))) * (if n / 2 ^ k % 2 = 1 then x else 1) = x ^ (n / 2 ^ k) := by
  have e : n / 2 ^ (k + 1) = n / 2 ^ k / 2 := by rw [Nat.pow_succ, Nat.div_div_eq_div_mul]
  rw [e, ← Nat.pow_add]
  generalize n / 2 ^ k = m
  by_cases hm : m % 2 = 1
  · rw [if_pos hm, ← Nat.pow_succ]; congr 1; omega
  · rw [if_neg hm, Nat.mul_one]; congr 1; omega

theorem tidy_drop3 {live : List Bool} {vars env : List AVal} {b0 b1 : Blk} {x2 : Option Blk} (hv : idsL (mask live vars) = [0, 1]) (h0 : idsL b0.elems = []) (h1 : idsL b1.elems = []) :
    tidy live ⟨vars, env, [some b0, some b1, x2], 0⟩ = some ⟨mask live vars, [], [some b0, some b1], 0⟩ := by
  have hr : reach [some b0, some b1, x2] fuelIds [0, 1] [] = some [0, 1] := by simp [reach, fuelIds, Heap.at, h0, h1]
  have hp : ∀ y, y < 2 → place [0, 1] y = y := by intro y hy; rcases (by omega : y = 0 ∨ y = 1) with rfl | rfl <;> rfl
  have ha : renL (place [0, 1]) (mask live vars) = mask live vars := renL_below (n := 2) hp _ (fun y hy => by rw [hv] at hy; simp at hy; omega)
  unfold tidy
  rw [if_neg (by simp), hv]
  simp [hr, pack, blk_ren h0, blk_ren h1, ha, Heap.at]

theorem power_loop (v0 : AVal) (b0 b1 : Blk) (h0 : idsL b0.elems = []) (h1 : idsL b1.elems = []) (f : Bool) (x n : Nat) (hn0 : 0 < n) (hn : n < 9223372036854775808) (hx : bl x * n ≤ 1048576) (v5 v9 : AVal) (hx0 : 0 < bl x) :
    ∃ e st, (∀ env, exec F l_limbs_Power_0 ⟨[v0, .int .i64 n, .mptr 0 0 0, .mptr 1 0 0, .int .i64 0, v5, .mslc 2 0 1, .slc f (u32s (D x)), .int .i64 ((bl n : Int) - 1), v9], env, [some b0, some b1, some ⟨false, 1, [.int .u32 1]⟩], 0⟩ = some (e, st)) ∧
      (e = .exit 1 ∧ ∃ g v, st = ⟨[.und, .int .i64 n, .mptr 0 0 0, .mptr 1 0 0, .und, .und, .slc g (u32s (D (x ^ n))), v, .int .i64 (-1), .und], [], [some b0, some b1], 0⟩) := by
  have hbn := bl_pos (Nat.pos_iff_ne_zero.1 hn0)
  have hb63 : bl n ≤ 63 := bl_le.2 hn
  have hpl : ∀ m, m ≤ n → (D (x ^ m)).length ≤ 32769 := fun m hm => by
    have := D_len_pow (x := x) (n := m) (c := 1048576) (Nat.le_trans (Nat.mul_le_mul_left _ hm) hx)
    omega
  have hxl : (D x).length ≤ 32769 := by have := hpl 1 hn0; rwa [Nat.pow_one] at this
  have hone : ∀ H : Heap, H = [some b0, some b1, some ⟨false, 1, [.int .u32 1]⟩] → handOn [.mslc 2 0 1, .mslc 2 0 1] H = some ([.slc false [.int .u32 1], .slc false [.int .u32 1]], [some b0, some b1, some ⟨true, 1, [.int .u32 1]⟩]) := by
    rintro H rfl
    have t1 : ∀ m, AVal.tree [some b0, some b1, some ⟨false, 1, [.int .u32 1]⟩] (m + 2) (.mslc 2 0 1) = some (.slc false [.int .u32 1], [2]) := fun m => tree_at (l := [1]) rfl (by simp)
    have h2 : treeL [some b0, some b1, some ⟨false, 1, [.int .u32 1]⟩] fuelTree [.mslc 2 0 1, .mslc 2 0 1] = some ([.slc false [.int .u32 1], .slc false [.int .u32 1]], [2, 2]) := by
      unfold fuelTree
      rw [treeL_cons (by simp), t1, treeL_cons (by simp), t1, treeL_free (n := 37) (show idsL [] = [] from rfl)]
      rfl
    simp [handOn, h2, freeze, Heap.at]
  have e1 : D 1 = [1] := D_one (by decide) (by decide)
  have l1 : (D 1).length = 1 := by rw [e1]; rfl
  have ht1 := pc_times (F := F) 2 false false 1 1 (by omega) (by omega) (by omega)
  have ht2 := pc_times (F := F) _ false f 1 x (Nat.le_refl _) (by omega) (by omega)
  rw [Nat.mul_one, e1] at ht1
  rw [Nat.one_mul, e1] at ht2
  have ht1' : pureCall (run F) 95 [.slc false [.int .u32 1], .slc false [.int .u32 1]] = some (.slc false [.int .u32 1]) := ht1
  have ht2' : pureCall (run F) 95 [.slc false [.int .u32 1], .slc f (u32s (D x))] = some (.slc false (u32s (D x))) := ht2
  refine loop_rule
    (fun j st => (j = bl n ∧ st = ⟨[.und, .int .i64 n, .mptr 0 0 0, .mptr 1 0 0, .und, .und, .mslc 2 0 1, .slc f (u32s (D x)), .int .i64 ((bl n : Int) - 1), .und], [], [some b0, some b1, some ⟨false, 1, [.int .u32 1]⟩], 0⟩) ∨
      (j ≤ 63 ∧ ∃ g, st = ⟨[.und, .int .i64 n, .mptr 0 0 0, .mptr 1 0 0, .und, .und, .slc g (u32s (D (x ^ (n / 2 ^ j)))), .slc f (u32s (D x)), .int .i64 ((j : Int) - 1), .und], [], [some b0, some b1], 0⟩)) _ (bl n) _ ?_
    (tidy_three (by simp) h0 h1 (by simp)) (.inl ⟨rfl, rfl⟩)
  rintro j st (⟨rfl, rfl⟩ | ⟨hj, g, rfl⟩)
  · -- the first round
    have hk : (bl n : Int) - 1 = ((bl n - 1 : Nat) : Int) := by omega
    have hd1 : n / 2 ^ (bl n - 1) = 1 := by
      have g1 : 2 ^ (bl n - 1) ≤ n := lt_bl.1 (by omega)
      have g2 : n < 2 ^ bl n := bl_le.1 (Nat.le_refl _)
      rw [show bl n = bl n - 1 + 1 from by omega, Nat.pow_succ] at g2
      exact Nat.div_eq_of_lt_le (by omega) (by omega)
    have s1 := shr_i64 (l := n) (k := bl n - 1) (by omega)
    rw [hd1] at s1
    have s2 : intA .and .i64 1 1 = some (.int .i64 1) := and_one_i64 (a := 1) (by decide)
    replace s1 : shiftA .shr .i64 (n : Int) ((bl n - 1 : Nat) : Int) = some (.int .i64 1) := s1
    refine .more (bl n - 1) _ (by omega) (.inr ⟨by omega, false, rfl⟩) ?_
    rw [hd1, hk, Nat.pow_one]
    generalize bl n - 1 = k at *
    have hone' := hone _ rfl
    simp (disch := first | omega | simp) [after, tidy_drop3, if_pos, any_pure, hone', ht1', ht2', s1, s2, wrap_i64, h0, h1, -shiftA_shr]
  · rcases Nat.eq_zero_or_pos j with rfl | hpos
    · rw [Nat.pow_zero, Nat.div_one]
      refine .out (.exit 1) _ (by simp) ⟨rfl, g, .slc f (u32s (D x)), rfl⟩ ?_
      simp [after]
    · obtain ⟨k, rfl⟩ : ∃ k, j = k + 1 := ⟨j - 1, by omega⟩
      have hidx : ((k + 1 : Nat) : Int) - 1 = k := by omega
      have s1 := shr_i64 (l := n) (k := k) (by omega)
      have hdk : n / 2 ^ k ≤ n := Nat.div_le_self _ _
      have hdk1 : n / 2 ^ (k + 1) ≤ n := Nat.div_le_self _ _
      have s2 := and_one_i64 (a := n / 2 ^ k) (by omega)
      have e := pow_half (x := x) (n := n) (k := k)
      have l2 := hpl _ hdk1
      have t1 := pc_times (F := F) _ g g (x ^ (n / 2 ^ (k + 1))) (x ^ (n / 2 ^ (k + 1))) (Nat.le_refl _) (by omega) (by omega)
      have l3 := D_mul_len (x ^ (n / 2 ^ (k + 1))) (x ^ (n / 2 ^ (k + 1)))
      have t2 := pc_times (F := F) _ false f (x ^ (n / 2 ^ (k + 1)) * x ^ (n / 2 ^ (k + 1))) x (Nat.le_refl _) (by omega) (by omega)
      rw [hidx]
      refine .more k _ (by omega) (.inr ⟨by omega, false, rfl⟩) ?_
      by_cases hm : n / 2 ^ k % 2 = 1
      · rw [if_pos hm] at e
        rw [e] at t2
        rw [hm] at s2
        generalize n / 2 ^ k = w at *
        simp (disch := first | omega | simp) [after, tidy_two, if_pos, any_pure, t1, t2, s1, s2, wrap_i64, h0, h1, -shiftA_shr]
      · rw [if_neg hm, Nat.mul_one] at e
        rw [e] at t1
        have hm0 : n / 2 ^ k % 2 = 0 := by omega
        rw [hm0] at s2
        generalize n / 2 ^ k = w at *
        simp (disch := first | omega | simp) [after, tidy_two, if_neg, any_pure, t1, s1, s2, wrap_i64, h0, h1, -shiftA_shr]

theorem sgn_pow_even {a n : Nat} {s : Bool} (hn : n % 2 = 0) : sgn s a ^ n = ((a ^ n : Nat) : Int) := by
  cases s
  · simp [sgn]
  · simp only [sgn, if_true]
    obtain ⟨k, rfl⟩ : ∃ k, n = 2 * k := ⟨n / 2, by omega⟩
    rw [Int.pow_mul, Nat.pow_mul, Int.natCast_pow]
    congr 1
    rw [Int.pow_succ, Int.pow_succ, Int.pow_zero, Int.one_mul, Int.neg_mul_neg]
    rw [Nat.pow_succ, Nat.pow_succ, Nat.pow_zero, Nat.one_mul, Int.natCast_mul]
theorem sgn_pow_odd {a n : Nat} {s : Bool} (hn : n % 2 = 1) : sgn s a ^ n = sgn s (a ^ n) := by
  cases s
  · simp [sgn]
  · obtain ⟨k, rfl⟩ : ∃ k, n = k + 1 := ⟨n - 1, by omega⟩
    rw [Int.pow_succ, sgn_pow_even (by omega), Nat.pow_succ]
    simp [sgn, Int.mul_neg]

theorem tmod2 (n : Nat) : (n : Int).tmod 2 = ((n % 2 : Nat) : Int) := tmod_nat n 2

/-- limbs.Power. -/
theorem power_is {a : AVal} {x : Int} {m : Nat} (ha : IsI a x m) (hm : m < 2^36) (n : Int) (hn0 : -9223372036854775808 ≤ n) (hn1 : n < 9223372036854775808) :
    pureCall (run F) 61 [a, .int .i64 n] = some (if n < 0 then .tup [IV 0, .int .i64 1] else if 1 < bl x.natAbs ∧ 1048576 / bl x.natAbs < n.toNat then .tup [IV 0, .int .i64 4] else .tup [IV (x ^ n.toNat), .int .i64 0]) := by
  have hbits := pc_bits_D (F := F) ha hm
  have hx := isI_lt ha
  obtain ⟨na, ra, la, rfl, hla, hlen, rfl⟩ := ha
  have g1 := pc_mag (F := F) na ra la hla (by omega)
  have g2 := pc_neg (F := F) na ra la hla (by omega)
  have hla' := len_D_ev hla
  have hblm : bl (ev la) ≤ 32 * la.length := bl_le.2 (by rw [← B32_pow]; exact ev_lt hla)
  rw [sgn_abs] at hbits hx ⊢
  have e1 : sgn na (ev la) = sgn (na && decide (ev la ≠ 0)) (ev la) := by cases na <;> by_cases h0 : ev la = 0 <;> simp [sgn, h0]
  have e2 : (na && decide (ev la ≠ 0)) = true → ev la ≠ 0 := by cases na <;> by_cases h0 : ev la = 0 <;> simp [h0]
  rw [e1]
  generalize (na && decide (ev la ≠ 0)) = s at *
  refine pure_ret h.limbs_Power rfl ?_
  by_cases hneg : n < 0
  · rw [if_pos hneg]
    simp (disch := first | omega | simp) [c_limbs_Power, if_pos, if_neg, decide_eq_true, fillA, IV, putElem, putAgg]
  · rw [if_neg hneg]
    obtain ⟨N, rfl⟩ : ∃ N : Nat, n = N := ⟨n.toNat, by omega⟩
    have hnn : ¬ (N : Int) < 0 := by omega
    simp only [Int.toNat_natCast]
    have hmade : ∀ (u fl : Bool) (k : Nat), (D k).length ≤ 2^37 → pureCall (run F) 89 [.bool u, .slc fl (u32s (D k))] = some (IV (sgn u k)) := fun u fl k hk => by
      have := pc_made (F := F) u fl (D k) (lim_D _) (by omega)
      rwa [ev_D] at this
    have hof := pc_of (F := F) 1 (by decide) (by decide)
    rcases Nat.lt_or_ge 1 (bl (ev la)) with hb | hb
    · by_cases hbig : 1048576 / bl (ev la) < N
      · rw [if_pos ⟨hb, hbig⟩]
        have htd : (1048576 : Int).tdiv ((bl (ev la) : Nat) : Int) = ((1048576 / bl (ev la) : Nat) : Int) := tdiv_nat 1048576 (bl (ev la))
        have hle : 1048576 / bl (ev la) ≤ 1048576 := Nat.div_le_self _ _
        generalize 1048576 / bl (ev la) = w at *
        have hN0 : ¬ N = 0 := by omega
        have hb1 : ¬ bl (ev la) = 1 := by omega
        have hb0 : ¬ bl (ev la) = 0 := by omega
        simp (disch := first | omega | simp) [c_limbs_Power, if_pos, if_neg, decide_eq_true, decide_eq_false, any_pure, hbits, fillA, IV, putElem, putAgg, htd, wrap_i64, hN0, hb1, hb0]
      · rw [if_neg (fun h => hbig h.2)]
        rcases Nat.eq_zero_or_pos N with rfl | hN
        · have hb1 : ¬ bl (ev la) = 1 := by omega
          rw [Int.pow_zero]
          simp (disch := first | omega | simp) [c_limbs_Power, if_neg, decide_eq_false, any_pure, hbits, hof, hb1]
        · have hxn : bl (ev la) * N ≤ 1048576 := by
            have := Nat.mul_le_mul_left (bl (ev la)) (Nat.le_of_not_lt hbig)
            have := Nat.mul_div_le 1048576 (bl (ev la))
            omega
          have htd : (1048576 : Int).tdiv ((bl (ev la) : Nat) : Int) = ((1048576 / bl (ev la) : Nat) : Int) := tdiv_nat 1048576 (bl (ev la))
          have hle : 1048576 / bl (ev la) ≤ 1048576 := Nat.div_le_self _ _
          obtain ⟨e, st, he, rfl, g, v, rfl⟩ := power_loop (F := F) (.agg [.bool na, .slc ra (u32s la)]) ⟨false, 2, [.agg [.bool na, .slc ra (u32s la)]]⟩ ⟨false, 2, [.agg [.bool false, .slc true []]]⟩ (by simp) (by simp) ra (ev la) N hN (by omega) hxn
            (.int .i64 (bl (ev la) : Nat)) (.bool false) (by omega)
          have hln := pc_len (F := F) N (by omega)
          have hb63 : bl N ≤ 63 := bl_le.2 (by omega)
          have hlp := D_len_pow hxn
          have htm := tmod2 N
          have hN0 : ¬ N = 0 := by omega
          have hb1 : ¬ bl (ev la) = 1 := by omega
          have hb0 : ¬ bl (ev la) = 0 := by omega
          have m1 := fun u => hmade u g (ev la ^ N) (by omega)
          generalize 1048576 / bl (ev la) = w at *
          rcases Nat.mod_two_eq_zero_or_one N with h2 | h2
          · rw [sgn_pow_even h2]
            rw [h2] at htm
            have m2 := m1 false
            rw [show sgn false (ev la ^ N) = ((ev la ^ N : Nat) : Int) from rfl] at m2
            generalize ((ev la ^ N : Nat) : Int) = z at *
            clear hxn hlp
            cases s <;> simp (disch := first | omega | simp) [c_limbs_Power, if_pos, if_neg, decide_eq_true, decide_eq_false, any_pure, hbits, g1, g2, htd, wrap_i64, wrap_u64, hN0, hb1, hb0, goodElems, placeAll, hln, he, htm, m2]
          · rw [sgn_pow_odd h2]
            rw [h2] at htm
            clear hxn hlp
            cases s
            · have m2 := m1 false
              simp (disch := first | omega | simp) [c_limbs_Power, if_pos, if_neg, decide_eq_true, decide_eq_false, any_pure, hbits, g1, g2, htd, wrap_i64, wrap_u64, hN0, hb1, hb0, goodElems, placeAll, hln, he, htm, m2]
            · have m2 := m1 true
              simp (disch := first | omega | simp) [c_limbs_Power, if_pos, if_neg, decide_eq_true, decide_eq_false, any_pure, hbits, g1, g2, htd, wrap_i64, wrap_u64, hN0, hb1, hb0, goodElems, placeAll, hln, he, htm, m2]
    · rw [if_neg (fun h => by omega)]
      have m1 := hmade s ra (ev la) (by omega)
      have htm := tmod2 N
      rcases Nat.eq_zero_or_pos N with rfl | hN
      · rw [Int.pow_zero]
        by_cases hb1 : bl (ev la) = 1
        · cases s <;> simp (disch := first | omega | simp) [c_limbs_Power, if_neg, if_pos, decide_eq_false, decide_eq_true, any_pure, hbits, hof, hb1, g2, htm]
        · simp (disch := first | omega | simp) [c_limbs_Power, if_neg, decide_eq_false, any_pure, hbits, hof, hb1]
      · have hN0 : ¬ N = 0 := by omega
        rcases (by omega : bl (ev la) = 0 ∨ bl (ev la) = 1) with hb0 | hb1
        · have h0 : ev la = 0 := by
            rcases Nat.eq_zero_or_pos (ev la) with h | h
            · exact h
            · have := bl_pos (Nat.pos_iff_ne_zero.1 h); omega
          have hs : s = false := by cases s; rfl; exact absurd h0 (e2 rfl)
          subst hs
          have hz : sgn false (ev la) ^ N = sgn false (ev la) := by
            rw [h0]; simp only [sgn, Bool.false_eq_true, if_false]
            exact Int.zero_pow (by omega)
          rw [hz]
          simp (disch := first | omega | simp) [c_limbs_Power, if_neg, if_pos, decide_eq_false, decide_eq_true, any_pure, hbits, hof, hb0, g1, g2, htm, hN0, m1]
        · have h1 : ev la = 1 := by
            have g1 : ev la < 2 ^ 1 := bl_le.1 (by omega)
            have g2 : ev la ≠ 0 := by intro h; rw [h] at hb1; simp at hb1
            omega
          rcases Nat.mod_two_eq_zero_or_one N with h2 | h2
          · rw [sgn_pow_even h2, h1, Nat.one_pow]
            rw [h2] at htm
            cases s
            · rw [h1] at m1
              replace m1 : pureCall (run F) 89 [.bool false, .slc ra (u32s (D 1))] = some (IV 1) := m1
              rw [h1] at g1
              simp (disch := first | omega | simp) [c_limbs_Power, if_neg, if_pos, decide_eq_false, decide_eq_true, any_pure, hbits, hof, hb1, g1, g2, htm, hN0, m1]
            · simp (disch := first | omega | simp) [c_limbs_Power, if_neg, if_pos, decide_eq_false, decide_eq_true, any_pure, hbits, hof, hb1, g1, g2, htm, hN0, m1]
          · rw [sgn_pow_odd h2, h1, Nat.one_pow, ← h1]
            rw [h2] at htm
            cases s <;> simp (disch := first | omega | simp) [c_limbs_Power, if_neg, if_pos, decide_eq_false, decide_eq_true, any_pure, hbits, hof, hb1, g1, g2, htm, hN0, m1]
end Go.Ash
/- The document's integers: divide's inner loops. -/
namespace Go.Ash
variable {F : Nat → Option RFunc} [h : CodeRef1 F]

theorem get_mid16 (A P Z : List Nat) (i : Nat) (hi : i < P.length) : (i64s (A ++ (P ++ Z)))[A.length + i]? = some (.int .i64 ((P[i] : Nat) : Int)) := by
  rw [get?_i64s _ _ (by simp; omega), List.getElem_append_right (by omega)]
  simp only [Nat.add_sub_cancel_left]
  rw [List.getElem_append_left hi]
theorem set_mid16 (A P Z : List Nat) (i v : Nat) (hi : i < P.length) : (i64s (A ++ (P ++ Z))).set (A.length + i) (.int .i64 (v : Int)) = i64s (A ++ (P.set i v ++ Z)) := by
  rw [i64s_set, List.set_append_right _ _ (by omega), Nat.add_sub_cancel_left, List.set_append_left _ _ hi]

theorem rdiv_loop0 (A P0 Z Y : List Nat) (nv : Bool) (g sc L LQ : Nat) (bq : Blk) (hbq : idsL bq.elems = []) (hP : LimW P0) (hY : LimW Y) (hg : g < 65536) (hl : A.length + P0.length + Z.length = L) (hL : L < 2^39) (hPY : P0.length = Y.length + 1)
    (w0 w1 w2 w3 w4 w5 w12 w18 w19 w20 : AVal) :
    ∃ e st, (∀ env, exec F l_ashlarref1_divide_0 ⟨[w0, w1, w2, w3, w4, w5, .int .i64 sc, .mslc 0 0 L, .slc nv (i64s Y), .int .i64 Y.length, .mslc 1 0 LQ, .int .i64 A.length, w12, .int .i64 g, .int .i64 0, .int .i64 0, .mslc 2 0 (Y.length + 1), .int .i64 0, w18, w19, w20], env,
        [some ⟨false, 1, i64s (A ++ (P0 ++ Z))⟩, some bq, some ⟨false, 1, i64s (List.replicate (Y.length + 1) 0)⟩], 0⟩ = some (e, st)) ∧
      (e = .exit 4 ∧ ∃ (w : List Nat) (c b : Nat), st = ⟨[.und, .und, .und, .und, .und, .und, .int .i64 sc, .mslc 0 0 L, .slc nv (i64s Y), .int .i64 Y.length, .mslc 1 0 LQ, .int .i64 A.length, .und, .int .i64 g, .int .i64 c, .int .i64 b, .mslc 2 0 (Y.length + 1), .int .i64 ((Y.length : Int) + 1), .und, .und, .und], [],
        [some ⟨false, 1, i64s (A ++ (P0 ++ Z))⟩, some bq, some ⟨false, 1, i64s w⟩], 0⟩ ∧ w.length = P0.length ∧ LimW w ∧ b ≤ 1 ∧ ew P0 + B16 ^ P0.length * b = ew w + g * ew Y) := by
  refine loop_rule
    (fun n st => ∃ (w : List Nat) (c b i : Nat), st = ⟨[.und, .und, .und, .und, .und, .und, .int .i64 sc, .mslc 0 0 L, .slc nv (i64s Y), .int .i64 Y.length, .mslc 1 0 LQ, .int .i64 A.length, .und, .int .i64 g, .int .i64 c, .int .i64 b, .mslc 2 0 (Y.length + 1), .int .i64 i, .und, .und, .und], [],
        [some ⟨false, 1, i64s (A ++ (P0 ++ Z))⟩, some bq, some ⟨false, 1, i64s w⟩], 0⟩ ∧ i + n = P0.length ∧ w.length = P0.length ∧ LimW w ∧ b ≤ 1 ∧ c < 65536 ∧ (Y.length < i → c = 0) ∧
        ew (P0.take i) + B16 ^ i * (b + c) = ew (w.take i) + g * ew (Y.take i)) _ P0.length _ ?_
    (tidy_three (by simp) (by simp) hbq (by simp)) ⟨_, 0, 0, 0, rfl, by omega, by simp; omega, limW_replicate _, by omega, by omega, fun _ => rfl, by simp [ew]⟩
  rintro n st ⟨w, c, b, i, rfl, hn, hlen, hlim, hb, hc, hcz, hev⟩
  rcases Nat.eq_zero_or_pos n with rfl | hpos
  · have hi : i = P0.length := by omega
    subst hi
    refine .out (.exit 4) _ (by simp) ⟨rfl, w, c, b, rfl, hlen, hlim, hb, ?_⟩ ?_
    · have := hcz (by omega)
      subst this
      rw [List.take_length, List.take_of_length_le (by omega), List.take_of_length_le (by omega)] at hev
      exact hev
    · simp (disch := first | omega | simp) [after, if_pos, if_neg, decide_eq_false]
      omega
  · have hi0 : i < P0.length := by omega
    have hiP : i < w.length := by omega
    have hPi := hP.get hi0
    have e0 := ew_take_succ hi0
    have hiA : ((A.length : Int) + i).toNat = A.length + i := by omega
    have step : ∀ (M v c2 y : Nat), M = c + g * y → y = 0 ∨ y < 65536 → v < 65536 → c2 ≤ 1 → P0[i] + 65536 * c2 = v + M % 65536 + b → (Y.length ≤ i → M = c) → ew (Y.take (i + 1)) = ew (Y.take i) + B16 ^ i * y →
        (w.set i v).length = P0.length ∧ LimW (w.set i v) ∧ c2 ≤ 1 ∧ M / 65536 < 65536 ∧ (Y.length < i + 1 → M / 65536 = 0) ∧ ew (P0.take (i + 1)) + B16 ^ (i + 1) * (c2 + M / 65536) = ew ((w.set i v).take (i + 1)) + g * ew (Y.take (i + 1)) := by
      intro M v c2 y hM hy hv hc2 e hout ey
      have hgy : g * y ≤ 65535 * 65535 := Nat.mul_le_mul (by omega) (by omega)
      refine ⟨by simpa using hlen, limW_set hlim hv, hc2, by omega, fun h => by rw [hout (by omega)]; exact Nat.div_eq_of_lt hc, ?_⟩
      rw [e0, set_plusW hiP, ey, Nat.pow_succ]
      have hdm := Nat.div_add_mod M 65536
      have e5 : B16 ^ i * (P0[i] + 65536 * (c2 + M / 65536)) = B16 ^ i * (v + b + c + g * y) := by congr 1; omega
      have e6 : g * (ew (Y.take i) + B16 ^ i * y) = g * ew (Y.take i) + B16 ^ i * (g * y) := by rw [Nat.mul_add, Nat.mul_left_comm]
      rw [e6, Nat.mul_assoc]
      simp only [Nat.mul_add] at e5 hev ⊢
      have e7 : B16 ^ i * (B16 * c2) = B16 ^ i * (65536 * c2) := rfl
      have e8 : B16 ^ i * (B16 * (M / 65536)) = B16 ^ i * (65536 * (M / 65536)) := rfl
      omega
    by_cases hiY : i < Y.length
    · have hyi := hY.get hiY
      have hP1 : Y[i] * g ≤ 65535 * 65535 := Nat.mul_le_mul (by omega) (by omega)
      have hw1 : IntKind.i64.wrap ((Y[i] : Int) * (g : Int)) = ((Y[i] * g : Nat) : Int) := by rw [← Int.natCast_mul]; exact wrap_i64 (by omega) (by omega)
      have hw2 : IntKind.i64.wrap ((c : Int) + ((Y[i] * g : Nat) : Int)) = ((c + Y[i] * g : Nat) : Int) := by rw [← Int.natCast_add]; exact wrap_i64 (by omega) (by omega)
      have hM1 : c + Y[i] * g < 4294967296 := by omega
      obtain ⟨M, hMM⟩ : ∃ M, c + Y[i] * g = M := ⟨_, rfl⟩
      have hm := i64_mod M
      have hq := i64_div M
      simp only [hMM] at hw2 hM1
      have hml : M % 65536 < 65536 := Nat.mod_lt _ (by decide)
      rcases Nat.lt_or_ge P0[i] (M % 65536 + b) with hlt | hge
      · obtain ⟨n1, n2, n3, n4, n5, n6⟩ := step M (P0[i] + 65536 - M % 65536 - b) 1 Y[i] (by rw [← hMM, Nat.mul_comm]) (.inr hyi) (by omega) (by omega) (by omega) (fun h => by omega) (ew_take_succ hiY)
        refine .more (n - 1) _ (by omega) ⟨w.set i (P0[i] + 65536 - M % 65536 - b), M / 65536, 1, i + 1, rfl, by omega, n1, n2, n3, n4, n5, n6⟩ ?_
        have hx : (P0[i] : Int) - ((M % 65536 : Nat) : Int) - (b : Int) + 65536 = (((P0[i] + 65536 - M % 65536 - b) : Nat) : Int) := by omega
        have hvl : (P0[i] + 65536 - M % 65536 - b) < 65536 := by omega
        generalize Y[i] * g = M3 at *
        clear step hev hcz n1 n2 n3 n4 n5 n6 e0
        generalize hvv : (P0[i] + 65536 - M % 65536 - b) = v at *
        generalize hm2 : M % 65536 = m at *
        generalize hq2 : M / 65536 = qq at *
        simp (disch := first | omega | simp) [after, tidy_three, get_mid16, if_pos, if_neg, decide_eq_true, decide_eq_false, wrap_i64, hw1, hw2, hm, hq, hx, hiA, hbq, get?_i64s, set_i64n, putElem, putOne]
      · obtain ⟨n1, n2, n3, n4, n5, n6⟩ := step M (P0[i] - M % 65536 - b) 0 Y[i] (by rw [← hMM, Nat.mul_comm]) (.inr hyi) (by omega) (by omega) (by omega) (fun h => by omega) (ew_take_succ hiY)
        refine .more (n - 1) _ (by omega) ⟨w.set i (P0[i] - M % 65536 - b), M / 65536, 0, i + 1, rfl, by omega, n1, n2, n3, n4, n5, n6⟩ ?_
        have hx : (P0[i] : Int) - ((M % 65536 : Nat) : Int) - (b : Int) = (((P0[i] - M % 65536 - b) : Nat) : Int) := by omega
        have hvl : (P0[i] - M % 65536 - b) < 65536 := by omega
        generalize Y[i] * g = M3 at *
        clear step hev hcz n1 n2 n3 n4 n5 n6 e0
        generalize hvv : (P0[i] - M % 65536 - b) = v at *
        generalize hm2 : M % 65536 = m at *
        generalize hq2 : M / 65536 = qq at *
        simp (disch := first | omega | simp) [after, tidy_three, get_mid16, if_pos, if_neg, decide_eq_true, decide_eq_false, wrap_i64, hw1, hw2, hm, hq, hx, hiA, hbq, get?_i64s, set_i64n, putElem, putOne]
    · obtain ⟨M, hMM⟩ : ∃ M, c = M := ⟨_, rfl⟩
      have hm := i64_mod M
      have hq := i64_div M
      have hM1 : M < 65536 := by omega
      have hml : M % 65536 < 65536 := Nat.mod_lt _ (by decide)
      have hyi : (i : Int) ≥ Y.length := by omega
      rw [hMM]
      rcases Nat.lt_or_ge P0[i] (M % 65536 + b) with hlt | hge
      · obtain ⟨n1, n2, n3, n4, n5, n6⟩ := step M (P0[i] + 65536 - M % 65536 - b) 1 0 (by rw [← hMM]; rfl) (.inl rfl) (by omega) (by omega) (by omega) (fun h => hMM.symm) (by rw [List.take_of_length_le (by omega), List.take_of_length_le (by omega)]; rfl)
        refine .more (n - 1) _ (by omega) ⟨w.set i (P0[i] + 65536 - M % 65536 - b), M / 65536, 1, i + 1, rfl, by omega, n1, n2, n3, n4, n5, n6⟩ ?_
        have hx : (P0[i] : Int) - ((M % 65536 : Nat) : Int) - (b : Int) + 65536 = (((P0[i] + 65536 - M % 65536 - b) : Nat) : Int) := by omega
        have hvl : (P0[i] + 65536 - M % 65536 - b) < 65536 := by omega
        clear step hev hcz n1 n2 n3 n4 n5 n6 e0
        generalize hvv : (P0[i] + 65536 - M % 65536 - b) = v at *
        generalize hm2 : M % 65536 = m at *
        generalize hq2 : M / 65536 = qq at *
        simp (disch := first | omega | simp) [after, tidy_three, get_mid16, if_pos, if_neg, decide_eq_true, decide_eq_false, wrap_i64, hm, hq, hx, hiA, hbq, get?_i64s, set_i64n, putElem, putOne]
      · obtain ⟨n1, n2, n3, n4, n5, n6⟩ := step M (P0[i] - M % 65536 - b) 0 0 (by rw [← hMM]; rfl) (.inl rfl) (by omega) (by omega) (by omega) (fun h => hMM.symm) (by rw [List.take_of_length_le (by omega), List.take_of_length_le (by omega)]; rfl)
        refine .more (n - 1) _ (by omega) ⟨w.set i (P0[i] - M % 65536 - b), M / 65536, 0, i + 1, rfl, by omega, n1, n2, n3, n4, n5, n6⟩ ?_
        have hx : (P0[i] : Int) - ((M % 65536 : Nat) : Int) - (b : Int) = (((P0[i] - M % 65536 - b) : Nat) : Int) := by omega
        have hvl : (P0[i] - M % 65536 - b) < 65536 := by omega
        clear step hev hcz n1 n2 n3 n4 n5 n6 e0
        generalize hvv : (P0[i] - M % 65536 - b) = v at *
        generalize hm2 : M % 65536 = m at *
        generalize hq2 : M / 65536 = qq at *
        simp (disch := first | omega | simp) [after, tidy_three, get_mid16, if_pos, if_neg, decide_eq_true, decide_eq_false, wrap_i64, hm, hq, hx, hiA, hbq, get?_i64s, set_i64n, putElem, putOne]


theorem rdiv_loop1 (A P0 Z Y W : List Nat) (nv : Bool) (g sc L LQ : Nat) (bq : Blk) (hbq : idsL bq.elems = []) (hl : A.length + P0.length + Z.length = L) (hL : L < 2^39) (hPY : P0.length = Y.length + 1) (hW : W.length = P0.length)
    (w0 w1 w2 w3 w4 w5 w12 w14 w15 w17 w18 w20 : AVal) :
    ∃ e st, (∀ env, exec F l_ashlarref1_divide_1 ⟨[w0, w1, w2, w3, w4, w5, .int .i64 sc, .mslc 0 0 L, .slc nv (i64s Y), .int .i64 Y.length, .mslc 1 0 LQ, .int .i64 A.length, w12, .int .i64 g, w14, w15, .mslc 2 0 (Y.length + 1), w17, w18, .int .i64 0, w20], env,
        [some ⟨false, 1, i64s (A ++ (P0 ++ Z))⟩, some bq, some ⟨false, 1, i64s W⟩], 0⟩ = some (e, st)) ∧
      (e = .exit 6 ∧ ∃ i2, st = ⟨[.und, .und, .und, .und, .und, .und, .int .i64 sc, .mslc 0 0 L, .slc nv (i64s Y), .int .i64 Y.length, .mslc 1 0 LQ, .int .i64 A.length, .und, .int .i64 g, .und, .und, .mslc 2 0 (Y.length + 1), .und, .und, i2, .und], [],
        [some ⟨false, 1, i64s (A ++ (W ++ Z))⟩, some bq, some ⟨false, 1, i64s W⟩], 0⟩) := by
  refine loop_rule
    (fun n st => ∃ (i : Nat), st = ⟨[.und, .und, .und, .und, .und, .und, .int .i64 sc, .mslc 0 0 L, .slc nv (i64s Y), .int .i64 Y.length, .mslc 1 0 LQ, .int .i64 A.length, .und, .int .i64 g, .und, .und, .mslc 2 0 (Y.length + 1), .und, .und, .int .i64 i, .und], [],
        [some ⟨false, 1, i64s (A ++ ((W.take i ++ P0.drop i) ++ Z))⟩, some bq, some ⟨false, 1, i64s W⟩], 0⟩ ∧ i + n = P0.length) _ P0.length _ ?_
    (tidy_three (by simp) (by simp) hbq (by simp)) ⟨0, by simp, by omega⟩
  rintro n st ⟨i, rfl, hn⟩
  rcases Nat.eq_zero_or_pos n with rfl | hpos
  · have hi : i = P0.length := by omega
    subst hi
    refine .out (.exit 6) _ (by simp) ⟨rfl, .int .i64 P0.length, rfl⟩ ?_
    rw [List.take_of_length_le (by omega), List.drop_of_length_le (Nat.le_refl _), List.append_nil]
    simp (disch := first | omega | simp) [after, if_pos, if_neg, decide_eq_false]
  · have hi0 : i < P0.length := by omega
    have hiW : i < W.length := by omega
    have hiA : ((A.length : Int) + i).toNat = A.length + i := by omega
    have hmid : i < (W.take i ++ P0.drop i).length := by simp; omega
    have hset : (W.take i ++ P0.drop i).set i W[i] = W.take (i + 1) ++ P0.drop (i + 1) := by
      rw [List.set_append_right _ _ (by simp; omega), List.length_take, Nat.min_eq_left (by omega), Nat.sub_self, List.drop_eq_getElem_cons hi0, List.set_cons_zero, List.take_succ_eq_append_getElem hiW, List.append_assoc]
      rfl
    refine .more (n - 1) _ (by omega) ⟨i + 1, rfl, by omega⟩ ?_
    have hg2 := get_mid16 A (W.take i ++ P0.drop i) Z i hmid
    have hs2 := fun v : Nat => set_mid16 A (W.take i ++ P0.drop i) Z i v hmid
    rw [← hset]
    generalize W.take i ++ P0.drop i = PP at *
    simp (disch := first | omega | simp) [after, tidy_three, hg2, hs2, if_pos, if_neg, decide_eq_true, wrap_i64, hiA, hbq, get?_i64s, putElem, putOne]

/-- The guess goes down to the digit. -/
theorem rdiv_loop2 (A P0 Z Y : List Nat) (nv : Bool) (g0 sc L LQ : Nat) (bq : Blk) (hbq : idsL bq.elems = []) (hP : LimW P0) (hY : LimW Y) (hg0 : g0 < 65536) (hl : A.length + P0.length + Z.length = L) (hL : L < 2^39) (hPY : P0.length = Y.length + 1)
    (hYpos : 0 < ew Y) (hge : ew P0 / ew Y ≤ g0) (w0 w1 w2 w3 w4 w5 w12 w14 w15 w16 w17 w18 w19 w20 : AVal) :
    ∃ e st, (∀ env, exec F l_ashlarref1_divide_2 ⟨[w0, w1, w2, w3, w4, w5, .int .i64 sc, .mslc 0 0 L, .slc nv (i64s Y), .int .i64 Y.length, .mslc 1 0 LQ, .int .i64 A.length, w12, .int .i64 g0, w14, w15, w16, w17, w18, w19, w20], env,
        [some ⟨false, 1, i64s (A ++ (P0 ++ Z))⟩, some bq], 0⟩ = some (e, st)) ∧
      (e = .exit 2 ∧ ∃ (W : List Nat) (b2 : Blk) (t12 t14 t15 t16 t17 t18 t19 t20 : AVal), st = ⟨[.und, .und, .und, .und, .und, .und, .int .i64 sc, .mslc 0 0 L, .slc nv (i64s Y), .int .i64 Y.length, .mslc 1 0 LQ, .int .i64 A.length, t12, .int .i64 (ew P0 / ew Y : Nat), t14, t15, t16, t17, t18, t19, t20], [],
        [some ⟨false, 1, i64s (A ++ (W ++ Z))⟩, some bq, some b2], 0⟩ ∧ W.length = P0.length ∧ LimW W ∧ ew W = ew P0 % ew Y) := by
  refine loop_rule
    (fun n st => ∃ (g : Nat), st = ⟨[.und, .und, .und, .und, .und, .und, .int .i64 sc, .mslc 0 0 L, .slc nv (i64s Y), .int .i64 Y.length, .mslc 1 0 LQ, .int .i64 A.length, .und, .int .i64 g, .und, .und, .und, .und, .und, .und, .und], [], [some ⟨false, 1, i64s (A ++ (P0 ++ Z))⟩, some bq], 0⟩ ∧ g = ew P0 / ew Y + n ∧ g < 65536) _ (g0 - ew P0 / ew Y) _ ?_
    (tidy_two (by simp) (by simp) hbq) ⟨g0, rfl, by omega, hg0⟩
  rintro n st ⟨g, rfl, hg, hgl⟩
  obtain ⟨e1, st1, he1, rfl, w, c, b, rfl, h1, h2, h3, h4⟩ := rdiv_loop0 (F := F) A P0 Z Y nv g sc L LQ bq hbq hP hY hgl hl hL hPY .und .und .und .und .und .und .und .und .und .und
  have hwlt := ew_lt h2
  rw [h1] at hwlt
  have hdm := Nat.div_add_mod (ew P0) (ew Y)
  have hml := Nat.mod_lt (ew P0) hYpos
  have tn : ((Y.length : Int) + 1).toNat = Y.length + 1 := by omega
  have hgY : g * ew Y = ew Y * (ew P0 / ew Y) + n * ew Y := by rw [hg, Nat.add_mul, Nat.mul_comm]
  rcases (by omega : b = 0 ∨ b = 1) with rfl | rfl
  · have hn : n = 0 := by
      rcases Nat.eq_zero_or_pos n with h | h
      · exact h
      · have : 1 * ew Y ≤ n * ew Y := Nat.mul_le_mul_right _ h
        omega
    subst hn
    have hgq : g = ew P0 / ew Y := by omega
    obtain ⟨e2, st2, he2, rfl, i2, rfl⟩ := rdiv_loop1 (F := F) A P0 Z Y w nv g sc L LQ bq hbq hl hL hPY h1 .und .und .und .und .und .und .und (.int .i64 c) (.int .i64 0) (.int .i64 ((Y.length : Int) + 1)) .und .und
    refine .out (.exit 2) _ (by simp) ⟨rfl, w, ⟨false, 1, i64s w⟩, .und, .und, .und, .mslc 2 0 (Y.length + 1), .und, .und, i2, .und, rfl, h1, h2, by omega⟩ ?_
    rw [← hgq]
    simp (disch := first | omega | simp) [after, tidy_two, wrap_i64, if_pos, maxB, i64s_replicate, tn, he1, he2]
  · have hn : 0 < n := by
      rcases Nat.eq_zero_or_pos n with h | h
      · subst h; omega
      · exact h
    generalize ew P0 / ew Y = qt at *
    refine .more (n - 1) _ (by omega) ⟨g - 1, rfl, by omega, by omega⟩ ?_
    have hg1 : ((g - 1 : Nat) : Int) = (g : Int) - 1 := by omega
    simp (disch := first | omega | simp) [after, tidy_drop3, wrap_i64, if_pos, maxB, i64s_replicate, tn, he1, hg1, hbq]
end Go.Ash
/- The document's integers: divide. -/
namespace Go.Ash
variable {F : Nat → Option RFunc} [h : CodeRef1 F]

theorem ewP_split {l : List Nat} {n : Nat} (hn : n + 2 = l.length) : ew l = ew (l.take n) + B16 ^ n * (l[n + 1]'(by omega) * B16 + l[n]'(by omega)) := by
  have h1 := ew_take_succ (l := l) (i := n) (by omega)
  have h2 := ew_take_succ (l := l) (i := n + 1) (by omega)
  rw [List.take_of_length_le (by omega)] at h2
  rw [h2, h1, Nat.pow_succ, Nat.mul_add, Nat.mul_assoc, Nat.mul_comm B16 (l[n + 1]'(by omega))]
  omega

theorem ew_zero_of_lt {l : List Nat} {n k : Nat} (h : ew l < B16 ^ n) (hk : n ≤ k) : ew (l.drop k) = 0 := by
  have e : ew l = ew (l.take k) + B16 ^ (l.take k).length * ew (l.drop k) := by rw [← ew_append, List.take_append_drop]
  rcases Nat.eq_zero_or_pos (ew (l.drop k)) with h0 | h0
  · exact h0
  · have hl : k ≤ l.length := by
      apply Nat.le_of_not_lt
      intro h2
      rw [List.drop_of_length_le (by omega)] at h0
      simp [ew] at h0
    rw [List.length_take, Nat.min_eq_left hl] at e
    have h1 : B16 ^ k * 1 ≤ B16 ^ k * ew (l.drop k) := Nat.mul_le_mul_left _ h0
    have h2 : B16 ^ n ≤ B16 ^ k := Nat.pow_le_pow_right (by decide) hk
    omega

/-- The guess is not too small. -/
theorem guess_ge {P Y : List Nat} {m : Nat} (hP : LimW P) (hm : m + 1 = Y.length) (hl : P.length = Y.length + 1) (hlt : ew P < B16 * ew Y) (hy : 0 < Y[m]'(by omega)) (hYpos : 0 < ew Y) :
    ew P / ew Y < 65536 ∧ ew P / ew Y ≤ (P[m + 1]'(by omega) * 65536 + P[m]'(by omega)) / Y[m]'(by omega) := by
  have h1 : ew P / ew Y < 65536 := (Nat.div_lt_iff_lt_mul hYpos).2 hlt
  refine ⟨h1, (Nat.le_div_iff_mul_le hy).2 ?_⟩
  have h2 : ew P / ew Y * ew Y ≤ ew P := Nat.div_mul_le_self _ _
  have e1 := ewP_split (l := P) (n := m) (by omega)
  have l1 := ew_lt (limW_take hP m)
  rw [List.length_take, Nat.min_eq_left (by omega)] at l1
  have e2 := ew_take_succ (l := Y) (i := m) (by omega)
  rw [List.take_of_length_le (by omega)] at e2
  generalize ew P / ew Y = q at *
  have h3 : B16 ^ m * (q * Y[m]'(by omega)) ≤ q * ew Y := by rw [e2, Nat.mul_add, Nat.mul_left_comm]; omega
  have h4 : B16 ^ m * (q * Y[m]'(by omega)) < B16 ^ m * ((P[m + 1]'(by omega) * 65536 + P[m]'(by omega)) + 1) := by
    rw [Nat.mul_succ]
    have : B16 ^ m * (P[m + 1]'(by omega) * B16 + P[m]'(by omega)) = B16 ^ m * (P[m + 1]'(by omega) * 65536 + P[m]'(by omega)) := rfl
    omega
  have := Nat.lt_of_mul_lt_mul_left h4
  omega

set_option maxHeartbeats 4000000 in
theorem rdiv_loop3 (U0 Y : List Nat) (nv : Bool) (sc : Nat) (m : Nat) (bv : Option Blk) (hU : LimW U0) (hY : LimW Y) (hm : m + 1 = Y.length) (hy : 0 < Y[m]'(by omega)) (hl : U0.length < 2^39) (hYU : Y.length < U0.length)
    (htop : ew (U0.drop (U0.length - Y.length)) < ew Y) (w0 w1 w2 w3 w4 w5 : AVal) :
    ∃ e st, (∀ env, exec F l_ashlarref1_divide_3 ⟨[w0, w1, w2, w3, w4, w5, .int .i64 sc, .mslc 0 0 U0.length, .slc nv (i64s Y), .int .i64 Y.length, .mslc 2 0 (U0.length - Y.length), .int .i64 ((U0.length : Int) - Y.length - 1), .und, .und, .und, .und, .und, .und, .und, .und, .und], env,
        [some ⟨false, 1, i64s U0⟩, bv, some ⟨false, 1, i64s (List.replicate (U0.length - Y.length) 0)⟩], 0⟩ = some (e, st)) ∧
      (e = .exit 0 ∧ ∃ (U Q : List Nat), st = ⟨[.und, .und, .und, .und, .und, .und, .int .i64 sc, .mslc 0 0 U0.length, .slc nv (i64s Y), .int .i64 Y.length, .mslc 1 0 (U0.length - Y.length), .int .i64 (-1), .und, .und, .und, .und, .und, .und, .und, .und, .und], [], [some ⟨false, 1, i64s U⟩, some ⟨false, 1, i64s Q⟩], 0⟩ ∧ U.length = U0.length ∧ LimW U ∧ Q.length = U0.length - Y.length ∧ LimW Q ∧ ew U < ew Y ∧ ew U0 = ew U + ew Y * ew Q) := by
  have hz0 : ∀ k, ew (List.replicate k 0) = 0 := fun k => by have := ew_zeros [] k; simpa [ew] using this
  have hYlt := ew_lt hY
  have hYpos : 0 < ew Y := by
    have e2 := ew_take_succ (l := Y) (i := m) (by omega)
    rw [List.take_of_length_le (by omega)] at e2
    have : 0 < B16 ^ m * Y[m]'(by omega) := Nat.mul_pos (Nat.pow_pos (by decide)) hy
    omega
  have hcast : ((U0.length - Y.length : Nat) : Int) = (U0.length : Int) - Y.length := by omega
  refine loop_rule
    (fun j st => ∃ (U Q : List Nat), st = ⟨[.und, .und, .und, .und, .und, .und, .int .i64 sc, .mslc 0 0 U0.length, .slc nv (i64s Y), .int .i64 Y.length, .mslc 1 0 (U0.length - Y.length), .int .i64 ((j : Int) - 1), .und, .und, .und, .und, .und, .und, .und, .und, .und], [], [some ⟨false, 1, i64s U⟩, some ⟨false, 1, i64s Q⟩], 0⟩ ∧ j ≤ U0.length - Y.length ∧ U.length = U0.length ∧ LimW U ∧ Q.length = U0.length - Y.length ∧ LimW Q ∧ ew (U.drop j) < ew Y ∧
        (∀ t (ht : t < Q.length), t < j → Q[t] = 0) ∧ ew U0 = ew U + ew Y * ew Q) _ (U0.length - Y.length) _ ?_
    (by simp [tidy_eq, reach_end, reach_more, fuelIds, place_cons, pack]; rfl)
    ⟨U0, _, by rw [hcast], Nat.le_refl _, rfl, hU, by simp, limW_replicate _, htop, fun t ht _ => by simp, by rw [hz0]; simp⟩
  rintro j st ⟨U, Q, rfl, hj, hRl, hRlim, hQl, hQlim, hlt, hQz, hsum⟩
  rcases Nat.eq_zero_or_pos j with rfl | hpos
  · refine .out (.exit 0) _ (by simp) ⟨rfl, U, Q, rfl, hRl, hRlim, hQl, hQlim, by simpa using hlt, hsum⟩ ?_
    simp [after]
  · obtain ⟨i, rfl⟩ : ∃ i, j = i + 1 := ⟨j - 1, by omega⟩
    obtain ⟨A, P0, Z, rfl, rfl, hP0⟩ : ∃ A P Z, U = A ++ (P ++ Z) ∧ A.length = i ∧ P.length = Y.length + 1 :=
      ⟨U.take i, (U.drop i).take (Y.length + 1), (U.drop i).drop (Y.length + 1), by rw [List.take_append_drop, List.take_append_drop], by rw [List.length_take]; omega, by rw [List.length_take, List.length_drop]; omega⟩
    have hlenR : A.length + (P0.length + Z.length) = U0.length := by simpa using hRl
    have hP : LimW P0 := fun x hx => hRlim x (by simp [hx])
    have hZl : LimW Z := fun x hx => hRlim x (by simp [hx])
    have hAl : LimW A := fun x hx => hRlim x (by simp [hx])
    have hP0' : ∀ q (hq : q < P0.length), P0[q] < 65536 := fun q hq => hP.get hq
    have hdropA : (A ++ (P0 ++ Z)).drop (A.length + 1) = P0.drop 1 ++ Z := by
      rw [List.drop_append, List.drop_of_length_le (by omega), List.nil_append, List.drop_append]
      rw [show A.length + 1 - A.length = 1 from by omega, show 1 - P0.length = 0 from by omega, List.drop_zero]
    rw [hdropA] at hlt
    have hZ0 : ew Z = 0 := by
      have := ew_zero_of_lt (l := P0.drop 1 ++ Z) (n := Y.length) (k := Y.length) (Nat.lt_trans hlt hYlt) (Nat.le_refl _)
      rw [List.drop_append, List.drop_of_length_le (by simp; omega), List.nil_append] at this
      simpa [hP0] using this
    have hPd : ew (P0.drop 1) < ew Y := by rw [ew_append, hZ0] at hlt; simpa using hlt
    have hPB : ew P0 < B16 * ew Y := by
      have e := drop_ew (l := P0) (i := 0) (by omega)
      rw [List.drop_zero] at e
      have h0 := hP0' 0 (by omega)
      have : B16 * (ew (P0.drop 1) + 1) ≤ B16 * ew Y := Nat.mul_le_mul_left _ hPd
      rw [Nat.mul_add] at this
      rw [e]
      show P0[0] + B16 * ew (P0.drop 1) < _
      have hh : B16 * 1 = 65536 := rfl
      omega
    obtain ⟨hq1, hq2⟩ := guess_ge hP hm hP0 hPB hy hYpos
    have hAQ : A.length < Q.length := by omega
    have hQ0 := hQz A.length hAQ (by omega)
    have hset := set_ew hAQ (ew P0 / ew Y)
    rw [hQ0] at hset
    have hmod := Nat.mod_lt (ew P0) hYpos
    have hdm := Nat.div_add_mod (ew P0) (ew Y)
    have next : ∀ P : List Nat, P.length = P0.length → LimW P → ew P = ew P0 % ew Y →
        (A ++ (P ++ Z)).length = U0.length ∧ LimW (A ++ (P ++ Z)) ∧ (Q.set A.length (ew P0 / ew Y)).length = U0.length - Y.length ∧ LimW (Q.set A.length (ew P0 / ew Y)) ∧ ew ((A ++ (P ++ Z)).drop A.length) < ew Y ∧
        (∀ t (ht : t < (Q.set A.length (ew P0 / ew Y)).length), t < A.length → (Q.set A.length (ew P0 / ew Y))[t] = 0) ∧ ew U0 = ew (A ++ (P ++ Z)) + ew Y * ew (Q.set A.length (ew P0 / ew Y)) := by
      intro P hPl hPlim hPe
      refine ⟨by simp; omega, limW_append hAl (limW_append hPlim hZl), by simpa using hQl, limW_set hQlim hq1, ?_, ?_, ?_⟩
      · rw [List.drop_append, List.drop_of_length_le (Nat.le_refl _), Nat.sub_self, List.drop_zero, List.nil_append, ew_append, hZ0, hPe]
        simpa using hmod
      · intro t ht htA
        rw [List.getElem_set_ne (by omega)]
        exact hQz t (by simpa using ht) (by omega)
      · rw [hsum, ew_append, ew_append, ew_append, ew_append, hZ0, hPe]
        simp only [Nat.mul_zero, Nat.add_zero] at hset ⊢
        rw [hset, Nat.mul_add (ew Y), Nat.mul_left_comm (ew Y)]
        have : B16 ^ A.length * ew P0 = B16 ^ A.length * (ew Y * (ew P0 / ew Y)) + B16 ^ A.length * (ew P0 % ew Y) := by rw [← Nat.mul_add, hdm]
        omega
    have hym := hY.get (i := m) (by omega)
    have hpm := hP0' m (by omega)
    have hpm1 := hP0' (m + 1) (by omega)
    have htd := tdiv_nat (P0[m + 1]'(by omega) * 65536 + P0[m]'(by omega)) (Y[m]'(by omega))
    have hcs : ((P0[m + 1]'(by omega) : Nat) : Int) * 65536 + ((P0[m]'(by omega) : Nat) : Int) = ((P0[m + 1]'(by omega) * 65536 + P0[m]'(by omega) : Nat) : Int) := by omega
    have hle : (P0[m + 1]'(by omega) * 65536 + P0[m]'(by omega)) / Y[m]'(by omega) ≤ P0[m + 1]'(by omega) * 65536 + P0[m]'(by omega) := Nat.div_le_self _ _
    obtain ⟨T, hT⟩ : ∃ T, P0[m + 1]'(by omega) * 65536 + P0[m]'(by omega) = T := ⟨_, rfl⟩
    have hTl : T < 4294967296 := by omega
    simp only [hT] at htd hcs hq2 hle
    obtain ⟨G, hG⟩ : ∃ G, T / Y[m]'(by omega) = G := ⟨_, rfl⟩
    simp only [hG] at htd hq2 hle
    have hy0 : ¬ Y[m]'(by omega) = 0 := by omega
    have t1 : ((A.length : Int) + Y.length).toNat = A.length + (m + 1) := by omega
    have t2 : ((A.length : Int) + Y.length - 1).toNat = A.length + m := by omega
    have t3 : ((Y.length : Int) - 1).toNat = m := by omega
    have hidx : ((A.length + 1 : Nat) : Int) - 1 = A.length := by omega
    have m1 : m + 1 < P0.length := by omega
    have m0 : m < P0.length := by omega
    have ym : m < Y.length := by omega
    rw [hidx]
    by_cases hbig : 65536 ≤ G
    · obtain ⟨e2, st2, he2, rfl, W, b2, t12, t14, t15, t16, t17, t18, t19, t20, rfl, g1, g2, g3⟩ := rdiv_loop2 (F := F) A P0 Z Y nv 65535 sc U0.length (U0.length - Y.length) ⟨false, 1, i64s Q⟩ (by simp) hP hY (by omega) (by omega) hl hP0 hYpos (by omega)
        .und .und .und .und .und .und (.int .i64 T) .und .und .und .und .und .und .und
      obtain ⟨n1, n2, n3, n4, n5, n6, n7⟩ := next W g1 g2 g3
      refine .more A.length _ (by omega) ⟨A ++ (W ++ Z), Q.set A.length (ew P0 / ew Y), rfl, by omega, n1, n2, n3, n4, n5, n6, n7⟩ ?_
      clear next n1 n2 n3 n4 n5 n6 n7 hset hdm hmod hPB hPd hlt hsum htop hQz hQ0 hz0 hYlt hYpos hZ0 g3
      generalize ew P0 / ew Y = qq at *
      rw [show ((65535 : Nat) : Int) = 65535 from rfl] at he2
      simp (disch := first | omega | simp) [after, tidy_drop3, get_mid16, if_pos, if_neg, decide_eq_true, wrap_i64, t1, t2, t3, hcs, htd, hy0, he2, get?_i64s, set_i64n, putElem, putOne]
    · obtain ⟨e2, st2, he2, rfl, W, b2, t12, t14, t15, t16, t17, t18, t19, t20, rfl, g1, g2, g3⟩ := rdiv_loop2 (F := F) A P0 Z Y nv G sc U0.length (U0.length - Y.length) ⟨false, 1, i64s Q⟩ (by simp) hP hY (by omega) (by omega) hl hP0 hYpos hq2
        .und .und .und .und .und .und (.int .i64 T) .und .und .und .und .und .und .und
      obtain ⟨n1, n2, n3, n4, n5, n6, n7⟩ := next W g1 g2 g3
      refine .more A.length _ (by omega) ⟨A ++ (W ++ Z), Q.set A.length (ew P0 / ew Y), rfl, by omega, n1, n2, n3, n4, n5, n6, n7⟩ ?_
      clear next n1 n2 n3 n4 n5 n6 n7 hset hdm hmod hPB hPd hlt hsum htop hQz hQ0 hz0 hYlt hYpos hZ0 g3
      generalize ew P0 / ew Y = qq at *
      simp (disch := first | omega | simp) [after, tidy_drop3, get_mid16, if_pos, if_neg, decide_eq_false, wrap_i64, t1, t2, t3, hcs, htd, hy0, he2, get?_i64s, set_i64n, putElem, putOne]
end Go.Ash
/- The document's integers: divide, Quo. -/
namespace Go.Ash
variable {F : Nat → Option RFunc} [h : CodeRef1 F]

@[simp] theorem so_fld_RI1 {call : CallF} {nl : Bool} {z : Int} {H : Heap} : stepOp call (.fld false 1 1) [RI nl z] H = some (.slc nl (i64s (DW z.natAbs)), H) := rfl

@[simp] theorem step_apart {call : CallF} {k : OpK} {args aq : List Opd} {dst : Option Nat} {a : Opd} {env : List AVal} {st : St} : stepROp call ⟨k, args, dst, none, a :: aq⟩ env st =
    if apartA (gd (args.map (st.opd env)) 0) ((a :: aq).map (st.opd env)) = true then match stepOp call k (args.map (st.opd env)) st.heap with
      | some (v, H) => some (v, { st with heap := H }.put dst v)
      | none => none
    else none := by rfl
@[simp] theorem apart_ptrs {id id' i i' o o' : Nat} : apartA (.mptr id i o) [.mptr id' i' o'] = (id != id') := by simp [apartA]

theorem DW_single {n p : Nat} (hn : DW n = [p]) : n = p := by
  have := ew_DW n; rw [hn] at this; simpa [ew] using this.symm

theorem lastW {n : Nat} (h : n ≠ 0) : ∃ hl : (DW n).length - 1 < (DW n).length, (DW n)[(DW n).length - 1] = n / B16 ^ ((DW n).length - 1) ∧ (DW n)[(DW n).length - 1] ≠ 0 := by
  have hne : DW n ≠ [] := by simpa using h
  have hpos : 0 < (DW n).length := List.length_pos_iff.2 hne
  refine ⟨by omega, ?_⟩
  have h1 := ew_take_succ (l := DW n) (i := (DW n).length - 1) (by omega)
  rw [Nat.sub_add_cancel hpos, List.take_length, ew_DW] at h1
  have h2 := ew_lt (limW_take (limW_DW n) ((DW n).length - 1))
  rw [List.length_take, Nat.min_eq_left (by omega)] at h2
  have h3 := div_of_eq h1 h2
  refine ⟨h3.symm, ?_⟩
  intro h0
  rw [h0] at h1
  have h4 : n < B16 ^ ((DW n).length - 1) := by omega
  have := DW_len_le h4
  omega

/-- divide: quotient and remainder, with noughts at their ends maybe. -/
theorem pc_rdivide (nx ny : Bool) (a b : Nat) (hb : b ≠ 0) (ha : (DW a).length < 2^38) (hb' : (DW b).length < 2^38) :
    ∃ n1 n2 q r, pureCall (run F) 114 [.slc nx (i64s (DW a)), .slc ny (i64s (DW b))] = some (.tup [.slc n1 (i64s q), .slc n2 (i64s r)]) ∧ LimW q ∧ LimW r ∧ ew q = a / b ∧ ew r = a % b ∧ q.length ≤ (DW a).length + 1 ∧ r.length ≤ (DW a).length + (DW b).length + 1 := by
  have hc := pc_rcmp (F := F) nx ny a b (by omega) (by omega)
  rcases Nat.lt_or_ge a b with hlt | hge
  · refine ⟨true, nx, [], DW a, pure_ret h.ashlarref1_divide rfl ?_, (fun x hx => by cases hx), limW_DW _, by rw [Nat.div_eq_of_lt hlt]; rfl, by rw [Nat.mod_eq_of_lt hlt, ew_DW], by simp, by omega⟩
    have hcv : cmpI a b = -1 := by unfold cmpI; rw [if_pos hlt]
    rw [hcv] at hc
    simp [c_ashlarref1_divide, any_pure, hc, i64s_empty]
  · have hcv : ¬ cmpI a b < 0 := by unfold cmpI; rw [if_neg (by omega)]; split <;> omega
    have hpos : 0 < (DW b).length := List.length_pos_iff.2 (by simpa using hb)
    have hbpos : 0 < b := Nat.pos_of_ne_zero hb
    rcases Nat.lt_or_ge 1 (DW b).length with h2 | h1
    · -- the long way
      obtain ⟨hl, hlast, hne⟩ := lastW hb
      have hlim := (limW_DW b).get hl
      have hla : a % b < B16 ^ (DW b).length := Nat.lt_trans (Nat.mod_lt _ hbpos) (DW_lt b)
      obtain ⟨sc, hsc⟩ : ∃ sc, 65536 / ((DW b)[(DW b).length - 1] + 1) = sc := ⟨_, rfl⟩
      have hsc1 : sc * ((DW b)[(DW b).length - 1] + 1) ≤ 65536 := by rw [← hsc]; exact Nat.div_mul_le_self _ _
      have hsc0 : 0 < sc := by rw [← hsc]; exact Nat.div_pos (by omega) (by omega)
      have hscl : sc ≤ 65536 := by rw [← hsc]; exact Nat.div_le_self _ _
      obtain ⟨o1, r1, l1, m1, v1⟩ := run_rtimes (F := F) nx (DW a) sc (limW_DW a) hscl (by omega)
      obtain ⟨o2, r2, l2, m2, v2⟩ := run_rtimes (F := F) ny (DW b) sc (limW_DW b) hscl (by omega)
      rw [ew_DW] at v1 v2
      have hbn : b < B16 ^ ((DW b).length - 1) * ((DW b)[(DW b).length - 1] + 1) := by
        rw [hlast, Nat.mul_comm, ← Nat.div_lt_iff_lt_mul (Nat.pow_pos (by decide))]; omega
      have e1 : B16 ^ (DW b).length = B16 ^ ((DW b).length - 1) * B16 := by rw [← Nat.pow_succ]; congr 1; omega
      have hbk : b * sc < B16 ^ (DW b).length := by
        have e2 : b * sc < B16 ^ ((DW b).length - 1) * ((DW b)[(DW b).length - 1] + 1) * sc := (Nat.mul_lt_mul_right hsc0).2 hbn
        have e4 := Nat.mul_le_mul_left (B16 ^ ((DW b).length - 1)) hsc1
        rw [e1]
        rw [Nat.mul_assoc, Nat.mul_comm ((DW b)[(DW b).length - 1] + 1) sc] at e2
        have : B16 ^ ((DW b).length - 1) * 65536 = B16 ^ ((DW b).length - 1) * B16 := rfl
        omega
      have hbge : b ≤ b * sc := Nat.le_mul_of_pos_right _ hsc0
      have hb2 : b * sc ≠ 0 := by omega
      have hYl : (DW (b * sc)).length = (DW b).length := Nat.le_antisymm (DW_len_le hbk) (DW_len_mono hbge)
      have htrim := pc_rtrim (F := F) false false o2 m2 (by omega)
      rw [v2] at htrim
      have esg : sgn false (b * sc) = ((b * sc : Nat) : Int) := rfl
      rw [esg] at htrim
      obtain ⟨hYlast, hY1, hY2⟩ := lastW hb2
      obtain ⟨m, hm⟩ : ∃ m, m + 1 = (DW (b * sc)).length := ⟨(DW (b * sc)).length - 1, by omega⟩
      have hy : 0 < (DW (b * sc))[m]'(by omega) := by
        have : (DW (b * sc)).length - 1 = m := by omega
        simp only [this] at hY2
        omega
      have hDab : (DW b).length ≤ (DW a).length := DW_len_mono hge
      have htop : ew (o1.drop (o1.length - (DW (b * sc)).length)) < ew (DW (b * sc)) := by
        rw [ew_DW]
        have e : ew o1 = ew (o1.take (o1.length - (DW (b * sc)).length)) + B16 ^ (o1.take (o1.length - (DW (b * sc)).length)).length * ew (o1.drop (o1.length - (DW (b * sc)).length)) := by rw [← ew_append, List.take_append_drop]
        rw [List.length_take, Nat.min_eq_left (by omega), v1] at e
        apply Nat.lt_of_not_le
        intro hle
        have e2 : B16 ^ ((DW b).length - 1) ≤ b := by
          apply Nat.le_of_not_lt
          intro hlt
          have := DW_len_le hlt
          omega
        have e3 : B16 ^ (o1.length - (DW (b * sc)).length) * (B16 ^ ((DW b).length - 1) * sc) ≤ a * sc := by
          have e3 : B16 ^ ((DW b).length - 1) * sc ≤ ew (o1.drop (o1.length - (DW (b * sc)).length)) := Nat.le_trans (Nat.mul_le_mul_right _ e2) hle
          have e4 := Nat.mul_le_mul_left (B16 ^ (o1.length - (DW (b * sc)).length)) e3
          omega
        rw [← Nat.mul_assoc, ← Nat.pow_add, show o1.length - (DW (b * sc)).length + ((DW b).length - 1) = (DW a).length from by omega] at e3
        have e5 := Nat.le_of_mul_le_mul_right e3 hsc0
        have e6 := DW_lt a
        omega
      obtain ⟨e, st, he, rfl, U, Q, rfl, q1, q2, q3, q4, q5, q6⟩ := rdiv_loop3 (F := F) o1 (DW (b * sc)) false sc m (some ⟨true, 1, i64s o2⟩) m1 (limW_DW _) hm hy (by omega) (by omega) htop (.slc nx (i64s (DW a))) (.slc ny (i64s (DW b))) (.slc true []) (.slc true []) .und .und
      rw [v1, ew_DW] at q6
      rw [ew_DW] at q5
      have hbs : 0 < b * sc := by omega
      have hQe : ew Q = a / b := by
        have : a * sc / (b * sc) = ew Q := by rw [q6, Nat.add_mul_div_left _ _ hbs, Nat.div_eq_of_lt q5, Nat.zero_add]
        rw [← this, Nat.mul_div_mul_right _ _ hsc0]
      have hUe : ew U = a % b * sc := by
        have : a * sc % (b * sc) = ew U := by rw [q6, Nat.add_mul_mod_self_left, Nat.mod_eq_of_lt q5]
        rw [← this, Nat.mul_mod_mul_right]
      have htrU := pc_rtrim (F := F) false false U q2 (by omega)
      have esg2 : sgn false (ew U) = ((ew U : Nat) : Int) := rfl
      rw [esg2] at htrU
      obtain ⟨ro, hro, s1, s2, s3⟩ := pc_rsmall (F := F) false (DW (ew U)) sc (limW_DW _) hsc0 (by omega) (by have := len_DW_ew q2; omega)
      rw [ew_DW, hUe, Nat.mul_div_cancel _ hsc0] at s3
      refine ⟨false, false, Q, ro, pure_ret h.ashlarref1_divide rfl ?_, q4, s2, hQe, s3, by omega, by rw [s1]; have := len_DW_ew q2; omega⟩
      have raw1 := raw_new (call := run F) (H := []) (by simp) r1 (by simp)
      have raw2 := raw_new (call := run F) (H := [some ⟨false, 1, i64s o1⟩]) (by simp) r2 (by simp)
      have hh1 := hand_bool_gv false o2 (some ⟨false, 1, i64s o1⟩) (by intro h; rw [h] at l2; simp at l2)
      rw [l2] at hh1
      have hh2 : handOn [.bool false, .mslc 0 0 U.length] [some ⟨false, 1, i64s U⟩, some ⟨false, 1, i64s Q⟩] = some ([.bool false, .slc false (i64s U)], [some ⟨true, 1, i64s U⟩, some ⟨false, 1, i64s Q⟩]) := by
        have ht2 := treeL_atE (H := [some ⟨false, 1, i64s U⟩, some ⟨false, 1, i64s Q⟩]) (id := 0) (n := 36) (len := U.length) (rest := []) rfl (by simp) (by simp) (by simp)
        rw [i64s_take_len] at ht2
        have h1 : treeL [some ⟨false, 1, i64s U⟩, some ⟨false, 1, i64s Q⟩] fuelTree [.bool false, .mslc 0 0 U.length] = some ([.bool false, .slc false (i64s U)], [0]) := by
          unfold fuelTree
          rw [treeL_cons (by simp), ht2]
          rfl
        simp [handOn, h1, freeze, Heap.at]
      have hre := reach_at (H := [some ⟨true, 1, i64s U⟩, some ⟨false, 1, i64s Q⟩]) (id := 1) rfl (by simp)
      have htree : treeL [some ⟨true, 1, i64s U⟩, some ⟨false, 1, i64s Q⟩] fuelTree [.tup [.mslc 1 0 Q.length, .slc false (i64s ro)]] = some ([.tup [.slc false (i64s Q), .slc false (i64s ro)]], [1]) := by
        have h3 := treeL_atE (H := [some ⟨true, 1, i64s U⟩, some ⟨false, 1, i64s Q⟩]) (id := 1) (n := 35) (len := Q.length) (rest := [.slc false (i64s ro)]) rfl (by simp) (by simp) (by simp)
        rw [i64s_take_len] at h3
        unfold fuelTree
        rw [treeL_cons (by simp)]
        simp only [AVal.tree, h3, Option.map_some, Option.bind_some, treeL_free (n := 38) (show idsL [] = [] from rfl)]
        simp
      have q3' : Q.length = (DW a).length + 1 - (DW b).length := by omega
      have q1' : U.length = (DW a).length + 1 := by omega
      rw [q3'] at htree
      rw [q1'] at hh2
      have hcast : (((DW a).length + 1 : Nat) : Int) = (DW a).length + 1 := by omega
      rw [hYl, l1, hcast] at he
      have tn : (((DW a).length : Int) + 1 - (DW b).length).toNat = (DW a).length + 1 - (DW b).length := by omega
      have hi : (((DW b).length : Int) - 1).toNat = (DW b).length - 1 := by omega
      have hsd : (65536 : Int).tdiv (((DW b)[(DW b).length - 1] : Int) + 1) = (sc : Int) := by
        have := tdiv_nat 65536 ((DW b)[(DW b).length - 1] + 1)
        rw [hsc] at this
        exact this
      have hz1 : ¬ ((DW b)[(DW b).length - 1] : Int) + 1 = 0 := by omega
      simp only [List.length_cons, List.length_nil, List.nil_append, List.cons_append, Nat.zero_add] at raw1 raw2
      have hab : ((b : Int) * (sc : Int)).natAbs = b * sc := by rw [← Int.natCast_mul, Int.natAbs_natCast]
      clear hbn hbk htop q5 q6 hQe hUe hY1 hY2 hlast hsc hsc1 hla e1 v1 v2
      simp (disch := first | omega | simp) [c_ashlarref1_divide, any_pure, hc, if_pos, if_neg, decide_eq_false, decide_eq_true, wrap_i64, hi, hsd, hz1, raw1, raw2, tn, i64s_replicate, maxB, he, hh1, htrim, hh2, htrU, hro, hre, htree, hYl, hab]
    · -- by one digit
      have hlen : (DW b).length = 1 := by omega
      obtain ⟨p, hp⟩ := List.length_eq_one_iff.1 hlen
      have hbp := DW_single hp
      subst hbp
      have hblim : b < 65536 := limW_DW b b (by rw [hp]; simp)
      obtain ⟨q, hs, s1, s2, s3⟩ := pc_rsmall (F := F) nx (DW a) b (limW_DW _) hbpos (by omega) (by omega)
      rw [ew_DW] at hs s3
      have hmod : a % b < 65536 := Nat.lt_trans (Nat.mod_lt _ (by omega)) hblim
      have h0 : (DW b)[0]'(by omega) = b := by simp [hp]
      refine ⟨false, false, q, [a % b], pure_ret h.ashlarref1_divide rfl ?_, s2, (by intro x hx; simp at hx; subst hx; exact hmod), s3, by simp [ew], by omega, by simp⟩
      generalize a % b = r at *
      have hre : reach [some ⟨false, 1, [.int .i64 (r : Int)]⟩] fuelIds [0] [] = some [0] := reach_at (b := ⟨false, 1, [.int .i64 (r : Int)]⟩) rfl (by simp)
      have htree : treeL [some ⟨false, 1, [.int .i64 (r : Int)]⟩] fuelTree [.tup [.slc false (i64s q), .mslc 0 0 1]] = some ([.tup [.slc false (i64s q), .slc false (i64s [r])]], [0]) := by
        have h3 := treeL_atE (H := [some ⟨false, 1, [.int .i64 (r : Int)]⟩]) (id := 0) (n := 34) (len := 1) (rest := []) rfl (by simp) (by simp) (by simp)
        unfold fuelTree
        rw [treeL_cons (by simp)]
        have h4 : treeL [some ⟨false, 1, [.int .i64 (r : Int)]⟩] 38 [.slc false (i64s q), .mslc 0 0 1] = some ([.slc false (i64s q), .slc false (i64s [r])], [0]) := by
          rw [treeL_cons (by simp), h3]; rfl
        simp only [AVal.tree, h4, Option.map_some, Option.bind_some, treeL_free (n := 38) (show idsL [] = [] from rfl)]
        simp
      simp (disch := first | omega | simp) [c_ashlarref1_divide, any_pure, hc, if_pos, if_neg, decide_eq_false, decide_eq_true, wrap_i64, goodElems, placeAll, hs, hre, htree, hlen, h0]

theorem sgn_div {a b q r : Nat} (e : (a : Int) = (b : Int) * (q : Int) + (r : Int)) (s t : Bool) : sgn s a = sgn t b * sgn (s != t) q + sgn s r := by
  cases s <;> cases t <;> simp only [sgn, if_true, if_false, Bool.false_eq_true, bne_self_eq_false, Bool.true_bne, Bool.false_bne, Bool.not_false, Bool.not_true, Int.neg_mul_neg, Int.mul_neg, Int.neg_mul] <;> omega

/-- Quo: the remainder is not below nought. -/
theorem rQuo (n1 n2 : Bool) (x y : Int) (hy : y ≠ 0) (hx : (DW x.natAbs).length < 2^36) (hyl : (DW y.natAbs).length < 2^36) :
    ∃ m1 m2, pureCall (run F) 94 [RI n1 x, RI n2 y] = some (.tup [RI m1 (x / y), RI m2 (x % y)]) := by
  obtain ⟨p1, p2, q, r, hd, g1, g2, g3, g4, g5, g6⟩ := pc_rdivide (F := F) n1 n2 x.natAbs y.natAbs (by omega) (by omega) (by omega)
  have tq := fun s => pc_rtrim (F := F) s p1 q g1 (by omega)
  have tr := fun s => pc_rtrim (F := F) s p2 r g2 (by omega)
  rw [g3] at tq
  rw [g4] at tr
  have hdm := Nat.div_add_mod x.natAbs y.natAbs
  have hml := Nat.mod_lt x.natAbs (show y.natAbs > 0 by omega)
  have h1 : sgn (decide (x < 0)) x.natAbs = x := by by_cases h : x < 0 <;> simp [sgn, h] <;> omega
  have h2 : sgn (decide (y < 0)) y.natAbs = y := by by_cases h : y < 0 <;> simp [sgn, h] <;> omega
  have hcast : ((x.natAbs : Nat) : Int) = (y.natAbs : Int) * ((x.natAbs / y.natAbs : Nat) : Int) + ((x.natAbs % y.natAbs : Nat) : Int) := by
    rw [← Int.natCast_mul, ← Int.natCast_add, hdm]
  have hql : (DW (x.natAbs / y.natAbs)).length ≤ (DW x.natAbs).length := DW_len_mono (Nat.div_le_self _ _)
  have hrl : (DW (x.natAbs % y.natAbs)).length ≤ (DW y.natAbs).length := DW_len_mono (Nat.le_of_lt hml)
  obtain ⟨o1, ho⟩ := rof (F := F) 1 (by decide) (by decide)
  generalize hQn : x.natAbs / y.natAbs = Qn at *
  generalize hRn : x.natAbs % y.natAbs = Rn at *
  have l1 : (DW (1 : Int).natAbs).length < 2^38 := by
    have := DW_len_le (n := 1) (k := 1) (by decide)
    show (DW 1).length < 2^38
    omega
  by_cases hneg : x < 0 ∧ 0 < Rn
  · obtain ⟨hx0, hR⟩ := hneg
    have hR0 : ¬ Rn = 0 := by omega
    by_cases hy0 : y < 0
    · -- x/y = Qn + 1, rest: -Rn - y
      have hq := quo_unique (x := x) (y := y) (Q := ((Qn : Nat) : Int) + 1) (R := -(Rn : Int) - y) hy (by omega) (by omega) (by
        have : y = -((y.natAbs : Nat) : Int) := by omega
        have e2 : y * ((Qn : Int) + 1) = -((y.natAbs : Int) * (Qn : Int)) + y := by
          rw [Int.mul_add, Int.mul_one]; congr 1; conv => lhs; rw [this]
          rw [Int.neg_mul]
        rw [e2]; omega)
      obtain ⟨a1, ha⟩ := rAdd (F := F) p1 o1 (Qn : Int) 1 (by rw [Int.natAbs_natCast]; omega) l1
      obtain ⟨a2, hs⟩ := rSub (F := F) p2 n2 (-(Rn : Int)) y (by rw [Int.natAbs_neg, Int.natAbs_natCast]; omega) (by omega)
      refine ⟨a1, a2, pure_ret h.ashlarref1_Quo rfl ?_⟩
      rw [hq.1, hq.2]
      have tq := tq false
      have tr := tr true
      rw [show sgn false Qn = (Qn : Int) from rfl] at tq
      rw [show sgn true Rn = -(Rn : Int) from rfl] at tr
      have hRneg : -(Rn : Int) < 0 := by omega
      simp (disch := first | omega | simp) [c_ashlarref1_Quo, any_pure, hd, hx0, hy0, tq, tr, ho, ha, hs, hR]
    · have hq := quo_unique (x := x) (y := y) (Q := -((Qn : Nat) : Int) - 1) (R := -(Rn : Int) + y) hy (by omega) (by omega) (by
        have : y = ((y.natAbs : Nat) : Int) := by omega
        have e2 : y * (-(Qn : Int) - 1) = -((y.natAbs : Int) * (Qn : Int)) - y := by
          rw [Int.mul_sub, Int.mul_one, Int.mul_neg]; congr 2; conv => lhs; rw [this]
        rw [e2]; omega)
      obtain ⟨a1, ha⟩ := rSub (F := F) p1 o1 (-(Qn : Int)) 1 (by rw [Int.natAbs_neg, Int.natAbs_natCast]; omega) l1
      obtain ⟨a2, hs⟩ := rAdd (F := F) p2 n2 (-(Rn : Int)) y (by rw [Int.natAbs_neg, Int.natAbs_natCast]; omega) (by omega)
      refine ⟨a1, a2, pure_ret h.ashlarref1_Quo rfl ?_⟩
      rw [hq.1, hq.2]
      have tq := tq true
      have tr := tr true
      rw [show sgn true Qn = -(Qn : Int) from rfl] at tq
      rw [show sgn true Rn = -(Rn : Int) from rfl] at tr
      have hRneg : -(Rn : Int) < 0 := by omega
      simp (disch := first | omega | simp) [c_ashlarref1_Quo, any_pure, hd, hx0, hy0, tq, tr, ho, ha, hs, hR]
  · have hr : sgn (decide (x < 0)) Rn = (Rn : Int) := by
      by_cases hx0 : x < 0
      · have : Rn = 0 := Nat.eq_zero_of_not_pos (fun h => hneg ⟨hx0, h⟩)
        subst this; simp [sgn]
      · simp [sgn, hx0]
    have hq := quo_unique (x := x) (y := y) (Q := sgn (decide (x < 0) != decide (y < 0)) Qn) (R := (Rn : Int)) hy (by omega) (by omega) (by
      have := sgn_div hcast (decide (x < 0)) (decide (y < 0))
      rw [h1, h2, hr] at this
      exact this)
    refine ⟨p1, p2, pure_ret h.ashlarref1_Quo rfl ?_⟩
    rw [hq.1, hq.2]
    have tr := tr (decide (x < 0))
    rw [hr] at tr
    have hRneg : ¬ (Rn : Int) < 0 := by omega
    by_cases hx0 : x < 0 <;> by_cases hy0 : y < 0 <;> simp only [hx0, hy0, decide_true, decide_false] at tr ⊢ <;> simp (disch := first | omega | simp) [c_ashlarref1_Quo, any_pure, hd, hx0, hy0, tq, tr, hRneg]
end Go.Ash
/- The document's integers: Gcd, Bits, Mod, Power. -/
namespace Go.Ash
variable {F : Nat → Option RFunc} [h : CodeRef1 F]

theorem rgcd_loop (b0 b1 : Option Blk) (b2 : Blk) (h2 : idsL b2.elems = []) (w0 w1 : AVal) (m1 m2 : Bool) (p0 q0 : Nat) (hp : (DW p0).length < 2^36) (hq : (DW q0).length < 2^36) :
    ∃ e st, (∀ env, exec F l_ashlarref1_Gcd_0 ⟨[w0, w1, .mptr 0 0 0, .mptr 1 0 0, .mptr 2 0 0, .mptr 3 0 0, .mptr 4 0 0, .und], env, [b0, b1, some b2, some ⟨false, 2, [RI m1 p0]⟩, some ⟨false, 2, [RI m2 q0]⟩], 0⟩ = some (e, st)) ∧
      (e = .exit 0 ∧ ∃ k v H, st = ⟨[.und, .und, .und, .und, .mptr 0 0 0, .mptr 1 0 0, v, .und], [], some b2 :: some ⟨false, 2, [RI k (p0.gcd q0 : Nat)]⟩ :: H, 0⟩) := by
  refine loop_rule
    (fun n st => ∃ (k1 k2 : Bool) (p : Nat), st = ⟨[.und, .und, .und, .und, .mptr 0 0 0, .mptr 1 0 0, .mptr 2 0 0, .und], [], [some b2, some ⟨false, 2, [RI k1 p]⟩, some ⟨false, 2, [RI k2 n]⟩], 0⟩ ∧ (DW p).length < 2^36 ∧ (DW n).length < 2^36 ∧ p.gcd n = p0.gcd q0) _ q0 _ ?_
    (by simp [tidy_eq, reach_end, reach_more, fuelIds, place_cons, pack, h2]; rfl) ⟨m1, m2, p0, by simp [blk_ren h2], hp, hq, rfl⟩
  rintro n st ⟨k1, k2, p, rfl, hpl, hnl, hg⟩
  have hs := rsign (F := F) k2 (n : Int)
  rcases Nat.eq_zero_or_pos n with rfl | hpos
  · refine .out (.exit 0) _ (by simp) ⟨rfl, k1, .mptr 2 0 0, [some ⟨false, 2, [RI k2 (0 : Nat)]⟩], by rw [← hg, Nat.gcd_zero_right]⟩ ?_
    have hs' : pureCall (run F) 25 [RI k2 0] = some (.int .i64 0) := hs
    simp [after, any_pure, hs']
  · have hc : cmpZ (n : Int) 0 = 1 := by unfold cmpZ; rw [if_neg (by omega), if_neg (by omega)]
    rw [hc] at hs
    obtain ⟨a1, a2, hd⟩ := rQuo (F := F) k1 k2 (p : Int) (n : Int) (by omega) (by rw [Int.natAbs_natCast]; exact hpl) (by rw [Int.natAbs_natCast]; exact hnl)
    have hlt := Nat.mod_lt p hpos
    have hmc : (p : Int) % (n : Int) = ((p % n : Nat) : Int) := (Int.natCast_emod p n).symm
    rw [hmc] at hd
    refine .more (p % n) _ hlt ⟨k2, a2, n, rfl, hnl, by have := DW_len_mono (Nat.le_of_lt hlt); omega, ?_⟩ ?_
    · rw [← hg, Nat.gcd_comm n, ← Nat.gcd_rec, Nat.gcd_comm]
    · generalize p % n = r at *
      generalize (p : Int) / (n : Int) = qq at *
      simp (disch := first | omega | simp) [after, tidy_eq, reach_end, reach_more, fuelIds, place_cons, pack, any_pure, hs, hd, h2, blk_ren h2]

/-- Gcd. -/
theorem rGcd (n1 n2 : Bool) (x y : Int) (hx : (DW x.natAbs).length < 2^36) (hy : (DW y.natAbs).length < 2^36) : ∃ nl, pureCall (run F) 37 [RI n1 x, RI n2 y] = some (RI nl (Int.gcd x y : Nat)) := by
  have h1 := rabs (F := F) n1 x
  have h2 := rabs (F := F) n2 y
  obtain ⟨e, st, he, rfl, k, v, H, rfl⟩ := rgcd_loop (F := F) (some ⟨false, 2, [RI n1 x]⟩) (some ⟨false, 2, [RI n2 y]⟩) ⟨false, 2, [.agg [.bool false, .slc true []]]⟩ (by simp) (RI n1 x) (RI n2 y) n1 n2 x.natAbs y.natAbs hx hy
  refine ⟨k, pure_ret h.ashlarref1_Gcd rfl ?_⟩
  have hg : Int.gcd x y = x.natAbs.gcd y.natAbs := rfl
  rw [hg]
  simp (disch := first | omega | simp) [c_ashlarref1_Gcd, any_pure, h1, h2, he]
end Go.Ash
/- The document's integers: Bits, Mod, Power. -/
namespace Go.Ash
variable {F : Nat → Option RFunc} [h : CodeRef1 F]

theorem B16_pow (k : Nat) : B16 ^ k = 2 ^ (16 * k) := by rw [Nat.pow_mul]
theorem bl_DW {n : Nat} (h : n ≠ 0) : ∃ hl : (DW n).length - 1 < (DW n).length, bl n = 16 * ((DW n).length - 1) + bl (DW n)[(DW n).length - 1] := by
  obtain ⟨hl, h1, h2⟩ := lastW h
  refine ⟨hl, ?_⟩
  rw [h1, B16_pow, bl_shift (k := 16 * ((DW n).length - 1)), Nat.add_comm]
  rw [h1, B16_pow] at h2
  exact Nat.le_of_not_lt (fun h3 => h2 (Nat.div_eq_of_lt h3))
theorem bl_half {t : Nat} (h : 0 < t) : bl t = bl (t / 2) + 1 := by
  rcases (by omega : t = 1 ∨ 2 ≤ t) with rfl | h2
  · decide
  · have := bl_shift (n := t) (k := 1) h2
    simpa using this

theorem rbits_loop (b0 : Option Blk) (w0 w2 : AVal) (n0 t0 : Nat) (ht : t0 < 65536) :
    ∃ e st, (∀ env, exec F l_ashlarref1_Bits_0 ⟨[w0, .mptr 0 0 0, w2, .int .i64 n0, .int .i64 0, .int .i64 t0], env, [b0], 0⟩ = some (e, st)) ∧
      (e = .exit 0 ∧ st = ⟨[.und, .und, .und, .int .i64 n0, .int .i64 (bl t0 : Nat), .int .i64 0], [], [], 0⟩) := by
  have hb0 : bl t0 ≤ 16 := bl_le.2 ht
  refine loop_rule
    (fun n st => ∃ (k : Nat), st = ⟨[.und, .und, .und, .int .i64 n0, .int .i64 k, .int .i64 n], [], [], 0⟩ ∧ k + bl n = bl t0 ∧ n < 65536) _ t0 _ ?_
    (by simp [tidy_eq, reach_end, fuelIds, pack]) ⟨0, rfl, by omega, ht⟩
  rintro n st ⟨k, rfl, hk, hn⟩
  rcases Nat.eq_zero_or_pos n with rfl | hpos
  · rw [bl_zero, Nat.add_zero] at hk
    refine .out (.exit 0) _ (by simp) ⟨rfl, rfl⟩ ?_
    rw [← hk]
    simp [after]
  · have hb := bl_half hpos
    have htd : (n : Int).tdiv 2 = ((n / 2 : Nat) : Int) := tdiv_nat n 2
    refine .more (n / 2) _ (Nat.div_lt_self hpos (by decide)) ⟨k + 1, rfl, by omega, by omega⟩ ?_
    have hh : n / 2 < 65536 := by omega
    generalize n / 2 = q at *
    simp (disch := first | omega | simp) [after, tidy_none, if_pos, if_neg, decide_eq_true, wrap_i64, htd, hpos]

/-- Bits. -/
theorem rBits (nl : Bool) (z : Int) (hz : (DW z.natAbs).length < 2^38) : pureCall (run F) 54 [RI nl z] = some (.int .i64 (bl z.natAbs : Nat)) := by
  refine pure_ret h.ashlarref1_Bits rfl ?_
  by_cases h0 : z = 0
  · subst h0
    simp [c_ashlarref1_Bits]
  · obtain ⟨hl, hb⟩ := bl_DW (n := z.natAbs) (by omega)
    have hlim := (limW_DW z.natAbs).get hl
    have hb16 : bl (DW z.natAbs)[(DW z.natAbs).length - 1] ≤ 16 := bl_le.2 hlim
    obtain ⟨e, st, he, rfl, rfl⟩ := rbits_loop (F := F) (some ⟨false, 2, [RI nl z]⟩) (RI nl z) (.int .i64 0) (DW z.natAbs).length (DW z.natAbs)[(DW z.natAbs).length - 1] hlim
    have hpos : 0 < (DW z.natAbs).length := by omega
    have hi : (((DW z.natAbs).length : Int) - 1).toNat = (DW z.natAbs).length - 1 := by omega
    rw [hb]
    simp (disch := first | omega | simp) [c_ashlarref1_Bits, if_pos, if_neg, decide_eq_false, wrap_i64, hi, he, h0]
    omega

theorem rmod_loop (b0 : Blk) (nl : Bool) (z : Int) (hb : b0 = ⟨false, 2, [RI nl z]⟩) (w0 w3 : AVal) (m : Nat) (hm : 0 < m) (hmB : m < 4294967296) (hz : (DW z.natAbs).length < 2^40) :
    ∃ e st, (∀ env, exec F l_ashlarref1_Mod_0 ⟨[w0, .int .i64 m, .mptr 0 0 0, w3, .int .i64 0, .int .i64 (((DW z.natAbs).length : Int) - 1)], env, [some b0], 0⟩ = some (e, st)) ∧
      (e = .exit 0 ∧ st = ⟨[.und, .int .i64 m, .mptr 0 0 0, .und, .int .i64 (z.natAbs % m : Nat), .int .i64 (-1)], [], [some b0], 0⟩) := by
  subst hb
  have hd := limW_DW z.natAbs
  have hew := ew_DW z.natAbs
  generalize hD : DW z.natAbs = d at *
  refine loop_rule
    (fun n st => st = ⟨[.und, .int .i64 m, .mptr 0 0 0, .und, .int .i64 (ew (d.drop n) % m : Nat), .int .i64 ((n : Int) - 1)], [], [some ⟨false, 2, [RI nl z]⟩], 0⟩ ∧ n ≤ d.length) _ d.length _ ?_
    (tidy_one (by simp) (by simp)) ⟨by rw [List.drop_of_length_le (Nat.le_refl _)]; simp [ew], Nat.le_refl _⟩
  rintro n st ⟨rfl, hn⟩
  rcases Nat.eq_zero_or_pos n with rfl | hpos
  · refine .out (.exit 0) _ (by simp) ⟨rfl, rfl⟩ ?_
    rw [List.drop_zero, hew]
    simp [after]
  · obtain ⟨n, rfl⟩ : ∃ k, n = k + 1 := ⟨n - 1, by omega⟩
    have hidx : ((n + 1 : Nat) : Int) - 1 = n := by omega
    have hnd : n < d.length := hn
    have hdn := hd.get hnd
    have hr := Nat.mod_lt (ew (d.drop (n + 1))) hm
    have he : ew (d.drop n) % m = (ew (d.drop (n + 1)) % m * 65536 + d[n]) % m := by
      rw [drop_ew hnd, Nat.add_mod, Nat.mul_mod, Nat.add_mod (ew (d.drop (n + 1)) % m * 65536), Nat.mul_mod (ew (d.drop (n + 1)) % m), Nat.mod_mod, Nat.mul_comm (B16 % m), Nat.add_comm]
    rw [hidx]
    generalize ew (d.drop (n + 1)) % m = r at *
    have hc : (r : Int) * 65536 + (d[n] : Int) = ((r * 65536 + d[n] : Nat) : Int) := by omega
    have htm := tmod_nat (r * 65536 + d[n]) m
    have hM : r * 65536 + d[n] < 281474976710656 := by omega
    refine .more n _ (Nat.lt_succ_self _) ⟨rfl, by omega⟩ ?_
    rw [he]
    obtain ⟨M, hMM⟩ : ∃ M, r * 65536 + d[n] = M := ⟨_, rfl⟩
    simp only [hMM] at hc htm hM ⊢
    have hm0 : ¬ m = 0 := by omega
    generalize M % m = v at *
    simp (disch := first | omega | simp) [after, tidy_one, if_pos, if_neg, decide_eq_true, wrap_i64, hD, hc, htm, hm0]

theorem sgn_emod (s : Bool) (a m : Nat) (hm : 0 < m) : sgn s a % (m : Int) = if s = true ∧ a % m ≠ 0 then ((m - a % m : Nat) : Int) else ((a % m : Nat) : Int) := by
  have hlt := Nat.mod_lt a hm
  cases s
  · simp [sgn]
  · by_cases hr0 : a % m = 0
    · rw [if_neg (by simp [hr0])]
      have : (m : Int) ∣ (a : Int) := Int.natCast_dvd_natCast.2 (Nat.dvd_of_mod_eq_zero hr0)
      rw [hr0]
      exact Int.emod_eq_zero_of_dvd (Int.dvd_neg.2 this)
    · rw [if_pos ⟨rfl, hr0⟩]
      have e : sgn true a = ((m - a % m : Nat) : Int) + (m : Int) * (-((a / m : Nat) : Int) - 1) := by
        have h5 : ((a : Nat) : Int) = (m : Int) * ((a / m : Nat) : Int) + ((a % m : Nat) : Int) := by
          rw [← Int.natCast_mul, ← Int.natCast_add, Nat.div_add_mod]
        simp only [sgn, if_true, Int.mul_sub, Int.mul_neg]
        omega
      rw [e, Int.add_mul_emod_self_left, Int.emod_eq_of_lt (by omega) (by omega)]

/-- Mod. -/
theorem rMod (nl : Bool) (z : Int) (m : Int) (hm : 0 < m) (hmB : m < 4294967296) (hz : (DW z.natAbs).length < 2^38) : pureCall (run F) 41 [RI nl z, .int .i64 m] = some (.int .i64 (z % m)) := by
  obtain ⟨k, rfl⟩ : ∃ k : Nat, m = k := ⟨m.toNat, by omega⟩
  obtain ⟨e, st, he, rfl, rfl⟩ := rmod_loop (F := F) _ nl z rfl (RI nl z) (.int .i64 0) k (by omega) (by omega) (by omega)
  have hs := sgn_emod (decide (z < 0)) z.natAbs k (by omega)
  have h1 : sgn (decide (z < 0)) z.natAbs = z := by by_cases h : z < 0 <;> simp [sgn, h] <;> omega
  rw [h1] at hs
  have hlt := Nat.mod_lt z.natAbs (show k > 0 by omega)
  rw [hs]
  generalize z.natAbs % k = r at *
  refine pure_ret h.ashlarref1_Mod rfl ?_
  by_cases hz0 : z < 0
  · by_cases hr : r = 0
    · simp (disch := first | omega | simp) [c_ashlarref1_Mod, wrap_i64, he, hz0, hr]
    · simp (disch := first | omega | simp) [c_ashlarref1_Mod, wrap_i64, he, hz0, hr]
      omega
  · simp (disch := first | omega | simp) [c_ashlarref1_Mod, wrap_i64, he, hz0]

theorem DW_len_pow {x n c : Nat} (h : bl x * n ≤ c) : (DW (x ^ n)).length ≤ c / 16 + 1 := by
  apply DW_len_le
  rw [B16_pow]
  have h1 := bl_pow_le x n
  have h2 : 2 ^ (bl x * n + 1) ≤ 2 ^ (16 * (c / 16 + 1)) := Nat.pow_le_pow_right (by decide) (by omega)
  omega

theorem rpower_loop (nl : Bool) (z : Int) (b1 : Blk) (h1 : idsL b1.elems = []) (w0 : AVal) (k1 : Bool) (N : Nat) (hN : N < 4294967296) (hz : bl z.natAbs * N ≤ 1073741824) (hz1 : (DW z.natAbs).length < 2^36) :
    ∃ e st, (∀ env, exec F l_ashlarref1_Power_0 ⟨[w0, .int .i64 N, .mptr 0 0 0, .mptr 1 0 0, .mptr 2 0 0, .int .i64 0], env, [some ⟨false, 2, [RI nl z]⟩, some b1, some ⟨false, 2, [RI k1 1]⟩], 0⟩ = some (e, st)) ∧
      (e = .exit 0 ∧ ∃ k v, st = ⟨[.und, .int .i64 N, .mptr 0 0 0, .mptr 1 0 0, .mptr 2 0 0, v], [], [some ⟨false, 2, [RI nl z]⟩, some b1, some ⟨false, 2, [RI k (z ^ N)]⟩], 0⟩) := by
  refine loop_rule
    (fun n st => ∃ (k : Bool) (i : Nat), st = ⟨[.und, .int .i64 N, .mptr 0 0 0, .mptr 1 0 0, .mptr 2 0 0, .int .i64 i], [], [some ⟨false, 2, [RI nl z]⟩, some b1, some ⟨false, 2, [RI k (z ^ i)]⟩], 0⟩ ∧ i + n = N) _ N _ ?_
    (tidy_three (by simp) (by simp) h1 (by simp)) ⟨k1, 0, by rw [Int.pow_zero]; rfl, by omega⟩
  rintro n st ⟨k, i, rfl, hn⟩
  rcases Nat.eq_zero_or_pos n with rfl | hpos
  · have : i = N := by omega
    subst this
    refine .out (.exit 0) _ (by simp) ⟨rfl, k, .int .i64 i, rfl⟩ ?_
    simp (disch := first | omega | simp) [after, if_neg, decide_eq_false]
  · have hl := DW_len_pow (x := z.natAbs) (n := i) (c := 1073741824) (Nat.le_trans (Nat.mul_le_mul_left _ (by omega)) hz)
    obtain ⟨k2, hmul⟩ := rMul (F := F) k nl (z ^ i) z (by rw [Int.natAbs_pow]; omega) (by omega)
    refine .more (n - 1) _ (by omega) ⟨k2, i + 1, rfl, by omega⟩ ?_
    rw [Int.pow_succ]
    generalize z ^ i * z = w at *
    simp (disch := first | omega | simp) [after, tidy_three, if_pos, decide_eq_true, wrap_i64, any_pure, hmul, h1]

/-- Power. -/
theorem rPower (nl : Bool) (z : Int) (N : Nat) (hN : N < 4294967296) (hz : bl z.natAbs * N ≤ 1073741824) (hz1 : (DW z.natAbs).length < 2^36) : ∃ k, pureCall (run F) 62 [RI nl z, .int .i64 N] = some (RI k (z ^ N)) := by
  obtain ⟨k1, ho⟩ := rof (F := F) 1 (by decide) (by decide)
  obtain ⟨e, st, he, rfl, k, v, rfl⟩ := rpower_loop (F := F) nl z ⟨false, 2, [.agg [.bool false, .slc true []]]⟩ (by simp) (RI nl z) k1 N hN hz hz1
  refine ⟨k, pure_ret h.ashlarref1_Power rfl ?_⟩
  generalize z ^ N = w at *
  simp (disch := first | omega | simp) [c_ashlarref1_Power, any_pure, ho, he]
end Go.Ash
/- The law IntRing answers true. -/
namespace Go.Ash
variable {F : Nat → Option RFunc} [h : CodeLimbs F] [h1 : CodeRef1 F] [h2 : CodeLaw1 F]

theorem pow_lt {a : Nat} {m n : Nat} (h : a < B32 ^ m) (hmn : m ≤ n) : a < B32 ^ n := Nat.lt_of_lt_of_le h (Nat.pow_le_pow_right (by decide) hmn)

theorem isI_cut (neg r : Bool) {l : List Nat} (hl : Lim l) : IsI (.agg [.bool neg, .slc r (u32s (l.take 24))]) (sgn neg (ev (l.take 24))) 24 :=
  ⟨neg, r, l.take 24, rfl, lim_take hl 24, by rw [List.length_take]; omega, rfl⟩

theorem eq_is {x y : Int} {m n : Nat} (hx : x.natAbs < B32 ^ m) (hy : y.natAbs < B32 ^ n) (hm : m < 2^40) (hn : n < 2^40) : pureCall (run F) 44 [IV x, IV y] = some (.bool (decide (x = y))) :=
  eq_IV (by have := D_len_le hx; omega) (by have := D_len_le hy; omega)

theorem int_ring (hb : pureCall (run F) 22 [] = some (.bool true)) (na ra nb rb nc rc : Bool) (la lb lc : List Nat) (hla : Lim la) (hlb : Lim lb) (hlc : Lim lc)
    (ha : la.length < 2^63) (hb' : lb.length < 2^63) (hc : lc.length < 2^63) :
    pureCall (run F) 47 [.agg [.bool na, .slc ra (u32s la)], .agg [.bool nb, .slc rb (u32s lb)], .agg [.bool nc, .slc rc (u32s lc)]] = some (.bool true) := by
  obtain ⟨qa, ca⟩ := pc_cut (F := F) na ra la ha
  obtain ⟨qb, cb⟩ := pc_cut (F := F) nb rb lb hb'
  obtain ⟨qc, cc⟩ := pc_cut (F := F) nc rc lc hc
  have ia := isI_cut na qa hla
  have ib := isI_cut nb qb hlb
  have ic := isI_cut nc qc hlc
  generalize sgn na (ev (la.take 24)) = x at ia
  generalize sgn nb (ev (lb.take 24)) = y at ib
  generalize sgn nc (ev (lc.take 24)) = z at ic
  have xl := isI_lt ia
  have yl := isI_lt ib
  have zl := isI_lt ic
  have iyz := isI_add yl zl
  have ixy := isI_mul xl yl
  have ixz := isI_mul xl zl
  have iyz' := isI_mul yl zl
  have ixy' := isI_add xl yl
  have a1 := add_is (F := F) ib ic (by decide) (by decide)
  have a2 := mul_is (F := F) ia iyz (by decide) (by decide)
  have a3 := mul_is (F := F) ia ib (by decide) (by decide)
  have a4 := mul_is (F := F) ia ic (by decide) (by decide)
  have a5 := add_is (F := F) ixy ixz (by decide) (by decide)
  have l1 := isI_lt (isI_mul xl (isI_lt iyz))
  have l2 := isI_lt (isI_add (isI_lt ixy) (isI_lt ixz))
  have a6 := eq_is (F := F) l1 l2 (by decide) (by decide)
  rw [decide_eq_true (Int.mul_add x y z)] at a6
  have b1 := mul_is (F := F) ixy ic (by decide) (by decide)
  have b2 := mul_is (F := F) ib ic (by decide) (by decide)
  have b3 := mul_is (F := F) ia iyz' (by decide) (by decide)
  have b4 := eq_is (F := F) (isI_lt (isI_mul (isI_lt ixy) zl)) (isI_lt (isI_mul xl (isI_lt iyz'))) (by decide) (by decide)
  rw [decide_eq_true (Int.mul_assoc x y z)] at b4
  have c1 := add_is (F := F) ia ib (by decide) (by decide)
  have c2 := sub_is (F := F) ixy' ib (by decide) (by decide)
  have c3 := pc_of (F := F) 0 (by decide) (by decide)
  have i0 : IsI (IV 0) 0 24 := isI_IV (by decide)
  have c4 := add_is (F := F) ia i0 (by decide) (by decide)
  have e1 : x + y - y = x := by omega
  have e2 : x + 0 = x := by omega
  rw [e1] at c2
  rw [e2] at c4
  have c5 := eq_is (F := F) xl xl (by decide) (by decide)
  rw [decide_eq_true rfl] at c5
  refine pure_ret h2.ashlarlaw1_IntRing rfl ?_
  simp [c_ashlarlaw1_IntRing, any_pure, hb, ca, cb, cc, a1, a2, a3, a4, a5, a6, b1, b2, b3, b4, c1, c2, c3, c4, c5, putElem, putAgg]
end Go.Ash
