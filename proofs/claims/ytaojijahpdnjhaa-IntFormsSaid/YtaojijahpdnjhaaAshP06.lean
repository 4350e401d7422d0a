/- The abstract interpreter of this work and its uses, part 6: AshLimbs3, AshLimbs4, AshLimbs5, AshLimbs6, AshLimbs7, AshLimbs8, AshBits, AshLimbs9. -/
import Derived.Test.YtaojijahpdnjhaaAshP05
set_option linter.all false
/- Package limbs: minus, cmp, made. -/
namespace Go.Ash
variable {F : Nat → Option RFunc} [h : CodeLimbs F]

theorem borrow_step {A E p v q X Y xi yi c R : Nat} (e : xi + B32 * q = v + c + yi) (h : E + p * B32 * (q + Y) = A + p * v + p * B32 * X + R) :
    E + p * (c + (yi + B32 * Y)) = A + p * (xi + B32 * X) + R := by
  have e2 : p * (xi + B32 * q) = p * (v + c + yi) := by rw [e]
  simp only [Nat.mul_add, Nat.mul_assoc] at e2 h ⊢
  omega

theorem minus_loop (nx ny : Bool) (x y : List Nat) (hx : Lim x) (hy : Lim y) (hxy : y.length ≤ x.length) (hlen : x.length < 2^40) : ∀ (k i : Nat) (out : List Nat) (c : Int) (b2 b5 b6 : AVal) (env : List AVal),
    i + k = x.length → out.length = x.length → Lim out → 0 ≤ c → c ≤ 1 → ∃ (out' : List Nat) (c' : Int),
    exec F l_limbs_minus_0 ⟨[.slc nx (u32s x), .slc ny (u32s y), b2, .mslc 0 0 x.length, .int .u64 c, b5, b6, .int .i64 x.length, .int .i64 i], env, [some ⟨false, 1, u32s out⟩], 0⟩ =
      some (.exit 0, ⟨[.slc nx (u32s x), .slc ny (u32s y), .und, .mslc 0 0 x.length, .int .u64 c', .und, .und, .int .i64 x.length, .int .i64 x.length], [], [some ⟨false, 1, u32s out'⟩], 0⟩) ∧
      out'.length = x.length ∧ Lim out' ∧ 0 ≤ c' ∧ c' ≤ 1 ∧
      ev (out'.take x.length) + B32 ^ i * (c.toNat + ev (y.drop i)) = ev (out.take i) + B32 ^ i * ev (x.drop i) + B32 ^ x.length * c'.toNat := by
  intro k
  induction k with
  | zero =>
    intro i out c b2 b5 b6 env hi hout hlim h0 h1
    have hi' : i = x.length := by omega
    subst hi'
    refine ⟨out, c, ?_, hout, hlim, h0, h1, ?_⟩
    · unfold l_limbs_minus_0
      rw [exec_loop, tidy_one (by simp) (by simp)]
      simp
    · rw [List.drop_of_length_le (Nat.le_refl _), List.drop_of_length_le hxy]
      simp [ev]
  | succ k ih =>
    intro i out c b2 b5 b6 env hi hout hlim h0 h1
    have hix : i < x.length := by omega
    have hxi := hx.get hix
    have hio : i < out.length := by omega
    have hil : (i : Int) < x.length := by omega
    by_cases hiy : i < y.length
    · have hyi := hy.get hiy
      obtain ⟨out', c', he, h2, h3, h4, h5, h6⟩ := ih (i + 1) (out.set i ((x[i] - c - y[i]) % 4294967296).toNat) (((x[i] - c - y[i]) % 18446744073709551616) / 9223372036854775808) .und (.int .i64 i) (.int .u64 ((x[i] - c - y[i]) % 18446744073709551616)) []
        (by omega) (by simpa using hout) (lim_set hlim (by omega)) (by omega) (by omega)
      refine ⟨out', c', ?_, h2, h3, h4, h5, ?_⟩
      · conv => lhs; unfold l_limbs_minus_0
        rw [exec_loop, tidy_one (by simp) (by simp)]
        simp (disch := omega) [hix, hiy, hil, wrap_u64', wrap_u32', wrap_i64, get?_u32s, set_u32s, putElem, putOne]
        exact exec_loop_env.trans he
      · rw [set_plus hio, Nat.pow_succ] at h6
        rw [drop_ev hix, drop_ev hiy]
        refine borrow_step ?_ h6
        show x[i] + 4294967296 * _ = _
        omega
    · obtain ⟨out', c', he, h2, h3, h4, h5, h6⟩ := ih (i + 1) (out.set i ((x[i] - c) % 4294967296).toNat) (((x[i] - c) % 18446744073709551616) / 9223372036854775808) .und (.int .i64 i) (.int .u64 ((x[i] - c) % 18446744073709551616)) []
        (by omega) (by simpa using hout) (lim_set hlim (by omega)) (by omega) (by omega)
      refine ⟨out', c', ?_, h2, h3, h4, h5, ?_⟩
      · conv => lhs; unfold l_limbs_minus_0
        rw [exec_loop, tidy_one (by simp) (by simp)]
        simp (disch := omega) [hix, hiy, hil, wrap_u64', wrap_u32', wrap_i64, get?_u32s, set_u32s, putElem, putOne]
        exact exec_loop_env.trans he
      · have hy1 : y.drop i = [] := List.drop_of_length_le (by omega)
        have hy2 : y.drop (i + 1) = [] := List.drop_of_length_le (by omega)
        rw [set_plus hio, Nat.pow_succ, hy2] at h6
        rw [drop_ev hix, hy1]
        have := borrow_step (yi := 0) (xi := x[i]) (c := c.toNat) (Y := ev []) (by
          show x[i] + 4294967296 * _ = _
          omega) h6
        simpa [ev] using this

theorem pc_minus (nx ny : Bool) (x y : List Nat) (hx : Lim x) (hy : Lim y) (hxy : y.length ≤ x.length) (hle : ev y ≤ ev x) (hlx : x.length < 2^39) :
    pureCall (run F) 88 [.slc nx (u32s x), .slc ny (u32s y)] = some (.slc false (u32s (D (ev x - ev y)))) := by
  obtain ⟨out, c, he, h2, h3, h4, h5, h6⟩ := minus_loop (F := F) nx ny x y hx hy hxy (by omega) x.length 0 (List.replicate x.length 0) 0 (.slc true []) .und .und []
    (by omega) (by simp) (lim_replicate _) (by omega) (by omega)
  have hto : out.take x.length = out := List.take_of_length_le (by omega)
  have hev : ev out = ev x - ev y := by
    have hlt := ev_lt h3
    rw [h2] at hlt
    rw [hto] at h6
    simp [ev] at h6
    rcases (by omega : c = 0 ∨ c = 1) with rfl | rfl
    · simp at h6; omega
    · simp at h6
      have hB : B32 ^ x.length = 4294967296 ^ x.length := rfl
      omega
  have ht := pc_trim (F := F) false out h3 (by omega)
  rw [hev] at ht
  have hl' : exec F l_limbs_minus_0 ⟨[.slc nx (u32s x), .slc ny (u32s y), .slc true [], .mslc 0 0 x.length, .int .u64 0, .und, .und, .int .i64 x.length, .int .i64 0],
    [.int .i64 0, .int .i64 x.length, .slc nx (u32s x)], [some ⟨false, 1, u32s (List.replicate x.length 0)⟩], 0⟩ = _ := (exec_loop_env (F := F)).trans he
  have m2 : (x.length : Int) * 4 ≤ 70368744177664 := by omega
  have m3 : (x.length : Int) ≤ 70368744177664 := by omega
  have m6 : out.take x.length = out := hto
  refine pure_ret h.limbs_minus rfl ?_
  simp (disch := omega) [c_limbs_minus, wrap_i64, u32s_replicate, maxB, m2, m3, hl', any_pure, hand_u32, m6, ht]

theorem cmp_lt {a b p u v : Nat} (ha : a < p) (h : u < v) : a + p * u < b + p * v := by
  have := Nat.mul_le_mul_left p (Nat.succ_le_of_lt h)
  rw [Nat.mul_succ] at this
  omega

theorem cmp_loop (nx ny : Bool) (x y : List Nat) (hx : Lim x) (hy : Lim y) (hxy : x.length = y.length) (hlen : x.length < 2^40) : ∀ (n : Nat), n ≤ x.length → ∀ (r : AVal) (env : List AVal),
    (ev (x.take n) = ev (y.take n) → exec F l_limbs_cmp_0 ⟨[.slc nx (u32s x), .slc ny (u32s y), r, .int .i64 ((n : Int) - 1)], env, [], 0⟩ =
      some (.exit 0, ⟨[.slc nx (u32s x), .slc ny (u32s y), .und, .int .i64 (-1)], [], [], 0⟩)) ∧
    (ev (x.take n) ≠ ev (y.take n) → ∃ j, exec F l_limbs_cmp_0 ⟨[.slc nx (u32s x), .slc ny (u32s y), r, .int .i64 ((n : Int) - 1)], env, [], 0⟩ =
      some (.ret, ⟨[.slc nx (u32s x), .slc ny (u32s y), .int .i64 (if ev (x.take n) < ev (y.take n) then -1 else 1), j], [], [], 0⟩)) := by
  intro n
  induction n with
  | zero =>
    intro _ r env
    refine ⟨fun _ => ?_, fun h => absurd (by simp) h⟩
    unfold l_limbs_cmp_0
    rw [exec_loop, tidy_dry rfl (by simp)]
    simp
  | succ n ih =>
    intro hn r env
    have hnx : n < x.length := hn
    have hny : n < y.length := by omega
    have hlx := ev_lt (lim_take hx n)
    have hly := ev_lt (lim_take hy n)
    rw [List.length_take, Nat.min_eq_left (by omega)] at hlx hly
    rw [ev_take_succ hnx, ev_take_succ hny]
    have hidx : ((n + 1 : Nat) : Int) - 1 = n := by omega
    rw [hidx]
    by_cases h0 : x[n] = y[n]
    · obtain ⟨ih1, ih2⟩ := ih (by omega) .und []
      have step : ∀ env, exec F l_limbs_cmp_0 ⟨[.slc nx (u32s x), .slc ny (u32s y), r, .int .i64 n], env, [], 0⟩ =
          exec F l_limbs_cmp_0 ⟨[.slc nx (u32s x), .slc ny (u32s y), .und, .int .i64 ((n : Int) - 1)], [], [], 0⟩ := by
        intro env
        conv => lhs; unfold l_limbs_cmp_0
        rw [exec_loop, tidy_dry rfl (by simp)]
        simp (disch := omega) [hnx, hny, h0, wrap_i64]
        exact exec_loop_env
      rw [step, h0]
      refine ⟨fun he => ih1 (by omega), fun he => ?_⟩
      obtain ⟨j, hj⟩ := ih2 (by omega)
      refine ⟨j, ?_⟩
      rw [hj]
      simp only [Nat.add_lt_add_iff_right]
    · have hne : ev (x.take n) + B32 ^ n * x[n] ≠ ev (y.take n) + B32 ^ n * y[n] := by
        rcases Nat.lt_or_gt_of_ne h0 with h | h
        · exact Nat.ne_of_lt (cmp_lt hlx h)
        · exact (Nat.ne_of_lt (cmp_lt hly h)).symm
      refine ⟨fun he => absurd he hne, fun _ => ?_⟩
      rcases Nat.lt_or_gt_of_ne h0 with hlt | hgt
      · have h1 := cmp_lt (b := ev (y.take n)) hlx hlt
        rw [if_pos h1]
        refine ⟨.int .i64 n, ?_⟩
        unfold l_limbs_cmp_0
        rw [exec_loop, tidy_dry rfl (by simp)]
        simp (disch := omega) [hnx, hny, show ¬ ((x[n] : Int) = (y[n] : Int)) from by omega, hlt, wrap_i64]
      · have h1 := cmp_lt (b := ev (x.take n)) hly hgt
        rw [if_neg (by omega)]
        refine ⟨.int .i64 n, ?_⟩
        unfold l_limbs_cmp_0
        rw [exec_loop, tidy_dry rfl (by simp)]
        simp (disch := omega) [hnx, hny, show ¬ ((x[n] : Int) = (y[n] : Int)) from by omega, show ¬ x[n] < y[n] from by omega, wrap_i64]

/-- How two numbers stand to each other. -/
def cmpI (a b : Nat) : Int := if a < b then -1 else if a = b then 0 else 1

theorem D_len_lt {a b : Nat} (h : (D a).length < (D b).length) : a < b := by
  rcases Nat.lt_or_ge a b with h' | h'
  · exact h'
  · have := D_len_mono h'; omega

theorem pc_cmp (nx ny : Bool) (a b : Nat) (ha : (D a).length < 2^39) (hb : (D b).length < 2^39) : pureCall (run F) 98 [.slc nx (u32s (D a)), .slc ny (u32s (D b))] = some (.int .i64 (cmpI a b)) := by
  refine pure_ret h.limbs_cmp rfl ?_
  by_cases hl : (D a).length = (D b).length
  · obtain ⟨h1, h2⟩ := cmp_loop (F := F) nx ny (D a) (D b) (lim_D a) (lim_D b) hl (by omega) (D a).length (Nat.le_refl _) (.int .i64 0)
      [.int .i64 (((D a).length : Int) - 1), .int .i64 (((D a).length : Int) - 1), .int .i64 (D a).length, .slc nx (u32s (D a))]
    rw [List.take_length, List.take_of_length_le (by omega), ev_D, ev_D] at h1 h2
    by_cases hab : a = b
    · have hc : cmpI a b = 0 := by unfold cmpI; rw [if_neg (by omega), if_pos hab]
      rw [hc]
      have h1 := h1 hab
      rw [hl] at h1
      simp (disch := omega) [c_limbs_cmp, hl, wrap_i64, h1]
    · obtain ⟨j, h2⟩ := h2 hab
      have hc : cmpI a b = if a < b then -1 else 1 := by unfold cmpI; rw [if_neg hab]
      rw [hc]
      rw [hl] at h2
      simp (disch := omega) [c_limbs_cmp, hl, wrap_i64, h2]
  · have hli : ¬ ((D a).length : Int) = (D b).length := by omega
    rcases Nat.lt_or_gt_of_ne hl with hlt | hgt
    · have hab := D_len_lt hlt
      have hc : cmpI a b = -1 := by unfold cmpI; rw [if_pos hab]
      rw [hc]
      simp (disch := omega) [c_limbs_cmp, hli, hlt, wrap_i64]
    · have hab := D_len_lt hgt
      have hc : cmpI a b = 1 := by unfold cmpI; rw [if_neg (by omega), if_neg (by omega)]
      rw [hc]
      simp (disch := omega) [c_limbs_cmp, hli, show ¬ (D a).length < (D b).length from by omega, wrap_i64]

/-- An integer in its one form. -/
def IV (z : Int) : AVal := .agg [.bool (decide (z < 0)), .slc (decide (z = 0)) (u32s (D z.natAbs))]

@[simp] theorem ids_IV (z : Int) : (IV z).ids = [] := by simp [IV]
@[simp] theorem cells_IV (z : Int) : (IV z).cells.length = 2 := rfl
@[simp] theorem flat_IV (z : Int) : (IV z).flat = true := by simp [IV]
@[simp] theorem take_IV (z : Int) : AVal.agg ((IV z).cells.take 2) = IV z := rfl
@[simp] theorem drop1_IV (z : Int) : (IV z).cells.drop 1 = [.slc (decide (z = 0)) (u32s (D z.natAbs))] := rfl
@[simp] theorem get0_IV (z : Int) : (IV z).cells[0]? = some (.bool (decide (z < 0))) := rfl
@[simp] theorem get1_IV (z : Int) : (IV z).cells[1]? = some (.slc (decide (z = 0)) (u32s (D z.natAbs))) := rfl
@[simp] theorem head_IV (z : Int) : (IV z).cells.head? = some (.bool (decide (z < 0))) := rfl
@[simp] theorem put_IV (z : Int) (a b : AVal) : putElem (.agg [a, b]) 0 (IV z) = some (IV z) := rfl
@[simp] theorem put_IV' (z w : Int) : putElem (IV w) 0 (IV z) = some (IV z) := rfl

/-- The integer of a sign and a magnitude. -/
def sgn (neg : Bool) (a : Nat) : Int := if neg then -(a : Int) else a

theorem sgn_abs (neg : Bool) (a : Nat) : (sgn neg a).natAbs = a := by cases neg <;> simp [sgn]

theorem pc_made (neg nl : Bool) (l : List Nat) (hl : Lim l) (hlen : l.length < 2^39) : pureCall (run F) 89 [.bool neg, .slc nl (u32s l)] = some (IV (sgn neg (ev l))) := by
  refine pure_ret h.limbs_made rfl ?_
  by_cases h0 : ev l = 0
  · have : IV (sgn neg (ev l)) = .agg [.bool false, .slc true []] := by rw [h0]; cases neg <;> simp [IV, sgn, u32s]
    rw [this]
    simp (disch := omega) [c_limbs_made, any_pure, pc_trim nl l hl, h0, fillA, putElem, putAgg]
  · have hle : (D (ev l)).length ≤ l.length := D_len_le (ev_lt hl)
    have m1 : ((D (ev l)).length) * 4 ≤ 70368744177664 := by omega
    have m2 : (D (ev l)).length ≤ 70368744177664 := by omega
    have hi : IV (sgn neg (ev l)) = .agg [.bool neg, .slc false (u32s (D (ev l)))] := by
      cases neg <;> simp [IV, sgn, h0] <;> omega
    rw [hi]
    simp (disch := omega) [c_limbs_made, any_pure, pc_trim nl l hl, h0, fillA, putElem, putAgg, elemsOf, good_u32s, maxB, m1, m2, setAll, tree_two]
@[simp] theorem any_raw {call : CallF} {f : Nat} {vs : List AVal} {H : Heap} : anyCall call true f vs H = rawCall call f vs H := rfl
theorem at_lt {H : Heap} {id : Nat} {b : Blk} (h : H.at id = some b) : id < H.length := by
  rw [heap_at_eq] at h
  apply Nat.lt_of_not_le
  intro hle
  rw [List.getElem?_eq_none hle] at h
  simp at h

theorem reach_at {H : Heap} {id : Nat} {b : Blk} (h : H.at id = some b) (hb : idsL b.elems = []) : reach H fuelIds [id] [] = some [id] := by
  simp [reach, fuelIds, h, hb]

/-- A struct of a flag and a slice is answered, with its block. -/
theorem leave_cell {fn : RFunc} {vars env : List AVal} {H : Heap} {fz : Bool} {id esz n : Nat} {b : Bool} {l : List Nat} (h : H.at id = some ⟨fz, esz, u32s l⟩)
    (hr : resL ⟨vars, env, H, 0⟩ fn.res = some [.agg [.bool b, .mslc id 0 n]]) :
    fn.leave ⟨vars, env, H, 0⟩ = some (.agg [.bool b, .mslc 0 0 n], [some ⟨fz, esz, u32s l⟩]) := by
  have h1 : reach H fuelIds [id] [] = some [id] := reach_at h (by simp)
  have hne : H ≠ [] := fun e => by rw [e] at h; simp [Heap.at] at h
  simp only [RFunc.leave, hr, Option.bind_some, tupled]
  rw [if_neg (by simp [hne])]
  simp [h1, place, pack, h, Blk.ren, renL_self]

theorem leave_plain {fn : RFunc} {vars env : List AVal} {H : Heap} {v : AVal} (hr : resL ⟨vars, env, H, 0⟩ fn.res = some [v]) (hv : v.ids = []) :
    fn.leave ⟨vars, env, H, 0⟩ = some (v, []) := by
  have h1 : reach H fuelIds [] [] = some [] := rfl
  simp only [RFunc.leave, hr, Option.bind_some, tupled]
  by_cases hne : H = []
  · rw [if_pos (by simp [hne])]; simp [hne]
  · rw [if_neg (by simp [hne])]
    simp [hv, h1, pack, ren_self _ _ hv]

/-- A raw call with trees: what it answers lies behind. -/
theorem raw_tree {call : CallF} {f : Nat} {args : List AVal} {H H' : Heap} {v : AVal} (hi : idsL args = []) (hc : call f args [] = some (v, H')) :
    rawCall call f args H = some (v.ren (fun j => H.length + j), H ++ H'.map (Option.map (Blk.ren fun j => H.length + j))) := by
  unfold rawCall
  rw [hi]
  have hr : reach H fuelIds [] [] = some [] := rfl
  rw [hr]
  have hb : back [] H.length = fun j => H.length + j := by funext j; rfl
  simp [pack, renL_self _ _ hi, hc, putBack, hb]

/-- made, with its block. -/
theorem run_made (neg nl : Bool) (l : List Nat) (hl : Lim l) (hlen : l.length < 2^39) : run F 89 [.bool neg, .slc nl (u32s l)] [] =
    if ev l = 0 then some (.agg [.bool false, .slc true []], []) else some (.agg [.bool neg, .mslc 0 0 (D (ev l)).length], [some ⟨false, 1, u32s (D (ev l))⟩]) := by
  rw [run_eq h.limbs_made rfl]
  by_cases h0 : ev l = 0
  · rw [if_pos h0]
    simp (disch := omega) [c_limbs_made, any_pure, pc_trim nl l hl, h0, fillA, putElem, putAgg]
    exact leave_plain rfl rfl
  · rw [if_neg h0]
    have hle : (D (ev l)).length ≤ l.length := D_len_le (ev_lt hl)
    have m1 : ((D (ev l)).length) * 4 ≤ 70368744177664 := by omega
    have m2 : (D (ev l)).length ≤ 70368744177664 := by omega
    simp (disch := omega) [c_limbs_made, any_pure, pc_trim nl l hl, h0, fillA, putElem, putAgg, elemsOf, good_u32s, maxB, m1, m2, setAll]
    exact leave_cell rfl rfl
end Go.Ash
/- Package limbs: sum, Add, Sub, Neg, Cmp. -/
namespace Go.Ash
variable {F : Nat → Option RFunc} [h : CodeLimbs F]

theorem len_D_ev {l : List Nat} (hl : Lim l) : (D (ev l)).length ≤ l.length := D_len_le (ev_lt hl)

theorem pc_sum (na n1 nb n2 mb : Bool) (la lb : List Nat) (hla : Lim la) (hlb : Lim lb) (h1 : la.length < 2^38) (h2 : lb.length < 2^38) :
    pureCall (run F) 97 [.agg [.bool na, .slc n1 (u32s la)], .agg [.bool nb, .slc n2 (u32s lb)], .bool mb] =
      some (IV (sgn na (ev la) + (if mb then - sgn nb (ev lb) else sgn nb (ev lb)))) := by
  have hm1 := pc_mag (F := F) na n1 la hla (by omega)
  have hm2 := pc_mag (F := F) nb n2 lb hlb (by omega)
  have hn1 := pc_neg (F := F) na n1 la hla (by omega)
  have hn2 := pc_neg (F := F) nb n2 lb hlb (by omega)
  have hla' := len_D_ev hla
  have hlb' := len_D_ev hlb
  have hp := pc_plus (F := F) n1 n2 (D (ev la)) (D (ev lb)) (lim_D _) (lim_D _) (by omega) (by omega)
  have hc := pc_cmp (F := F) n1 n2 (ev la) (ev lb) (by omega) (by omega)
  rw [ev_D, ev_D] at hp
  have hlp : (D (ev la + ev lb)).length < 2^39 := by
    have h3 : ev la + ev lb < B32 ^ (max la.length lb.length + 1) := by
      have h4 := ev_lt hla
      have h5 := ev_lt hlb
      have h6 : B32 ^ la.length ≤ B32 ^ (max la.length lb.length) := Nat.pow_le_pow_right (by decide) (by omega)
      have h7 : B32 ^ lb.length ≤ B32 ^ (max la.length lb.length) := Nat.pow_le_pow_right (by decide) (by omega)
      rw [Nat.pow_succ]
      have : B32 ^ (max la.length lb.length) * 2 ≤ B32 ^ (max la.length lb.length) * B32 := Nat.mul_le_mul_left _ (by decide)
      omega
    have := D_len_le h3
    omega
  have hd : ∀ s, pureCall (run F) 89 [.bool s, .slc false (u32s (D (ev la + ev lb)))] = some (IV (sgn s (ev la + ev lb))) := fun s => by
    have := pc_made (F := F) s false (D (ev la + ev lb)) (lim_D _) hlp
    rwa [ev_D] at this
  have e1 : sgn na (ev la) = sgn (na && decide (ev la ≠ 0)) (ev la) := by cases na <;> by_cases h0 : ev la = 0 <;> simp [sgn, h0]
  have e2 : sgn nb (ev lb) = sgn (nb && decide (ev lb ≠ 0)) (ev lb) := by cases nb <;> by_cases h0 : ev lb = 0 <;> simp [sgn, h0]
  rw [e1, e2]
  generalize (na && decide (ev la ≠ 0)) = s at *
  generalize (nb && decide (ev lb ≠ 0)) = t at *
  refine pure_ret h.limbs_sum rfl ?_
  by_cases hst : s = (t != mb)
  · have e : sgn s (ev la) + (if mb then - sgn t (ev lb) else sgn t (ev lb)) = sgn s (ev la + ev lb) := by
      subst hst; cases t <;> cases mb <;> simp [sgn] <;> omega
    rw [e]
    subst hst
    cases t <;> cases mb <;> simp [c_limbs_sum, any_pure, hm1, hm2, hn1, hn2, hp, hd, IV, putElem, putAgg]
  · have hst' : (t != mb) = !s := by cases s <;> cases t <;> cases mb <;> simp_all
    rcases Nat.lt_or_ge (ev la) (ev lb) with hab | hab
    · have hm := pc_minus (F := F) n2 n1 (D (ev lb)) (D (ev la)) (lim_D _) (lim_D _) (D_len_mono (by omega)) (by rw [ev_D, ev_D]; omega) (by omega)
      rw [ev_D, ev_D] at hm
      have hdm : ∀ s, pureCall (run F) 89 [.bool s, .slc false (u32s (D (ev lb - ev la)))] = some (IV (sgn s (ev lb - ev la))) := fun s => by
        have := pc_made (F := F) s false (D (ev lb - ev la)) (lim_D _) (by have := D_len_mono (Nat.sub_le (ev lb) (ev la)); omega)
        rwa [ev_D] at this
      have hcv : cmpI (ev la) (ev lb) = -1 := by unfold cmpI; rw [if_pos hab]
      rw [hcv] at hc
      have e : sgn s (ev la) + (if mb then - sgn t (ev lb) else sgn t (ev lb)) = sgn (t != mb) (ev lb - ev la) := by
        cases s <;> cases t <;> cases mb <;> simp [sgn] at hst' ⊢ <;> omega
      rw [e]
      cases s <;> cases t <;> cases mb <;> simp at hst' <;> simp [c_limbs_sum, any_pure, hm1, hm2, hn1, hn2, hc, hm, hdm, IV, putElem, putAgg]
    · have hm := pc_minus (F := F) n1 n2 (D (ev la)) (D (ev lb)) (lim_D _) (lim_D _) (D_len_mono hab) (by rw [ev_D, ev_D]; omega) (by omega)
      rw [ev_D, ev_D] at hm
      have hdm : ∀ s, pureCall (run F) 89 [.bool s, .slc false (u32s (D (ev la - ev lb)))] = some (IV (sgn s (ev la - ev lb))) := fun s => by
        have := pc_made (F := F) s false (D (ev la - ev lb)) (lim_D _) (by have := D_len_mono (Nat.sub_le (ev la) (ev lb)); omega)
        rwa [ev_D] at this
      have hcv : ¬ cmpI (ev la) (ev lb) < 0 := by unfold cmpI; rw [if_neg (by omega)]; split <;> omega
      have hcv' : 0 ≤ cmpI (ev la) (ev lb) := by omega
      have e : sgn s (ev la) + (if mb then - sgn t (ev lb) else sgn t (ev lb)) = sgn s (ev la - ev lb) := by
        cases s <;> cases t <;> cases mb <;> simp [sgn] at hst' ⊢ <;> omega
      rw [e]
      cases s <;> cases t <;> cases mb <;> simp at hst' <;> simp [c_limbs_sum, any_pure, hm1, hm2, hn1, hn2, hc, hcv', hm, hdm, IV, putElem, putAgg]

theorem pc_add (na n1 nb n2 : Bool) (la lb : List Nat) (hla : Lim la) (hlb : Lim lb) (h1 : la.length < 2^38) (h2 : lb.length < 2^38) :
    pureCall (run F) 43 [.agg [.bool na, .slc n1 (u32s la)], .agg [.bool nb, .slc n2 (u32s lb)]] = some (IV (sgn na (ev la) + sgn nb (ev lb))) := by
  have hs := pc_sum (F := F) na n1 nb n2 false la lb hla hlb h1 h2
  simp only [Bool.false_eq_true, if_false] at hs
  refine pure_ret h.limbs_Add rfl ?_
  simp [c_limbs_Add, any_pure, hs, IV, putElem, putAgg]

theorem pc_sub (na n1 nb n2 : Bool) (la lb : List Nat) (hla : Lim la) (hlb : Lim lb) (h1 : la.length < 2^38) (h2 : lb.length < 2^38) :
    pureCall (run F) 46 [.agg [.bool na, .slc n1 (u32s la)], .agg [.bool nb, .slc n2 (u32s lb)]] = some (IV (sgn na (ev la) - sgn nb (ev lb))) := by
  have hs := pc_sum (F := F) na n1 nb n2 true la lb hla hlb h1 h2
  simp only [if_true] at hs
  rw [← Int.sub_eq_add_neg] at hs
  refine pure_ret h.limbs_Sub rfl ?_
  simp [c_limbs_Sub, any_pure, hs, IV, putElem, putAgg]
end Go.Ash
/- Package limbs: school. -/
namespace Go.Ash
variable {F : Nat → Option RFunc} [h : CodeLimbs F]

theorem set_ev : ∀ {l : List Nat} {k : Nat} (hk : k < l.length) (v : Nat), ev (l.set k v) + B32 ^ k * l[k] = ev l + B32 ^ k * v
  | [], k, hk, v => by simp at hk
  | x :: l, 0, _, v => by simp [ev]; omega
  | x :: l, k + 1, hk, v => by
    have ih := set_ev (l := l) (k := k) (by simpa using hk) v
    simp only [List.set_cons_succ, ev, List.getElem_cons_succ, Nat.pow_succ]
    have e1 : B32 ^ k * B32 * l[k]'(by simpa using hk) = B32 * (B32 ^ k * l[k]'(by simpa using hk)) := by rw [Nat.mul_comm (B32 ^ k) B32, Nat.mul_assoc]
    have e2 : B32 ^ k * B32 * v = B32 * (B32 ^ k * v) := by rw [Nat.mul_comm (B32 ^ k) B32, Nat.mul_assoc]
    rw [e1, e2, Nat.add_assoc, ← Nat.mul_add, ih, Nat.mul_add, Nat.add_assoc]

theorem school_step {E A p o v c c2 u yj Y R : Nat} (e : v + B32 * c2 = c + u * yj + o) (hs : A + p * o = E + p * v) (h : R = A + p * B32 * (c2 + u * Y)) : R = E + p * (c + u * (yj + B32 * Y)) := by
  have e2 : p * (v + B32 * c2) = p * (c + u * yj + o) := by rw [e]
  have e3 : u * (B32 * Y) = B32 * (u * Y) := by rw [Nat.mul_left_comm]
  simp only [Nat.mul_add, Nat.mul_assoc, e3] at e2 h ⊢
  omega

theorem school_inner (nx ny : Bool) (x y : List Nat) (hy : Lim y) (hlx : x.length < 2^39) (hly : y.length < 2^39) (i u : Nat) (hi : i < x.length) (hu : u < 4294967296) :
    ∀ (k j : Nat) (out : List Nat) (c : Int) (b0 b2 b7 b8 : AVal) (env : List AVal), j + k = y.length → out.length = x.length + y.length → Lim out → 0 ≤ c → c < 4294967296 → ∃ (out' : List Nat) (c' : Int),
    exec F l_limbs_school_0 ⟨[b0, .slc ny (u32s y), b2, .mslc 0 0 (x.length + y.length), .int .i64 i, .int .u32 u, .int .u64 c, b7, b8, .slc nx (u32s x), .int .i64 x.length, .int .i64 i,
      .slc ny (u32s y), .int .i64 y.length, .int .i64 j], env, [some ⟨false, 1, u32s out⟩], 0⟩ =
      some (.exit 2, ⟨[.und, .slc ny (u32s y), .und, .mslc 0 0 (x.length + y.length), .int .i64 i, .int .u32 u, .int .u64 c', .und, .und, .slc nx (u32s x), .int .i64 x.length, .int .i64 i,
      .slc ny (u32s y), .int .i64 y.length, .int .i64 y.length], [], [some ⟨false, 1, u32s out'⟩], 0⟩) ∧
      out'.length = x.length + y.length ∧ Lim out' ∧ 0 ≤ c' ∧ c' < 4294967296 ∧ (∀ q, i + y.length ≤ q → out'[q]? = out[q]?) ∧
      ev out' + B32 ^ (i + y.length) * c'.toNat = ev out + B32 ^ (i + j) * (c.toNat + u * ev (y.drop j)) := by
  intro k
  induction k with
  | zero =>
    intro j out c b0 b2 b7 b8 env hj hout hlim h0 h1
    have hj' : j = y.length := by omega
    subst hj'
    refine ⟨out, c, ?_, hout, hlim, h0, h1, fun _ _ => rfl, ?_⟩
    · unfold l_limbs_school_0
      rw [exec_loop, tidy_one (by simp) (by simp)]
      simp
    · rw [List.drop_of_length_le (Nat.le_refl _)]
      simp [ev]
  | succ k ih =>
    intro j out c b0 b2 b7 b8 env hj hout hlim h0 h1
    have hjy : j < y.length := by omega
    have hyj := hy.get hjy
    have hko : i + j < out.length := by omega
    have hok := hlim.get hko
    have hP0 : (0 : Int) ≤ (u : Int) * (y[j] : Int) := Int.mul_nonneg (Int.natCast_nonneg _) (Int.natCast_nonneg _)
    have hPn : u * y[j] ≤ 18446744065119617025 := Nat.le_trans (Nat.mul_le_mul (Nat.le_of_lt_succ hu : u ≤ 4294967295) (Nat.le_of_lt_succ hyj : y[j] ≤ 4294967295)) (by decide)
    have hcast : ((u * y[j] : Nat) : Int) = (u : Int) * (y[j] : Int) := Int.natCast_mul _ _
    have hP1 : (u : Int) * (y[j] : Int) ≤ 18446744065119617025 := by omega
    have hil : (i : Int) + j < x.length + y.length := by omega
    have hij : ((i : Int) + j).toNat = i + j := by omega
    have hij0 : (0 : Int) ≤ (i : Int) + j := by omega
    obtain ⟨out', c', he, h2, h3, h4, h5, h6, h7⟩ := ih (j + 1) (out.set (i + j) (((c + (u * y[j] + out[i + j]))) % 4294967296).toNat) ((c + (u * y[j] + out[i + j])) / 4294967296) .und .und (.int .i64 j) (.int .u32 y[j]) []
      (by omega) (by simpa using hout) (lim_set hlim (by omega)) (by omega) (by omega)
    refine ⟨out', c', ?_, h2, h3, h4, h5, ?_, ?_⟩
    · conv => lhs; unfold l_limbs_school_0
      rw [exec_loop, tidy_one (by simp) (by simp)]
      simp (disch := omega) [hjy, hil, hij, hij0, wrap_u64, wrap_u32', wrap_i64, get?_u32s, set_u32s, putElem, putOne]
      exact exec_loop_env.trans he
    · intro q hq
      rw [h6 q hq, List.getElem?_set_ne (by omega)]
    · rw [drop_ev hjy]
      refine school_step (o := out[i + j]) (v := ((c + (u * y[j] + out[i + j])) % 4294967296).toNat) (c2 := ((c + (u * y[j] + out[i + j])) / 4294967296).toNat) ?_ (set_ev hko _) (by rw [h7, show i + (j + 1) = i + j + 1 from rfl, Nat.pow_succ])
      show _ + 4294967296 * _ = _
      omega

theorem school_outer (nx ny : Bool) (x y : List Nat) (hx : Lim x) (hy : Lim y) (hlx : x.length < 2^39) (hly : y.length < 2^39) :
    ∀ (k i : Nat) (out : List Nat) (b0 b2 b4 b5 b6 b7 b8 b12 b13 b14 : AVal) (env : List AVal), i + k = x.length → out.length = x.length + y.length → Lim out →
    (∀ q, i + y.length ≤ q → q < x.length + y.length → out[q]? = some 0) → ev out = ev (x.take i) * ev y → ∃ (out' : List Nat),
    exec F l_limbs_school_1 ⟨[b0, .slc ny (u32s y), b2, .mslc 0 0 (x.length + y.length), b4, b5, b6, b7, b8, .slc nx (u32s x), .int .i64 x.length, .int .i64 i, b12, b13, b14], env, [some ⟨false, 1, u32s out⟩], 0⟩ =
      some (.exit 0, ⟨[.und, .slc ny (u32s y), .und, .mslc 0 0 (x.length + y.length), .und, .und, .und, .und, .und, .slc nx (u32s x), .int .i64 x.length, .int .i64 x.length, .und, .und, .und], [],
        [some ⟨false, 1, u32s out'⟩], 0⟩) ∧ out'.length = x.length + y.length ∧ Lim out' ∧ ev out' = ev x * ev y := by
  intro k
  induction k with
  | zero =>
    intro i out b0 b2 b4 b5 b6 b7 b8 b12 b13 b14 env hi hout hlim hz hev
    have hi' : i = x.length := by omega
    subst hi'
    rw [List.take_length] at hev
    refine ⟨out, ?_, hout, hlim, hev⟩
    unfold l_limbs_school_1
    rw [exec_loop, tidy_one (by simp) (by simp)]
    simp
  | succ k ih =>
    intro i out b0 b2 b4 b5 b6 b7 b8 b12 b13 b14 env hi hout hlim hz hev
    have hix : i < x.length := by omega
    have hxi := hx.get hix
    obtain ⟨out1, c1, he1, g2, g3, g4, g5, g6, g7⟩ := school_inner (F := F) nx ny x y hy hlx hly i x[i] hix hxi y.length 0 out 0 .und .und .und .und [] (by omega) hout hlim (by omega) (by omega)
    have hpos : i + y.length < out1.length := by omega
    have hzero : out1[i + y.length] = 0 := by
      have h1 := g6 (i + y.length) (Nat.le_refl _)
      rw [hz _ (Nat.le_refl _) (by omega), List.getElem?_eq_getElem hpos] at h1
      exact Option.some.inj h1
    have hset := set_ev hpos c1.toNat
    rw [hzero] at hset
    simp only [List.drop_zero, Int.toNat_zero, Nat.zero_add, Nat.add_zero, Nat.mul_zero] at hset g7
    have hev' : ev (out1.set (i + y.length) c1.toNat) = ev (x.take (i + 1)) * ev y := by
      rw [hset, g7, hev, ev_take_succ hix, Nat.add_mul, Nat.mul_assoc]
    obtain ⟨out', he, h2, h3, h4⟩ := ih (i + 1) (out1.set (i + y.length) c1.toNat) .und .und (.int .i64 i) (.int .u32 x[i]) (.int .u64 c1) .und .und (.slc ny (u32s y)) (.int .i64 y.length) (.int .i64 y.length) []
      (by omega) (by simpa using g2) (lim_set g3 (by omega)) (by
        intro q hq1 hq2
        rw [List.getElem?_set_ne (by omega), g6 q (by omega)]
        exact hz q (by omega) hq2) hev'
    refine ⟨out', ?_, h2, h3, h4⟩
    have hl' : ∀ env, exec F l_limbs_school_0 ⟨[.und, .slc ny (u32s y), .und, .mslc 0 0 (x.length + y.length), .int .i64 i, .int .u32 x[i], .int .u64 0, .und, .und, .slc nx (u32s x), .int .i64 x.length, .int .i64 i,
      .slc ny (u32s y), .int .i64 y.length, .int .i64 0], env, [some ⟨false, 1, u32s out⟩], 0⟩ = _ := fun env => (exec_loop_env (F := F)).trans he1
    have hil : (i : Int) + y.length < x.length + y.length := by omega
    have hil0 : (0 : Int) ≤ (i : Int) + y.length := by omega
    have hij : ((i : Int) + y.length).toNat = i + y.length := by omega
    conv => lhs; unfold l_limbs_school_1
    rw [exec_loop, tidy_one (by simp) (by simp)]
    simp (disch := omega) [hix, hil, hil0, hij, wrap_u64, wrap_u32', wrap_i64, get?_u32s, set_u32s, putElem, putOne, hl', show c1 % 4294967296 = c1 from by omega]
    exact exec_loop_env.trans he

theorem pc_school (nx ny : Bool) (x y : List Nat) (hx : Lim x) (hy : Lim y) (hlx : x.length < 2^38) (hly : y.length < 2^38) :
    pureCall (run F) 115 [.slc nx (u32s x), .slc ny (u32s y)] = some (.slc false (u32s (D (ev x * ev y)))) := by
  have hz0 : ∀ k, ev (List.replicate k 0) = 0 := fun k => by have := ev_zeros [] k; simpa [ev] using this
  obtain ⟨out, he, h2, h3, h4⟩ := school_outer (F := F) nx ny x y hx hy (by omega) (by omega) x.length 0 (List.replicate (x.length + y.length) 0) (.slc nx (u32s x)) (.slc true []) .und .und .und .und .und .und .und .und []
    (by omega) (by simp) (lim_replicate _) (by intro q _ hq; simp [hq]) (by rw [hz0]; simp [ev])
  have ht := pc_trim (F := F) false out h3 (by omega)
  rw [h4] at ht
  have hl' : ∀ env, exec F l_limbs_school_1 ⟨[.slc nx (u32s x), .slc ny (u32s y), .slc true [], .mslc 0 0 (x.length + y.length), .und, .und, .und, .und, .und, .slc nx (u32s x), .int .i64 x.length, .int .i64 0, .und, .und, .und],
    env, [some ⟨false, 1, u32s (List.replicate (x.length + y.length) 0)⟩], 0⟩ = _ := fun env => (exec_loop_env (F := F)).trans he
  have m1 : (0 : Int) ≤ x.length + y.length := by omega
  have m2 : ((x.length : Int) + y.length) * 4 ≤ 70368744177664 := by omega
  have m3 : (x.length : Int) + y.length ≤ 70368744177664 := by omega
  have m4 : ((x.length : Int) + y.length).toNat = x.length + y.length := by omega
  have m6 : out.take (x.length + y.length) = out := List.take_of_length_le (by omega)
  refine pure_ret h.limbs_school rfl ?_
  simp (disch := omega) [c_limbs_school, wrap_i64, u32s_replicate, maxB, m1, m2, m3, m4, hl', any_pure, hand_u32, m6, ht]
end Go.Ash
/- Package limbs: up, times, Mul. -/
namespace Go.Ash
variable {F : Nat → Option RFunc} [h : CodeLimbs F]

theorem ev_drop {l : List Nat} (hl : Lim l) (k : Nat) (hk : k ≤ l.length) : ev (l.drop k) = ev l / B32 ^ k ∧ ev (l.take k) = ev l % B32 ^ k := by
  have h1 : ev l = ev (l.take k) + B32 ^ k * ev (l.drop k) := by
    have := ev_append (l.take k) (l.drop k)
    rw [List.take_append_drop, List.length_take, Nat.min_eq_left hk] at this
    exact this
  have h2 := ev_lt (lim_take hl k)
  rw [List.length_take, Nat.min_eq_left hk] at h2
  have hp : 0 < B32 ^ k := Nat.pow_pos (by decide)
  constructor
  · rw [h1, Nat.add_mul_div_left _ _ hp, Nat.div_eq_of_lt h2, Nat.zero_add]
  · rw [h1, Nat.add_mul_mod_self_left, Nat.mod_eq_of_lt h2]

theorem D_drop (a k : Nat) (hk : k ≤ (D a).length) : (D a).drop k = D (a / B32 ^ k) := by
  have h1 := (ev_drop (lim_D a) k hk).1
  rw [ev_D] at h1
  rw [← h1]
  refine (D_ev (lim_drop (lim_D a) k) fun hne => ?_).symm
  rw [List.getLast_drop]
  exact D_last (by rintro h0; rw [h0] at hne; simp at hne)

theorem D_mul_pow {c : Nat} (hc : c ≠ 0) (k : Nat) : D (c * B32 ^ k) = List.replicate k 0 ++ D c := by
  have hev : ev (List.replicate k 0 ++ D c) = c * B32 ^ k := by
    rw [ev_append, ev_D, List.length_replicate, Nat.mul_comm]
    have : ev (List.replicate k 0) = 0 := by have := ev_zeros [] k; simpa [ev] using this
    rw [this, Nat.zero_add]
  rw [← hev]
  refine D_ev (lim_append (lim_replicate k) (lim_D c)) fun hne => ?_
  have hd : D c ≠ [] := by simpa using hc
  rw [List.getLast_append_of_ne_nil _ hd]
  exact D_last hd

theorem tree_mslc_two {x : Option Blk} {fz : Bool} {esz n : Nat} {l : List Nat} (hn : n ≤ l.length) : treeL [x, some ⟨fz, esz, u32s l⟩] fuelTree [.mslc 1 0 n] = some ([.slc false (u32s (l.take n))], [1]) := by
  have h1 : AVal.tree [x, some ⟨fz, esz, u32s l⟩] 39 (.mslc 1 0 n) = some (.slc false (u32s (l.take n)), [1]) := by
    simp only [AVal.tree, Heap.at, length_u32s, Nat.zero_add, hn, if_true, List.drop_zero, u32s_take, treeL_free (n := 37) (idsL_u32s _), Option.map_some]
  unfold fuelTree
  rw [treeL_cons (by simp), h1]
  rfl

theorem pc_up (nx : Bool) (c k : Nat) (hc : (D c).length < 2^38) (hk : k < 2^38) : ∃ r, pureCall (run F) 116 [.slc nx (u32s (D c)), .int .i64 k] = some (.slc r (u32s (D (c * B32 ^ k)))) := by
  by_cases h0 : c = 0
  · refine ⟨true, pure_ret h.limbs_up rfl ?_⟩
    subst h0
    simp [c_limbs_up, u32s]
  · refine ⟨false, pure_ret h.limbs_up rfl ?_⟩
    have m1 : (k : Int) * 4 ≤ 70368744177664 := by omega
    have m2 : (k : Int) ≤ 70368744177664 := by omega
    have m3 : (k + (D c).length) * 4 ≤ 70368744177664 := by omega
    have m4 : k + (D c).length ≤ 70368744177664 := by omega
    have m5 : (List.replicate k 0 ++ D c).take (k + (D c).length) = List.replicate k 0 ++ D c := List.take_of_length_le (by simp)
    have m6 : (List.replicate k 0 ++ D c).length = k + (D c).length := by simp
    rw [D_mul_pow h0]
    simp (disch := omega) [c_limbs_up, h0, u32s_replicate, maxB, m1, m2, m3, m4, elemsOf, good_u32s, u32s_take, u32s_append, tree_mslc_two, m5]

theorem D_len_lt_pow {a k : Nat} (h : (D a).length ≤ k) : a < B32 ^ k := le_of_D_len h

theorem kara (a0 a1 b0 b1 : Nat) : (a0 + a1) * (b0 + b1) - a0 * b0 - a1 * b1 = a0 * b1 + a1 * b0 := by
  have : (a0 + a1) * (b0 + b1) = a0 * b0 + a1 * b1 + (a0 * b1 + a1 * b0) := by
    simp only [Nat.add_mul, Nat.mul_add]; omega
  omega

theorem D_mul_len (a b : Nat) : (D (a * b)).length ≤ (D a).length + (D b).length := by
  refine D_len_le ?_
  rw [Nat.pow_add]
  have h1 := D_lt a
  have h2 := D_lt b
  exact Nat.mul_lt_mul'' h1 h2

theorem D_add_len (a b : Nat) : (D (a + b)).length ≤ max (D a).length (D b).length + 1 := by
  refine D_len_le ?_
  have h4 := D_lt a
  have h5 := D_lt b
  have h6 : B32 ^ (D a).length ≤ B32 ^ (max (D a).length (D b).length) := Nat.pow_le_pow_right (by decide) (by omega)
  have h7 : B32 ^ (D b).length ≤ B32 ^ (max (D a).length (D b).length) := Nat.pow_le_pow_right (by decide) (by omega)
  rw [Nat.pow_succ]
  have : B32 ^ (max (D a).length (D b).length) * 2 ≤ B32 ^ (max (D a).length (D b).length) * B32 := Nat.mul_le_mul_left _ (by decide)
  omega

set_option maxHeartbeats 2000000 in
theorem pc_times : ∀ (n : Nat) (nx ny : Bool) (a b : Nat), (D a).length + (D b).length ≤ n → (D a).length < 2^36 → (D b).length < 2^36 →
    pureCall (run F) 95 [.slc nx (u32s (D a)), .slc ny (u32s (D b))] = some (.slc false (u32s (D (a * b)))) := by
  intro n
  induction n using Nat.strongRecOn with
  | ind n ih =>
    -- the longer one first
    have main : ∀ (nx ny : Bool) (a b : Nat), (D b).length ≤ (D a).length → (D a).length + (D b).length ≤ n → (D a).length < 2^36 → ∀ (X Y : AVal),
        (X = .slc nx (u32s (D a)) ∧ Y = .slc ny (u32s (D b))) ∨ ((D b).length < (D a).length ∧ Y = .slc nx (u32s (D a)) ∧ X = .slc ny (u32s (D b))) →
        pureCall (run F) 95 [X, Y] = some (.slc false (u32s (D (a * b)))) := by
      intro nx ny a b hba hn ha X Y hXY
      have hs := pc_school (F := F) nx ny (D a) (D b) (lim_D a) (lim_D b) (by omega) (by omega)
      rw [ev_D, ev_D] at hs
      refine pure_ret h.limbs_times rfl ?_
      by_cases h40 : (D b).length < 40
      · have h40' : ((D b).length : Int) < 40 := by omega
        rcases hXY with ⟨rfl, rfl⟩ | ⟨hlt, rfl, rfl⟩
        · have hlt : ¬ (D a).length < (D b).length := by omega
          simp [c_limbs_times, any_pure, hlt, h40, h40', hs]
        · simp [c_limbs_times, any_pure, hlt, h40, h40', hs]
      · -- in halves
        have hlen : (D a).length + 1 = (D a).length + 1 := rfl
        obtain ⟨k, hk⟩ : ∃ k, k = ((D a).length + 1) / 2 := ⟨_, rfl⟩
        have hkd : (((D a).length : Int) + 1).tdiv 2 = k := by rw [Int.tdiv_eq_ediv_of_nonneg (by omega)]; omega
        have hka : k ≤ (D a).length := by omega
        have hp : 0 < B32 ^ k := Nat.pow_pos (by decide)
        have hda := D_drop a k hka
        obtain ⟨_, hta⟩ := ev_drop (lim_D a) k hka
        have hT0 := pc_trim (F := F) nx ((D a).take k) (lim_take (lim_D a) k) (by simp; omega)
        rw [hta, ev_D] at hT0
        have haa : a = a % B32 ^ k + B32 ^ k * (a / B32 ^ k) := (Nat.mod_add_div a (B32 ^ k)).symm
        have hl0 : (D (a % B32 ^ k)).length ≤ k := D_len_le (Nat.mod_lt _ hp)
        have hl1 : (D (a / B32 ^ k)).length = (D a).length - k := by rw [← hda]; simp
        generalize a % B32 ^ k = a0 at *
        generalize a / B32 ^ k = a1 at *
        have hki : (k : Int) ≤ (D a).length := by omega
        by_cases hyk : (D b).length ≤ k
        · have t1 := ih ((D a0).length + (D b).length) (by omega) nx ny a0 b (Nat.le_refl _) (by omega) (by omega)
          have t2 := ih ((D a1).length + (D b).length) (by omega) nx ny a1 b (Nat.le_refl _) (by omega) (by omega)
          have l1 := D_mul_len a0 b
          have l2 := D_mul_len a1 b
          obtain ⟨r, hu⟩ := pc_up (F := F) false (a1 * b) k (by omega) (by omega)
          have l3 : (D (a1 * b * B32 ^ k)).length ≤ (D a1).length + (D b).length + k := by
            refine D_len_le ?_
            rw [Nat.pow_add]
            exact Nat.mul_lt_mul_of_pos_right (D_len_lt_pow l2) hp
          have hpl := pc_plus (F := F) false r (D (a0 * b)) (D (a1 * b * B32 ^ k)) (lim_D _) (lim_D _) (by omega) (by omega)
          rw [ev_D, ev_D] at hpl
          have he : a * b = a0 * b + a1 * b * B32 ^ k := by
            rw [haa, Nat.add_mul, Nat.mul_comm (B32 ^ k) a1, Nat.mul_assoc, Nat.mul_assoc, Nat.mul_comm (B32 ^ k) b]
          rw [he]
          have hyk' : ((D b).length : Int) ≤ k := by omega
          have h40' : ¬ ((D b).length : Int) < 40 := by omega
          rcases hXY with ⟨rfl, rfl⟩ | ⟨hlt, rfl, rfl⟩
          · have hlt : ¬ (D a).length < (D b).length := by omega
            simp (disch := omega) [c_limbs_times, any_pure, hlt, h40', hkd, wrap_i64, bounds, hka, hki, allSz_u32s, u32s_take, u32s_drop, hT0, hda, hyk', t1, t2, hu, hpl]
          · simp (disch := omega) [c_limbs_times, any_pure, hlt, h40', hkd, wrap_i64, bounds, hka, hki, allSz_u32s, u32s_take, u32s_drop, hT0, hda, hyk', t1, t2, hu, hpl]
        · have hkb : k ≤ (D b).length := by omega
          have hkbi : (k : Int) ≤ (D b).length := by omega
          have hdb := D_drop b k hkb
          obtain ⟨_, htb⟩ := ev_drop (lim_D b) k hkb
          have hS0 := pc_trim (F := F) ny ((D b).take k) (lim_take (lim_D b) k) (by simp; omega)
          rw [htb, ev_D] at hS0
          have hbb : b = b % B32 ^ k + B32 ^ k * (b / B32 ^ k) := (Nat.mod_add_div b (B32 ^ k)).symm
          have hm0 : (D (b % B32 ^ k)).length ≤ k := D_len_le (Nat.mod_lt _ hp)
          have hm1 : (D (b / B32 ^ k)).length = (D b).length - k := by rw [← hdb]; simp
          generalize b % B32 ^ k = b0 at *
          generalize b / B32 ^ k = b1 at *
          have t1 := ih ((D a0).length + (D b0).length) (by omega) nx ny a0 b0 (Nat.le_refl _) (by omega) (by omega)
          have t2 := ih ((D a1).length + (D b1).length) (by omega) nx ny a1 b1 (Nat.le_refl _) (by omega) (by omega)
          have l1 := D_mul_len a0 b0
          have l2 := D_mul_len a1 b1
          have la' := D_add_len a0 a1
          have lb' := D_add_len b0 b1
          have p1 := pc_plus (F := F) nx nx (D a0) (D a1) (lim_D _) (lim_D _) (by omega) (by omega)
          have p2 := pc_plus (F := F) ny ny (D b0) (D b1) (lim_D _) (lim_D _) (by omega) (by omega)
          rw [ev_D, ev_D] at p1 p2
          have t3 := ih ((D (a0 + a1)).length + (D (b0 + b1)).length) (by omega) false false (a0 + a1) (b0 + b1) (Nat.le_refl _) (by omega) (by omega)
          have l3 := D_mul_len (a0 + a1) (b0 + b1)
          have hexp : (a0 + a1) * (b0 + b1) = a0 * b0 + a1 * b1 + (a0 * b1 + a1 * b0) := by simp only [Nat.add_mul, Nat.mul_add]; omega
          have q1 := pc_minus (F := F) false false (D ((a0 + a1) * (b0 + b1))) (D (a0 * b0)) (lim_D _) (lim_D _) (D_len_mono (by omega)) (by rw [ev_D, ev_D]; omega) (by omega)
          rw [ev_D, ev_D] at q1
          have lq : (D ((a0 + a1) * (b0 + b1) - a0 * b0)).length ≤ (D ((a0 + a1) * (b0 + b1))).length := D_len_mono (Nat.sub_le _ _)
          have q2 := pc_minus (F := F) false false (D ((a0 + a1) * (b0 + b1) - a0 * b0)) (D (a1 * b1)) (lim_D _) (lim_D _) (D_len_mono (by omega)) (by rw [ev_D, ev_D]; omega) (by omega)
          rw [ev_D, ev_D, kara] at q2
          have lm : (D (a0 * b1 + a1 * b0)).length ≤ (D ((a0 + a1) * (b0 + b1))).length := D_len_mono (by omega)
          obtain ⟨r1, u1⟩ := pc_up (F := F) false (a0 * b1 + a1 * b0) k (by omega) (by omega)
          obtain ⟨r2, u2⟩ := pc_up (F := F) false (a1 * b1) (2 * k) (by omega) (by omega)
          have l4 : (D ((a0 * b1 + a1 * b0) * B32 ^ k)).length ≤ (D ((a0 + a1) * (b0 + b1))).length + k := by
            refine D_len_le ?_
            rw [Nat.pow_add]
            exact Nat.mul_lt_mul_of_pos_right (D_len_lt_pow lm) hp
          have l5 : (D (a1 * b1 * B32 ^ (2 * k))).length ≤ (D a1).length + (D b1).length + 2 * k := by
            refine D_len_le ?_
            rw [Nat.pow_add]
            exact Nat.mul_lt_mul_of_pos_right (D_len_lt_pow l2) (Nat.pow_pos (by decide))
          have v1 := pc_plus (F := F) false r1 (D (a0 * b0)) (D ((a0 * b1 + a1 * b0) * B32 ^ k)) (lim_D _) (lim_D _) (by omega) (by omega)
          rw [ev_D, ev_D] at v1
          have l6 := D_add_len (a0 * b0) ((a0 * b1 + a1 * b0) * B32 ^ k)
          have v2 := pc_plus (F := F) false r2 (D (a0 * b0 + (a0 * b1 + a1 * b0) * B32 ^ k)) (D (a1 * b1 * B32 ^ (2 * k))) (lim_D _) (lim_D _) (by omega) (by omega)
          rw [ev_D, ev_D] at v2
          have he : a * b = a0 * b0 + (a0 * b1 + a1 * b0) * B32 ^ k + a1 * b1 * B32 ^ (2 * k) := by
            rw [haa, hbb, show 2 * k = k + k from by omega, Nat.pow_add]
            generalize B32 ^ k = p
            simp only [Nat.add_mul, Nat.mul_add, Nat.mul_assoc, Nat.mul_comm, Nat.mul_left_comm]
            omega
          rw [he]
          have hyk' : ¬ ((D b).length : Int) ≤ k := by omega
          have h40' : ¬ ((D b).length : Int) < 40 := by omega
          have hu2 : ((2 * k : Nat) : Int) = 2 * (k : Int) := by omega
          rw [hu2] at u2
          rcases hXY with ⟨rfl, rfl⟩ | ⟨hlt, rfl, rfl⟩
          · have hlt : ¬ (D a).length < (D b).length := by omega
            simp (disch := omega) [c_limbs_times, any_pure, hlt, h40', hkd, wrap_i64, bounds, hka, hki, hkb, hkbi, allSz_u32s, u32s_take, u32s_drop, hT0, hda, hS0, hdb, hyk', t1, t2, t3, p1, p2, q1, q2, u1, u2, v1, v2]
          · simp (disch := omega) [c_limbs_times, any_pure, hlt, h40', hkd, wrap_i64, bounds, hka, hki, hkb, hkbi, allSz_u32s, u32s_take, u32s_drop, hT0, hda, hS0, hdb, hyk', t1, t2, t3, p1, p2, q1, q2, u1, u2, v1, v2]
    intro nx ny a b hn ha hb
    rcases Nat.lt_or_ge (D a).length (D b).length with hlt | hge
    · rw [Nat.mul_comm]
      exact main ny nx b a (by omega) (by omega) hb _ _ (.inr ⟨hlt, rfl, rfl⟩)
    · exact main nx ny a b hge hn ha _ _ (.inl ⟨rfl, rfl⟩)
end Go.Ash
/- Package limbs: Mul, Of; integers in any form. -/
namespace Go.Ash
variable {F : Nat → Option RFunc} [h : CodeLimbs F]

theorem iv_ne {s : Bool} {n : Nat} (h : n ≠ 0) : IV (sgn s n) = .agg [.bool s, .slc false (u32s (D n))] := by
  cases s <;> simp [IV, sgn, h] <;> omega

theorem tree_agg_at {H : Heap} {id esz : Nat} {fz b : Bool} {l : List Nat} (h : H.at id = some ⟨fz, esz, u32s l⟩) : treeL H fuelTree [.agg [.bool b, .mslc id 0 l.length]] =
    some ([.agg [.bool b, .slc false (u32s l)]], [id]) := by
  have h1 : AVal.tree H 36 (.mslc id 0 l.length) = some (.slc false (u32s l), [id]) := by
    simp only [AVal.tree, h, length_u32s, Nat.zero_add, Nat.le_refl, if_true, List.drop_zero, u32s_take, List.take_length, treeL_free (n := 34) (idsL_u32s _), Option.map_some]
  have h2 : treeL H 37 [.mslc id 0 l.length] = some ([.slc false (u32s l)], [id]) := by
    rw [treeL_cons (by simp), h1]; rfl
  have h3 : treeL H 38 [.bool b, .mslc id 0 l.length] = some ([.bool b, .slc false (u32s l)], [id]) := by
    rw [treeL_cons (by simp), h2]; rfl
  have h4 : AVal.tree H 39 (.agg [.bool b, .mslc id 0 l.length]) = some (.agg [.bool b, .slc false (u32s l)], [id]) := by
    simp only [AVal.tree, h3, Option.map_some]
  unfold fuelTree
  rw [treeL_cons (by simp), h4]
  rfl

/-- Mul, with its block. -/
theorem run_mul (na n1 nb n2 : Bool) (la lb : List Nat) (hla : Lim la) (hlb : Lim lb) (h1 : la.length < 2^36) (h2 : lb.length < 2^36) : ∃ s : Bool, sgn na (ev la) * sgn nb (ev lb) = sgn s (ev la * ev lb) ∧
    run F 38 [.agg [.bool na, .slc n1 (u32s la)], .agg [.bool nb, .slc n2 (u32s lb)]] [] = if ev la * ev lb = 0 then some (.agg [.bool false, .slc true []], [])
      else some (.agg [.bool s, .mslc 0 0 (D (ev la * ev lb)).length], [some ⟨false, 1, u32s (D (ev la * ev lb))⟩]) := by
  have hm1 := pc_mag (F := F) na n1 la hla (by omega)
  have hm2 := pc_mag (F := F) nb n2 lb hlb (by omega)
  have hn1 := pc_neg (F := F) na n1 la hla (by omega)
  have hn2 := pc_neg (F := F) nb n2 lb hlb (by omega)
  have hla' := len_D_ev hla
  have hlb' := len_D_ev hlb
  have ht := pc_times (F := F) _ n1 n2 (ev la) (ev lb) (Nat.le_refl _) (by omega) (by omega)
  have hl := D_mul_len (ev la) (ev lb)
  have hd := fun s => run_made (F := F) s false (D (ev la * ev lb)) (lim_D _) (by omega)
  simp only [ev_D] at hd
  have e1 : sgn na (ev la) = sgn (na && decide (ev la ≠ 0)) (ev la) := by cases na <;> by_cases h0 : ev la = 0 <;> simp [sgn, h0]
  have e2 : sgn nb (ev lb) = sgn (nb && decide (ev lb ≠ 0)) (ev lb) := by cases nb <;> by_cases h0 : ev lb = 0 <;> simp [sgn, h0]
  rw [e1, e2]
  generalize (na && decide (ev la ≠ 0)) = s at *
  generalize (nb && decide (ev lb ≠ 0)) = t at *
  refine ⟨s != t, by cases s <;> cases t <;> simp [sgn, Int.neg_mul, Int.mul_neg], ?_⟩
  generalize ev la * ev lb = p at *
  rw [run_eq h.limbs_Mul rfl]
  by_cases h0 : p = 0
  · have hr : ∀ s H, rawCall (run F) 89 [.bool s, .slc false (u32s (D p))] H = some (.agg [.bool false, .slc true []], H) := fun s H => by
      have := raw_tree (H := H) (by simp) ((hd s).trans (if_pos h0))
      simpa using this
    rw [if_pos h0]
    cases s <;> cases t <;> simp [c_limbs_Mul, any_pure, any_raw, hm1, hm2, hn1, hn2, ht, hr, putElem, putAgg] <;> exact leave_plain rfl rfl
  · have hr : ∀ s H, rawCall (run F) 89 [.bool s, .slc false (u32s (D p))] H = some (.agg [.bool s, .mslc H.length 0 (D p).length], H ++ [some ⟨false, 1, u32s (D p)⟩]) := fun s H => by
      have := raw_tree (H := H) (by simp) ((hd s).trans (if_neg h0))
      simpa [Blk.ren, renL_self] using this
    rw [if_neg h0]
    cases s <;> cases t <;> simp [c_limbs_Mul, any_pure, any_raw, hm1, hm2, hn1, hn2, ht, hr, putElem, putAgg] <;> exact leave_cell rfl rfl

theorem pc_mul (na n1 nb n2 : Bool) (la lb : List Nat) (hla : Lim la) (hlb : Lim lb) (h1 : la.length < 2^36) (h2 : lb.length < 2^36) :
    pureCall (run F) 38 [.agg [.bool na, .slc n1 (u32s la)], .agg [.bool nb, .slc n2 (u32s lb)]] = some (IV (sgn na (ev la) * sgn nb (ev lb))) := by
  obtain ⟨s, e, hr⟩ := run_mul (F := F) na n1 nb n2 la lb hla hlb h1 h2
  rw [e]
  unfold pureCall
  rw [hr]
  by_cases h0 : ev la * ev lb = 0
  · rw [if_pos h0, h0]
    cases s <;> simp [sgn, IV, treeL_free, fuelTree]
  · rw [if_neg h0, iv_ne h0]
    simp only [Option.bind_some]
    rw [tree_agg_at (H := [some ⟨false, 1, u32s (D (ev la * ev lb))⟩]) (id := 0) rfl]
    rfl

/-- An integer in some form. -/
def IsI (v : AVal) (z : Int) (n : Nat) : Prop := ∃ neg r l, v = .agg [.bool neg, .slc r (u32s l)] ∧ Lim l ∧ l.length ≤ n ∧ sgn neg (ev l) = z

theorem isI_IV {z : Int} {n : Nat} (hz : z.natAbs < B32 ^ n) : IsI (IV z) z n := by
  refine ⟨_, _, _, rfl, lim_D _, D_len_le hz, ?_⟩
  rw [ev_D]
  unfold sgn
  by_cases h : z < 0 <;> simp [h] <;> omega

theorem isI_lt {v : AVal} {z : Int} {n : Nat} (hv : IsI v z n) : z.natAbs < B32 ^ n := by
  obtain ⟨neg, r, l, _, hl, hn, rfl⟩ := hv
  rw [sgn_abs]
  exact Nat.lt_of_lt_of_le (ev_lt hl) (Nat.pow_le_pow_right (by decide) hn)

theorem add_is {a b : AVal} {x y : Int} {m n : Nat} (ha : IsI a x m) (hb : IsI b y n) (hm : m < 2^36) (hn : n < 2^36) : pureCall (run F) 43 [a, b] = some (IV (x + y)) := by
  obtain ⟨na, ra, la, rfl, hla, hlen, rfl⟩ := ha
  obtain ⟨nb, rb, lb, rfl, hlb, hlenb, rfl⟩ := hb
  exact pc_add na ra nb rb la lb hla hlb (by omega) (by omega)

theorem sub_is {a b : AVal} {x y : Int} {m n : Nat} (ha : IsI a x m) (hb : IsI b y n) (hm : m < 2^36) (hn : n < 2^36) : pureCall (run F) 46 [a, b] = some (IV (x - y)) := by
  obtain ⟨na, ra, la, rfl, hla, hlen, rfl⟩ := ha
  obtain ⟨nb, rb, lb, rfl, hlb, hlenb, rfl⟩ := hb
  exact pc_sub na ra nb rb la lb hla hlb (by omega) (by omega)

theorem mul_is {a b : AVal} {x y : Int} {m n : Nat} (ha : IsI a x m) (hb : IsI b y n) (hm : m < 2^36) (hn : n < 2^36) : pureCall (run F) 38 [a, b] = some (IV (x * y)) := by
  obtain ⟨na, ra, la, rfl, hla, hlen, rfl⟩ := ha
  obtain ⟨nb, rb, lb, rfl, hlb, hlenb, rfl⟩ := hb
  exact pc_mul na ra nb rb la lb hla hlb (by omega) (by omega)

theorem isI_mul {x y : Int} {m n : Nat} (hx : x.natAbs < B32 ^ m) (hy : y.natAbs < B32 ^ n) : IsI (IV (x * y)) (x * y) (m + n) := by
  refine isI_IV ?_
  rw [Int.natAbs_mul, Nat.pow_add]
  exact Nat.mul_lt_mul'' hx hy

theorem isI_add {x y : Int} {m : Nat} (hx : x.natAbs < B32 ^ m) (hy : y.natAbs < B32 ^ m) : IsI (IV (x + y)) (x + y) (m + 1) := by
  refine isI_IV ?_
  rw [Nat.pow_succ]
  have : B32 ^ m * 2 ≤ B32 ^ m * B32 := Nat.mul_le_mul_left _ (by decide)
  omega

theorem hand_two {x : Option Blk} {fz b : Bool} {esz n : Nat} {l : List Nat} (hn : n ≤ l.length) : handOn [.bool b, .mslc 1 0 n] [x, some ⟨fz, esz, u32s l⟩] =
    some ([.bool b, .slc false (u32s (l.take n))], [x, some ⟨true, esz, u32s l⟩]) := by
  have h1 : AVal.tree [x, some ⟨fz, esz, u32s l⟩] 38 (.mslc 1 0 n) = some (.slc false (u32s (l.take n)), [1]) := by
    simp only [AVal.tree, Heap.at, length_u32s, Nat.zero_add, hn, if_true, List.drop_zero, u32s_take, treeL_free (n := 36) (idsL_u32s _), Option.map_some]
  have h2 : treeL [x, some ⟨fz, esz, u32s l⟩] 39 [.mslc 1 0 n] = some ([.slc false (u32s (l.take n))], [1]) := by
    rw [treeL_cons (by simp), h1]; rfl
  have h3 : treeL [x, some ⟨fz, esz, u32s l⟩] fuelTree [.bool b, .mslc 1 0 n] = some ([.bool b, .slc false (u32s (l.take n))], [1]) := by
    unfold fuelTree
    rw [treeL_cons (by simp), h2]; rfl
  simp only [handOn, h3, Option.map_some, idsL, AVal.ids, List.append_nil, List.nil_append, List.cons_ne_nil, if_false]
  rfl

theorem hand_two2 {x : Option Blk} {fz b : Bool} {esz p q : Nat} : handOn [.bool b, .mslc 1 0 2] [x, some ⟨fz, esz, u32s [p, q]⟩] =
    some ([.bool b, .slc false (u32s [p, q])], [x, some ⟨true, esz, u32s [p, q]⟩]) := hand_two (l := [p, q]) (n := 2) (by simp)

theorem u32s_two {p q : Int} (hp : 0 ≤ p) (hq : 0 ≤ q) : [AVal.int .u32 p, AVal.int .u32 q] = u32s [p.toNat, q.toNat] := by
  simp [u32s, Int.toNat_of_nonneg hp, Int.toNat_of_nonneg hq]

theorem place_two (x y a b : Nat) : placeAll (u32s [x, y]) [0, 1] (u32s [a, b]) = some (u32s [a, b]) := rfl

theorem pc_of (n : Int) (h1 : -9223372036854775808 ≤ n) (h2 : n < 9223372036854775808) : pureCall (run F) 32 [.int .i64 n] = some (IV n) := by
  have key : ∀ (p q : Int), 0 ≤ p → p < 4294967296 → 0 ≤ q → q < 4294967296 → p + 4294967296 * q = n.natAbs → pureCall (run F) 89 [.bool (decide (n < 0)), .slc false (u32s [p.toNat, q.toNat])] = some (IV n) := by
    intro p q hp hp' hq hq' he
    have hl : Lim [p.toNat, q.toNat] := by
      intro x hx
      simp only [List.mem_cons, List.not_mem_nil, or_false] at hx
      show x < 4294967296
      rcases hx with rfl | rfl <;> omega
    have := pc_made (F := F) (decide (n < 0)) false [p.toNat, q.toNat] hl (by simp)
    have hev : ev [p.toNat, q.toNat] = n.natAbs := by
      show p.toNat + 4294967296 * (q.toNat + 4294967296 * 0) = n.natAbs
      omega
    rw [hev] at this
    have hs : sgn (decide (n < 0)) n.natAbs = n := by
      unfold sgn
      by_cases h : n < 0 <;> simp [h] <;> omega
    rwa [hs] at this
  refine pure_ret h.limbs_Of rfl ?_
  by_cases hn : n < 0
  · have e1 : (-(n % 18446744073709551616)) % 18446744073709551616 = -n := by omega
    have hk := key (-n % 4294967296) (-n / 4294967296 % 4294967296) (by omega) (by omega) (by omega) (by omega) (by omega)
    simp only [hn, decide_true] at hk
    simp (disch := omega) [c_limbs_Of, hn, wrap_u64', wrap_u32', e1, good_u32s, place_two, u32s_two, any_pure, hand_two2, hk, IV, putElem, putAgg]
  · have e1 : n % 18446744073709551616 = n := by omega
    have hk := key (n % 4294967296) (n / 4294967296 % 4294967296) (by omega) (by omega) (by omega) (by omega) (by omega)
    simp only [hn, decide_false] at hk
    simp (disch := omega) [c_limbs_Of, hn, wrap_u64', wrap_u32', e1, good_u32s, place_two, u32s_two, any_pure, hand_two2, hk, IV, putElem, putAgg]
end Go.Ash
/- Package limbs: small. -/
namespace Go.Ash
variable {F : Nat → Option RFunc} [h : CodeLimbs F]

theorem or_u64 {r b : Nat} (hr : r < 4294967296) (hb : b < 4294967296) : intBitsA .or .u64 (((r * 4294967296 : Nat) : Int)) (b : Int) = some (.int .u64 (((r * 4294967296 + b : Nat) : Int))) := by
  have h1 : (BitVec.ofInt 64 (((r * 4294967296 : Nat) : Int)) ||| BitVec.ofInt 64 (b : Int)).toNat = r * 4294967296 + b := by
    rw [BitVec.ofInt_natCast, BitVec.ofInt_natCast, BitVec.toNat_or, BitVec.toNat_ofNat, BitVec.toNat_ofNat, Nat.mod_eq_of_lt (by omega), Nat.mod_eq_of_lt (by omega)]
    have := Nat.two_pow_add_eq_or_of_lt (i := 32) (b := b) (by omega) r
    rw [Nat.mul_comm r]
    exact this.symm
  show some (AVal.int .u64 (IntKind.u64.wrap (((BitVec.ofInt 64 (((r * 4294967296 : Nat) : Int)) ||| BitVec.ofInt 64 (b : Int)).toNat : Nat) : Int))) = _
  rw [h1, wrap_u64 (by omega) (by omega)]

theorem or_u64' {r b : Nat} (hr : r < 4294967296) (hb : b < 4294967296) : intA .or .u64 ((r : Int) * 4294967296) (b : Int) = some (.int .u64 (((r * 4294967296 + b : Nat) : Int))) := by
  have := or_u64 hr hb
  rw [Int.natCast_mul] at this
  exact this

theorem tdiv_nat (a b : Nat) : (a : Int).tdiv b = ((a / b : Nat) : Int) := (Int.ofNat_tdiv _ _).symm
theorem tmod_nat (a b : Nat) : (a : Int).tmod b = ((a % b : Nat) : Int) := (Int.ofNat_tmod _ _).symm

theorem set_u32n (l : List Nat) (k v : Nat) : (u32s l).set k (.int .u32 (v : Int)) = u32s (l.set k v) := u32s_set l k v

theorem drop_set_succ {l : List Nat} {i v : Nat} (hi : i < l.length) : (l.set i v).drop i = v :: l.drop (i + 1) := by
  rw [List.drop_eq_getElem_cons (by simpa using hi), List.drop_set_of_lt (by omega)]; simp

theorem small_loop (nx : Bool) (x : List Nat) (d : Nat) (hx : Lim x) (hd : 0 < d) (hdB : d < 4294967296) (hlen : x.length < 2^40) :
    ∃ e st, (∀ env, exec F l_limbs_small_0 ⟨[.slc nx (u32s x), .int .u32 d, .slc true [], .int .u32 0, .mslc 0 0 x.length, .int .u64 0, .int .i64 ((x.length : Int) - 1)], env, [some ⟨false, 1, u32s (List.replicate x.length 0)⟩], 0⟩ = some (e, st)) ∧
      (e = .exit 0 ∧ ∃ out r, st = ⟨[.slc nx (u32s x), .int .u32 d, .und, .und, .mslc 0 0 x.length, .int .u64 (r : Nat), .int .i64 (-1)], [], [some ⟨false, 1, u32s out⟩], 0⟩ ∧
        out.length = x.length ∧ Lim out ∧ r < d ∧ ev x = d * ev out + r) := by
  refine loop_rule
    (fun n st => ∃ (out : List Nat) (r : Nat), st = ⟨[.slc nx (u32s x), .int .u32 d, .und, .und, .mslc 0 0 x.length, .int .u64 r, .int .i64 ((n : Int) - 1)], [], [some ⟨false, 1, u32s out⟩], 0⟩ ∧
      n ≤ x.length ∧ out.length = x.length ∧ Lim out ∧ r < d ∧ ev (x.drop n) = d * ev (out.drop n) + r) _ x.length _ ?_
    (tidy_one (by simp) (by simp)) ⟨_, 0, rfl, Nat.le_refl _, by simp, lim_replicate _, hd, by simp [ev]⟩
  rintro n st ⟨out, r, rfl, hn, hout, hlim, hr, hev⟩
  rcases Nat.eq_zero_or_pos n with rfl | hpos
  · refine .out (.exit 0) _ (by simp) ⟨rfl, out, r, rfl, hout, hlim, hr, by simpa using hev⟩ ?_
    simp [after]
  · obtain ⟨n, rfl⟩ : ∃ k, n = k + 1 := ⟨n - 1, by omega⟩
    have hidx : ((n + 1 : Nat) : Int) - 1 = n := by omega
    have hnx : n < x.length := hn
    have hxn := hx.get hnx
    have hno : n < out.length := by omega
    have hM : r * 4294967296 + x[n] < 18446744073709551616 := by omega
    have hq : (r * 4294967296 + x[n]) / d < 4294967296 := by
      rw [Nat.div_lt_iff_lt_mul hd]
      have : (r + 1) * 4294967296 ≤ d * 4294967296 := Nat.mul_le_mul_right _ hr
      omega
    have hr2 : (r * 4294967296 + x[n]) % d < d := Nat.mod_lt _ hd
    have hdm := Nat.div_add_mod (r * 4294967296 + x[n]) d
    have hor := or_u64' (r := r) (b := x[n]) (by omega) hxn
    rw [hidx]
    have hd0 : ¬ d = 0 := by omega
    generalize hMM : r * 4294967296 + x[n] = M at *
    have htd := tdiv_nat M d
    have htm := tmod_nat M d
    generalize hQQ : M / d = q at *
    generalize hRR : M % d = m at *
    refine .more n _ (Nat.lt_succ_self _) ⟨out.set n q, m, rfl, by omega, by simpa using hout, lim_set hlim (by omega), hr2, ?_⟩ ?_
    · rw [drop_set_succ hno, drop_ev hnx, hev]
      simp only [ev]
      have e1 : B32 * (d * ev (out.drop (n + 1))) = d * (B32 * ev (out.drop (n + 1))) := Nat.mul_left_comm _ _ _
      have e2 : B32 * r = r * 4294967296 := Nat.mul_comm _ _
      rw [Nat.mul_add, Nat.mul_add, e1, e2]
      omega
    · simp (disch := first | omega | simp) [after, tidy_one, hnx, wrap_u64, wrap_u32, wrap_i64, get?_u32s, set_u32n, putElem, putOne, hor, hd0, htd, htm]

theorem pc_small (nl : Bool) (x : List Nat) (d : Nat) (hx : Lim x) (hd : 0 < d) (hdB : d < 4294967296) (hlen : x.length < 2^39) :
    pureCall (run F) 96 [.slc nl (u32s x), .int .u32 d] = some (.tup [.slc false (u32s (D (ev x / d))), .int .u32 (ev x % d : Nat)]) := by
  obtain ⟨e, st, he, rfl, out, r, rfl, ho, hl, hr, hev⟩ := small_loop (F := F) nl x d hx hd hdB (by omega)
  have h1 : ev x / d = ev out := by rw [hev, Nat.mul_add_div hd, Nat.div_eq_of_lt hr, Nat.add_zero]
  have h2 : ev x % d = r := by rw [hev, Nat.mul_add_mod, Nat.mod_eq_of_lt hr]
  have ht := pc_trim (F := F) false out hl (by omega)
  have hto : out.take x.length = out := List.take_of_length_le (by omega)
  have m2 : (x.length : Int) * 4 ≤ 70368744177664 := by omega
  have m3 : (x.length : Int) ≤ 70368744177664 := by omega
  rw [h1, h2]
  refine pure_ret h.limbs_small rfl ?_
  simp (disch := omega) [c_limbs_small, wrap_i64, u32s_replicate, maxB, m2, m3, he, any_pure, hand_u32, hto, ht, wrap_u32]
end Go.Ash
/- How many bits a number has. -/
namespace Go.Ash

def bl (n : Nat) : Nat := if n = 0 then 0 else n.log2 + 1

theorem bl_le {n k : Nat} : bl n ≤ k ↔ n < 2 ^ k := by
  unfold bl
  by_cases h : n = 0
  · subst h; simp [Nat.two_pow_pos]
  · rw [if_neg h, Nat.succ_le_iff, Nat.log2_lt h]

theorem bl_eq {a b : Nat} (h : ∀ k, a ≤ k ↔ b ≤ k) : a = b := Nat.le_antisymm ((h b).2 (Nat.le_refl _)) ((h a).1 (Nat.le_refl _))

theorem bl_shift {n k : Nat} (h : 2 ^ k ≤ n) : bl n = bl (n / 2 ^ k) + k := by
  refine bl_eq fun j => ?_
  rw [bl_le]
  rcases Nat.lt_or_ge j k with hj | hj
  · have : 2 ^ j < 2 ^ k := Nat.pow_lt_pow_right (by decide) hj
    omega
  · obtain ⟨i, rfl⟩ : ∃ i, j = k + i := ⟨j - k, by omega⟩
    have h1 : bl (n / 2 ^ k) + k ≤ k + i ↔ bl (n / 2 ^ k) ≤ i := by omega
    rw [h1, bl_le, Nat.div_lt_iff_lt_mul (Nat.two_pow_pos k), Nat.pow_add, Nat.mul_comm]

@[simp] theorem bl_zero : bl 0 = 0 := rfl
theorem bl_pos {n : Nat} (h : n ≠ 0) : 0 < bl n := by unfold bl; rw [if_neg h]; omega
theorem bl_mono {a b : Nat} (h : a ≤ b) : bl a ≤ bl b := bl_le.2 (Nat.lt_of_le_of_lt h (bl_le.1 (Nat.le_refl _)))
theorem lt_bl {n k : Nat} : k < bl n ↔ 2 ^ k ≤ n := by
  have := bl_le (n := n) (k := k)
  omega

theorem div_of_eq {n p q r : Nat} (h : n = r + p * q) (hr : r < p) : n / p = q := by
  rw [h, Nat.add_mul_div_left _ _ (by omega), Nat.div_eq_of_lt hr, Nat.zero_add]

theorem last_div {n : Nat} (h : n ≠ 0) : ∃ hl : (D n).length - 1 < (D n).length, (D n)[(D n).length - 1] = n / B32 ^ ((D n).length - 1) ∧ (D n)[(D n).length - 1] ≠ 0 := by
  have hne : D n ≠ [] := by simpa using h
  have hpos : 0 < (D n).length := List.length_pos_iff.2 hne
  refine ⟨by omega, ?_⟩
  have h1 := ev_take_succ (l := D n) (i := (D n).length - 1) (by omega)
  rw [Nat.sub_add_cancel hpos, List.take_length, ev_D] at h1
  have h2 := ev_lt (lim_take (lim_D n) ((D n).length - 1))
  rw [List.length_take, Nat.min_eq_left (by omega)] at h2
  have h3 := div_of_eq h1 h2
  refine ⟨h3.symm, ?_⟩
  intro h0
  rw [h0] at h1
  have h4 : n < B32 ^ ((D n).length - 1) := by omega
  have := D_len_le h4
  omega

theorem B32_pow (k : Nat) : B32 ^ k = 2 ^ (32 * k) := by rw [Nat.pow_mul]

theorem bl_D {n : Nat} (h : n ≠ 0) : ∃ hl : (D n).length - 1 < (D n).length, bl n = 32 * ((D n).length - 1) + bl (D n)[(D n).length - 1] := by
  obtain ⟨hl, h1, h2⟩ := last_div h
  refine ⟨hl, ?_⟩
  rw [h1, B32_pow, bl_shift (k := 32 * ((D n).length - 1)), Nat.add_comm]
  rw [h1, B32_pow] at h2
  exact Nat.le_of_not_lt (fun h3 => h2 (Nat.div_eq_of_lt h3))

def bitsTab : ByteArray := ⟨#[0, 1, 2, 2, 3, 3, 3, 3, 4, 4, 4, 4, 4, 4, 4, 4, 5, 5, 5, 5, 5, 5, 5, 5, 5, 5, 5, 5, 5, 5, 5, 5, 6, 6, 6, 6, 6, 6, 6, 6, 6, 6, 6, 6, 6, 6, 6, 6, 6, 6, 6, 6, 6, 6, 6, 6, 6, 6, 6, 6, 6, 6, 6, 6, 7, 7, 7, 7, 7, 7, 7, 7, 7, 7, 7, 7, 7, 7, 7, 7, 7, 7, 7, 7, 7, 7, 7, 7, 7, 7, 7, 7, 7, 7, 7, 7, 7, 7, 7, 7, 7, 7, 7, 7, 7, 7, 7, 7, 7, 7, 7, 7, 7, 7, 7, 7, 7, 7, 7, 7, 7, 7, 7, 7, 7, 7, 7, 7, 8, 8, 8, 8, 8, 8, 8, 8, 8, 8, 8, 8, 8, 8, 8, 8, 8, 8, 8, 8, 8, 8, 8, 8, 8, 8, 8, 8, 8, 8, 8, 8, 8, 8, 8, 8, 8, 8, 8, 8, 8, 8, 8, 8, 8, 8, 8, 8, 8, 8, 8, 8, 8, 8, 8, 8, 8, 8, 8, 8, 8, 8, 8, 8, 8, 8, 8, 8, 8, 8, 8, 8, 8, 8, 8, 8, 8, 8, 8, 8, 8, 8, 8, 8, 8, 8, 8, 8, 8, 8, 8, 8, 8, 8, 8, 8, 8, 8, 8, 8, 8, 8, 8, 8, 8, 8, 8, 8, 8, 8, 8, 8, 8, 8, 8, 8, 8, 8, 8, 8, 8, 8, 8, 8, 8, 8, 8, 8]⟩

theorem tab_fin : ∀ i : Fin 256, (bitsTab.data.getD i.1 0).toNat = bl i.1 := by decide +kernel
theorem tab_bl {i : Nat} (h : i < 256) : (bitsTab.data.getD i 0).toNat = bl i := tab_fin ⟨i, h⟩
theorem tab_size : bitsTab.size = 256 := by decide +kernel
end Go.Ash
/- Package limbs: Neg, Cmp, Bits, Mod, Small; package bits. -/
namespace Go.Ash
variable {F : Nat → Option RFunc} [h : CodeLimbs F]

theorem fdiv_nat (x k : Nat) : (x : Int).fdiv (k : Int) = ((x / k : Nat) : Int) := by
  rw [Int.fdiv_eq_ediv_of_nonneg _ (Int.natCast_nonneg _)]; rfl
theorem fdiv_16 (x : Nat) : (x : Int).fdiv 65536 = ((x / 65536 : Nat) : Int) := fdiv_nat x 65536
theorem fdiv_8 (x : Nat) : (x : Int).fdiv 256 = ((x / 256 : Nat) : Int) := fdiv_nat x 256
theorem fdiv_32n (x : Nat) : (x : Int).fdiv 4294967296 = ((x / 4294967296 : Nat) : Int) := fdiv_nat x 4294967296
theorem wrap_u8n {n : Nat} (h : n < 256) : IntKind.u8.wrap (n : Int) = n := by
  simp only [IntKind.wrap, IntKind.bits, IntKind.signed]; simp; omega

theorem tab_bl' {i : Nat} (h : i < 256) : (bitsTab.data[i]?.getD 0).toNat = bl i := by rw [← tab_bl h]; simp

theorem bl8 {i : Nat} (h : i < 256) : bl i ≤ 8 := bl_le.2 h

theorem pc_len32 (n : Nat) (hn : n < 4294967296) : pureCall (run F) 99 [.int .u32 n] = some (.int .i64 (bl n : Nat)) := by
  have hs := tab_size
  refine pure_ret h.bits_Len32 rfl ?_
  unfold c_bits_Len32
  rw [show (ByteArray.mk _ : ByteArray) = bitsTab from rfl]
  by_cases h1 : 65536 ≤ n
  · have e1 := bl_shift (n := n) (k := 16) h1
    rw [show n / 2 ^ 16 = n / 65536 from rfl] at e1
    have hn2 : n / 65536 < 65536 := by omega
    have f1 := fdiv_16 n
    generalize n / 65536 = m at *
    by_cases h2 : 256 ≤ m
    · have e2 := bl_shift (n := m) (k := 8) h2
      rw [show m / 2 ^ 8 = m / 256 from rfl] at e2
      have hm2 : m / 256 < 256 := by omega
      have f2 := fdiv_8 m
      generalize m / 256 = k at *
      have hb := bl8 hm2
      rw [e1, e2]
      simp (disch := omega) [if_pos, f1, f2, hs, wrap_i64, wrap_u32, wrap_u8n, tab_bl']
      omega
    · have hb := bl8 (i := m) (by omega)
      rw [e1]
      simp (disch := omega) [if_pos, if_neg, f1, hs, wrap_i64, wrap_u32, wrap_u8n, tab_bl']
      omega
  · by_cases h2 : 256 ≤ n
    · have e2 := bl_shift (n := n) (k := 8) h2
      rw [show n / 2 ^ 8 = n / 256 from rfl] at e2
      have hm2 : n / 256 < 256 := by omega
      have f2 := fdiv_8 n
      generalize n / 256 = k at *
      have hb := bl8 hm2
      rw [e2]
      simp (disch := omega) [if_pos, if_neg, f2, hs, wrap_i64, wrap_u32, wrap_u8n, tab_bl']
      omega
    · have hb := bl8 (i := n) (by omega)
      simp (disch := omega) [if_pos, if_neg, hs, wrap_i64, wrap_u32, wrap_u8n, tab_bl']

theorem pc_lz32 (n : Nat) (hn : n < 4294967296) : pureCall (run F) 108 [.int .u32 n] = some (.int .i64 (32 - bl n : Nat)) := by
  have h1 := pc_len32 (F := F) n hn
  have h2 : bl n ≤ 32 := bl_le.2 hn
  refine pure_ret h.bits_LeadingZeros32 rfl ?_
  simp (disch := omega) [c_bits_LeadingZeros32, any_pure, h1, wrap_i64]
  omega

theorem bl_over16 {n : Nat} (h : 65536 ≤ n) : bl n = bl (n / 65536) + 16 := bl_shift (k := 16) h
theorem bl_over8 {n : Nat} (h : 256 ≤ n) : bl n = bl (n / 256) + 8 := bl_shift (k := 8) h
theorem bl_over32 {n : Nat} (h : 4294967296 ≤ n) : bl n = bl (n / 4294967296) + 32 := bl_shift (k := 32) h

theorem len64_last (m c : Nat) (hm : m < 256) (hc : c ≤ 56) : IntKind.i64.wrap ((c : Int) + IntKind.i64.wrap ((bitsTab.data[m]?.getD 0).toNat : Int)) = ((bl m + c : Nat) : Int) := by
  have := bl8 hm
  rw [tab_bl' hm, wrap_i64 (n := (bl m : Int)) (by omega) (by omega), wrap_i64 (by omega) (by omega)]
  omega

theorem pc_len64 (n : Nat) (hn : n < 18446744073709551616) : pureCall (run F) 117 [.int .u64 n] = some (.int .i64 (bl n : Nat)) := by
  have hs := tab_size
  refine pure_ret h.bits_Len64 rfl ?_
  unfold c_bits_Len64
  rw [show (ByteArray.mk _ : ByteArray) = bitsTab from rfl]
  have f8 := fdiv_8
  have f16 := fdiv_16
  have f32 := fdiv_32n
  by_cases h1 : 4294967296 ≤ n
  · rw [bl_over32 h1]
    have g1 : n / 4294967296 < 4294967296 := by omega
    have f1 := f32 n
    generalize n / 4294967296 = m at *
    by_cases h2 : 65536 ≤ m
    · rw [bl_over16 h2]
      have g2 : m / 65536 < 65536 := by omega
      have f2 := f16 m
      generalize m / 65536 = k at *
      by_cases h3 : 256 ≤ k
      · rw [bl_over8 h3]
        have g3 : k / 256 < 256 := by omega
        have f3 := f8 k
        generalize k / 256 = j at *
        have hb := bl8 g3
        simp (disch := omega) [if_pos, if_neg, f1, f2, f3, hs, wrap_i64, wrap_u64, wrap_u8n, tab_bl']
        omega
      · have hb := bl8 (i := k) (by omega)
        simp (disch := omega) [if_pos, if_neg, f1, f2, hs, wrap_i64, wrap_u64, wrap_u8n, tab_bl']
        omega
    · by_cases h3 : 256 ≤ m
      · rw [bl_over8 h3]
        have g3 : m / 256 < 256 := by omega
        have f3 := f8 m
        generalize m / 256 = j at *
        have hb := bl8 g3
        simp (disch := omega) [if_pos, if_neg, f1, f3, hs, wrap_i64, wrap_u64, wrap_u8n, tab_bl']
        omega
      · have hb := bl8 (i := m) (by omega)
        simp (disch := omega) [if_pos, if_neg, f1, hs, wrap_i64, wrap_u64, wrap_u8n, tab_bl']
        omega
  · by_cases h2 : 65536 ≤ n
    · rw [bl_over16 h2]
      have g2 : n / 65536 < 65536 := by omega
      have f2 := f16 n
      generalize n / 65536 = k at *
      by_cases h3 : 256 ≤ k
      · rw [bl_over8 h3]
        have g3 : k / 256 < 256 := by omega
        have f3 := f8 k
        generalize k / 256 = j at *
        have hb := bl8 g3
        simp (disch := omega) [if_pos, if_neg, f2, f3, hs, wrap_i64, wrap_u64, wrap_u8n, tab_bl']
        omega
      · have hb := bl8 (i := k) (by omega)
        simp (disch := omega) [if_pos, if_neg, f2, hs, wrap_i64, wrap_u64, wrap_u8n, tab_bl']
        omega
    · by_cases h3 : 256 ≤ n
      · rw [bl_over8 h3]
        have g3 : n / 256 < 256 := by omega
        have f3 := f8 n
        generalize n / 256 = j at *
        have hb := bl8 g3
        simp (disch := omega) [if_pos, if_neg, f3, hs, wrap_i64, wrap_u64, wrap_u8n, tab_bl']
        omega
      · have hb := bl8 (i := n) (by omega)
        simp (disch := omega) [if_pos, if_neg, hs, wrap_i64, wrap_u64, wrap_u8n, tab_bl']

theorem pc_len (n : Nat) (hn : n < 18446744073709551616) : pureCall (run F) 102 [.int .u64 n] = some (.int .i64 (bl n : Nat)) := by
  have h1 := pc_len64 (F := F) n hn
  refine pure_ret h.bits_Len rfl ?_
  simp [c_bits_Len, any_pure, h1]

theorem neg_is {a : AVal} {x : Int} {m : Nat} (ha : IsI a x m) (hm : m < 2^36) : pureCall (run F) 49 [a] = some (IV (-x)) := by
  obtain ⟨na, ra, la, rfl, hla, hlen, rfl⟩ := ha
  have h1 := pc_mag (F := F) na ra la hla (by omega)
  have h2 := pc_neg (F := F) na ra la hla (by omega)
  have h3 := len_D_ev hla
  have h4 := pc_made (F := F) (!(na && decide (ev la ≠ 0))) ra (D (ev la)) (lim_D _) (by omega)
  rw [ev_D] at h4
  have e : sgn (!(na && decide (ev la ≠ 0))) (ev la) = - sgn na (ev la) := by
    cases na <;> by_cases h0 : ev la = 0 <;> simp [sgn, h0]
  rw [e] at h4
  generalize (na && decide (ev la ≠ 0)) = s at *
  refine pure_ret h.limbs_Neg rfl ?_
  simp [c_limbs_Neg, any_pure, h1, h2, h4]

/-- The order of integers. -/
def cmpZ (x y : Int) : Int := if x < y then -1 else if x = y then 0 else 1

theorem sign_is {a : AVal} {x : Int} {m : Nat} (ha : IsI a x m) (hm : m < 2^36) : pureCall (run F) 52 [a] = some (.int .i64 (cmpZ x 0)) := by
  obtain ⟨na, ra, la, rfl, hla, hlen, rfl⟩ := ha
  rw [pc_sign na ra la hla (by omega)]
  congr 2
  unfold cmpZ sgn
  cases na <;> by_cases h0 : ev la = 0 <;> simp [h0] <;> omega

theorem cmp_is {a b : AVal} {x y : Int} {m n : Nat} (ha : IsI a x m) (hb : IsI b y n) (hm : m < 2^36) (hn : n < 2^36) : pureCall (run F) 51 [a, b] = some (.int .i64 (cmpZ x y)) := by
  have hs := sign_is (F := F) ha hm
  have ht := sign_is (F := F) hb hn
  obtain ⟨na, ra, la, rfl, hla, hlen, rfl⟩ := ha
  obtain ⟨nb, rb, lb, rfl, hlb, hlenb, rfl⟩ := hb
  have h1 := pc_mag (F := F) na ra la hla (by omega)
  have h2 := pc_mag (F := F) nb rb lb hlb (by omega)
  have h3 := len_D_ev hla
  have h4 := len_D_ev hlb
  have h5 := pc_cmp (F := F) ra rb (ev la) (ev lb) (by omega) (by omega)
  unfold cmpZ at hs ht ⊢
  unfold cmpI at h5
  refine pure_ret h.limbs_Cmp rfl ?_
  cases na <;> cases nb <;> simp only [sgn, if_true, if_false, Bool.false_eq_true] at hs ht ⊢
  all_goals
    rcases Nat.lt_trichotomy (ev la) (ev lb) with g | g | g <;> by_cases g1 : ev la = 0 <;> by_cases g2 : ev lb = 0 <;>
      first
      | (exfalso; omega)
      | (simp (disch := omega) [if_pos, if_neg] at hs ht h5 ⊢
         simp (disch := omega) [c_limbs_Cmp, any_pure, h1, h2, h5, hs, ht, wrap_i64, if_pos, if_neg])

theorem pc_bits_D {a : AVal} {x : Int} {m : Nat} (ha : IsI a x m) (hm : m < 2^36) : pureCall (run F) 53 [a] = some (.int .i64 (bl x.natAbs : Nat)) := by
  obtain ⟨na, ra, la, rfl, hla, hlen, rfl⟩ := ha
  have h1 := pc_mag (F := F) na ra la hla (by omega)
  have h3 := len_D_ev hla
  rw [sgn_abs]
  refine pure_ret h.limbs_Bits rfl ?_
  by_cases h0 : ev la = 0
  · simp [c_limbs_Bits, any_pure, h1, h0]
  · obtain ⟨hl, hb⟩ := bl_D h0
    have hlim := (lim_D (ev la)).get hl
    have h4 := pc_len32 (F := F) _ hlim
    rw [hb]
    have hb32 : bl (D (ev la))[(D (ev la)).length - 1] ≤ 32 := bl_le.2 hlim
    have hi : (((D (ev la)).length : Int) - 1).toNat = (D (ev la)).length - 1 := by omega
    simp (disch := omega) [c_limbs_Bits, any_pure, h1, h0, wrap_i64, if_pos, hi, h4]
    omega

theorem mod_is {a : AVal} {x : Int} {m : Nat} (ha : IsI a x m) (hm : m < 2^36) (d : Int) (h0 : -9223372036854775808 ≤ d) (h1 : d < 9223372036854775808) :
    pureCall (run F) 40 [a, .int .i64 d] = some (if d < 1 ∨ 2147483647 < d then .tup [.int .i64 0, .int .i64 1] else .tup [.int .i64 (x % d), .int .i64 0]) := by
  obtain ⟨na, ra, la, rfl, hla, hlen, rfl⟩ := ha
  have g1 := pc_mag (F := F) na ra la hla (by omega)
  have g2 := pc_neg (F := F) na ra la hla (by omega)
  have g3 := len_D_ev hla
  refine pure_ret h.limbs_Mod rfl ?_
  by_cases hd : d < 1 ∨ 2147483647 < d
  · rw [if_pos hd]
    rcases Int.lt_or_le d 1 with hd1 | hd1
    · simp (disch := omega) [c_limbs_Mod, if_pos, if_neg, decide_eq_true, decide_eq_false]
    · simp (disch := omega) [c_limbs_Mod, if_pos, if_neg, decide_eq_true, decide_eq_false]
  · rw [if_neg hd]
    obtain ⟨k, rfl⟩ : ∃ k : Nat, d = k := ⟨d.toNat, by omega⟩
    have g4 := pc_small (F := F) ra (D (ev la)) k (lim_D _) (by omega) (by omega) (by omega)
    rw [ev_D] at g4
    have hlt : ev la % k < k := Nat.mod_lt _ (by omega)
    have hr : sgn na (ev la) % (k : Int) = if (na && decide (ev la ≠ 0)) = true ∧ 0 < ev la % k then ((k - ev la % k : Nat) : Int) else ((ev la % k : Nat) : Int) := by
      have hc : (((ev la) % k : Nat) : Int) = (ev la : Int) % (k : Int) := Int.natCast_emod _ _
      cases na
      · simp [sgn]
      · by_cases hr0 : ev la % k = 0
        · rw [if_neg (by omega)]
          have : (k : Int) ∣ (ev la : Int) := Int.natCast_dvd_natCast.2 (Nat.dvd_of_mod_eq_zero hr0)
          rw [hr0]
          exact Int.emod_eq_zero_of_dvd (Int.dvd_neg.2 this)
        · have h0 : ev la ≠ 0 := by intro h0; rw [h0] at hr0; simp at hr0
          rw [if_pos ⟨by simp [h0], by omega⟩]
          have e : sgn true (ev la) = ((k - ev la % k : Nat) : Int) + (k : Int) * (-((ev la / k : Nat) : Int) - 1) := by
            have := Nat.div_add_mod (ev la) k
            have h5 : ((ev la : Nat) : Int) = (k : Int) * ((ev la / k : Nat) : Int) + ((ev la % k : Nat) : Int) := by
              rw [← Int.natCast_mul, ← Int.natCast_add, this]
            simp only [sgn, if_true, Int.mul_sub, Int.mul_neg]
            omega
          rw [e, Int.add_mul_emod_self_left, Int.emod_eq_of_lt (by omega) (by omega)]
    rw [hr]
    generalize (na && decide (ev la ≠ 0)) = s at *
    generalize ev la % k = r at *
    cases s
    · simp (disch := omega) [c_limbs_Mod, if_pos, if_neg, decide_eq_true, decide_eq_false, any_pure, g1, g2, g4, wrap_i64, wrap_u32]
    · by_cases hr0 : 0 < r
      · simp (disch := omega) [c_limbs_Mod, if_pos, if_neg, decide_eq_true, decide_eq_false, any_pure, g1, g2, g4, wrap_i64, wrap_u32]
        omega
      · simp (disch := omega) [c_limbs_Mod, if_pos, if_neg, decide_eq_true, decide_eq_false, any_pure, g1, g2, g4, wrap_i64, wrap_u32]

theorem D_one {n : Nat} (h0 : n ≠ 0) (h : n < 4294967296) : D n = [n] := by
  rw [D_pos h0, Nat.mod_eq_of_lt h, Nat.div_eq_of_lt h, D_zero]
theorem D_two {n : Nat} (h0 : 4294967296 ≤ n) (h : n < 18446744073709551616) : D n = [n % 4294967296, n / 4294967296] := by
  have e : D n = n % 4294967296 :: D (n / 4294967296) := D_pos (by omega)
  rw [e, D_one (by omega) (by omega)]

theorem or_u64_lo {a b : Nat} (ha : a < 4294967296) (hb : b < 4294967296) : intA .or .u64 (a : Int) ((b : Int) * 4294967296) = some (.int .u64 (((b * 4294967296 + a : Nat) : Int))) := by
  have h1 : (BitVec.ofInt 64 (a : Int) ||| BitVec.ofInt 64 (((b * 4294967296 : Nat) : Int))).toNat = b * 4294967296 + a := by
    rw [BitVec.ofInt_natCast, BitVec.ofInt_natCast, BitVec.toNat_or, BitVec.toNat_ofNat, BitVec.toNat_ofNat, Nat.mod_eq_of_lt (by omega), Nat.mod_eq_of_lt (by omega), Nat.or_comm]
    have := Nat.two_pow_add_eq_or_of_lt (i := 32) (b := a) (by omega) b
    rw [Nat.mul_comm b]
    exact this.symm
  have h2 : ((b : Int) * 4294967296) = ((b * 4294967296 : Nat) : Int) := by omega
  rw [h2]
  show some (AVal.int .u64 (IntKind.u64.wrap (((BitVec.ofInt 64 (a : Int) ||| BitVec.ofInt 64 (((b * 4294967296 : Nat) : Int))).toNat : Nat) : Int))) = _
  rw [h1, wrap_u64 (by omega) (by omega)]

theorem or_u64_zero {a : Nat} (ha : a < 4294967296) : intA .or .u64 0 (a : Int) = some (.int .u64 (a : Int)) := by
  have h1 : (BitVec.ofInt 64 0 ||| BitVec.ofInt 64 (a : Int)).toNat = a := by
    rw [BitVec.ofInt_natCast, BitVec.toNat_or, BitVec.toNat_ofNat, Nat.mod_eq_of_lt (by omega)]
    simp
  show some (AVal.int .u64 (IntKind.u64.wrap (((BitVec.ofInt 64 0 ||| BitVec.ofInt 64 (a : Int)).toNat : Nat) : Int))) = _
  rw [h1, wrap_u64 (by omega) (by omega)]

/-- limbs.Small: the bits of a magnitude of two limbs at most. -/
theorem small2_loop (nl : Bool) (n : Nat) (hn : n < 18446744073709551616) (b0 : AVal) (H : Heap) (a : AVal) (hH : H = [some ⟨false, 2, [a]⟩]) (ha : a.ids = []) (env : List AVal) :
    ∃ x, exec F l_limbs_Small_0 ⟨[b0, .mptr 0 0 0, .int .i64 0, .bool false, .slc nl (u32s (D n)), .int .u64 0, .und, .und, .slc nl (u32s (D n)), .int .i64 (D n).length, .int .i64 0], env, H, 0⟩ =
      some (.exit 0, ⟨[.und, .mptr 0 0 0, .und, .und, .und, .int .u64 (n : Nat), .und, .und, .slc nl (u32s (D n)), .int .i64 (D n).length, x], [], H, 0⟩) := by
  subst hH
  have t : ∀ {live vars env}, idsL (mask live vars) = [0] → tidy live ⟨vars, env, [some ⟨false, 2, [a]⟩], 0⟩ = some ⟨mask live vars, [], [some ⟨false, 2, [a]⟩], 0⟩ := fun hv => tidy_one hv (by simp [ha])
  rcases Nat.eq_zero_or_pos n with rfl | h0
  · refine ⟨.int .i64 0, ?_⟩
    unfold l_limbs_Small_0
    rw [exec_loop, t (by simp)]
    simp [u32s]
  · rcases Nat.lt_or_ge n 4294967296 with h1 | h1
    · rw [D_one (by omega) h1]
      have ho := or_u64_zero h1
      refine ⟨.int .i64 1, ?_⟩
      unfold l_limbs_Small_0
      rw [exec_loop, t (by simp)]
      simp (disch := omega) [u32s, wrap_i64, wrap_u64, ho]
      rw [exec_loop, t (by simp)]
      simp
    · rw [D_two h1 hn]
      have ho := or_u64_zero (a := n % 4294967296) (by omega)
      have ho2 := or_u64_lo (a := n % 4294967296) (b := n / 4294967296) (by omega) (by omega)
      have hnn : n / 4294967296 * 4294967296 + n % 4294967296 = n := by omega
      rw [hnn] at ho2
      generalize n % 4294967296 = p at *
      generalize n / 4294967296 = q at *
      refine ⟨.int .i64 2, ?_⟩
      unfold l_limbs_Small_0
      rw [exec_loop, t (by simp)]
      simp (disch := omega) [u32s, wrap_i64, wrap_u64, ho]
      rw [exec_loop, t (by simp)]
      simp (disch := omega) [wrap_i64, wrap_u64, ho2]
      rw [exec_loop, t (by simp)]
      simp

theorem D_len_two {n : Nat} : (D n).length ≤ 2 ↔ n < 18446744073709551616 :=
  ⟨fun h => le_of_D_len h, fun h => D_len_le (k := 2) h⟩

theorem wrap_u64_neg {u : Int} (h0 : 0 < u) (h1 : u ≤ 9223372036854775808) : IntKind.i64.wrap (IntKind.u64.wrap (-u)) = -u := by
  simp only [IntKind.wrap, IntKind.bits, IntKind.signed]; simp; omega

/-- limbs.Small. -/
theorem small_is {a : AVal} {x : Int} {m : Nat} (ha : IsI a x m) (hm : m < 2^36) :
    pureCall (run F) 33 [a] = some (if -9223372036854775808 ≤ x ∧ x < 9223372036854775808 then .tup [.int .i64 x, .bool true] else .tup [.int .i64 0, .bool false]) := by
  obtain ⟨na, ra, la, rfl, hla, hlen, rfl⟩ := ha
  have g1 := pc_mag (F := F) na ra la hla (by omega)
  have g2 := pc_neg (F := F) na ra la hla (by omega)
  have e1 : sgn na (ev la) = sgn (na && decide (ev la ≠ 0)) (ev la) := by cases na <;> by_cases h0 : ev la = 0 <;> simp [sgn, h0]
  have e2 : (na && decide (ev la ≠ 0)) = true → ev la ≠ 0 := by cases na <;> by_cases h0 : ev la = 0 <;> simp [h0]
  rw [e1]
  generalize (na && decide (ev la ≠ 0)) = s at *
  refine pure_ret h.limbs_Small rfl ?_
  by_cases hn : ev la < 18446744073709551616
  · obtain ⟨x, hx⟩ := small2_loop (F := F) ra (ev la) hn (.agg [.bool na, .slc ra (u32s la)]) [some ⟨false, 2, [.agg [.bool na, .slc ra (u32s la)]]⟩] (.agg [.bool na, .slc ra (u32s la)]) rfl (by simp) [.int .i64 0, .int .i64 (D (ev la)).length, .slc ra (u32s (D (ev la)))]
    have h2 := D_len_two.2 hn
    cases s
    · by_cases hs : ev la < 9223372036854775808
      · simp (disch := omega) [c_limbs_Small, any_pure, g1, g2, if_pos, if_neg, decide_eq_true, decide_eq_false, hx, sgn, wrap_i64]
      · simp (disch := omega) [c_limbs_Small, any_pure, g1, g2, if_pos, if_neg, decide_eq_true, decide_eq_false, hx, sgn, wrap_i64]
    · have h0 := e2 rfl
      by_cases hs : ev la ≤ 9223372036854775808
      · simp (disch := omega) [c_limbs_Small, any_pure, g1, g2, if_pos, if_neg, decide_eq_true, decide_eq_false, hx, sgn, wrap_u64_neg]
      · simp (disch := omega) [c_limbs_Small, any_pure, g1, g2, if_pos, if_neg, decide_eq_true, decide_eq_false, hx, sgn]
  · have h2 : ¬ (D (ev la)).length ≤ 2 := fun h => hn (D_len_two.1 h)
    have h3 : ¬ (-9223372036854775808 ≤ sgn s (ev la) ∧ sgn s (ev la) < 9223372036854775808) := by cases s <;> simp [sgn] <;> omega
    rw [if_neg h3]
    simp (disch := omega) [c_limbs_Small, any_pure, g1, if_pos, if_neg, decide_eq_true, decide_eq_false]
end Go.Ash
