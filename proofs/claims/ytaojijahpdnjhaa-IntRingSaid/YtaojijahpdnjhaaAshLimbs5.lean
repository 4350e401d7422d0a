/- Package limbs: school. -/
import Derived.Test.YtaojijahpdnjhaaAshLimbs4
set_option linter.all false
namespace Go.Ash
variable {F : Nat → Option RFunc} [h : CodeLimbs F]

theorem set_ev : ∀ {l : List Nat} {k : Nat} (hk : k < l.length) (v : Nat), ev (l.set k v) + B32 ^ k * l[k] = ev l + B32 ^ k * v
  | [], k, hk, v => by simp at hk
  | x :: l, 0, _, v => by simp [ev]; omega
  | x :: l, k + 1, hk, v => by
    have ih := set_ev (l := l) (k := k) (by simpa using hk) v
    simp only [List.set_cons_succ, ev, List.getElem_cons_succ, Nat.pow_succ]
    have e1 : B32 ^ k * B32 * l[k]'(by simpa using hk) = B32 * (B32 ^ k * l[k]'(by simpa using hk)) := by rw [Nat.mul_comm (B32 ^ k) B32, Nat.mul_assoc]
    have e2 : B32 ^ k * B32 * v = B32 * (B32 ^ k * v) := by rw [Nat.mul_comm (B32 ^ k) B32, Nat.mul_assoc]
    rw [e1, e2, Nat.add_assoc, ← Nat.mul_add, ih, Nat.mul_add, Nat.add_assoc]

theorem school_step {E A p o v c c2 u yj Y R : Nat} (e : v + B32 * c2 = c + u * yj + o) (hs : A + p * o = E + p * v) (h : R = A + p * B32 * (c2 + u * Y)) : R = E + p * (c + u * (yj + B32 * Y)) := by
  have e2 : p * (v + B32 * c2) = p * (c + u * yj + o) := by rw [e]
  have e3 : u * (B32 * Y) = B32 * (u * Y) := by rw [Nat.mul_left_comm]
  simp only [Nat.mul_add, Nat.mul_assoc, e3] at e2 h ⊢
  omega

theorem school_inner (nx ny : Bool) (x y : List Nat) (hy : Lim y) (hlx : x.length < 2^39) (hly : y.length < 2^39) (i u : Nat) (hi : i < x.length) (hu : u < 4294967296) :
    ∀ (k j : Nat) (out : List Nat) (c : Int) (b0 b2 b7 b8 : AVal) (env : List AVal), j + k = y.length → out.length = x.length + y.length → Lim out → 0 ≤ c → c < 4294967296 → ∃ (out' : List Nat) (c' : Int),
    exec F l_limbs_school_0 ⟨[b0, .slc ny (u32s y), b2, .mslc 0 0 (x.length + y.length), .int .i64 i, .int .u32 u, .int .u64 c, b7, b8, .slc nx (u32s x), .int .i64 x.length, .int .i64 i,
      .slc ny (u32s y), .int .i64 y.length, .int .i64 j], env, [some ⟨false, 1, u32s out⟩], 0⟩ =
      some (.exit 2, ⟨[.und, .slc ny (u32s y), .und, .mslc 0 0 (x.length + y.length), .int .i64 i, .int .u32 u, .int .u64 c', .und, .und, .slc nx (u32s x), .int .i64 x.length, .int .i64 i,
      .slc ny (u32s y), .int .i64 y.length, .int .i64 y.length], [], [some ⟨false, 1, u32s out'⟩], 0⟩) ∧
      out'.length = x.length + y.length ∧ Lim out' ∧ 0 ≤ c' ∧ c' < 4294967296 ∧ (∀ q, i + y.length ≤ q → out'[q]? = out[q]?) ∧
      ev out' + B32 ^ (i + y.length) * c'.toNat = ev out + B32 ^ (i + j) * (c.toNat + u * ev (y.drop j)) := by
  intro k
  induction k with
  | zero =>
    intro j out c b0 b2 b7 b8 env hj hout hlim h0 h1
    have hj' : j = y.length := by omega
    subst hj'
    refine ⟨out, c, ?_, hout, hlim, h0, h1, fun _ _ => rfl, ?_⟩
    · unfold l_limbs_school_0
      rw [exec_loop, tidy_one (by simp) (by simp)]
      simp
    · rw [List.drop_of_length_le (Nat.le_refl _)]
      simp [ev]
  | succ k ih =>
    intro j out c b0 b2 b7 b8 env hj hout hlim h0 h1
    have hjy : j < y.length := by omega
    have hyj := hy.get hjy
    have hko : i + j < out.length := by omega
    have hok := hlim.get hko
    have hP0 : (0 : Int) ≤ (u : Int) * (y[j] : Int) := Int.mul_nonneg (Int.natCast_nonneg _) (Int.natCast_nonneg _)
    have hPn : u * y[j] ≤ 18446744065119617025 := Nat.le_trans (Nat.mul_le_mul (Nat.le_of_lt_succ hu : u ≤ 4294967295) (Nat.le_of_lt_succ hyj : y[j] ≤ 4294967295)) (by decide)
    have hcast : ((u * y[j] : Nat) : Int) = (u : Int) * (y[j] : Int) := Int.natCast_mul _ _
    have hP1 : (u : Int) * (y[j] : Int) ≤ 18446744065119617025 := by omega
    have hil : (i : Int) + j < x.length + y.length := by omega
    have hij : ((i : Int) + j).toNat = i + j := by omega
    have hij0 : (0 : Int) ≤ (i : Int) + j := by omega
    obtain ⟨out', c', he, h2, h3, h4, h5, h6, h7⟩ := ih (j + 1) (out.set (i + j) (((c + (u * y[j] + out[i + j]))) % 4294967296).toNat) ((c + (u * y[j] + out[i + j])) / 4294967296) .und .und (.int .i64 j) (.int .u32 y[j]) []
      (by omega) (by simpa using hout) (lim_set hlim (by omega)) (by omega) (by omega)
    refine ⟨out', c', ?_, h2, h3, h4, h5, ?_, ?_⟩
    · conv => lhs; unfold l_limbs_school_0
      rw [exec_loop, tidy_one (by simp) (by simp)]
      simp (disch := omega) [hjy, hil, hij, hij0, wrap_u64, wrap_u32', wrap_i64, get?_u32s, set_u32s, putElem, putOne]
      exact exec_loop_env.trans he
    · intro q hq
      rw [h6 q hq, List.getElem?_set_ne (by omega)]
    · rw [drop_ev hjy]
      refine school_step (o := out[i + j]) (v := ((c + (u * y[j] + out[i + j])) % 4294967296).toNat) (c2 := ((c + (u * y[j] + out[i + j])) / 4294967296).toNat) ?_ (set_ev hko _) (by rw [h7, show i + (j + 1) = i + j + 1 from rfl, Nat.pow_succ])
      show _ + 4294967296 * _ = _
      omega

theorem school_outer (nx ny : Bool) (x y : List Nat) (hx : Lim x) (hy : Lim y) (hlx : x.length < 2^39) (hly : y.length < 2^39) :
    ∀ (k i : Nat) (out : List Nat) (b0 b2 b4 b5 b6 b7 b8 b12 b13 b14 : AVal) (env : List AVal), i + k = x.length → out.length = x.length + y.length → Lim out →
    (∀ q, i + y.length ≤ q → q < x.length + y.length → out[q]? = some 0) → ev out = ev (x.take i) * ev y → ∃ (out' : List Nat),
    exec F l_limbs_school_1 ⟨[b0, .slc ny (u32s y), b2, .mslc 0 0 (x.length + y.length), b4, b5, b6, b7, b8, .slc nx (u32s x), .int .i64 x.length, .int .i64 i, b12, b13, b14], env, [some ⟨false, 1, u32s out⟩], 0⟩ =
      some (.exit 0, ⟨[.und, .slc ny (u32s y), .und, .mslc 0 0 (x.length + y.length), .und, .und, .und, .und, .und, .slc nx (u32s x), .int .i64 x.length, .int .i64 x.length, .und, .und, .und], [],
        [some ⟨false, 1, u32s out'⟩], 0⟩) ∧ out'.length = x.length + y.length ∧ Lim out' ∧ ev out' = ev x * ev y := by
  intro k
  induction k with
  | zero =>
    intro i out b0 b2 b4 b5 b6 b7 b8 b12 b13 b14 env hi hout hlim hz hev
    have hi' : i = x.length := by omega
    subst hi'
    rw [List.take_length] at hev
    refine ⟨out, ?_, hout, hlim, hev⟩
    unfold l_limbs_school_1
    rw [exec_loop, tidy_one (by simp) (by simp)]
    simp
  | succ k ih =>
    intro i out b0 b2 b4 b5 b6 b7 b8 b12 b13 b14 env hi hout hlim hz hev
    have hix : i < x.length := by omega
    have hxi := hx.get hix
    obtain ⟨out1, c1, he1, g2, g3, g4, g5, g6, g7⟩ := school_inner (F := F) nx ny x y hy hlx hly i x[i] hix hxi y.length 0 out 0 .und .und .und .und [] (by omega) hout hlim (by omega) (by omega)
    have hpos : i + y.length < out1.length := by omega
    have hzero : out1[i + y.length] = 0 := by
      have h1 := g6 (i + y.length) (Nat.le_refl _)
      rw [hz _ (Nat.le_refl _) (by omega), List.getElem?_eq_getElem hpos] at h1
      exact Option.some.inj h1
    have hset := set_ev hpos c1.toNat
    rw [hzero] at hset
    simp only [List.drop_zero, Int.toNat_zero, Nat.zero_add, Nat.add_zero, Nat.mul_zero] at hset g7
    have hev' : ev (out1.set (i + y.length) c1.toNat) = ev (x.take (i + 1)) * ev y := by
      rw [hset, g7, hev, ev_take_succ hix, Nat.add_mul, Nat.mul_assoc]
    obtain ⟨out', he, h2, h3, h4⟩ := ih (i + 1) (out1.set (i + y.length) c1.toNat) .und .und (.int .i64 i) (.int .u32 x[i]) (.int .u64 c1) .und .und (.slc ny (u32s y)) (.int .i64 y.length) (.int .i64 y.length) []
      (by omega) (by simpa using g2) (lim_set g3 (by omega)) (by
        intro q hq1 hq2
        rw [List.getElem?_set_ne (by omega), g6 q (by omega)]
        exact hz q (by omega) hq2) hev'
    refine ⟨out', ?_, h2, h3, h4⟩
    have hl' : ∀ env, exec F l_limbs_school_0 ⟨[.und, .slc ny (u32s y), .und, .mslc 0 0 (x.length + y.length), .int .i64 i, .int .u32 x[i], .int .u64 0, .und, .und, .slc nx (u32s x), .int .i64 x.length, .int .i64 i,
      .slc ny (u32s y), .int .i64 y.length, .int .i64 0], env, [some ⟨false, 1, u32s out⟩], 0⟩ = _ := fun env => (exec_loop_env (F := F)).trans he1
    have hil : (i : Int) + y.length < x.length + y.length := by omega
    have hil0 : (0 : Int) ≤ (i : Int) + y.length := by omega
    have hij : ((i : Int) + y.length).toNat = i + y.length := by omega
    conv => lhs; unfold l_limbs_school_1
    rw [exec_loop, tidy_one (by simp) (by simp)]
    simp (disch := omega) [hix, hil, hil0, hij, wrap_u64, wrap_u32', wrap_i64, get?_u32s, set_u32s, putElem, putOne, hl', show c1 % 4294967296 = c1 from by omega]
    exact exec_loop_env.trans he

theorem pc_school (nx ny : Bool) (x y : List Nat) (hx : Lim x) (hy : Lim y) (hlx : x.length < 2^38) (hly : y.length < 2^38) :
    pureCall (run F) 115 [.slc nx (u32s x), .slc ny (u32s y)] = some (.slc false (u32s (D (ev x * ev y)))) := by
  have hz0 : ∀ k, ev (List.replicate k 0) = 0 := fun k => by have := ev_zeros [] k; simpa [ev] using this
  obtain ⟨out, he, h2, h3, h4⟩ := school_outer (F := F) nx ny x y hx hy (by omega) (by omega) x.length 0 (List.replicate (x.length + y.length) 0) (.slc nx (u32s x)) (.slc true []) .und .und .und .und .und .und .und .und []
    (by omega) (by simp) (lim_replicate _) (by intro q _ hq; simp [hq]) (by rw [hz0]; simp [ev])
  have ht := pc_trim (F := F) false out h3 (by omega)
  rw [h4] at ht
  have hl' : ∀ env, exec F l_limbs_school_1 ⟨[.slc nx (u32s x), .slc ny (u32s y), .slc true [], .mslc 0 0 (x.length + y.length), .und, .und, .und, .und, .und, .slc nx (u32s x), .int .i64 x.length, .int .i64 0, .und, .und, .und],
    env, [some ⟨false, 1, u32s (List.replicate (x.length + y.length) 0)⟩], 0⟩ = _ := fun env => (exec_loop_env (F := F)).trans he
  have m1 : (0 : Int) ≤ x.length + y.length := by omega
  have m2 : ((x.length : Int) + y.length) * 4 ≤ 70368744177664 := by omega
  have m3 : (x.length : Int) + y.length ≤ 70368744177664 := by omega
  have m4 : ((x.length : Int) + y.length).toNat = x.length + y.length := by omega
  have m6 : out.take (x.length + y.length) = out := List.take_of_length_le (by omega)
  refine pure_ret h.limbs_school rfl ?_
  simp (disch := omega) [c_limbs_school, wrap_i64, u32s_replicate, maxB, m1, m2, m3, m4, hl', any_pure, hand_u32, m6, ht]
end Go.Ash
