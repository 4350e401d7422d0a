/- Package limbs: plus. -/
import Derived.Test.YtaojijahpdnjhaaAshLimbs1
set_option linter.all false
namespace Go.Ash
variable {F : Nat → Option RFunc} [h : CodeLimbs F]

theorem set_plus {out : List Nat} {i v : Nat} (hi : i < out.length) : ev ((out.set i v).take (i + 1)) = ev (out.take i) + B32 ^ i * v := by
  rw [ev_take_succ (by simpa using hi), List.take_set, List.set_eq_of_length_le (by simp; omega)]
  simp

theorem drop_ev {l : List Nat} {i : Nat} (hi : i < l.length) : ev (l.drop i) = l[i] + B32 * ev (l.drop (i + 1)) := by
  rw [List.drop_eq_getElem_cons hi]; rfl

theorem carry_step {A p v S T : Nat} (e : T = v + B32 * S) : A + p * v + p * B32 * S = A + p * T := by
  subst e; rw [Nat.mul_add, Nat.mul_assoc, Nat.add_assoc]

theorem plus_loop (nx ny : Bool) (x y : List Nat) (hx : Lim x) (hy : Lim y) (hxy : y.length ≤ x.length) (hlen : x.length < 2^40) : ∀ (k i : Nat) (out : List Nat) (c : Int) (b2 b5 : AVal) (env : List AVal),
    i + k = x.length → out.length = x.length + 1 → Lim out → 0 ≤ c → c ≤ 1 → ∃ (out' : List Nat) (c' : Int),
    exec F l_limbs_plus_0 ⟨[.slc nx (u32s x), .slc ny (u32s y), b2, .mslc 0 0 (x.length + 1), .int .u64 c, b5, .int .i64 x.length, .int .i64 i], env, [some ⟨false, 1, u32s out⟩], 0⟩ =
      some (.exit 0, ⟨[.slc nx (u32s x), .slc ny (u32s y), .und, .mslc 0 0 (x.length + 1), .int .u64 c', .und, .int .i64 x.length, .int .i64 x.length], [], [some ⟨false, 1, u32s out'⟩], 0⟩) ∧
      out'.length = x.length + 1 ∧ Lim out' ∧ 0 ≤ c' ∧ c' ≤ 1 ∧
      ev (out'.take x.length) + B32 ^ x.length * c'.toNat = ev (out.take i) + B32 ^ i * (c.toNat + ev (x.drop i) + ev (y.drop i)) := by
  intro k
  induction k with
  | zero =>
    intro i out c b2 b5 env hi hout hlim h0 h1
    have hi' : i = x.length := by omega
    subst hi'
    refine ⟨out, c, ?_, hout, hlim, h0, h1, ?_⟩
    · unfold l_limbs_plus_0
      rw [exec_loop, tidy_one (by simp) (by simp)]
      simp
    · rw [List.drop_of_length_le (Nat.le_refl _), List.drop_of_length_le hxy]
      simp [ev]
  | succ k ih =>
    intro i out c b2 b5 env hi hout hlim h0 h1
    have hix : i < x.length := by omega
    have hxi := hx.get hix
    have hio : i < out.length := by omega
    have hil : (i : Int) < x.length + 1 := by omega
    by_cases hiy : i < y.length
    · have hyi := hy.get hiy
      obtain ⟨out', c', he, h2, h3, h4, h5, h6⟩ := ih (i + 1) (out.set i ((c + x[i] + y[i]) % 4294967296).toNat) ((c + x[i] + y[i]) / 4294967296) .und (.int .i64 i) []
        (by omega) (by simpa using hout) (lim_set hlim (by omega)) (by omega) (by omega)
      refine ⟨out', c', ?_, h2, h3, h4, h5, ?_⟩
      · conv => lhs; unfold l_limbs_plus_0
        rw [exec_loop, tidy_one (by simp) (by simp)]
        simp (disch := omega) [hix, hiy, hil, wrap_u64, wrap_u32', wrap_i64, get?_u32s, set_u32s, putElem, putOne]
        exact exec_loop_env.trans he
      · have e : c.toNat + (x[i] + B32 * ev (x.drop (i + 1))) + (y[i] + B32 * ev (y.drop (i + 1))) =
            ((c + x[i] + y[i]) % 4294967296).toNat + B32 * (((c + x[i] + y[i]) / 4294967296).toNat + ev (x.drop (i + 1)) + ev (y.drop (i + 1))) := by
          show c.toNat + (x[i] + 4294967296 * ev (x.drop (i + 1))) + (y[i] + 4294967296 * ev (y.drop (i + 1))) =
            ((c + x[i] + y[i]) % 4294967296).toNat + 4294967296 * (((c + x[i] + y[i]) / 4294967296).toNat + ev (x.drop (i + 1)) + ev (y.drop (i + 1)))
          omega
        rw [h6, set_plus hio, drop_ev hix, drop_ev hiy, Nat.pow_succ]
        exact carry_step e
    · obtain ⟨out', c', he, h2, h3, h4, h5, h6⟩ := ih (i + 1) (out.set i ((c + x[i]) % 4294967296).toNat) ((c + x[i]) / 4294967296) .und (.int .i64 i) []
        (by omega) (by simpa using hout) (lim_set hlim (by omega)) (by omega) (by omega)
      refine ⟨out', c', ?_, h2, h3, h4, h5, ?_⟩
      · conv => lhs; unfold l_limbs_plus_0
        rw [exec_loop, tidy_one (by simp) (by simp)]
        simp (disch := omega) [hix, hiy, hil, wrap_u64, wrap_u32', wrap_i64, get?_u32s, set_u32s, putElem, putOne]
        exact exec_loop_env.trans he
      · have e : c.toNat + (x[i] + B32 * ev (x.drop (i + 1))) + 0 = ((c + x[i]) % 4294967296).toNat + B32 * (((c + x[i]) / 4294967296).toNat + ev (x.drop (i + 1)) + 0) := by
          show c.toNat + (x[i] + 4294967296 * ev (x.drop (i + 1))) + 0 = ((c + x[i]) % 4294967296).toNat + 4294967296 * (((c + x[i]) / 4294967296).toNat + ev (x.drop (i + 1)) + 0)
          omega
        have hy1 : y.drop i = [] := List.drop_of_length_le (by omega)
        have hy2 : y.drop (i + 1) = [] := List.drop_of_length_le (by omega)
        rw [h6, set_plus hio, drop_ev hix, hy1, hy2]
        simp only [ev]
        rw [Nat.pow_succ]
        exact carry_step e

theorem pc_plus (nx ny : Bool) (x y : List Nat) (hx : Lim x) (hy : Lim y) (hlx : x.length < 2^39) (hly : y.length < 2^39) :
    pureCall (run F) 87 [.slc nx (u32s x), .slc ny (u32s y)] = some (.slc false (u32s (D (ev x + ev y)))) := by
  have main : ∀ (nx ny : Bool) (x y : List Nat), Lim x → Lim y → y.length ≤ x.length → x.length < 2^39 → ∀ (X Y : AVal), (X = .slc nx (u32s x) ∧ Y = .slc ny (u32s y)) ∨ (x.length ≠ y.length ∧ Y = .slc nx (u32s x) ∧ X = .slc ny (u32s y)) →
      pureCall (run F) 87 [X, Y] = some (.slc false (u32s (D (ev x + ev y)))) := by
    intro nx ny x y hx hy hxy hlx X Y hXY
    obtain ⟨out, c, he, h2, h3, h4, h5, h6⟩ := plus_loop (F := F) nx ny x y hx hy hxy (by omega) x.length 0 (List.replicate (x.length + 1) 0) 0 (.slc true []) .und []
      (by omega) (by simp) (lim_replicate _) (by omega) (by omega)
    have hev : ev (out.set x.length c.toNat) = ev x + ev y := by
      have : out.set x.length c.toNat = (out.set x.length c.toNat).take (x.length + 1) := by rw [List.take_of_length_le (by simp; omega)]
      rw [this, set_plus (by omega), h6]
      simp [ev]
    have hlim : Lim (out.set x.length c.toNat) := lim_set h3 (by omega)
    have ht := pc_trim (F := F) false (out.set x.length c.toNat) hlim (by simp; omega)
    rw [hev] at ht
    refine pure_ret h.limbs_plus rfl ?_
    have m1 : (0 : Int) ≤ x.length + 1 := by omega
    have m2 : ((x.length : Int) + 1) * 4 ≤ 70368744177664 := by omega
    have m3 : (x.length : Int) + 1 ≤ 70368744177664 := by omega
    have hc : c % 4294967296 = c := by omega
    have m4 : (x.length : Int) < x.length + 1 := by omega
    have m7 : (out.set x.length c.toNat).length = x.length + 1 := by simpa using h2
    have m6 : (out.set x.length c.toNat).take (x.length + 1) = out.set x.length c.toNat := List.take_of_length_le (by simp; omega)
    have hl' : exec F l_limbs_plus_0 ⟨[.slc nx (u32s x), .slc ny (u32s y), .slc true [], .mslc 0 0 (x.length + 1), .int .u64 0, .und, .int .i64 x.length, .int .i64 0],
        [.int .i64 0, .int .i64 x.length, .slc nx (u32s x)], [some ⟨false, 1, u32s (List.replicate (x.length + 1) 0)⟩], 0⟩ = _ := (exec_loop_env (F := F)).trans he
    rcases hXY with ⟨rfl, rfl⟩ | ⟨hne, rfl, rfl⟩
    · have hlt : ¬ x.length < y.length := by omega
      simp (disch := omega) [c_limbs_plus, hlt, wrap_i64, u32s_replicate, maxB, m1, m2, m3, m4, hl', wrap_u32', hc, get?_u32s, putElem, putOne, set_u32s, any_pure, hand_u32, m6, ht]
    · have hlt : y.length < x.length := by omega
      simp (disch := omega) [c_limbs_plus, hlt, wrap_i64, u32s_replicate, maxB, m1, m2, m3, m4, hl', wrap_u32', hc, get?_u32s, putElem, putOne, set_u32s, any_pure, hand_u32, m6, ht]
  rcases Nat.lt_or_ge x.length y.length with hlt | hge
  · rw [Nat.add_comm]
    exact main ny nx y x hy hx (by omega) hly _ _ (.inr ⟨by omega, rfl, rfl⟩)
  · exact main nx ny x y hx hy hge hlx _ _ (.inl ⟨rfl, rfl⟩)
end Go.Ash
