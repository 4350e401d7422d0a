/- ref1.Eq and law1.Cut. -/
import Derived.Test.YtaojijahpdnjhaaAshLimbs7
import Derived.Test.YtaojijahpdnjhaaAshCodeRef1
import Derived.Test.YtaojijahpdnjhaaAshCodeLaw1
set_option linter.all false
namespace Go.Ash
variable {F : Nat → Option RFunc}

theorem tidy_two {live : List Bool} {vars env : List AVal} {b0 b1 : Blk} (hv : idsL (mask live vars) = [0, 1]) (h0 : idsL b0.elems = []) (h1 : idsL b1.elems = []) :
    tidy live ⟨vars, env, [some b0, some b1], 0⟩ = some ⟨mask live vars, [], [some b0, some b1], 0⟩ := by
  refine tidy_keep ?_ ?_
  · simp [hv, reach, fuelIds, Heap.at, h0, h1, List.range_succ]
  · intro x hx k hk y hy
    simp at hx
    rcases hx with rfl | rfl <;> cases hk
    · rw [h0] at hy; cases hy
    · rw [h1] at hy; cases hy

theorem eq_loop (a b n1 n2 : Bool) (x y : List Nat) (hxy : x.length = y.length) (hlen : x.length < 2^40) : ∀ (k i : Nat), i + k = x.length → ∀ (v0 v1 v4 : AVal) (env : List AVal),
    (x.drop i = y.drop i → exec F l_ashlarref1_Eq_0 ⟨[v0, v1, .mptr 0 0 0, .mptr 1 0 0, v4, .int .i64 i], env, [some ⟨false, 2, [.agg [.bool a, .slc n1 (u32s x)]]⟩, some ⟨false, 2, [.agg [.bool b, .slc n2 (u32s y)]]⟩], 0⟩ =
      some (.exit 0, ⟨[.und, .und, .mptr 0 0 0, .mptr 1 0 0, .und, .int .i64 x.length], [], [some ⟨false, 2, [.agg [.bool a, .slc n1 (u32s x)]]⟩, some ⟨false, 2, [.agg [.bool b, .slc n2 (u32s y)]]⟩], 0⟩)) ∧
    (x.drop i ≠ y.drop i → ∃ j, exec F l_ashlarref1_Eq_0 ⟨[v0, v1, .mptr 0 0 0, .mptr 1 0 0, v4, .int .i64 i], env, [some ⟨false, 2, [.agg [.bool a, .slc n1 (u32s x)]]⟩, some ⟨false, 2, [.agg [.bool b, .slc n2 (u32s y)]]⟩], 0⟩ =
      some (.ret, ⟨[.und, .und, .mptr 0 0 0, .mptr 1 0 0, .bool false, j], [], [some ⟨false, 2, [.agg [.bool a, .slc n1 (u32s x)]]⟩, some ⟨false, 2, [.agg [.bool b, .slc n2 (u32s y)]]⟩], 0⟩)) := by
  intro k
  induction k with
  | zero =>
    intro i hi v0 v1 v4 env
    have hi' : i = x.length := by omega
    subst hi'
    refine ⟨fun _ => ?_, fun h => absurd (by rw [List.drop_of_length_le (Nat.le_refl _), List.drop_of_length_le (by omega)]) h⟩
    unfold l_ashlarref1_Eq_0
    rw [exec_loop, tidy_two (by simp) (by simp) (by simp)]
    simp
  | succ k ih =>
    intro i hi v0 v1 v4 env
    have hix : i < x.length := by omega
    have hiy : i < y.length := by omega
    rw [List.drop_eq_getElem_cons hix, List.drop_eq_getElem_cons hiy]
    by_cases h0 : x[i] = y[i]
    · obtain ⟨ih1, ih2⟩ := ih (i + 1) (by omega) .und .und .und []
      have step : ∀ env, exec F l_ashlarref1_Eq_0 ⟨[v0, v1, .mptr 0 0 0, .mptr 1 0 0, v4, .int .i64 i], env, [some ⟨false, 2, [.agg [.bool a, .slc n1 (u32s x)]]⟩, some ⟨false, 2, [.agg [.bool b, .slc n2 (u32s y)]]⟩], 0⟩ =
          exec F l_ashlarref1_Eq_0 ⟨[.und, .und, .mptr 0 0 0, .mptr 1 0 0, .und, .int .i64 (i + 1 : Nat)], [], [some ⟨false, 2, [.agg [.bool a, .slc n1 (u32s x)]]⟩, some ⟨false, 2, [.agg [.bool b, .slc n2 (u32s y)]]⟩], 0⟩ := by
        intro env
        conv => lhs; unfold l_ashlarref1_Eq_0
        rw [exec_loop, tidy_two (by simp) (by simp) (by simp)]
        simp (disch := omega) [hix, hiy, h0, wrap_i64]
        exact exec_loop_env
      rw [step, h0]
      exact ⟨fun he => ih1 (List.cons.inj he).2, fun he => ih2 (fun h => he (by rw [h]))⟩
    · refine ⟨fun he => absurd (by simpa using (List.cons.inj he).1) h0, fun _ => ⟨.int .i64 i, ?_⟩⟩
      unfold l_ashlarref1_Eq_0
      rw [exec_loop, tidy_two (by simp) (by simp) (by simp)]
      simp (disch := omega) [hix, hiy, show ¬ ((x[i] : Int) = (y[i] : Int)) from by omega, wrap_i64]

theorem pc_eq [h : CodeRef1 F] (a b n1 n2 : Bool) (x y : List Nat) (hx : x.length < 2^40) (hy : y.length < 2^40) :
    pureCall (run F) 44 [.agg [.bool a, .slc n1 (u32s x)], .agg [.bool b, .slc n2 (u32s y)]] = some (.bool (decide (a = b ∧ x = y))) := by
  refine pure_ret h.ashlarref1_Eq rfl ?_
  by_cases hab : a = b
  · subst hab
    by_cases hl : x.length = y.length
    · obtain ⟨h1, h2⟩ := eq_loop (F := F) a a n1 n2 x y hl hx x.length 0 (by omega) (.agg [.bool a, .slc n1 (u32s x)]) (.agg [.bool a, .slc n2 (u32s y)]) (.bool false) [.int .i64 0]
      simp only [List.drop_zero] at h1 h2
      by_cases he : x = y
      · subst he
        have h1 := h1 rfl
        simp at h1
        simp [c_ashlarref1_Eq, h1]
      · obtain ⟨j, h2⟩ := h2 he
        simp at h2
        simp [c_ashlarref1_Eq, hl, he, h2]
    · have he : x ≠ y := by rintro rfl; exact hl rfl
      simp [c_ashlarref1_Eq, show ¬ ((x.length : Int) = y.length) from by omega, he]
  · have hn : (a != b) = true := by simpa using hab
    simp [c_ashlarref1_Eq, hab]

theorem eq_IV [h : CodeRef1 F] {x y : Int} (hx : (D x.natAbs).length < 2^40) (hy : (D y.natAbs).length < 2^40) : pureCall (run F) 44 [IV x, IV y] = some (.bool (decide (x = y))) := by
  unfold IV
  rw [pc_eq _ _ _ _ _ _ hx hy]
  congr 2
  by_cases hxy : x = y
  · subst hxy; simp
  · rw [decide_eq_false hxy, decide_eq_false]
    rintro ⟨h1, h2⟩
    have h3 : x.natAbs = y.natAbs := by rw [← ev_D x.natAbs, h2, ev_D]
    have h4 : (x < 0) ↔ (y < 0) := by simpa using h1
    omega

theorem reach_three {x y : Option Blk} {fz : Bool} {esz : Nat} {l : List Nat} : reach [x, y, some ⟨fz, esz, u32s l⟩] fuelIds [2] [] = some [2] := by
  simp [reach, fuelIds, Heap.at]

theorem tree_three {x y : Option Blk} {fz b : Bool} {esz n : Nat} {l : List Nat} (hn : n ≤ l.length) : treeL [x, y, some ⟨fz, esz, u32s l⟩] fuelTree [.agg [.bool b, .mslc 2 0 n]] =
    some ([.agg [.bool b, .slc false (u32s (l.take n))]], [2]) := by
  have h1 : AVal.tree [x, y, some ⟨fz, esz, u32s l⟩] 36 (.mslc 2 0 n) = some (.slc false (u32s (l.take n)), [2]) := by
    simp only [AVal.tree, Heap.at, length_u32s, Nat.zero_add, hn, if_true, List.drop_zero, u32s_take, treeL_free (n := 34) (idsL_u32s _), Option.map_some]
  have h2 : treeL [x, y, some ⟨fz, esz, u32s l⟩] 37 [.mslc 2 0 n] = some ([.slc false (u32s (l.take n))], [2]) := by
    rw [treeL_cons (by simp), h1]; rfl
  have h3 : treeL [x, y, some ⟨fz, esz, u32s l⟩] 38 [.bool b, .mslc 2 0 n] = some ([.bool b, .slc false (u32s (l.take n))], [2]) := by
    rw [treeL_cons (by simp), h2]; rfl
  have h4 : AVal.tree [x, y, some ⟨fz, esz, u32s l⟩] 39 (.agg [.bool b, .mslc 2 0 n]) = some (.agg [.bool b, .slc false (u32s (l.take n))], [2]) := by
    simp only [AVal.tree, h3, Option.map_some]
  unfold fuelTree
  rw [treeL_cons (by simp), h4]
  rfl

theorem pc_cut [h : CodeLaw1 F] (neg nl : Bool) (l : List Nat) (hlen : l.length < 2^63) : ∃ r, pureCall (run F) 23 [.agg [.bool neg, .slc nl (u32s l)]] = some (.agg [.bool neg, .slc r (u32s (l.take 24))]) := by
  by_cases h0 : l = []
  · subst h0
    refine ⟨true, pure_ret h.ashlarlaw1_Cut rfl ?_⟩
    simp [c_ashlarlaw1_Cut, u32s, bounds, elemsOf, goodElems, fillA, putElem, putAgg, setAll]
  · refine ⟨false, pure_ret h.ashlarlaw1_Cut rfl ?_⟩
    by_cases h24 : 24 < l.length
    · have h24' : (24 : Int) < l.length := by omega
      have h24'' : (24 : Int) ≤ l.length := by omega
      have hmin : min 24 l.length = 24 := by omega
      have m6 : (l.take 24).take 24 = l.take 24 := by rw [List.take_take, Nat.min_self]
      have m7 : (l.take 24).length = 24 := by rw [List.length_take]; omega
      simp (disch := omega) [c_ashlarlaw1_Cut, h24', h24'', bounds, elemsOf, u32s_take, good_u32s, maxB, fillA, putElem, putAgg, setAll, h0, hmin, reach_three, tree_three, m6]
    · have h24' : ¬ (24 : Int) < l.length := by omega
      have h2 : l.take 24 = l := List.take_of_length_le (by omega)
      have m1 : l.length * 4 ≤ 70368744177664 := by omega
      have m2 : l.length ≤ 70368744177664 := by omega
      rw [h2]
      simp (disch := omega) [c_ashlarlaw1_Cut, h24', bounds, elemsOf, u32s_take, good_u32s, maxB, fillA, putElem, putAgg, setAll, h0, m1, m2, reach_three, tree_three]
end Go.Ash
