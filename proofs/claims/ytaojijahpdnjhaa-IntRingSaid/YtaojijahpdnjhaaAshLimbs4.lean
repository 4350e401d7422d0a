/- Package limbs: sum, Add, Sub, Neg, Cmp. -/
import Derived.Test.YtaojijahpdnjhaaAshLimbs3
set_option linter.all false
namespace Go.Ash
variable {F : Nat → Option RFunc} [h : CodeLimbs F]

theorem len_D_ev {l : List Nat} (hl : Lim l) : (D (ev l)).length ≤ l.length := D_len_le (ev_lt hl)

theorem pc_sum (na n1 nb n2 mb : Bool) (la lb : List Nat) (hla : Lim la) (hlb : Lim lb) (h1 : la.length < 2^38) (h2 : lb.length < 2^38) :
    pureCall (run F) 97 [.agg [.bool na, .slc n1 (u32s la)], .agg [.bool nb, .slc n2 (u32s lb)], .bool mb] =
      some (IV (sgn na (ev la) + (if mb then - sgn nb (ev lb) else sgn nb (ev lb)))) := by
  have hm1 := pc_mag (F := F) na n1 la hla (by omega)
  have hm2 := pc_mag (F := F) nb n2 lb hlb (by omega)
  have hn1 := pc_neg (F := F) na n1 la hla (by omega)
  have hn2 := pc_neg (F := F) nb n2 lb hlb (by omega)
  have hla' := len_D_ev hla
  have hlb' := len_D_ev hlb
  have hp := pc_plus (F := F) n1 n2 (D (ev la)) (D (ev lb)) (lim_D _) (lim_D _) (by omega) (by omega)
  have hc := pc_cmp (F := F) n1 n2 (ev la) (ev lb) (by omega) (by omega)
  rw [ev_D, ev_D] at hp
  have hlp : (D (ev la + ev lb)).length < 2^39 := by
    have h3 : ev la + ev lb < B32 ^ (max la.length lb.length + 1) := by
      have h4 := ev_lt hla
      have h5 := ev_lt hlb
      have h6 : B32 ^ la.length ≤ B32 ^ (max la.length lb.length) := Nat.pow_le_pow_right (by decide) (by omega)
      have h7 : B32 ^ lb.length ≤ B32 ^ (max la.length lb.length) := Nat.pow_le_pow_right (by decide) (by omega)
      rw [Nat.pow_succ]
      have : B32 ^ (max la.length lb.length) * 2 ≤ B32 ^ (max la.length lb.length) * B32 := Nat.mul_le_mul_left _ (by decide)
      omega
    have := D_len_le h3
    omega
  have hd : ∀ s, pureCall (run F) 89 [.bool s, .slc false (u32s (D (ev la + ev lb)))] = some (IV (sgn s (ev la + ev lb))) := fun s => by
    have := pc_made (F := F) s false (D (ev la + ev lb)) (lim_D _) hlp
    rwa [ev_D] at this
  have e1 : sgn na (ev la) = sgn (na && decide (ev la ≠ 0)) (ev la) := by cases na <;> by_cases h0 : ev la = 0 <;> simp [sgn, h0]
  have e2 : sgn nb (ev lb) = sgn (nb && decide (ev lb ≠ 0)) (ev lb) := by cases nb <;> by_cases h0 : ev lb = 0 <;> simp [sgn, h0]
  rw [e1, e2]
  generalize (na && decide (ev la ≠ 0)) = s at *
  generalize (nb && decide (ev lb ≠ 0)) = t at *
  refine pure_ret h.limbs_sum rfl ?_
  by_cases hst : s = (t != mb)
  · have e : sgn s (ev la) + (if mb then - sgn t (ev lb) else sgn t (ev lb)) = sgn s (ev la + ev lb) := by
      subst hst; cases t <;> cases mb <;> simp [sgn] <;> omega
    rw [e]
    subst hst
    cases t <;> cases mb <;> simp [c_limbs_sum, any_pure, hm1, hm2, hn1, hn2, hp, hd, IV, putElem, putAgg]
  · have hst' : (t != mb) = !s := by cases s <;> cases t <;> cases mb <;> simp_all
    rcases Nat.lt_or_ge (ev la) (ev lb) with hab | hab
    · have hm := pc_minus (F := F) n2 n1 (D (ev lb)) (D (ev la)) (lim_D _) (lim_D _) (D_len_mono (by omega)) (by rw [ev_D, ev_D]; omega) (by omega)
      rw [ev_D, ev_D] at hm
      have hdm : ∀ s, pureCall (run F) 89 [.bool s, .slc false (u32s (D (ev lb - ev la)))] = some (IV (sgn s (ev lb - ev la))) := fun s => by
        have := pc_made (F := F) s false (D (ev lb - ev la)) (lim_D _) (by have := D_len_mono (Nat.sub_le (ev lb) (ev la)); omega)
        rwa [ev_D] at this
      have hcv : cmpI (ev la) (ev lb) = -1 := by unfold cmpI; rw [if_pos hab]
      rw [hcv] at hc
      have e : sgn s (ev la) + (if mb then - sgn t (ev lb) else sgn t (ev lb)) = sgn (t != mb) (ev lb - ev la) := by
        cases s <;> cases t <;> cases mb <;> simp [sgn] at hst' ⊢ <;> omega
      rw [e]
      cases s <;> cases t <;> cases mb <;> simp at hst' <;> simp [c_limbs_sum, any_pure, hm1, hm2, hn1, hn2, hc, hm, hdm, IV, putElem, putAgg]
    · have hm := pc_minus (F := F) n1 n2 (D (ev la)) (D (ev lb)) (lim_D _) (lim_D _) (D_len_mono hab) (by rw [ev_D, ev_D]; omega) (by omega)
      rw [ev_D, ev_D] at hm
      have hdm : ∀ s, pureCall (run F) 89 [.bool s, .slc false (u32s (D (ev la - ev lb)))] = some (IV (sgn s (ev la - ev lb))) := fun s => by
        have := pc_made (F := F) s false (D (ev la - ev lb)) (lim_D _) (by have := D_len_mono (Nat.sub_le (ev la) (ev lb)); omega)
        rwa [ev_D] at this
      have hcv : ¬ cmpI (ev la) (ev lb) < 0 := by unfold cmpI; rw [if_neg (by omega)]; split <;> omega
      have hcv' : 0 ≤ cmpI (ev la) (ev lb) := by omega
      have e : sgn s (ev la) + (if mb then - sgn t (ev lb) else sgn t (ev lb)) = sgn s (ev la - ev lb) := by
        cases s <;> cases t <;> cases mb <;> simp [sgn] at hst' ⊢ <;> omega
      rw [e]
      cases s <;> cases t <;> cases mb <;> simp at hst' <;> simp [c_limbs_sum, any_pure, hm1, hm2, hn1, hn2, hc, hcv', hm, hdm, IV, putElem, putAgg]

theorem pc_add (na n1 nb n2 : Bool) (la lb : List Nat) (hla : Lim la) (hlb : Lim lb) (h1 : la.length < 2^38) (h2 : lb.length < 2^38) :
    pureCall (run F) 43 [.agg [.bool na, .slc n1 (u32s la)], .agg [.bool nb, .slc n2 (u32s lb)]] = some (IV (sgn na (ev la) + sgn nb (ev lb))) := by
  have hs := pc_sum (F := F) na n1 nb n2 false la lb hla hlb h1 h2
  simp only [Bool.false_eq_true, if_false] at hs
  refine pure_ret h.limbs_Add rfl ?_
  simp [c_limbs_Add, any_pure, hs, IV, putElem, putAgg]

theorem pc_sub (na n1 nb n2 : Bool) (la lb : List Nat) (hla : Lim la) (hlb : Lim lb) (h1 : la.length < 2^38) (h2 : lb.length < 2^38) :
    pureCall (run F) 46 [.agg [.bool na, .slc n1 (u32s la)], .agg [.bool nb, .slc n2 (u32s lb)]] = some (IV (sgn na (ev la) - sgn nb (ev lb))) := by
  have hs := pc_sum (F := F) na n1 nb n2 true la lb hla hlb h1 h2
  simp only [if_true] at hs
  rw [← Int.sub_eq_add_neg] at hs
  refine pure_ret h.limbs_Sub rfl ?_
  simp [c_limbs_Sub, any_pure, hs, IV, putElem, putAgg]
end Go.Ash
