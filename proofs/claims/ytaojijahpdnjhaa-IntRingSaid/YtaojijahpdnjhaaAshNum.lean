/- Numbers as lists of limbs: plain arithmetic. -/
import Derived.Test.YtaojijahpdnjhaaAshUse
set_option linter.all false
namespace Go.Ash

abbrev B32 : Nat := 4294967296

/-- The value of limbs, the lowest first. -/
def ev : List Nat → Nat
  | [] => 0
  | x :: l => x + B32 * ev l

/-- The limbs of a number, none at the end that is 0. -/
def D (n : Nat) : List Nat := if h : n = 0 then [] else n % B32 :: D (n / B32)
termination_by n
decreasing_by exact Nat.div_lt_self (Nat.pos_of_ne_zero h) (by decide)

@[simp] theorem D_zero : D 0 = [] := by unfold D; simp
theorem D_pos {n : Nat} (h : n ≠ 0) : D n = n % B32 :: D (n / B32) := by rw [D]; simp [h]

theorem ev_D (n : Nat) : ev (D n) = n := by
  induction n using Nat.strongRecOn with
  | ind n ih =>
    by_cases h : n = 0
    · subst h; rw [D_zero]; rfl
    · rw [D_pos h]
      simp only [ev]
      rw [ih _ (Nat.div_lt_self (Nat.pos_of_ne_zero h) (by decide))]
      have := Nat.div_add_mod n B32
      omega

def Lim (l : List Nat) : Prop := ∀ x ∈ l, x < B32

theorem lim_D (n : Nat) : Lim (D n) := by
  induction n using Nat.strongRecOn with
  | ind n ih =>
    by_cases h : n = 0
    · subst h; rw [D_zero]; intro x hx; cases hx
    · rw [D_pos h]
      intro x hx
      rcases List.mem_cons.1 hx with rfl | hx
      · exact Nat.mod_lt _ (by decide)
      · exact ih _ (Nat.div_lt_self (Nat.pos_of_ne_zero h) (by decide)) x hx

theorem Lim.get {l : List Nat} (h : Lim l) {i : Nat} (hi : i < l.length) : l[i] < 4294967296 := h _ (List.getElem_mem hi)

@[simp] theorem D_ne_nil {n : Nat} : D n = [] ↔ n = 0 := by
  constructor
  · intro h
    have := ev_D n
    rw [h] at this; simpa [ev] using this.symm
  · rintro rfl; exact D_zero

theorem ev_append : ∀ (a b : List Nat), ev (a ++ b) = ev a + B32 ^ a.length * ev b
  | [], b => by simp [ev]
  | x :: a, b => by
    simp only [List.cons_append, ev, ev_append a b, List.length_cons, Nat.pow_succ, Nat.mul_add]
    rw [Nat.mul_comm (B32 ^ a.length) B32, Nat.mul_assoc, Nat.add_assoc]

theorem ev_snoc (a : List Nat) (x : Nat) : ev (a ++ [x]) = ev a + B32 ^ a.length * x := by rw [ev_append]; simp [ev]

theorem ev_lt : ∀ {l : List Nat}, Lim l → ev l < B32 ^ l.length
  | [], _ => by simp [ev]
  | x :: l, h => by
    have h1 : x < B32 := h x (by simp)
    have h2 := ev_lt (l := l) (fun y hy => h y (by simp [hy]))
    simp only [ev, List.length_cons, Nat.pow_succ]
    have h3 : B32 * (ev l + 1) ≤ B32 * B32 ^ l.length := Nat.mul_le_mul_left _ h2
    rw [Nat.mul_comm (B32 ^ l.length)]
    rw [Nat.mul_add, Nat.mul_one] at h3
    omega

/-- Limbs without noughts at the end are those of their number. -/
theorem D_ev : ∀ {l : List Nat}, Lim l → (∀ h : l ≠ [], l.getLast h ≠ 0) → D (ev l) = l
  | [], _, _ => D_zero
  | x :: l, hl, hn => by
    have h1 : x < B32 := hl x (by simp)
    have hl' : Lim l := fun y hy => hl y (by simp [hy])
    have hn' : ∀ h : l ≠ [], l.getLast h ≠ 0 := fun h => by have := hn (by simp); rwa [List.getLast_cons h] at this
    have ih := D_ev hl' hn'
    have hne : ev (x :: l) ≠ 0 := by
      simp only [ev]
      intro h0
      have hx0 : x = 0 := by omega
      have he0 : ev l = 0 := (Nat.mul_eq_zero.1 (by omega : B32 * ev l = 0)).resolve_left (by decide)
      have : l = [] := by rw [← ih, he0, D_zero]
      subst this
      exact hn (by simp) (by simpa using hx0)
    rw [D_pos hne]
    simp only [ev]
    rw [Nat.add_mul_mod_self_left, Nat.mod_eq_of_lt h1, Nat.add_mul_div_left _ _ (by decide : 0 < B32), Nat.div_eq_of_lt h1, Nat.zero_add, ih]

theorem D_last {n : Nat} (h : D n ≠ []) : (D n).getLast h ≠ 0 := by
  induction n using Nat.strongRecOn with
  | ind n ih =>
    by_cases h0 : n = 0
    · subst h0; exact absurd D_zero h
    · have hd := D_pos h0
      by_cases hnil : D (n / B32) = []
      · have : n / B32 = 0 := D_ne_nil.1 hnil
        have hlt : n < B32 := by
          rcases Nat.lt_or_ge n B32 with h | h
          · exact h
          · have := Nat.div_pos h (by decide : 0 < B32); omega
        have hval : D n = [n] := by rw [hd, hnil, Nat.mod_eq_of_lt hlt]
        simp only [hval, List.getLast_singleton]
        exact h0
      · have h1 := ih _ (Nat.div_lt_self (Nat.pos_of_ne_zero h0) (by decide)) hnil
        simp only [hd]
        rw [List.getLast_cons hnil]
        exact h1

/-- The limbs without the noughts at the end. -/
theorem ev_zeros (l : List Nat) (k : Nat) : ev (l ++ List.replicate k 0) = ev l := by
  rw [ev_append]
  have : ∀ k, ev (List.replicate k 0) = 0 := by
    intro k
    induction k with
    | zero => rfl
    | succ k ih => simp [List.replicate_succ, ev, ih]
  rw [this]; simp

theorem D_len_le {n k : Nat} (h : n < B32 ^ k) : (D n).length ≤ k := by
  induction k generalizing n with
  | zero => simp at h; subst h; rw [D_zero]; simp
  | succ k ih =>
    by_cases h0 : n = 0
    · subst h0; rw [D_zero]; simp
    · rw [D_pos h0]
      have : n / B32 < B32 ^ k := by
        rw [Nat.div_lt_iff_lt_mul (by decide : 0 < B32)]
        rwa [Nat.pow_succ] at h
      simpa using ih this

theorem D_lt (n : Nat) : n < B32 ^ (D n).length := by
  have := ev_lt (lim_D n)
  rwa [ev_D] at this

theorem D_len_mono {a b : Nat} (h : a ≤ b) : (D a).length ≤ (D b).length := D_len_le (Nat.lt_of_le_of_lt h (D_lt b))

theorem le_of_D_len {n k : Nat} (h : (D n).length ≤ k) : n < B32 ^ k := Nat.lt_of_lt_of_le (D_lt n) (Nat.pow_le_pow_right (by decide) h)

theorem ev_take_succ {l : List Nat} {i : Nat} (hi : i < l.length) : ev (l.take (i + 1)) = ev (l.take i) + B32 ^ i * l[i] := by
  rw [List.take_succ_eq_append_getElem hi, ev_snoc, List.length_take, Nat.min_eq_left (by omega)]

theorem lim_take {l : List Nat} (h : Lim l) (k : Nat) : Lim (l.take k) := fun x hx => h x (List.mem_of_mem_take hx)
theorem lim_drop {l : List Nat} (h : Lim l) (k : Nat) : Lim (l.drop k) := fun x hx => h x (List.mem_of_mem_drop hx)
theorem lim_append {a b : List Nat} (h1 : Lim a) (h2 : Lim b) : Lim (a ++ b) := fun x hx => (List.mem_append.1 hx).elim (h1 x) (h2 x)
theorem lim_set {l : List Nat} (h : Lim l) {i v : Nat} (hv : v < 4294967296) : Lim (l.set i v) := fun x hx => by
  rcases List.mem_or_eq_of_mem_set hx with h' | rfl
  · exact h x h'
  · exact hv
theorem lim_replicate (k : Nat) : Lim (List.replicate k 0) := fun x hx => by rw [List.eq_of_mem_replicate hx]; decide

/-! ### As values -/

def u32s (l : List Nat) : List AVal := l.map fun (n : Nat) => AVal.int .u32 (n : Int)

@[simp] theorem idsL_u32s (l : List Nat) : idsL (u32s l) = [] := by
  induction l with
  | nil => rfl
  | cons a l ih => simpa [u32s, idsL, AVal.ids] using ih
@[simp] theorem u32s_nil (l : List Nat) : u32s l = [] ↔ l = [] := by simp [u32s]
@[simp] theorem length_u32s (l : List Nat) : (u32s l).length = l.length := by simp [u32s]
@[simp] theorem gd_u32s (l : List Nat) (i : Nat) (h : i < l.length) : gd (u32s l) i = .int .u32 (l[i] : Nat) := by
  induction l generalizing i with
  | nil => simp at h
  | cons a l ih => cases i with
    | zero => simp [u32s, gd]
    | succ i => simpa [u32s, gd] using ih i (by simpa using h)
@[simp] theorem getElem_u32s (l : List Nat) (i : Nat) (h : i < (u32s l).length) : (u32s l)[i] = .int .u32 ((l[i]'(by simpa using h) : Nat) : Int) := by simp [u32s]
theorem get_u32s (l : List Nat) (i : Nat) (h : i < l.length) : (u32s l)[i]? = some (.int .u32 (l[i] : Nat)) := by simp [u32s, h]
theorem u32s_take (l : List Nat) (k : Nat) : (u32s l).take k = u32s (l.take k) := by simp [u32s]
theorem u32s_drop (l : List Nat) (k : Nat) : (u32s l).drop k = u32s (l.drop k) := by simp [u32s]
theorem u32s_set (l : List Nat) (k v : Nat) : (u32s l).set k (.int .u32 v) = u32s (l.set k v) := by simp [u32s, List.map_set]
theorem u32s_append (a b : List Nat) : u32s a ++ u32s b = u32s (a ++ b) := by simp [u32s]
theorem u32s_replicate (k : Nat) : List.replicate k (AVal.int .u32 0) = u32s (List.replicate k 0) := by simp [u32s]
theorem allSz_u32s (l : List Nat) : allSz 1 (u32s l) = true := by simp [allSz, u32s, AVal.cells]
theorem good_u32s (l : List Nat) : goodElems 1 (u32s l) = true := by simp [goodElems, u32s, AVal.cells, AVal.isCell]
end Go.Ash
