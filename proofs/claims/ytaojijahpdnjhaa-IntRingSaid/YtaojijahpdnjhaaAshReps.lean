/- What an abstract value says of a value in a world, and that it goes on saying so. -/
import Derived.Test.YtaojijahpdnjhaaAshExec
set_option linter.all false
namespace Go.Ash

structure Link where
  P : Program
  fn : Nat → FuncId
  ty : Nat → TypeId
  ok : Nat → Prop

structure Pl where
  blk : Nat
  base : Nat
  esz : Nat

abbrev PMap := Nat → Option Pl

inductive Reps (L : Link) (w : World) (B : Nat → Prop) (m : PMap) : Value → AVal → Prop
  | und (v : Value) : Reps L w B m v .und
  | bool (b : Bool) : Reps L w B m (.bool b) (.bool b)
  | int (k : IntKind) (n : Int) : Reps L w B m (.int k n) (.int k n)
  | str (s : ByteArray) : Reps L w B m (.string s) (.str s)
  | nils : Reps L w B m (.slice none 0 0) (.slc true [])
  | slc (a : Addr) (s cap : Nat) (xs : List AVal) (vs : Nat → Nat → Value) (hspot : xs ≠ [] → a.spot = none) (hcap : xs.length ≤ cap)
      (hsz : ∀ (i : Nat) (x : AVal), xs[i]? = some x → x.cells.length = s) (hids : idsL xs = [])
      (hcell : ∀ (i : Nat) (x : AVal) (j : Nat) (c : AVal), xs[i]? = some x → x.cells[j]? = some c → w.cell? ⟨a.block, a.off + (i * s + j), none⟩ = some (vs i j))
      (hrep : ∀ (i : Nat) (x : AVal) (j : Nat) (c : AVal), xs[i]? = some x → x.cells[j]? = some c → Reps L w B m (vs i j) c)
      (hB : xs ≠ [] → ¬ B a.block ∧ a.block < w.heap.size) : Reps L w B m (.slice (some a) xs.length cap) (.slc false xs)
  | agg (vs : Array Value) (cs : List AVal) (hl : vs.size = cs.length)
      (h : ∀ (i : Nat) (c : AVal), cs[i]? = some c → Reps L w B m (vs.getD i undef) c) : Reps L w B m (.agg vs) (.agg cs)
  | ptr (a : Addr) (cs : List AVal) (vs : Nat → Value) (hspot : a.spot = none) (hids : idsL cs = [])
      (hcell : ∀ (j : Nat) (c : AVal), cs[j]? = some c → w.cell? ⟨a.block, a.off + j, none⟩ = some (vs j))
      (hrep : ∀ (j : Nat) (c : AVal), cs[j]? = some c → Reps L w B m (vs j) c)
      (hB : cs ≠ [] → ¬ B a.block ∧ a.block < w.heap.size) : Reps L w B m (.pointer (some a)) (.ptr cs)
  | nilp : Reps L w B m (.pointer none) .nilp
  | mslc (id off len cap : Nat) (p : Pl) (arr : Array Value) (el : TypeId) (fz : Nat × Nat) (hm : m id = some p) (hcap : len ≤ cap)
      (hblk : w.heap[p.blk]? = some (.cells arr el fz)) (hroom : p.base + (off + cap) * p.esz ≤ arr.size) :
      Reps L w B m (.slice (some ⟨p.blk, p.base + off * p.esz, none⟩) len cap) (.mslc id off len)
  | mptr (id i o : Nat) (p : Pl) (hm : m id = some p) : Reps L w B m (.pointer (some ⟨p.blk, p.base + i * p.esz + o, none⟩)) (.mptr id i o)
  | fn (f : Nat) (first cap : List AVal) (vf vc : Array Value) (hok : L.ok f) (hf : vf.size = first.length) (hc : vc.size = cap.length)
      (rf : ∀ (i : Nat) (c : AVal), first[i]? = some c → Reps L w B m (vf.getD i undef) c) (rc : ∀ (i : Nat) (c : AVal), cap[i]? = some c → Reps L w B m (vc.getD i undef) c) :
      Reps L w B m (.func (.func (L.fn f)) vf vc) (.fn f first cap)
  | nilfn : Reps L w B m .nilFunc .nilfn
  | ifc (t : Nat) (v : Value) (a : AVal) (h : Reps L w B m v a) : Reps L w B m (.iface (L.ty t) v) (.ifc t a)
  | nilif : Reps L w B m .nilIface .nilif
  | tup (vs : Array Value) (cs : List AVal) (hl : vs.size = cs.length)
      (h : ∀ (i : Nat) (c : AVal), cs[i]? = some c → Reps L w B m (vs.getD i undef) c) : Reps L w B m (.tuple vs) (.tup cs)

/-- The world goes on: old blocks stand but for those of M, which keep their shape. -/
structure WExt (M : Nat → Prop) (w w' : World) : Prop where
  size : w.heap.size ≤ w'.heap.size
  old : ∀ b, b < w.heap.size → ¬ M b → w'.heap[b]? = w.heap[b]?
  writ : ∀ b arr el fz, M b → w.heap[b]? = some (.cells arr el fz) → ∃ arr', w'.heap[b]? = some (.cells arr' el fz) ∧ arr'.size = arr.size
  rest : w'.os = w.os ∧ w'.tape = w.tape ∧ w'.output = w.output

theorem WExt.refl (M : Nat → Prop) (w : World) : WExt M w w := ⟨Nat.le_refl _, fun _ _ _ => rfl, fun _ arr _ _ _ h => ⟨arr, h, rfl⟩, rfl, rfl, rfl⟩

theorem WExt.trans {M M' : Nat → Prop} {w w1 w2 : World} (h1 : WExt M w w1) (h2 : WExt M' w1 w2) (hM : ∀ b, M' b → M b ∨ w.heap.size ≤ b) : WExt M w w2 where
  size := Nat.le_trans h1.size h2.size
  rest := ⟨h2.rest.1.trans h1.rest.1, h2.rest.2.1.trans h1.rest.2.1, h2.rest.2.2.trans h1.rest.2.2⟩
  old b hb hn := by
    rw [h2.old b (Nat.lt_of_lt_of_le hb h1.size) (fun h => (hM b h).elim hn (fun h => by omega)), h1.old b hb hn]
  writ b arr el fz hb h := by
    obtain ⟨arr1, ha1, hs1⟩ := h1.writ b arr el fz hb h
    by_cases hM' : M' b
    · obtain ⟨arr2, ha2, hs2⟩ := h2.writ b arr1 el fz hM' ha1
      exact ⟨arr2, ha2, hs2.trans hs1⟩
    · have hlt : b < w1.heap.size := by
        rcases Nat.lt_or_ge b w1.heap.size with h | h
        · exact h
        · simp [Array.getElem?_eq_none h] at ha1
      exact ⟨arr1, (h2.old b hlt hM').trans ha1, hs1⟩

theorem WExt.mono {M M' : Nat → Prop} {w w' : World} (h : WExt M w w') (hM : ∀ b, M b → M' b) : WExt M' w w' where
  size := h.size
  rest := h.rest
  old b hb hn := h.old b hb (fun h' => hn (hM b h'))
  writ b arr el fz _ hw := by
    by_cases hb : M b
    · exact h.writ b arr el fz hb hw
    · have hlt : b < w.heap.size := by
        rcases Nat.lt_or_ge b w.heap.size with h | h
        · exact h
        · simp [Array.getElem?_eq_none h] at hw
      exact ⟨arr, (h.old b hlt hb).trans hw, rfl⟩

theorem heap_lt {w : World} {b : Nat} {o : Obj} (h : w.heap[b]? = some o) : b < w.heap.size := by
  rcases Nat.lt_or_ge b w.heap.size with h' | h'
  · exact h'
  · simp [Array.getElem?_eq_none h'] at h

theorem cell_same {w w' : World} {a : Addr} {v : Value} (h : w'.heap[a.block]? = w.heap[a.block]?) (hc : w.cell? a = some v) : w'.cell? a = some v := by
  unfold World.cell? at *; rw [h]; exact hc

section
variable {L : Link} {w w' : World} {B B' : Nat → Prop} {m m' : PMap}

theorem Reps.ext {M : Nat → Prop} {v : Value} {a : AVal} (h : Reps L w B m v a) (hw : WExt M w w') (hM : ∀ b, M b → B b)
    (hB : ∀ b, B' b → B b ∨ w.heap.size ≤ b) (hm : ∀ id p, m id = some p → m' id = some p) : Reps L w' B' m' v a := by
  induction h with
  | und v => exact .und v
  | bool b => exact .bool b
  | int k n => exact .int k n
  | str s => exact .str s
  | nils => exact .nils
  | slc a s cap xs vs hspot hcap hsz hids hcell hrep hBx ih =>
    refine .slc a s cap xs vs hspot hcap hsz hids ?_ ih ?_
    · intro i x j c hx hc
      have hne : xs ≠ [] := by rintro rfl; simp at hx
      obtain ⟨h1, h2⟩ := hBx hne
      exact cell_same (hw.old _ h2 (fun h => h1 (hM _ h))) (hcell i x j c hx hc)
    · intro hne
      obtain ⟨h1, h2⟩ := hBx hne
      exact ⟨fun h => (hB _ h).elim h1 (fun h => by omega), Nat.lt_of_lt_of_le h2 hw.size⟩
  | agg vs cs hl _ ih => exact .agg vs cs hl ih
  | ptr a cs vs hspot hids hcell hrep hBx ih =>
    refine .ptr a cs vs hspot hids ?_ ih ?_
    · intro j c hc
      have hne : cs ≠ [] := by rintro rfl; simp at hc
      obtain ⟨h1, h2⟩ := hBx hne
      exact cell_same (hw.old _ h2 (fun h => h1 (hM _ h))) (hcell j c hc)
    · intro hne
      obtain ⟨h1, h2⟩ := hBx hne
      exact ⟨fun h => (hB _ h).elim h1 (fun h => by omega), Nat.lt_of_lt_of_le h2 hw.size⟩
  | nilp => exact .nilp
  | mslc id off len cap p arr el fz hmi hcap hblk hroom =>
    by_cases hb : M p.blk
    · obtain ⟨arr', ha, hs⟩ := hw.writ _ _ _ _ hb hblk
      exact .mslc id off len cap p arr' el fz (hm _ _ hmi) hcap ha (by rw [hs]; exact hroom)
    · exact .mslc id off len cap p arr el fz (hm _ _ hmi) hcap ((hw.old _ (heap_lt hblk) hb).trans hblk) hroom
  | mptr id i o p hmi => exact .mptr id i o p (hm _ _ hmi)
  | fn f first cap vf vc hok hf hc _ _ ihf ihc => exact .fn f first cap vf vc hok hf hc ihf ihc
  | nilfn => exact .nilfn
  | ifc t v a _ ih => exact .ifc t v a ih
  | nilif => exact .nilif
  | tup vs cs hl _ ih => exact .tup vs cs hl ih

/-- Of fewer blocks that may be written, the same is true. -/
theorem Reps.less {v : Value} {a : AVal} (h : Reps L w B m v a) (hB : ∀ b, B' b → B b) : Reps L w B' m v a :=
  h.ext (M := fun _ => False) (WExt.refl _ _) (fun _ h => h.elim) (fun b h => .inl (hB b h)) (fun _ _ h => h)

theorem idsL_mem {xs : List AVal} (h : idsL xs = []) {i : Nat} {x : AVal} (hx : xs[i]? = some x) : x.ids = [] := by
  induction xs generalizing i with
  | nil => simp at hx
  | cons y ys ih =>
    simp only [idsL, List.append_eq_nil_iff] at h
    cases i with
    | zero => simp at hx; exact hx ▸ h.1
    | succ i => simp at hx; exact ih h.2 hx

theorem ids_cells {x : AVal} (h : x.ids = []) : idsL x.cells = [] := by
  cases x <;> simp_all [AVal.cells, AVal.ids, idsL]

theorem idsL_cells_mem {xs : List AVal} (h : idsL xs = []) {i j : Nat} {x c : AVal} (hx : xs[i]? = some x) (hc : x.cells[j]? = some c) : c.ids = [] :=
  idsL_mem (ids_cells (idsL_mem h hx)) hc

mutual
theorem ren_self (ρ : Nat → Nat) : ∀ a : AVal, a.ids = [] → a.ren ρ = a
  | .und, _ | .bool _, _ | .int _ _, _ | .str _, _ | .slc _ _, _ | .ptr _, _ | .nilp, _ | .nilfn, _ | .nilif, _ => rfl
  | .mslc .., h => by simp [AVal.ids] at h
  | .mptr .., h => by simp [AVal.ids] at h
  | .agg cs, h => by simp only [AVal.ids] at h; simp only [AVal.ren, renL_self ρ cs h]
  | .fn f a b, h => by simp only [AVal.ids, List.append_eq_nil_iff] at h; simp only [AVal.ren, renL_self ρ a h.1, renL_self ρ b h.2]
  | .ifc t v, h => by simp only [AVal.ids] at h; simp only [AVal.ren, ren_self ρ v h]
  | .tup cs, h => by simp only [AVal.ids] at h; simp only [AVal.ren, renL_self ρ cs h]
theorem renL_self (ρ : Nat → Nat) : ∀ l : List AVal, idsL l = [] → renL ρ l = l
  | [], _ => rfl
  | v :: vs, h => by simp only [idsL, List.append_eq_nil_iff] at h; simp only [renL, ren_self ρ v h.1, renL_self ρ vs h.2]
end

/-- The blocks' numbers may be told anew. -/
theorem Reps.ren {v : Value} {a : AVal} (h : Reps L w B m v a) (ρ : Nat → Nat) (hm : ∀ id ∈ a.ids, ∀ p, m id = some p → m' (ρ id) = some p) :
    Reps L w B m' v (a.ren ρ) := by
  have hL : ∀ (cs : List AVal) (i : Nat), (renL ρ cs)[i]? = (cs[i]?).map (AVal.ren ρ) := by
    intro cs
    induction cs with
    | nil => intro i; simp [renL]
    | cons c cs ih => intro i; cases i <;> simp [renL, ih]
  have hLl : ∀ (cs : List AVal), (renL ρ cs).length = cs.length := by
    intro cs
    induction cs with
    | nil => rfl
    | cons c cs ih => simp [renL, ih]
  have hid : ∀ (cs : List AVal) (i : Nat) (c : AVal), cs[i]? = some c → ∀ id ∈ c.ids, id ∈ idsL cs := by
    intro cs
    induction cs with
    | nil => intro i c hc; simp at hc
    | cons y ys ih =>
      intro i c hc id hi
      simp only [idsL, List.mem_append]
      cases i with
      | zero => simp at hc; exact .inl (hc ▸ hi)
      | succ i => simp at hc; exact .inr (ih i c hc id hi)
  induction h with
  | und v => exact .und v
  | bool b => exact .bool b
  | int k n => exact .int k n
  | str s => exact .str s
  | nils => exact .nils
  | slc a s cap xs vs hspot hcap hsz hids hcell hrep hBx ih =>
    refine .slc a s cap xs vs hspot hcap hsz hids hcell ?_ hBx
    intro i x j c hx hc
    have hci := idsL_cells_mem hids hx hc
    have := ih i x j c hx hc (fun id h => by rw [hci] at h; cases h)
    have e : c.ren ρ = c := ren_self ρ c hci
    rw [e] at this; exact this
  | agg vs cs hl _ ih =>
    refine .agg vs _ (by rw [hLl]; exact hl) ?_
    intro i c hc
    rw [hL] at hc
    cases hci : cs[i]? with
    | none => rw [hci] at hc; simp at hc
    | some c0 =>
      rw [hci] at hc; simp at hc; subst hc
      exact ih i c0 hci (fun id h => hm id (by simp only [AVal.ids]; exact hid cs i c0 hci id h))
  | ptr a cs vs hspot hids hcell hrep hBx ih =>
    refine .ptr a cs vs hspot hids hcell ?_ hBx
    intro j c hc
    have hci := idsL_mem hids hc
    have := ih j c hc (fun id h => by rw [hci] at h; cases h)
    rw [ren_self ρ c hci] at this; exact this
  | nilp => exact .nilp
  | mslc id off len cap p arr el fz hmi hcap hblk hroom =>
    exact .mslc _ off len cap p arr el fz (hm id (by simp [AVal.ids]) p hmi) hcap hblk hroom
  | mptr id i o p hmi => exact .mptr _ i o p (hm id (by simp [AVal.ids]) p hmi)
  | fn f first cap vf vc hok hf hc _ _ ihf ihc =>
    refine .fn f _ _ vf vc hok (by rw [hLl]; exact hf) (by rw [hLl]; exact hc) ?_ ?_
    · intro i c hc
      rw [hL] at hc
      cases hci : first[i]? with
      | none => rw [hci] at hc; simp at hc
      | some c0 =>
        rw [hci] at hc; simp at hc; subst hc
        exact ihf i c0 hci (fun id h => hm id (by simp only [AVal.ids, List.mem_append]; exact .inl (hid first i c0 hci id h)))
    · intro i c hc
      rw [hL] at hc
      cases hci : cap[i]? with
      | none => rw [hci] at hc; simp at hc
      | some c0 =>
        rw [hci] at hc; simp at hc; subst hc
        exact ihc i c0 hci (fun id h => hm id (by simp only [AVal.ids, List.mem_append]; exact .inr (hid cap i c0 hci id h)))
  | nilfn => exact .nilfn
  | ifc t v a _ ih => exact .ifc t v _ (ih (fun id h => hm id (by simpa only [AVal.ids] using h)))
  | nilif => exact .nilif
  | tup vs cs hl _ ih =>
    refine .tup vs _ (by rw [hLl]; exact hl) ?_
    intro i c hc
    rw [hL] at hc
    cases hci : cs[i]? with
    | none => rw [hci] at hc; simp at hc
    | some c0 =>
      rw [hci] at hc; simp at hc; subst hc
      exact ih i c0 hci (fun id h => hm id (by simp only [AVal.ids]; exact hid cs i c0 hci id h))
end
end Go.Ash
