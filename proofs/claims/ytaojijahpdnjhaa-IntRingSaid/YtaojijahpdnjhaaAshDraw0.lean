/- Operations on blocks that agree. -/
import Derived.Test.YtaojijahpdnjhaaAshRun
set_option linter.all false
namespace Go.Ash

/-- The same block, but for being frozen. -/
def AgreeAt (H H' : Heap) (id : Nat) : Prop := ∀ b, H.at id = some b → ∃ b', H'.at id = some b' ∧ b'.esz = b.esz ∧ b'.elems = b.elems ∧ (b.frozen = true → b'.frozen = true)

def headId : AVal → Option Nat
  | .mslc id _ _ => some id
  | .mptr id _ _ => some id
  | _ => none

theorem AgreeAt.refl (H : Heap) (id : Nat) : AgreeAt H H id := fun b hb => ⟨b, hb, rfl, rfl, fun h => h⟩
theorem AgreeAt.trans {H1 H2 H3 : Heap} {id : Nat} (a : AgreeAt H1 H2 id) (b : AgreeAt H2 H3 id) : AgreeAt H1 H3 id := by
  intro k hk
  obtain ⟨k1, h1, e1, e2, f1⟩ := a k hk
  obtain ⟨k2, h2, e3, e4, f2⟩ := b k1 h1
  exact ⟨k2, h2, e3.trans e1, e4.trans e2, fun h => f2 (f1 h)⟩

/-- Which operations write, which make blocks, which read them. -/
def isW (r : ROp) : Bool :=
  match r.k with
  | .store _ => true
  | .app _ _ => match r.args with
    | .c (.slc true []) :: _ => false
    | _ => true
  | .call raw _ => raw
  | .callv raw => raw
  | _ => false

def isA (r : ROp) : Bool :=
  match r.k with
  | .box | .alloc _ | .bslice .. | .mkslice .. => true
  | .app _ _ => !isW r
  | .call raw _ => !raw
  | .callv raw => !raw
  | _ => false

def isLoad (r : ROp) : Bool := match r.k with | .load .. => true | _ => false
def isR (r : ROp) : Bool := match r.k with | .load .. | .iaddr _ | .slice .. | .bytesToStr => true | _ => false

def quiet : OpK → Bool
  | .box | .alloc _ | .bslice .. | .load .. | .bytesToStr | .store _ | .mkslice .. | .slice .. | .iaddr _ | .app .. | .call .. | .callv _ => false
  | _ => true

theorem quiet_of {r : ROp} (hc : notCall r.k = true) (hw : isW r = false) (ha : isA r = false) (hr : isR r = false) : quiet r.k = true := by
  obtain ⟨k, as, d, g, ap⟩ := r
  cases k <;> first | rfl | (simp [isA] at ha; done) | (simp [isR] at hr; done) | (simp [isW] at hw; done) | (simp [notCall] at hc; done) | skip
  simp only [isA, Bool.not_eq_false'] at ha; rw [hw] at ha; simp at ha

/-- What touches no block. -/
theorem opSem_indep {K : OpK} {args : List AVal} {H H' : Heap} {f f' : Nat} (hq : quiet K = true) {v : AVal} {e : Eff}
    (h : opSem K args H f = some (v, e)) : opSem K args H' f' = some (v, e) ∧ e = .none := by
  unfold opSem at h
  split at h <;> try (simp [quiet] at hq; done)
  all_goals try (cases h; done)
  all_goals
    simp only [opSem]
    refine ⟨h, ?_⟩
    try (simp only [Option.some.injEq, Prod.mk.injEq, Option.map_eq_some_iff, Prod.exists, Option.ite_none_right_eq_some, Option.ite_none_left_eq_some] at h)
  all_goals try (obtain ⟨_, rfl⟩ := h; rfl)
  all_goals try (obtain ⟨_, _, rfl⟩ := h; rfl)
  all_goals try (obtain ⟨_, _, _, rfl⟩ := h; rfl)
  all_goals try (obtain ⟨_, _, _, _, rfl⟩ := h; rfl)
  all_goals try (obtain ⟨_, _, _, _, _, rfl⟩ := h; rfl)
  all_goals (repeat' (split at h))
  all_goals try (cases h; done)
  all_goals try (simp only [Option.some.injEq, Prod.mk.injEq, Option.map_eq_some_iff, Prod.exists] at h)
  all_goals try (obtain ⟨_, rfl⟩ := h; rfl)
  all_goals try (obtain ⟨_, _, _, rfl⟩ := h; rfl)

def reads : OpK → Bool
  | .load .. | .iaddr _ | .slice .. | .bytesToStr => true
  | _ => false

def makes : OpK → Bool
  | .box | .alloc _ | .bslice .. | .mkslice .. | .app .. => true
  | _ => false

theorem elemsOf_agree {H H' : Heap} {esz : Nat} {x : AVal} {l : List AVal} (hag : ∀ id, headId x = some id → AgreeAt H H' id) (h : elemsOf H esz x = some l) : elemsOf H' esz x = some l := by
  cases x <;> simp only [elemsOf] at h ⊢ <;> try (cases h; done)
  · exact h
  · rename_i id off len
    split at h
    · rename_i b hb
      obtain ⟨b', hb', he, hel, _⟩ := hag id rfl b hb
      rw [hb']
      simp only [he, hel]
      exact h
    · simp at h

/-- What reads blocks. -/
theorem opSem_reads {K : OpK} {args : List AVal} {H H' : Heap} {f f' : Nat} (hr : reads K = true) (hag : ∀ x ∈ args, ∀ id, headId x = some id → AgreeAt H H' id) {v : AVal} {e : Eff}
    (h : opSem K args H f = some (v, e)) : opSem K args H' f' = some (v, e) ∧ e = .none := by
  unfold opSem at h
  split at h <;> try (simp [reads] at hr; done)
  all_goals try (cases h; done)
  all_goals simp only [opSem]
  · simp only [Option.map_eq_some_iff, Prod.mk.injEq] at h ⊢
    obtain ⟨x, hx, rfl, rfl⟩ := h
    exact ⟨⟨x, hx, rfl, rfl⟩, rfl⟩
  · rename_i id i o
    split at h
    · rename_i b hb
      obtain ⟨b', hb', he, hel, _⟩ := hag (.mptr id i o) (by simp) id rfl b hb
      rw [hb']
      simp only [hel]
      split at h
      · rename_i el hel
        simp only [Option.map_eq_some_iff, Prod.mk.injEq] at h ⊢
        obtain ⟨x, hx, rfl, rfl⟩ := h
        exact ⟨⟨x, hx, rfl, rfl⟩, rfl⟩
      · simp at h
    · simp at h
  · rename_i x
    split at h
    · rename_i l hl
      rw [elemsOf_agree (hag x (by simp)) hl]
      simp only [Option.map_eq_some_iff, Prod.mk.injEq] at h ⊢
      obtain ⟨ns, hn, rfl, rfl⟩ := h
      exact ⟨⟨ns, hn, rfl, rfl⟩, rfl⟩
    · simp at h
  · split at h
    · rename_i hc
      rw [if_pos hc]
      refine ⟨h, ?_⟩
      simp only [Option.map_eq_some_iff, Prod.exists, Prod.mk.injEq] at h
      obtain ⟨_, _, _, _, rfl⟩ := h
      rfl
    · simp at h
  · rename_i id off len vs
    split at h
    · rename_i b hb
      obtain ⟨b', hb', he, hel, _⟩ := hag (.mslc id off len) (by simp) id rfl b hb
      rw [hb']
      simp only [he]
      split at h
      · rename_i hes
        rw [if_pos hes]
        refine ⟨h, ?_⟩
        simp only [Option.map_eq_some_iff, Prod.exists, Prod.mk.injEq] at h
        obtain ⟨_, _, _, _, rfl⟩ := h
        rfl
      · simp at h
    · simp at h
  · simp only [Option.ite_none_right_eq_some, Option.some.injEq, Prod.mk.injEq] at h ⊢
    obtain ⟨h1, h2, rfl, rfl⟩ := h
    exact ⟨⟨h1, h2, rfl, rfl⟩, rfl⟩
  · rename_i id off len k i
    split at h
    · rename_i hi
      rw [if_pos hi]
      split at h
      · rename_i b hb
        obtain ⟨b', hb', he, hel, _⟩ := hag (.mslc id off len) (by simp) id rfl b hb
        rw [hb']
        simp only [he]
        split at h
        · rename_i hes
          rw [if_pos hes]
          simp only [Option.some.injEq, Prod.mk.injEq] at h
          obtain ⟨rfl, rfl⟩ := h
          exact ⟨rfl, rfl⟩
        · simp at h
      · simp at h
    · simp at h

/-- What makes a block, or none. -/
theorem opSem_makes {K : OpK} {args : List AVal} {H H' : Heap} {f f' : Nat} (hm : makes K = true) (hf : ∀ b e, K = .app b e → args.head? = some (.slc true []))
    (hag : ∀ x ∈ args, ∀ id, headId x = some id → AgreeAt H H' id) {v : AVal} {e : Eff}
    (h : opSem K args H f = some (v, e)) : (e = .none ∧ opSem K args H' f' = some (v, e)) ∨ ((∃ esz xs, e = .new esz xs) ∧ opSem K args H' f = some (v, e)) := by
  unfold opSem at h
  split at h <;> try (simp [makes] at hm; done)
  all_goals try (cases h; done)
  all_goals simp only [opSem]
  rotate_right 1
  · rename_i bytes esz s x
    have h0 := hf _ _ rfl
    simp only [List.head?_cons, Option.some.injEq] at h0
    subst h0
    cases hel : elemsOf H esz x with
    | none => rw [hel] at h; simp at h
    | some new =>
      rw [hel] at h
      rw [elemsOf_agree (hag x (by simp)) hel]
      simp only at h ⊢
      split at h
      · simp at h
      · rename_i hg
        rw [if_neg hg]
        split at h
        · rename_i hn
          rw [if_pos hn]
          simp only [Option.some.injEq, Prod.mk.injEq] at h ⊢
          obtain ⟨rfl, rfl⟩ := h
          exact .inl ⟨rfl, rfl, rfl⟩
        · rename_i hn
          rw [if_neg hn]
          split at h
          · rename_i hb
            rw [if_pos hb]
            simp only [Option.some.injEq, Prod.mk.injEq] at h ⊢
            obtain ⟨rfl, rfl⟩ := h
            exact .inr ⟨⟨_, _, rfl⟩, by rw [if_neg hg, if_neg hn, if_pos hb]⟩
          · simp at h
  all_goals
    refine .inr ⟨?_, h⟩
    split at h <;> try (cases h; done)
    simp only [Option.some.injEq, Prod.mk.injEq, Option.map_eq_some_iff] at h
    first
      | (obtain ⟨_, rfl⟩ := h; exact ⟨_, _, rfl⟩)
      | (obtain ⟨_, _, _, rfl⟩ := h; exact ⟨_, _, rfl⟩)

theorem idsL_mem_get : ∀ {l : List AVal} {id : Nat}, id ∈ idsL l → ∃ (i : Nat) (x : AVal), l[i]? = some x ∧ id ∈ x.ids
  | [], id, h => by simp [idsL] at h
  | v :: vs, id, h => by
    simp only [idsL, List.mem_append] at h
    rcases h with h | h
    · exact ⟨0, v, rfl, h⟩
    · obtain ⟨i, x, hx, hi⟩ := idsL_mem_get h
      exact ⟨i + 1, x, by simpa using hx, hi⟩

/-- Trees of blocks that agree. -/
theorem tree_agree {H H' : Heap} {C : Nat → Prop} (hag : ∀ id, C id → AgreeAt H H' id) (hcl : ∀ id b, C id → H.at id = some b → ∀ y ∈ idsL b.elems, C y) : ∀ n : Nat,
    (∀ (c : AVal) (r : AVal × List Nat), (∀ y ∈ c.ids, C y) → c.tree H n = some r → c.tree H' n = some r) ∧
    (∀ (l : List AVal) (r : List AVal × List Nat), (∀ y ∈ idsL l, C y) → treeL H n l = some r → treeL H' n l = some r)
  | 0 => ⟨fun _ _ _ h => by simp [AVal.tree] at h, fun _ _ _ h => by simp [treeL] at h⟩
  | n + 1 => by
    obtain ⟨ihv, ihl⟩ := tree_agree hag hcl n
    constructor
    · intro c r hi hc
      cases c <;> simp only [AVal.tree] at hc ⊢ <;> try (exact hc)
      case mslc id off len =>
        have hC : C id := hi id (by simp [AVal.ids])
        split at hc
        · rename_i b hb
          obtain ⟨b', hb', _, hel, _⟩ := hag id hC b hb
          rw [hb']
          simp only [hel]
          split at hc
          · rename_i hle
            rw [if_pos hle]
            simp only [Option.map_eq_some_iff] at hc ⊢
            obtain ⟨x, hx, rfl⟩ := hc
            refine ⟨x, ihl _ _ ?_ hx, rfl⟩
            intro y hy
            refine hcl id b hC hb y ?_
            obtain ⟨k, c, hk, hy⟩ := idsL_mem_get hy
            rw [List.getElem?_take] at hk
            split at hk
            · rw [List.getElem?_drop] at hk
              exact idsL_mem_of hk hy
            · simp at hk
          · simp at hc
        · simp at hc
      case mptr id i o =>
        have hC : C id := hi id (by simp [AVal.ids])
        split at hc
        · rename_i b hb
          obtain ⟨b', hb', _, hel, _⟩ := hag id hC b hb
          rw [hb']
          simp only [hel]
          split at hc
          · rename_i el hel
            simp only [Option.map_eq_some_iff] at hc ⊢
            obtain ⟨x, hx, rfl⟩ := hc
            refine ⟨x, ihl _ _ ?_ hx, rfl⟩
            intro y hy
            refine hcl id b hC hb y (idsL_mem_of hel ?_)
            obtain ⟨k, c, hk, hy⟩ := idsL_mem_get hy
            rw [List.getElem?_drop] at hk
            exact cells_ids hk hy
          · simp at hc
        · simp at hc
      case agg cs =>
        simp only [Option.map_eq_some_iff] at hc ⊢
        obtain ⟨x, hx, rfl⟩ := hc
        exact ⟨x, ihl _ _ (fun y hy => hi y (by simpa [AVal.ids] using hy)) hx, rfl⟩
      case tup cs =>
        simp only [Option.map_eq_some_iff] at hc ⊢
        obtain ⟨x, hx, rfl⟩ := hc
        exact ⟨x, ihl _ _ (fun y hy => hi y (by simpa [AVal.ids] using hy)) hx, rfl⟩
      case ifc ty v =>
        simp only [Option.map_eq_some_iff] at hc ⊢
        obtain ⟨x, hx, rfl⟩ := hc
        exact ⟨x, ihv _ _ (fun y hy => hi y (by simpa [AVal.ids] using hy)) hx, rfl⟩
      case fn f a b =>
        simp only [Option.bind_eq_some_iff, Option.map_eq_some_iff] at hc ⊢
        obtain ⟨x, hx, y, hy, rfl⟩ := hc
        exact ⟨x, ihl _ _ (fun y hy => hi y (by simp [AVal.ids, hy])) hx, y, ihl _ _ (fun y hy => hi y (by simp [AVal.ids, hy])) hy, rfl⟩
    · intro l r hi hl
      unfold treeL at hl ⊢
      split at hl
      · rename_i h; rw [if_pos h]; exact hl
      · rename_i h
        rw [if_neg h]
        cases l with
        | nil => exact hl
        | cons v vs =>
          simp only [Option.bind_eq_some_iff, Option.map_eq_some_iff] at hl ⊢
          obtain ⟨x, hx, y, hy, rfl⟩ := hl
          exact ⟨x, ihv _ _ (fun y hy => hi y (by simp [idsL, hy])) hx, y, ihl _ _ (fun y hy => hi y (by simp [idsL, hy])) hy, rfl⟩

section
variable {L : Link} {w : World} {B : Nat → Prop} {m : PMap}

theorem mem_arr_ids {cs : List AVal} {Q : Nat → Prop} (h : ∀ (i : Nat) (c : AVal), cs[i]? = some c → ∀ id ∈ c.ids, Q id) : ∀ id ∈ idsL cs, Q id := by
  intro id hid
  obtain ⟨k, c, hk, hy⟩ := idsL_mem_get hid
  exact h k c hk id hy

theorem Reps.mapped {v : Value} {a : AVal} (h : Reps L w B m v a) : ∀ id ∈ a.ids, ∃ p, m id = some p := by
  induction h with
  | mslc id off len cap p arr el fz hm hcap hblk hroom => intro x hx; simp [AVal.ids] at hx; subst hx; exact ⟨p, hm⟩
  | mptr id i o p hm => intro x hx; simp [AVal.ids] at hx; subst hx; exact ⟨p, hm⟩
  | agg vs cs hl _ ih => intro x hx; simp only [AVal.ids] at hx; exact mem_arr_ids ih x hx
  | tup vs cs hl _ ih => intro x hx; simp only [AVal.ids] at hx; exact mem_arr_ids ih x hx
  | fn f first cap vf vc hok hf hc _ _ ihf ihc =>
    intro x hx
    simp only [AVal.ids, List.mem_append] at hx
    exact hx.elim (mem_arr_ids ihf x) (mem_arr_ids ihc x)
  | ifc t v a _ ih => intro x hx; simp only [AVal.ids] at hx; exact ih x hx
  | _ => intro x hx; simp [AVal.ids] at hx
end
end Go.Ash
