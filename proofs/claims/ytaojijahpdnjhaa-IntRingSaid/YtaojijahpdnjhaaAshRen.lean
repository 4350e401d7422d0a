/- The blocks that are reached, numbered anew. -/
import Derived.Test.YtaojijahpdnjhaaAshTree
set_option linter.all false
namespace Go.Ash

theorem reach_spec {H : Heap} : ∀ (n : Nat) (todo seen l : List Nat), reach H n todo seen = some l →
    (∃ ext, l = seen ++ ext) ∧ (∀ x ∈ todo, x ∈ l) ∧ (seen.Nodup → l.Nodup) ∧
    (∀ x ∈ l, x ∉ seen → ∀ b, H.at x = some b → ∀ y ∈ idsL b.elems, y ∈ l)
  | 0, _, _, _, h => by simp [reach] at h
  | n + 1, [], seen, l, h => by
    simp [reach] at h; subst h
    exact ⟨⟨[], by simp⟩, by simp, fun h => h, fun x hx hn => absurd hx hn⟩
  | n + 1, id :: rest, seen, l, h => by
    simp only [reach] at h
    split at h
    · rename_i hc
      have hin : id ∈ seen := by simpa using hc
      obtain ⟨⟨ext, h1⟩, h2, h3, h4⟩ := reach_spec n rest seen l h
      refine ⟨⟨ext, h1⟩, ?_, h3, h4⟩
      intro x hx
      rcases List.mem_cons.1 hx with rfl | hx
      · rw [h1]; exact List.mem_append_left _ hin
      · exact h2 x hx
    · rename_i hc
      have hin : id ∉ seen := by simpa using hc
      have key : ∀ rest', (∀ x ∈ rest, x ∈ rest') → (∀ b, H.at id = some b → ∀ y ∈ idsL b.elems, y ∈ rest') → reach H n rest' (seen ++ [id]) = some l →
          (∃ ext, l = seen ++ ext) ∧ (∀ x ∈ id :: rest, x ∈ l) ∧ (seen.Nodup → l.Nodup) ∧ (∀ x ∈ l, x ∉ seen → ∀ b, H.at x = some b → ∀ y ∈ idsL b.elems, y ∈ l) := by
        intro rest' hr hb hre
        obtain ⟨⟨ext, h1⟩, h2, h3, h4⟩ := reach_spec n rest' (seen ++ [id]) l hre
        refine ⟨⟨id :: ext, by rw [h1]; simp⟩, ?_, ?_, ?_⟩
        · intro x hx
          rcases List.mem_cons.1 hx with rfl | hx
          · rw [h1]; simp
          · exact h2 x (hr x hx)
        · intro hn
          refine h3 ?_
          rw [List.nodup_append]
          refine ⟨hn, by simp, ?_⟩
          intro a ha b hb
          simp at hb
          subst hb
          rintro rfl
          exact hin ha
        · intro x hx hns b hbx y hy
          by_cases hxi : x = id
          · subst hxi; exact h2 y (hb b hbx y hy)
          · exact h4 x hx (by simp [hns, hxi]) b hbx y hy
      split at h
      · rename_i b hb
        refine key _ (fun x hx => List.mem_append_left _ hx) ?_ h
        intro b' hb' y hy
        rw [hb] at hb'; cases hb'
        exact List.mem_append_right _ hy
      · rename_i hb
        refine key _ (fun x hx => hx) ?_ h
        intro b' hb'
        rw [hb] at hb'; cases hb'

theorem reach_first {H : Heap} : ∀ (A : List Nat) (n : Nat) (T seen l : List Nat), (seen ++ A).Nodup → reach H n (A ++ T) seen = some l → ∃ ext, l = seen ++ A ++ ext
  | [], n, T, seen, l, _, h => by
    obtain ⟨⟨ext, h1⟩, _⟩ := reach_spec n T seen l (by simpa using h)
    exact ⟨ext, by simpa using h1⟩
  | id :: A, 0, T, seen, l, _, h => by simp [reach] at h
  | id :: A, n + 1, T, seen, l, hn, h => by
    simp only [List.cons_append, reach] at h
    have hin : id ∉ seen := by
      intro hin
      rw [List.nodup_append] at hn
      exact hn.2.2 id hin id (by simp) rfl
    rw [if_neg (by simpa using hin)] at h
    have hn' : (seen ++ [id] ++ A).Nodup := by simpa using hn
    split at h
    · rw [List.append_assoc] at h
      obtain ⟨ext, h1⟩ := reach_first A n _ (seen ++ [id]) l hn' h
      exact ⟨ext, by rw [h1]; simp⟩
    · obtain ⟨ext, h1⟩ := reach_first A n _ (seen ++ [id]) l hn' h
      exact ⟨ext, by rw [h1]; simp⟩

theorem heap_at_eq (H : Heap) (id : Nat) : H.at id = (H[id]?).join := by
  induction H generalizing id with
  | nil => simp [Heap.at]
  | cons b H ih => cases id with
    | zero => simp [Heap.at]
    | succ id => simp [Heap.at, ih]

theorem heap_at_none {H : Heap} {id : Nat} (h : H.length ≤ id) : H.at id = none := by
  rw [heap_at_eq, List.getElem?_eq_none h]; rfl

theorem heap_at_lt {H : Heap} {id : Nat} {b : Blk} (h : H.at id = some b) : id < H.length := by
  rcases Nat.lt_or_ge id H.length with h' | h'
  · exact h'
  · rw [heap_at_none h'] at h; cases h

theorem pack_at (H : Heap) (l : List Nat) (k : Nat) : (pack H l).at k = (l[k]?).bind fun id => (H.at id).map (Blk.ren (place l)) := by
  rw [heap_at_eq, pack, List.getElem?_map]
  cases l[k]? <;> rfl

theorem place_get {l : List Nat} {id : Nat} (h : id ∈ l) : l[place l id]? = some id := by
  unfold place
  have hlt := List.idxOf_lt_length_of_mem h
  rw [List.getElem?_eq_getElem hlt, List.getElem_idxOf hlt]

theorem place_of {l : List Nat} (hn : l.Nodup) {k id : Nat} (h : l[k]? = some id) : place l id = k := by
  have hm : id ∈ l := List.mem_of_getElem? h
  have hlt := List.idxOf_lt_length_of_mem hm
  have hk : k < l.length := by
    rcases Nat.lt_or_ge k l.length with h' | h'
    · exact h'
    · simp [List.getElem?_eq_none h'] at h
  have h2 := place_get hm
  unfold place at *
  exact (List.getElem_inj (h₀ := hlt) (h₁ := hk) hn).1 (by
    rw [List.getElem?_eq_getElem hlt] at h2
    rw [List.getElem?_eq_getElem hk] at h
    exact (Option.some.inj h2).trans (Option.some.inj h).symm)

def Dom (H : Heap) (m : PMap) : Prop := ∀ id p, m id = some p → id < H.length

section
variable {L : Link} {N N' : Nat → Prop} {w : World} {H : Heap} {m : PMap}

def packM (m : PMap) (l : List Nat) : PMap := fun k => (l[k]?).bind m

theorem renL_get (ρ : Nat → Nat) (cs : List AVal) (i : Nat) : (renL ρ cs)[i]? = (cs[i]?).map (AVal.ren ρ) := by
  induction cs generalizing i with
  | nil => simp [renL]
  | cons c cs ih => cases i <;> simp [renL, ih]

theorem renL_length (ρ : Nat → Nat) (cs : List AVal) : (renL ρ cs).length = cs.length := by
  induction cs with
  | nil => rfl
  | cons c cs ih => simp [renL, ih]

theorem cells_ren (ρ : Nat → Nat) (x : AVal) : (x.ren ρ).cells = renL ρ x.cells := by
  cases x <;> simp [AVal.ren, AVal.cells, renL]

theorem idsL_mem_of {l : List AVal} {i : Nat} {x : AVal} (h : l[i]? = some x) {id : Nat} (hi : id ∈ x.ids) : id ∈ idsL l := by
  induction l generalizing i with
  | nil => simp at h
  | cons y ys ih =>
    simp only [idsL, List.mem_append]
    cases i with
    | zero => simp at h; subst h; exact .inl hi
    | succ i => simp at h; exact .inr (ih h)

theorem cells_ids {x c : AVal} {j : Nat} (h : x.cells[j]? = some c) {id : Nat} (hi : id ∈ c.ids) : id ∈ x.ids := by
  have := idsL_mem_of h hi
  cases x <;> simpa [AVal.cells, idsL, AVal.ids] using this

theorem Reps.pack {B : Nat → Prop} {v : Value} {a : AVal} {l : List Nat} (h : Reps L w B m v a) (hl : ∀ id ∈ a.ids, id ∈ l) : Reps L w B (packM m l) v (a.ren (place l)) :=
  h.ren _ fun id hid p hp => by simp [packM, place_get (hl id hid), hp]

/-- The blocks of a list that is closed, numbered anew. -/
theorem Sim.pack (s : Sim L N w H.at m) {l : List Nat} (hn : l.Nodup) (hcl : ∀ x ∈ l, ∀ b, H.at x = some b → ∀ y ∈ idsL b.elems, y ∈ l)
    (hN1 : ∀ b, N' b → Bof N H.at m b) (hN2 : ∀ id ∈ l, ∀ k p, H.at id = some k → m id = some p → ¬ N' p.blk) :
    Sim L N' w (pack H l).at (packM m l) ∧ Dom (pack H l) (packM m l) ∧ (∀ b, BM (pack H l).at (packM m l) b → BM H.at m b) := by
  have hget : ∀ k kb, (Go.Ash.pack H l).at k = some kb → ∃ id b, l[k]? = some id ∧ H.at id = some b ∧ kb = b.ren (place l) := by
    intro k kb hk
    rw [pack_at] at hk
    cases hlk : l[k]? with
    | none => rw [hlk] at hk; simp at hk
    | some id =>
      rw [hlk] at hk
      simp only [Option.bind_some, Option.map_eq_some_iff] at hk
      obtain ⟨b, hb, rfl⟩ := hk
      exact ⟨id, b, rfl, hb, rfl⟩
  have hBM : ∀ b, BM (Go.Ash.pack H l).at (packM m l) b → BM H.at m b := by
    rintro b ⟨k, kb, p, hk, hf, hp, rfl⟩
    obtain ⟨id, bb, hlk, hb, rfl⟩ := hget k kb hk
    simp only [packM, hlk, Option.bind_some] at hp
    exact ⟨id, bb, p, hb, hf, hp, rfl⟩
  have hB : ∀ b, Bof N' (Go.Ash.pack H l).at (packM m l) b → Bof N H.at m b := by
    rintro b (h | h)
    · exact hN1 b h
    · exact .inr (hBM b h)
  refine ⟨⟨?_, ?_, ?_⟩, ?_, hBM⟩
  · intro b hb
    rcases hN1 b hb with h | ⟨id, k, p, hk, _, hp, rfl⟩
    · exact s.nlt b h
    · obtain ⟨q, arr, el, hq, _, _, ha, _⟩ := s.blk id k hk
      rw [hp] at hq; cases hq
      exact heap_lt ha
  · intro k kb hk
    obtain ⟨id, bb, hlk, hb, rfl⟩ := hget k kb hk
    obtain ⟨p, arr, el, hp, hes, hnn, ha, hsz, hc⟩ := s.blk id bb hb
    have hmem := List.mem_of_getElem? hlk
    refine ⟨p, arr, el, by simp [packM, hlk, hp], hes, hN2 id hmem bb p hb hp, ha, ?_, ?_⟩
    · intro i x hx
      simp only [Blk.ren] at hx
      rw [renL_get] at hx
      cases he : bb.elems[i]? with
      | none => rw [he] at hx; simp at hx
      | some x0 =>
        rw [he] at hx; simp at hx; subst hx
        rw [cells_ren, renL_length]; exact hsz i x0 he
    · intro i x j c hx hj
      simp only [Blk.ren] at hx
      rw [renL_get] at hx
      cases he : bb.elems[i]? with
      | none => rw [he] at hx; simp at hx
      | some x0 =>
        rw [he] at hx; simp at hx; subst hx
        rw [cells_ren, renL_get] at hj
        cases hjc : x0.cells[j]? with
        | none => rw [hjc] at hj; simp at hj
        | some c0 =>
          rw [hjc] at hj; simp at hj; subst hj
          obtain ⟨v, hv, hr⟩ := hc i x0 j c0 he hjc
          refine ⟨v, hv, (hr.pack ?_).less hB⟩
          intro y hy
          exact hcl id hmem bb hb y (idsL_mem_of he (cells_ids hjc hy))
  · intro k1 k2 b1 b2 p1 p2 h1 h2 hp1 hp2 hb
    obtain ⟨id1, bb1, hlk1, hb1, rfl⟩ := hget k1 b1 h1
    obtain ⟨id2, bb2, hlk2, hb2, rfl⟩ := hget k2 b2 h2
    simp only [packM, hlk1, hlk2, Option.bind_some] at hp1 hp2
    have := s.inj _ _ _ _ _ _ hb1 hb2 hp1 hp2 hb
    subst this
    rw [← place_of hn hlk1, place_of hn hlk2]
  · intro k p hp
    simp only [packM] at hp
    cases hlk : l[k]? with
    | none => rw [hlk] at hp; simp at hp
    | some id =>
      simp only [Go.Ash.pack, List.length_map]
      rcases Nat.lt_or_ge k l.length with h' | h'
      · exact h'
      · simp [List.getElem?_eq_none h'] at hlk

theorem pack_alv {l : List Nat} (k : Nat) (kb : Blk) (p : Pl) (hk : (pack H l).at k = some kb) (hp : packM m l k = some p) :
    ∃ id b, H.at id = some b ∧ m id = some p := by
  rw [pack_at] at hk
  cases hlk : l[k]? with
  | none => rw [hlk] at hk; simp at hk
  | some id =>
    rw [hlk] at hk
    simp only [Option.bind_some, Option.map_eq_some_iff] at hk
    obtain ⟨b, hb, rfl⟩ := hk
    simp only [packM, hlk, Option.bind_some] at hp
    exact ⟨id, b, hb, hp⟩

theorem pack_fwd {l : List Nat} (hBM : ∀ b, BM (pack H l).at (packM m l) b → BM H.at m b) : Fwd w H.at m w (pack H l).at (packM m l) :=
  ⟨WExt.refl _ _, fun b hb => .inl (hBM b hb), fun k kb p hk hp => let ⟨id, b, hb, hm⟩ := pack_alv k kb p hk hp; .inl ⟨id, b, p, hb, hm, rfl⟩⟩

end
end Go.Ash
