/- Calls that hand on blocks. -/
import Derived.Test.YtaojijahpdnjhaaAshCall
set_option linter.all false
namespace Go.Ash

theorem back_lt : ∀ (l : List Nat) (n j : Nat), j < l.length → l[j]? = some (back l n j)
  | [], _, _, h => by simp at h
  | i :: l, n, 0, _ => rfl
  | i :: l, n, j + 1, h => by simp only [back, List.getElem?_cons_succ]; exact back_lt l n j (by simpa using h)

theorem back_ge : ∀ (l : List Nat) (n j : Nat), l.length ≤ j → back l n j = n + (j - l.length)
  | [], _, _, _ => by simp [back]
  | i :: l, n, 0, h => by simp at h
  | i :: l, n, j + 1, h => by simp only [back]; rw [back_ge l n j (by simpa using h)]; simp

theorem putBack_length (ρ : Nat → Nat) : ∀ (H : Heap) (l : List Nat) (H' : Heap), (putBack ρ H l H').length = H.length
  | H, [], _ => by simp [putBack]
  | H, _ :: _, [] => by simp [putBack]
  | H, id :: l, b :: H' => by simp only [putBack]; rw [putBack_length ρ _ l H']; simp

theorem putBack_at (ρ : Nat → Nat) : ∀ (l : List Nat) (H H' : Heap) (id : Nat), l.Nodup → (∀ i ∈ l, i < H.length) → l.length ≤ H'.length →
    (putBack ρ H l H').at id = if id ∈ l then (H'.at (place l id)).map (Blk.ren ρ) else H.at id
  | [], H, H', id, _, _, _ => by simp [putBack]
  | i :: l, H, [], id, _, _, h => by simp at h
  | i :: l, H, b :: H', id, hn, hlt, hlen => by
    simp only [putBack]
    rw [List.nodup_cons] at hn
    rw [putBack_at ρ l _ H' id hn.2 (fun x hx => by simpa using hlt x (List.mem_cons_of_mem _ hx)) (by simpa using hlen)]
    by_cases h1 : id = i
    · subst h1
      rw [if_neg hn.1, if_pos List.mem_cons_self, at_set, if_pos ⟨rfl, hlt id List.mem_cons_self⟩]
      simp [place, Heap.at]
    · by_cases h2 : id ∈ l
      · rw [if_pos h2, if_pos (List.mem_cons_of_mem _ h2)]
        have : place (i :: l) id = place l id + 1 := by
          simp only [place, List.idxOf_cons]
          have : (i == id) = false := by simpa using Ne.symm h1
          simp [this]
        rw [this]; rfl
      · rw [if_neg h2, if_neg (fun h => (List.mem_cons.1 h).elim h1 h2), at_set, if_neg (fun h => h1 h.1)]

section
variable {L : Link} {N : Nat → Prop} {w : World} {H : Heap} {m : PMap}

theorem at_append (A B : Heap) (id : Nat) : Heap.at (A ++ B) id = if id < A.length then A.at id else B.at (id - A.length) := by
  rw [heap_at_eq, heap_at_eq, heap_at_eq]
  by_cases h : id < A.length
  · rw [if_pos h, List.getElem?_append_left h]
  · rw [if_neg h, List.getElem?_append_right (by omega)]

theorem at_map (H : Heap) (ρ : Nat → Nat) (id : Nat) : Heap.at (H.map (Option.map (Blk.ren ρ))) id = (H.at id).map (Blk.ren ρ) := by
  rw [heap_at_eq, heap_at_eq, List.getElem?_map]
  cases H[id]? with
  | none => rfl
  | some b => cases b <;> rfl

theorem at_drop (H : Heap) (k id : Nat) : Heap.at (H.drop k) id = H.at (k + id) := by
  rw [heap_at_eq, heap_at_eq, List.getElem?_drop]

theorem rawCall_ok {call : CallF} (hc : CallOk L call) {f : Nat} {args : List AVal} {v : AVal} {Hn : Heap} (hp : rawCall call f args H = some (v, Hn)) (hok : L.ok f)
    (s : Sim L N w H.at m) (hdom : Dom H m) {us : Array Value} (hl : us.size = args.length)
    (hr : ∀ (i : Nat) (a : AVal), args[i]? = some a → Reps L w (Bof N H.at m) m (us.getD i undef) a) :
    Calls L.P (L.fn f) us w fun e w' => ∃ u m', e = .returned u ∧ Step L N w H.at m w' Hn.at m' ∧ Dom Hn m' ∧ H.length ≤ Hn.length ∧ (∀ j, j < H.length → m' j = m j) ∧
      Reps L w' (Bof N Hn.at m') m' u v := by
  unfold rawCall at hp
  simp only [Option.bind_eq_some_iff] at hp
  obtain ⟨l, hreach, hp⟩ := hp
  split at hp
  case isFalse => simp at hp
  case isTrue hall =>
  simp only [Option.bind_eq_some_iff, Option.some.injEq, Prod.mk.injEq] at hp
  obtain ⟨⟨v0, H'⟩, hcall, rfl, rfl⟩ := hp
  have hlt : ∀ i ∈ l, i < H.length := fun i hi => by simpa using List.all_eq_true.1 hall i hi
  obtain ⟨_, hin, hnd, hcl⟩ := reach_spec _ _ _ _ hreach
  have hnodup : l.Nodup := hnd List.nodup_nil
  have hclosed : ∀ x ∈ l, ∀ b, H.at x = some b → ∀ y ∈ idsL b.elems, y ∈ l := fun x hx => hcl x hx (by simp)
  let N' : Nat → Prop := fun b => N b ∨ ∃ id k p, H.at id = some k ∧ k.frozen = false ∧ id ∉ l ∧ m id = some p ∧ p.blk = b
  have hN1 : ∀ b, N' b → Bof N H.at m b := by
    rintro b (h | ⟨id, k, p, hk, hf, _, hp, rfl⟩)
    · exact .inl h
    · exact .inr ⟨id, k, p, hk, hf, hp, rfl⟩
  have hN2 : ∀ id ∈ l, ∀ k p, H.at id = some k → m id = some p → ¬ N' p.blk := by
    rintro id hid k p hk hp (h | ⟨id2, k2, p2, hk2, hf2, hni, hp2, he⟩)
    · obtain ⟨q, _, _, hq, _, hn, _⟩ := s.blk id k hk
      rw [hp] at hq; cases hq
      exact hn h
    · have := s.inj _ _ _ _ _ _ hk2 hk hp2 hp he
      subst this
      exact hni hid
  obtain ⟨sp, dp, hBMp⟩ := s.pack (N' := N') hnodup hclosed hN1 hN2
  have hBp : ∀ b, Bof N' (pack H l).at (packM m l) b → Bof N H.at m b := by
    rintro b (h | h)
    · exact hN1 b h
    · exact .inr (hBMp b h)
  have := hc f _ _ v0 H' hcall hok N' w (packM m l) us sp dp (by rw [renL_length]; exact hl) (by
    intro i a ha
    rw [renL_get] at ha
    cases hai : args[i]? with
    | none => rw [hai] at ha; simp at ha
    | some a0 =>
      rw [hai] at ha; simp at ha; subst ha
      exact ((hr i a0 hai).pack (fun id hid => hin id (idsL_mem_of hai hid))).less hBp)
  refine this.mono ?_
  rintro e w' ⟨u, m', rfl, s', d', f', hlen, hpin, hru⟩
  have hplen : (pack H l).length = l.length := by simp [pack]
  rw [hplen] at hlen hpin
  have hlenH : (putBack (back l H.length) H l H').length = H.length := putBack_length _ _ _ _
  -- the blocks behind the call
  have hat : ∀ id, Heap.at (putBack (back l H.length) H l H' ++ (H'.drop l.length).map (Option.map (Blk.ren (back l H.length)))) id =
      if id < H.length then (if id ∈ l then (H'.at (place l id)).map (Blk.ren (back l H.length)) else H.at id) else (H'.at (l.length + (id - H.length))).map (Blk.ren (back l H.length)) := by
    intro id
    rw [at_append, hlenH]
    by_cases h1 : id < H.length
    · rw [if_pos h1, if_pos h1, putBack_at _ _ _ _ _ hnodup hlt hlen]
    · rw [if_neg h1, if_neg h1, at_map, at_drop]
  let m2 : PMap := fun id => if id < H.length then m id else m' (l.length + (id - H.length))
  have hm2 : ∀ id p, m id = some p → m2 id = some p := fun id p hp => by simp only [m2]; rw [if_pos (hdom id p hp)]; exact hp
  have hback : ∀ j p, m' j = some p → m2 (back l H.length j) = some p := by
    intro j p hj
    rcases Nat.lt_or_ge j l.length with h | h
    · have hb := back_lt l H.length j h
      have hmem := List.mem_of_getElem? hb
      simp only [m2]
      rw [if_pos (hlt _ hmem)]
      rw [hpin j h] at hj
      simpa [packM, hb] using hj
    · simp only [m2]
      rw [back_ge _ _ _ h, if_neg (by omega)]
      have : l.length + (H.length + (j - l.length) - H.length) = j := by omega
      rw [this]; exact hj
  -- where a block of the caller comes from
  have hsrc : ∀ id k, Heap.at (putBack (back l H.length) H l H' ++ (H'.drop l.length).map (Option.map (Blk.ren (back l H.length)))) id = some k →
      (∃ j k', H'.at j = some k' ∧ k = k'.ren (back l H.length) ∧ back l H.length j = id) ∨ (id ∉ l ∧ H.at id = some k) := by
    intro id k hk
    rw [hat] at hk
    by_cases h1 : id < H.length
    · rw [if_pos h1] at hk
      by_cases h2 : id ∈ l
      · rw [if_pos h2] at hk
        simp only [Option.map_eq_some_iff] at hk
        obtain ⟨k', hk', rfl⟩ := hk
        have hpl := place_get h2
        have hjl : place l id < l.length := lt_of_getx hpl
        have := back_lt l H.length (place l id) hjl
        rw [hpl] at this
        exact .inl ⟨place l id, k', hk', rfl, (Option.some.inj this).symm⟩
      · rw [if_neg h2] at hk
        exact .inr ⟨h2, hk⟩
    · rw [if_neg h1] at hk
      simp only [Option.map_eq_some_iff] at hk
      obtain ⟨k', hk', rfl⟩ := hk
      exact .inl ⟨_, k', hk', rfl, by rw [back_ge _ _ _ (by omega)]; omega⟩
  have hBM2 : ∀ b, BM (Heap.at (putBack (back l H.length) H l H' ++ (H'.drop l.length).map (Option.map (Blk.ren (back l H.length))))) m2 b →
      BM H'.at m' b ∨ ∃ id k p, H.at id = some k ∧ k.frozen = false ∧ id ∉ l ∧ m id = some p ∧ p.blk = b := by
    rintro b ⟨id, k, p, hk, hf, hp, rfl⟩
    rcases hsrc id k hk with ⟨j, k', hj, rfl, hbj⟩ | ⟨hni, hko⟩
    · obtain ⟨q, _, _, hq, _⟩ := s'.blk j k' hj
      have := hback j q hq
      rw [hbj, hp] at this
      cases this
      exact .inl ⟨j, k', p, hj, hf, hq, rfl⟩
    · obtain ⟨q, _, _, hq, _⟩ := s.blk id k hko
      have := hm2 id q hq
      rw [hp] at this
      cases this
      exact .inr ⟨id, k, p, hko, hf, hni, hq, rfl⟩
  have hsub : ∀ b, BM (Heap.at (putBack (back l H.length) H l H' ++ (H'.drop l.length).map (Option.map (Blk.ren (back l H.length))))) m2 b → BM H.at m b ∨ w.heap.size ≤ b := by
    intro b hb
    rcases hBM2 b hb with h | ⟨id, k, p, hk, hf, _, hp, rfl⟩
    · exact (f'.sub b h).imp (hBMp b) (fun h => h)
    · exact .inl ⟨id, k, p, hk, hf, hp, rfl⟩
  have hB2 : ∀ b, Bof N (Heap.at (putBack (back l H.length) H l H' ++ (H'.drop l.length).map (Option.map (Blk.ren (back l H.length))))) m2 b → Bof N' H'.at m' b := by
    rintro b (h | h)
    · exact .inl (.inl h)
    · rcases hBM2 b h with h | h
      · exact .inr h
      · exact .inl (.inr h)
  have fwd : Fwd w H.at m w' (Heap.at (putBack (back l H.length) H l H' ++ (H'.drop l.length).map (Option.map (Blk.ren (back l H.length))))) m2 := by
    refine ⟨f'.ext.mono hBMp, hsub, ?_⟩
    intro id k p hk hp
    rcases hsrc id k hk with ⟨j, k', hj, rfl, hbj⟩ | ⟨hni, hko⟩
    · obtain ⟨q, _, _, hq, _⟩ := s'.blk j k' hj
      have := hback j q hq
      rw [hbj, hp] at this
      cases this
      rcases f'.alv j k' p hj hq with ⟨id0, k0, p0, h0, hp0, he⟩ | h
      · obtain ⟨id1, b1, hb1, hm1⟩ := pack_alv id0 k0 p0 h0 hp0
        exact .inl ⟨id1, b1, p0, hb1, hm1, he⟩
      · exact .inr h
    · obtain ⟨q, _, _, hq, _⟩ := s.blk id k hko
      have := hm2 id q hq
      rw [hp] at this
      cases this
      exact .inl ⟨id, k, p, hko, hq, rfl⟩
  have hrepB : ∀ (x : Value) (c : AVal), Reps L w' (Bof N' H'.at m') m' x c →
      Reps L w' (Bof N (Heap.at (putBack (back l H.length) H l H' ++ (H'.drop l.length).map (Option.map (Blk.ren (back l H.length))))) m2) m2 x (c.ren (back l H.length)) :=
    fun x c hx => (hx.ren _ (fun j _ p hj => hback j p hj)).less hB2
  have sim : Sim L N w' (Heap.at (putBack (back l H.length) H l H' ++ (H'.drop l.length).map (Option.map (Blk.ren (back l H.length))))) m2 := by
    refine ⟨fun b hb => Nat.lt_of_lt_of_le (s.nlt b hb) f'.ext.size, ?_, ?_⟩
    · intro id k hk
      rcases hsrc id k hk with ⟨j, k', hj, rfl, hbj⟩ | ⟨hni, hko⟩
      · obtain ⟨q, arr, el, hq, hes, hn, ha, hsz, hcell⟩ := s'.blk j k' hj
        refine ⟨q, arr, el, by rw [← hbj]; exact hback j q hq, hes, fun h => hn (.inl h), ha, ?_, ?_⟩
        · intro i x hx
          simp only [Blk.ren] at hx
          rw [renL_get] at hx
          cases he : k'.elems[i]? with
          | none => rw [he] at hx; simp at hx
          | some x0 =>
            rw [he] at hx; simp at hx; subst hx
            rw [cells_ren, renL_length]; exact hsz i x0 he
        · intro i x jj c hx hjj
          simp only [Blk.ren] at hx
          rw [renL_get] at hx
          cases he : k'.elems[i]? with
          | none => rw [he] at hx; simp at hx
          | some x0 =>
            rw [he] at hx; simp at hx; subst hx
            rw [cells_ren, renL_get] at hjj
            cases hjc : x0.cells[jj]? with
            | none => rw [hjc] at hjj; simp at hjj
            | some c0 =>
              rw [hjc] at hjj; simp at hjj; subst hjj
              obtain ⟨x1, hx1, hr1⟩ := hcell i x0 jj c0 he hjc
              exact ⟨x1, hx1, hrepB _ _ hr1⟩
      · obtain ⟨q, arr, el, hq, hes, hn, ha, hsz, hcell⟩ := s.blk id k hko
        have hne : ¬ BM (pack H l).at (packM m l) q.blk := by
          rintro ⟨k2, kb, p2, hk2, hf2, hp2, he⟩
          rw [pack_at] at hk2
          cases hlk : l[k2]? with
          | none => rw [hlk] at hk2; simp at hk2
          | some id2 =>
            rw [hlk] at hk2
            simp only [Option.bind_some, Option.map_eq_some_iff] at hk2
            obtain ⟨b2, hb2, rfl⟩ := hk2
            simp only [packM, hlk, Option.bind_some] at hp2
            have := s.inj _ _ _ _ _ _ hb2 hko hp2 hq he
            subst this
            exact hni (List.mem_of_getElem? hlk)
        refine ⟨q, arr, el, hm2 id q hq, hes, hn, (f'.ext.old _ (heap_lt ha) hne).trans ha, hsz, ?_⟩
        intro i x jj c hx hjj
        obtain ⟨x1, hx1, hr1⟩ := hcell i x jj c hx hjj
        exact ⟨x1, hx1, hr1.fwd fwd hm2⟩
    · intro id1 id2 k1 k2 p1 p2 hk1 hk2 hp1 hp2 hb
      rcases hsrc id1 k1 hk1 with ⟨j1, k1', hj1, rfl, hbj1⟩ | ⟨hni1, hko1⟩
      · obtain ⟨q1, _, _, hq1, _⟩ := s'.blk j1 k1' hj1
        have e1 := hback j1 q1 hq1
        rw [hbj1, hp1] at e1
        cases e1
        rcases hsrc id2 k2 hk2 with ⟨j2, k2', hj2, rfl, hbj2⟩ | ⟨hni2, hko2⟩
        · obtain ⟨q2, _, _, hq2, _⟩ := s'.blk j2 k2' hj2
          have e2 := hback j2 q2 hq2
          rw [hbj2, hp2] at e2
          cases e2
          have := s'.inj _ _ _ _ _ _ hj1 hj2 hq1 hq2 hb
          rw [← hbj1, ← hbj2, this]
        · exfalso
          obtain ⟨q2, _, _, hq2, _, _, ha2, _⟩ := s.blk id2 k2 hko2
          have e2 := hm2 id2 q2 hq2
          rw [hp2] at e2
          cases e2
          rcases f'.alv j1 k1' p1 hj1 hq1 with ⟨id0, k0, p0, h0, hp0, he⟩ | h
          · rw [pack_at] at h0
            cases hlk : l[id0]? with
            | none => rw [hlk] at h0; simp at h0
            | some idx =>
              rw [hlk] at h0
              simp only [Option.bind_some, Option.map_eq_some_iff] at h0
              obtain ⟨b2, hb2, rfl⟩ := h0
              simp only [packM, hlk, Option.bind_some] at hp0
              have := s.inj _ _ _ _ _ _ hb2 hko2 hp0 hq2 (he.trans hb)
              subst this
              exact hni2 (List.mem_of_getElem? hlk)
          · rw [hb] at h
            exact absurd (heap_lt ha2) (by omega)
      · obtain ⟨q1, _, _, hq1, _, _, ha1, _⟩ := s.blk id1 k1 hko1
        have e1 := hm2 id1 q1 hq1
        rw [hp1] at e1
        cases e1
        rcases hsrc id2 k2 hk2 with ⟨j2, k2', hj2, rfl, hbj2⟩ | ⟨hni2, hko2⟩
        · exfalso
          obtain ⟨q2, _, _, hq2, _⟩ := s'.blk j2 k2' hj2
          have e2 := hback j2 q2 hq2
          rw [hbj2, hp2] at e2
          cases e2
          rcases f'.alv j2 k2' p2 hj2 hq2 with ⟨id0, k0, p0, h0, hp0, he⟩ | h
          · rw [pack_at] at h0
            cases hlk : l[id0]? with
            | none => rw [hlk] at h0; simp at h0
            | some idx =>
              rw [hlk] at h0
              simp only [Option.bind_some, Option.map_eq_some_iff] at h0
              obtain ⟨b2, hb2, rfl⟩ := h0
              simp only [packM, hlk, Option.bind_some] at hp0
              have := s.inj _ _ _ _ _ _ hb2 hko1 hp0 hq1 (he.trans hb.symm)
              subst this
              exact hni1 (List.mem_of_getElem? hlk)
          · rw [← hb] at h
            exact absurd (heap_lt ha1) (by omega)
        · obtain ⟨q2, _, _, hq2, _⟩ := s.blk id2 k2 hko2
          have e2 := hm2 id2 q2 hq2
          rw [hp2] at e2
          cases e2
          exact s.inj _ _ _ _ _ _ hko1 hko2 hq1 hq2 hb
  refine ⟨u, m2, rfl, ⟨fwd, sim, hm2⟩, ?_, by simp [hlenH], fun j hj => by simp only [m2]; rw [if_pos hj], hrepB _ _ hru⟩
  intro id p hp
  simp only [List.length_append, hlenH, List.length_map, List.length_drop]
  simp only [m2] at hp
  split at hp
  · omega
  · have := d' _ _ hp
    omega
end
end Go.Ash
