/- Calls: handing on trees, and handing on blocks. -/
import Derived.Test.YtaojijahpdnjhaaAshRen
import Derived.Test.YtaojijahpdnjhaaAshOps0
set_option linter.all false
namespace Go.Ash
section
variable {L : Link} {N : Nat → Prop} {w : World} {H : Heap} {m : PMap}

/-- What a table's calls are good for. -/
def CallOk (L : Link) (call : CallF) : Prop :=
  ∀ (f : Nat) (args : List AVal) (H : Heap) (v : AVal) (H' : Heap), call f args H = some (v, H') → L.ok f →
    ∀ (N : Nat → Prop) (w : World) (m : PMap) (us : Array Value), Sim L N w H.at m → Dom H m → us.size = args.length →
    (∀ (i : Nat) (a : AVal), args[i]? = some a → Reps L w (Bof N H.at m) m (us.getD i undef) a) →
    Calls L.P (L.fn f) us w fun e w' => ∃ u m', e = .returned u ∧ Sim L N w' H'.at m' ∧ Dom H' m' ∧ Fwd w H.at m w' H'.at m' ∧ H.length ≤ H'.length ∧
      (∀ j, j < H.length → m' j = m j) ∧ Reps L w' (Bof N H'.at m') m' u v

theorem Reps.free {B : Nat → Prop} {m' : PMap} {v : Value} {a : AVal} (h : Reps L w B m v a) (hi : a.ids = []) : Reps L w B m' v a := by
  have := h.ren (m' := m') id (fun x hx => by rw [hi] at hx; cases hx)
  rwa [ren_self _ _ hi] at this

theorem lt_of_getx {α : Type} {l : List α} {i : Nat} {a : α} (h : l[i]? = some a) : i < l.length := by
  rcases Nat.lt_or_ge i l.length with h' | h'
  · exact h'
  · simp [List.getElem?_eq_none h'] at h

theorem tree_alive {H : Heap} : ∀ n : Nat,
    (∀ (c t : AVal) (is : List Nat), c.tree H n = some (t, is) → ∀ id ∈ is, ∃ b, H.at id = some b) ∧
    (∀ (l ts : List AVal) (is : List Nat), treeL H n l = some (ts, is) → ∀ id ∈ is, ∃ b, H.at id = some b)
  | 0 => ⟨fun _ _ _ h => by simp [AVal.tree] at h, fun _ _ _ h => by simp [treeL] at h⟩
  | n + 1 => by
    obtain ⟨ihv, ihl⟩ := tree_alive (H := H) n
    constructor
    · intro c t is hc
      cases c <;> simp only [AVal.tree] at hc
      case mslc id off len =>
        split at hc
        · rename_i b hb
          split at hc
          · simp only [Option.map_eq_some_iff] at hc
            obtain ⟨⟨ts, js⟩, htl, he⟩ := hc
            simp only [Prod.mk.injEq] at he
            obtain ⟨rfl, rfl⟩ := he
            intro x hx
            rcases List.mem_cons.1 hx with rfl | hx
            · exact ⟨b, hb⟩
            · exact ihl _ _ _ htl x hx
          · simp at hc
        · simp at hc
      case mptr id i o =>
        split at hc
        · rename_i b hb
          split at hc
          · simp only [Option.map_eq_some_iff] at hc
            obtain ⟨⟨ts, js⟩, htl, he⟩ := hc
            simp only [Prod.mk.injEq] at he
            obtain ⟨rfl, rfl⟩ := he
            intro x hx
            rcases List.mem_cons.1 hx with rfl | hx
            · exact ⟨b, hb⟩
            · exact ihl _ _ _ htl x hx
          · simp at hc
        · simp at hc
      case agg cs =>
        simp only [Option.map_eq_some_iff] at hc
        obtain ⟨⟨ts, js⟩, htl, he⟩ := hc
        simp only [Prod.mk.injEq] at he
        obtain ⟨rfl, rfl⟩ := he
        exact ihl _ _ _ htl
      case tup cs =>
        simp only [Option.map_eq_some_iff] at hc
        obtain ⟨⟨ts, js⟩, htl, he⟩ := hc
        simp only [Prod.mk.injEq] at he
        obtain ⟨rfl, rfl⟩ := he
        exact ihl _ _ _ htl
      case ifc ty v =>
        simp only [Option.map_eq_some_iff] at hc
        obtain ⟨⟨ts, js⟩, htl, he⟩ := hc
        simp only [Prod.mk.injEq] at he
        obtain ⟨rfl, rfl⟩ := he
        exact ihv _ _ _ htl
      case fn f a b =>
        simp only [Option.bind_eq_some_iff, Option.map_eq_some_iff] at hc
        obtain ⟨⟨ta, ja⟩, hta, ⟨tb, jb⟩, htb, he⟩ := hc
        simp only [Prod.mk.injEq] at he
        obtain ⟨rfl, rfl⟩ := he
        intro x hx
        rcases List.mem_append.1 hx with h | h
        · exact ihl _ _ _ hta x h
        · exact ihl _ _ _ htb x h
      all_goals
        simp only [Option.some.injEq, Prod.mk.injEq] at hc
        obtain ⟨rfl, rfl⟩ := hc
        intro x hx; cases hx
    · intro l ts is hl
      unfold treeL at hl
      split at hl
      · simp only [Option.some.injEq, Prod.mk.injEq] at hl
        obtain ⟨rfl, rfl⟩ := hl
        intro x hx; cases hx
      · cases l with
        | nil => rename_i hids; exact absurd rfl hids
        | cons v vs =>
          simp only [Option.bind_eq_some_iff, Option.map_eq_some_iff] at hl
          obtain ⟨⟨tv, ja⟩, htv, ⟨tvs, jb⟩, htvs, he⟩ := hl
          simp only [Prod.mk.injEq] at he
          obtain ⟨rfl, rfl⟩ := he
          intro x hx
          rcases List.mem_append.1 hx with h | h
          · exact ihv _ _ _ htv x h
          · exact ihl _ _ _ htvs x h

theorem at_set (H : Heap) (id : Nat) (b : Option Blk) (j : Nat) : Heap.at (H.set id b) j = if j = id ∧ id < H.length then b else H.at j := by
  rw [heap_at_eq, heap_at_eq]
  by_cases h : j = id
  · subst h
    by_cases hl : j < H.length
    · rw [List.getElem?_set_self hl, if_pos ⟨rfl, hl⟩]; rfl
    · rw [if_neg (by omega), List.getElem?_eq_none (by simp; omega), List.getElem?_eq_none (by omega)]
  · rw [List.getElem?_set_ne (Ne.symm h), if_neg (fun h' => h h'.1)]

theorem freeze_length (l : List Nat) : ∀ H : Heap, (freeze H l).length = H.length := by
  induction l with
  | nil => intro H; rfl
  | cons id l ih => intro H; simp only [freeze, List.foldl_cons]; rw [← freeze, ih]; simp

theorem freeze_at (l : List Nat) : ∀ (H : Heap) (id : Nat), (freeze H l).at id = if id ∈ l then (H.at id).map fun b => { b with frozen := true } else H.at id := by
  induction l with
  | nil => intro H id; simp [freeze]
  | cons i l ih =>
    intro H id
    simp only [freeze, List.foldl_cons]
    rw [← freeze, ih, at_set]
    by_cases h2 : id ∈ l
    · rw [if_pos h2, if_pos (List.mem_cons_of_mem _ h2)]
      by_cases h1 : id = i ∧ i < H.length
      · rw [if_pos h1, h1.1]; cases H.at i <;> rfl
      · rw [if_neg h1]
    · rw [if_neg h2]
      by_cases h1 : id = i
      · subst h1
        rw [if_pos (List.mem_cons_self)]
        by_cases hl : id < H.length
        · rw [if_pos ⟨rfl, hl⟩]
        · rw [if_neg (fun h => hl h.2), heap_at_none (by omega)]; rfl
      · rw [if_neg (fun h => h1 h.1), if_neg (fun h => (List.mem_cons.1 h).elim h1 h2)]

theorem reps_arr {B : Nat → Prop} {us : Array Value} {args : List AVal} (_hl : us.size = args.length)
    (h : ∀ (i : Nat) (a : AVal), args[i]? = some a → Reps L w B m (us.getD i undef) a) {i : Nat} {a : AVal} (ha : args[i]? = some a) : Reps L w B m (us.getD i undef) a := h i a ha

theorem handOn_ok (s : Sim L N w H.at m) {args ts : List AVal} {H' : Heap} (hh : handOn args H = some (ts, H')) {us : Array Value}
    (hr : ∀ (i : Nat) (a : AVal), args[i]? = some a → Reps L w (Bof N H.at m) m (us.getD i undef) a) :
    Step L N w H.at m w H'.at m ∧ H'.length = H.length ∧ ts.length = args.length ∧ idsL ts = [] ∧
    ∀ (i : Nat) (a : AVal), ts[i]? = some a → Reps L w (Bof N H'.at m) m (us.getD i undef) a := by
  unfold handOn at hh
  split at hh
  · rename_i hids
    simp only [Option.some.injEq, Prod.mk.injEq] at hh
    obtain ⟨rfl, rfl⟩ := hh
    exact ⟨Step.refl s, rfl, rfl, hids, hr⟩
  · simp only [Option.map_eq_some_iff] at hh
    obtain ⟨⟨ts', is⟩, ht, he⟩ := hh
    simp only [Prod.mk.injEq] at he
    obtain ⟨rfl, rfl⟩ := he
    obtain ⟨hlen, hall⟩ := (tree_ok s fuelTree).2 _ _ _ ht
    have hal := (tree_alive (H := H) fuelTree).2 _ _ _ ht
    have hstep : Step L N w H.at m w (freeze H is).at m := Step.less s (by
      intro id k' hk'
      rw [freeze_at] at hk'
      split at hk'
      · simp only [Option.map_eq_some_iff] at hk'
        obtain ⟨k, hk, rfl⟩ := hk'
        exact ⟨k, hk, rfl, rfl, fun h => by simp at h⟩
      · exact ⟨k', hk', rfl, rfl, fun h => h⟩)
    have hB1 : ∀ b, Bof N (freeze H is).at m b → Bof N H.at m b := by
      rintro b (h | ⟨id, k', p, hk', hf, hp, rfl⟩)
      · exact .inl h
      · rw [freeze_at] at hk'
        split at hk'
        · simp only [Option.map_eq_some_iff] at hk'
          obtain ⟨k, hk, rfl⟩ := hk'
          simp at hf
        · exact .inr ⟨id, k', p, hk', hf, hp, rfl⟩
    have hB2 : ∀ id ∈ is, ∀ p, m id = some p → ¬ Bof N (freeze H is).at m p.blk := by
      intro id hid p hp
      obtain ⟨b, hb⟩ := hal id hid
      obtain ⟨q, _, _, hq, _, hn, _⟩ := s.blk id b hb
      rw [hp] at hq; cases hq
      rintro (h | ⟨id2, k', p2, hk', hf, hp2, he⟩)
      · exact hn h
      · rw [freeze_at] at hk'
        split at hk'
        · simp only [Option.map_eq_some_iff] at hk'
          obtain ⟨k, hk, rfl⟩ := hk'
          simp at hf
        · rename_i hni
          have := s.inj _ _ _ _ _ _ hk' hb hp2 hp he
          subst this
          exact hni hid
    refine ⟨hstep, freeze_length _ _, hlen, ?_, ?_⟩
    · refine ids_of_mem fun i t hti => ?_
      have hi := lt_of_getx hti
      rw [hlen] at hi
      obtain ⟨t', ht', hok, _⟩ := hall i _ (List.getElem?_eq_getElem hi)
      rw [hti] at ht'; cases ht'
      exact hok.1
    · intro i t hti
      have hi := lt_of_getx hti
      rw [hlen] at hi
      obtain ⟨t', ht', hok, _⟩ := hall i _ (List.getElem?_eq_getElem hi)
      rw [hti] at ht'; cases ht'
      exact hok.2 _ hB1 hB2 _ (hr i _ (List.getElem?_eq_getElem hi))

theorem pureCall_ok {call : CallF} (hc : CallOk L call) {f : Nat} {args : List AVal} {t : AVal} (hp : pureCall call f args = some t) (hok : L.ok f) {h : HF} (s : Sim L N w h m)
    (hids : idsL args = []) {us : Array Value} (hl : us.size = args.length) (hr : ∀ (i : Nat) (a : AVal), args[i]? = some a → Reps L w (Bof N h m) m (us.getD i undef) a) :
    Calls L.P (L.fn f) us w fun e w' => ∃ u, e = .returned u ∧ WExt (fun _ => False) w w' ∧ Reps L w' (Bof N h m) m u t := by
  unfold pureCall at hp
  simp only [Option.bind_eq_some_iff] at hp
  obtain ⟨⟨v, H'⟩, hcall, ⟨ts, is⟩, htree, hhead⟩ := hp
  have s0 : Sim L (Bof N h m) w (Heap.at []) (fun _ => none) := by
    refine ⟨?_, fun id k hk => by simp [Heap.at] at hk, fun id1 id2 k1 k2 p1 p2 h1 => by simp [Heap.at] at h1⟩
    rintro b (hb | ⟨id, k, p, hk, _, hpp, rfl⟩)
    · exact s.nlt b hb
    · obtain ⟨q, _, _, hq, _, _, ha, _⟩ := s.blk id k hk
      rw [hpp] at hq; cases hq
      exact heap_lt ha
  have hBM0 : ∀ b, ¬ BM (Heap.at []) (fun _ => none) b := by rintro b ⟨id, k, p, hk, _⟩; simp [Heap.at] at hk
  have := hc f args [] v H' hcall hok (Bof N h m) w (fun _ => none) us s0 (fun _ _ h => by cases h) hl (by
    intro i a ha
    have h1 := (hr i a ha).free (m' := fun _ => none) (idsL_mem hids ha)
    exact h1.less (fun b hb => hb.elim (fun h => h) (fun h => absurd h (hBM0 b))))
  refine this.mono ?_
  rintro e w' ⟨u, m', rfl, s', _, f', _, _, hru⟩
  have hext : WExt (fun _ => False) w w' := f'.ext.mono (fun b hb => absurd hb (hBM0 b))
  refine ⟨u, rfl, hext, ?_⟩
  obtain ⟨hlen, hall⟩ := (tree_ok s' fuelTree).2 _ _ _ htree
  have hal := (tree_alive (H := H') fuelTree).2 _ _ _ htree
  obtain ⟨t', ht', hto, _⟩ := hall 0 v rfl
  cases ts with
  | nil => simp at hhead
  | cons t0 ts =>
    simp at hhead ht'
    subst hhead; subst ht'
    have := hto.2 (Bof N h m) (fun b hb => .inl hb) (by
      intro id hid p hpp
      obtain ⟨b, hb⟩ := hal id hid
      obtain ⟨q, _, _, hq, _, hn, _⟩ := s'.blk id b hb
      rw [hpp] at hq; cases hq
      exact hn) u hru
    exact this.free hto.1

end
end Go.Ash
