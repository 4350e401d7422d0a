/- What the blocks of the abstract state say of a world, and how it goes on. -/
import Derived.Test.YtaojijahpdnjhaaAshReps
import Derived.Laws.Append
import Derived.Laws.AppendOwn
import Derived.Laws.MakeOwn
import Derived.Laws.Slices
import Derived.Laws.Cells
import Derived.Laws.CopyRow
import Derived.Laws.Rows
set_option linter.all false
namespace Go.Ash

abbrev HF := Nat → Option Blk

/-- A block that may be written. -/
def BM (h : HF) (m : PMap) (b : Nat) : Prop := ∃ id k p, h id = some k ∧ k.frozen = false ∧ m id = some p ∧ p.blk = b

def Bof (N : Nat → Prop) (h : HF) (m : PMap) (b : Nat) : Prop := N b ∨ BM h m b

structure Sim (L : Link) (N : Nat → Prop) (w : World) (h : HF) (m : PMap) : Prop where
  nlt : ∀ b, N b → b < w.heap.size
  blk : ∀ id k, h id = some k → ∃ p arr el, m id = some p ∧ p.esz = k.esz ∧ ¬ N p.blk ∧ w.heap[p.blk]? = some (.cells arr el (0, 0)) ∧
    (∀ (i : Nat) (x : AVal), k.elems[i]? = some x → x.cells.length = p.esz) ∧
    (∀ (i : Nat) (x : AVal) (j : Nat) (c : AVal), k.elems[i]? = some x → x.cells[j]? = some c →
      ∃ v, arr[p.base + i * p.esz + j]? = some v ∧ Reps L w (Bof N h m) m v c)
  inj : ∀ id1 id2 k1 k2 p1 p2, h id1 = some k1 → h id2 = some k2 → m id1 = some p1 → m id2 = some p2 → p1.blk = p2.blk → id1 = id2

/-- A step forward: the world grown, blocks that may be written old ones or new ones. -/
structure Fwd (w : World) (h : HF) (m : PMap) (w' : World) (h' : HF) (m' : PMap) : Prop where
  ext : WExt (BM h m) w w'
  sub : ∀ b, BM h' m' b → BM h m b ∨ w.heap.size ≤ b
  alv : ∀ id k p, h' id = some k → m' id = some p → (∃ id0 k0 p0, h id0 = some k0 ∧ m id0 = some p0 ∧ p0.blk = p.blk) ∨ w.heap.size ≤ p.blk

structure Step (L : Link) (N : Nat → Prop) (w : World) (h : HF) (m : PMap) (w' : World) (h' : HF) (m' : PMap) : Prop extends Fwd w h m w' h' m' where
  sim : Sim L N w' h' m'
  mono : ∀ id p, m id = some p → m' id = some p

def upd {α : Type} (h : Nat → Option α) (id : Nat) (b : Option α) : Nat → Option α := fun j => if j = id then b else h j

theorem upd_same {α : Type} (h : Nat → Option α) (id : Nat) (b : Option α) : upd h id b id = b := by simp [upd]
theorem upd_ne {α : Type} (h : Nat → Option α) {id j : Nat} (b : Option α) (hj : j ≠ id) : upd h id b j = h j := by simp [upd, hj]

section
variable {L : Link} {N : Nat → Prop} {w w' : World} {h h' : HF} {m m' : PMap}

theorem Fwd.refl (w : World) (h : HF) (m : PMap) : Fwd w h m w h m :=
  ⟨WExt.refl _ _, fun _ hb => .inl hb, fun id k p hk hp => .inl ⟨id, k, p, hk, hp, rfl⟩⟩

theorem Fwd.trans {w2 : World} {h2 : HF} {m2 : PMap} (a : Fwd w h m w' h' m') (b : Fwd w' h' m' w2 h2 m2) : Fwd w h m w2 h2 m2 where
  ext := a.ext.trans b.ext a.sub
  sub k hk := (b.sub k hk).elim (a.sub k) (fun h => .inr (Nat.le_trans a.ext.size h))
  alv id k p hk hp := by
    rcases b.alv id k p hk hp with ⟨id0, k0, p0, h0, hp0, he⟩ | hge
    · rcases a.alv id0 k0 p0 h0 hp0 with ⟨id1, k1, p1, h1, hp1, he1⟩ | hge
      · exact .inl ⟨id1, k1, p1, h1, hp1, he1.trans he⟩
      · exact .inr (by rw [← he]; exact hge)
    · exact .inr (Nat.le_trans a.ext.size hge)

theorem Step.refl (s : Sim L N w h m) : Step L N w h m w h m := ⟨Fwd.refl _ _ _, s, fun _ _ h => h⟩

theorem Step.trans {w2 : World} {h2 : HF} {m2 : PMap} (a : Step L N w h m w' h' m') (b : Step L N w' h' m' w2 h2 m2) : Step L N w h m w2 h2 m2 :=
  ⟨a.toFwd.trans b.toFwd, b.sim, fun id p hp => b.mono _ _ (a.mono _ _ hp)⟩

theorem Reps.fwd {v : Value} {a : AVal} (r : Reps L w (Bof N h m) m v a) (s : Fwd w h m w' h' m')
    (hm : ∀ id p, m id = some p → m' id = some p) : Reps L w' (Bof N h' m') m' v a :=
  r.ext s.ext (fun _ hb => .inr hb) (fun b hb => hb.elim (fun h => .inl (.inl h)) (fun h => (s.sub b h).elim (fun h => .inl (.inr h)) .inr)) hm

theorem Reps.step {v : Value} {a : AVal} (r : Reps L w (Bof N h m) m v a) (s : Step L N w h m w' h' m') : Reps L w' (Bof N h' m') m' v a :=
  r.fwd s.toFwd s.mono

/-- The world grows; nothing that was there is touched. -/
theorem Step.world (s : Sim L N w h m) (hw : WExt (fun _ => False) w w') : Step L N w h m w' h m := by
  have f : Fwd w h m w' h m := ⟨hw.mono (fun _ h => h.elim), fun _ hb => .inl hb, fun id k p hk hp => .inl ⟨id, k, p, hk, hp, rfl⟩⟩
  refine ⟨f, ⟨fun b hb => Nat.lt_of_lt_of_le (s.nlt b hb) hw.size, ?_, s.inj⟩, fun _ _ h => h⟩
  intro id k hk
  obtain ⟨p, arr, el, hp, he, hn, ha, hs, hc⟩ := s.blk id k hk
  refine ⟨p, arr, el, hp, he, hn, (hw.old _ (heap_lt ha) (fun h => h)).trans ha, hs, ?_⟩
  intro i x j c hx hj
  obtain ⟨v, hv, hr⟩ := hc i x j c hx hj
  exact ⟨v, hv, hr.fwd f (fun _ _ h => h)⟩

theorem WExt.drew (w : World) : WExt (fun _ => False) w w.drew := ⟨Nat.le_refl _, fun _ _ _ => rfl, fun _ _ _ _ h => h.elim, rfl, rfl, rfl⟩
theorem WExt.alloc (w : World) (o : Obj) : WExt (fun _ => False) w (w.alloc o) :=
  ⟨by simp, fun b hb _ => heap_alloc_old w o b hb, fun _ _ _ _ h => h.elim, rfl, rfl, rfl⟩

/-- A new block. -/
theorem Step.new (s : Sim L N w h m) {fresh esz : Nat} {xs : List AVal} {arr : Array Value} {el : TypeId} (hw : WExt (fun _ => False) w w')
    (hnew : w'.heap[w.heap.size]? = some (.cells arr el (0, 0))) (hf : h fresh = none) (hmf : m fresh = none)
    (hsz : ∀ (i : Nat) (x : AVal), xs[i]? = some x → x.cells.length = esz)
    (hc : ∀ (i : Nat) (x : AVal) (j : Nat) (c : AVal), xs[i]? = some x → x.cells[j]? = some c → ∃ v, arr[i * esz + j]? = some v ∧ Reps L w (Bof N h m) m v c) :
    Step L N w h m w' (upd h fresh (some ⟨false, esz, xs⟩)) (upd m fresh (some ⟨w.heap.size, 0, esz⟩)) := by
  have hmono : ∀ id p, m id = some p → upd m fresh (some ⟨w.heap.size, 0, esz⟩) id = some p := by
    intro id p hp
    have : id ≠ fresh := by rintro rfl; rw [hmf] at hp; cases hp
    rw [upd_ne _ _ this]; exact hp
  have hold : ∀ id k, id ≠ fresh → upd h fresh (some ⟨false, esz, xs⟩) id = some k → h id = some k := fun id k hne hk => by rwa [upd_ne _ _ hne] at hk
  have f : Fwd w h m w' (upd h fresh (some ⟨false, esz, xs⟩)) (upd m fresh (some ⟨w.heap.size, 0, esz⟩)) := by
    refine ⟨hw.mono (fun _ h => h.elim), ?_, ?_⟩
    · rintro b ⟨id, k, p, hk, hfz, hp, rfl⟩
      by_cases he : id = fresh
      · subst he; rw [upd_same] at hp; cases hp; exact .inr (Nat.le_refl _)
      · rw [upd_ne _ _ he] at hk hp; exact .inl ⟨id, k, p, hk, hfz, hp, rfl⟩
    · intro id k p hk hp
      by_cases he : id = fresh
      · subst he; rw [upd_same] at hp; cases hp; exact .inr (Nat.le_refl _)
      · rw [upd_ne _ _ he] at hk hp; exact .inl ⟨id, k, p, hk, hp, rfl⟩
  refine ⟨f, ⟨fun b hb => Nat.lt_of_lt_of_le (s.nlt b hb) hw.size, ?_, ?_⟩, hmono⟩
  · intro id k hk
    by_cases he : id = fresh
    · subst he
      rw [upd_same] at hk
      cases hk
      refine ⟨⟨w.heap.size, 0, esz⟩, arr, el, upd_same _ _ _, rfl, fun hN => Nat.lt_irrefl _ (s.nlt _ hN), hnew, hsz, ?_⟩
      intro i x j c hx hj
      obtain ⟨v, hv, hr⟩ := hc i x j c hx hj
      exact ⟨v, by simpa using hv, hr.fwd f hmono⟩
    · obtain ⟨p, arr0, el0, hp, hes, hn, ha, hs, hc0⟩ := s.blk id k (hold id k he hk)
      refine ⟨p, arr0, el0, hmono _ _ hp, hes, hn, (hw.old _ (heap_lt ha) (fun h => h)).trans ha, hs, ?_⟩
      intro i x j c hx hj
      obtain ⟨v, hv, hr⟩ := hc0 i x j c hx hj
      exact ⟨v, hv, hr.fwd f hmono⟩
  · intro id1 id2 k1 k2 p1 p2 hk1 hk2 hp1 hp2 hb
    by_cases h1 : id1 = fresh
    · by_cases h2 : id2 = fresh
      · rw [h1, h2]
      · exfalso
        subst h1
        rw [upd_same] at hp1; cases hp1
        rw [upd_ne _ _ h2] at hk2 hp2
        obtain ⟨p, arr0, el0, hp, _, _, ha, _⟩ := s.blk id2 k2 hk2
        rw [hp] at hp2; cases hp2
        have := heap_lt ha
        simp at hb; omega
    · by_cases h2 : id2 = fresh
      · exfalso
        subst h2
        rw [upd_same] at hp2; cases hp2
        rw [upd_ne _ _ h1] at hk1 hp1
        obtain ⟨p, arr0, el0, hp, _, _, ha, _⟩ := s.blk id1 k1 hk1
        rw [hp] at hp1; cases hp1
        have := heap_lt ha
        simp at hb; omega
      · rw [upd_ne _ _ h1] at hk1 hp1
        rw [upd_ne _ _ h2] at hk2 hp2
        exact s.inj _ _ _ _ _ _ hk1 hk2 hp1 hp2 hb

/-- A block that is written, or grown in place: 'id' gives way to 'id2' (the same number: it is written). -/
theorem Step.write (s : Sim L N w h m) {id id2 : Nat} {k k' : Blk} {p p' : Pl} {arr arr' : Array Value} {el : TypeId}
    (hk : h id = some k) (hfz : k.frozen = false) (hp : m id = some p) (ha : w.heap[p.blk]? = some (.cells arr el (0, 0)))
    (hw : w'.heap.size = w.heap.size) (hrest : w'.os = w.os ∧ w'.tape = w.tape ∧ w'.output = w.output) (hoth : ∀ b, b ≠ p.blk → w'.heap[b]? = w.heap[b]?)
    (ha' : w'.heap[p.blk]? = some (.cells arr' el (0, 0))) (hsize : arr'.size = arr.size)
    (hid2 : id2 = id ∨ (h id2 = none ∧ m id2 = none)) (hp' : p'.blk = p.blk) (hsame : id2 = id → p' = p) (hes : p'.esz = k'.esz) (hfz' : k'.frozen = false)
    (hsz : ∀ (i : Nat) (x : AVal), k'.elems[i]? = some x → x.cells.length = p'.esz)
    (hc : ∀ (i : Nat) (x : AVal) (j : Nat) (c : AVal), k'.elems[i]? = some x → x.cells[j]? = some c →
      ∃ v, arr'[p'.base + i * p'.esz + j]? = some v ∧ Reps L w (Bof N h m) m v c) :
    Step L N w h m w' (upd (upd h id none) id2 (some k')) (upd m id2 (some p')) := by
  have hBM : BM h m p.blk := ⟨id, k, p, hk, hfz, hp, rfl⟩
  have hmono : ∀ j q, m j = some q → upd m id2 (some p') j = some q := by
    intro j q hq
    by_cases hj : j = id2
    · subst hj
      rcases hid2 with rfl | ⟨_, hn⟩
      · rw [upd_same, hsame rfl]; rw [hp] at hq; exact hq
      · rw [hn] at hq; cases hq
    · rw [upd_ne _ _ hj]; exact hq
  have hext : WExt (BM h m) w w' := by
    refine ⟨by omega, ?_, ?_, hrest⟩
    · intro b _ hb
      exact hoth b (by rintro rfl; exact hb hBM)
    · intro b arr0 el0 fz0 _ hb0
      by_cases hb : b = p.blk
      · subst hb
        rw [ha] at hb0; cases hb0
        exact ⟨arr', ha', hsize⟩
      · exact ⟨arr0, (hoth b hb).trans hb0, rfl⟩
  have hget : ∀ j kk, upd (upd h id none) id2 (some k') j = some kk → (j = id2 ∧ kk = k') ∨ (j ≠ id2 ∧ j ≠ id ∧ h j = some kk) := by
    intro j kk hj
    by_cases h2 : j = id2
    · subst h2; rw [upd_same] at hj; cases hj; exact .inl ⟨rfl, rfl⟩
    · rw [upd_ne _ _ h2] at hj
      by_cases h1 : j = id
      · subst h1; rw [upd_same] at hj; cases hj
      · rw [upd_ne _ _ h1] at hj; exact .inr ⟨h2, h1, hj⟩
  have f : Fwd w h m w' (upd (upd h id none) id2 (some k')) (upd m id2 (some p')) := by
    refine ⟨hext, ?_, ?_⟩
    · rintro b ⟨j, kk, q, hj, hf, hq, rfl⟩
      rcases hget j kk hj with ⟨rfl, rfl⟩ | ⟨h2, h1, hjo⟩
      · rw [upd_same] at hq; cases hq; rw [hp']; exact .inl hBM
      · rw [upd_ne _ _ h2] at hq; exact .inl ⟨j, kk, q, hjo, hf, hq, rfl⟩
    · intro j kk q hj hq
      rcases hget j kk hj with ⟨rfl, rfl⟩ | ⟨h2, h1, hjo⟩
      · rw [upd_same] at hq; cases hq; exact .inl ⟨id, k, p, hk, hp, hp'.symm⟩
      · rw [upd_ne _ _ h2] at hq; exact .inl ⟨j, kk, q, hjo, hq, rfl⟩
  refine ⟨f, ⟨fun b hb => by rw [hw]; exact s.nlt b hb, ?_, ?_⟩, hmono⟩
  · intro j kk hj
    rcases hget j kk hj with ⟨rfl, rfl⟩ | ⟨h2, h1, hjo⟩
    · obtain ⟨p0, _, _, hp0, _, hn, _⟩ := s.blk id k hk
      rw [hp] at hp0; cases hp0
      refine ⟨p', arr', el, upd_same _ _ _, hes, by rw [hp']; exact hn, by rw [hp']; exact ha', hsz, ?_⟩
      intro i x jj c hx hcx
      obtain ⟨v, hv, hr⟩ := hc i x jj c hx hcx
      exact ⟨v, hv, hr.fwd f hmono⟩
    · obtain ⟨q, arr0, el0, hq, hes0, hn, ha0, hs0, hc0⟩ := s.blk j kk hjo
      have hne : q.blk ≠ p.blk := fun e => h1 (s.inj _ _ _ _ _ _ hjo hk hq hp e)
      refine ⟨q, arr0, el0, hmono _ _ hq, hes0, hn, (hoth _ hne).trans ha0, hs0, ?_⟩
      intro i x jj c hx hcx
      obtain ⟨v, hv, hr⟩ := hc0 i x jj c hx hcx
      exact ⟨v, hv, hr.fwd f hmono⟩
  · intro j1 j2 k1 k2 q1 q2 hj1 hj2 hq1 hq2 hb
    rcases hget j1 k1 hj1 with ⟨rfl, rfl⟩ | ⟨h12, h11, hjo1⟩
    · rcases hget j2 k2 hj2 with ⟨rfl, rfl⟩ | ⟨h22, h21, hjo2⟩
      · rfl
      · rw [upd_same] at hq1; cases hq1
        rw [upd_ne _ _ h22] at hq2
        exact absurd (s.inj _ _ _ _ _ _ hjo2 hk hq2 hp (by rw [← hb, hp'])) h21
    · rw [upd_ne _ _ h12] at hq1
      rcases hget j2 k2 hj2 with ⟨rfl, rfl⟩ | ⟨h22, h21, hjo2⟩
      · rw [upd_same] at hq2; cases hq2
        exact absurd (s.inj _ _ _ _ _ _ hjo1 hk hq1 hp (by rw [hb, hp'])) h11
      · rw [upd_ne _ _ h22] at hq2
        exact s.inj _ _ _ _ _ _ hjo1 hjo2 hq1 hq2 hb

/-- The same blocks, some of them not to be written any more, or gone. -/
theorem Step.less (s : Sim L N w h m) (hh : ∀ id k', h' id = some k' → ∃ k, h id = some k ∧ k'.esz = k.esz ∧ k'.elems = k.elems ∧ (k'.frozen = false → k.frozen = false)) :
    Step L N w h m w h' m := by
  have hsub : ∀ b, BM h' m b → BM h m b := by
    rintro b ⟨id, k', p, hk', hf, hp, rfl⟩
    obtain ⟨k, hk, _, _, hfr⟩ := hh id k' hk'
    exact ⟨id, k, p, hk, hfr hf, hp, rfl⟩
  refine ⟨⟨WExt.refl _ _, fun b hb => .inl (hsub b hb), ?_⟩, ⟨s.nlt, ?_, ?_⟩, fun _ _ h => h⟩
  · intro id k' p hk' hp
    obtain ⟨k, hk, _⟩ := hh id k' hk'
    exact .inl ⟨id, k, p, hk, hp, rfl⟩
  · intro id k' hk'
    obtain ⟨k, hk, he, hel, _⟩ := hh id k' hk'
    obtain ⟨p, arr, el, hp, hes, hn, ha, hs, hc⟩ := s.blk id k hk
    refine ⟨p, arr, el, hp, by rw [he, hes], hn, ha, by rw [hel]; exact hs, ?_⟩
    rw [hel]
    intro i x j c hx hj
    obtain ⟨v, hv, hr⟩ := hc i x j c hx hj
    exact ⟨v, hv, hr.less (fun b hb => hb.imp _root_.id (hsub b))⟩
  · intro id1 id2 k1 k2 p1 p2 h1 h2 hp1 hp2 hb
    obtain ⟨k1', hk1, _⟩ := hh id1 k1 h1
    obtain ⟨k2', hk2, _⟩ := hh id2 k2 h2
    exact s.inj _ _ _ _ _ _ hk1 hk2 hp1 hp2 hb
end
end Go.Ash
