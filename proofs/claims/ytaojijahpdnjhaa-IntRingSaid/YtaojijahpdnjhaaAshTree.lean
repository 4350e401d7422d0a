/- Values handed on as trees; the blocks numbered anew. -/
import Derived.Test.YtaojijahpdnjhaaAshSim
set_option linter.all false
namespace Go.Ash
section
variable {L : Link} {N : Nat → Prop} {w w' : World} {h h' : HF} {m m' : PMap}

/-- What a tree is good for: where the blocks of 'is' may not be written. -/
def TreeOk (L : Link) (w : World) (B : Nat → Prop) (m : PMap) (is : List Nat) (c t : AVal) : Prop :=
  t.ids = [] ∧ ∀ B' : Nat → Prop, (∀ b, B' b → B b) → (∀ id ∈ is, ∀ p, m id = some p → ¬ B' p.blk) → ∀ v, Reps L w B m v c → Reps L w B' m v t

theorem TreeOk.more {B : Nat → Prop} {is js : List Nat} {c t : AVal} (ht : TreeOk L w B m is c t) (hs : ∀ x ∈ is, x ∈ js) : TreeOk L w B m js c t :=
  ⟨ht.1, fun B' h1 h2 v hv => ht.2 B' h1 (fun id hid => h2 id (hs id hid)) v hv⟩

theorem TreeOk.self {B : Nat → Prop} {c : AVal} (hc : c.ids = []) : TreeOk L w B m [] c c :=
  ⟨hc, fun _ h1 _ _ hv => hv.less h1⟩

def CellsOk (L : Link) (w : World) (B : Nat → Prop) (m : PMap) (is : List Nat) (c t : AVal) : Prop :=
  t.cells.length = c.cells.length ∧ ∀ (j : Nat) (d : AVal), c.cells[j]? = some d → ∃ t', t.cells[j]? = some t' ∧ TreeOk L w B m is d t'

theorem CellsOk.more {B : Nat → Prop} {is js : List Nat} {c t : AVal} (ht : CellsOk L w B m is c t) (hs : ∀ x ∈ is, x ∈ js) : CellsOk L w B m js c t :=
  ⟨ht.1, fun j d hd => let ⟨t', a, b⟩ := ht.2 j d hd; ⟨t', a, b.more hs⟩⟩

theorem CellsOk.self {B : Nat → Prop} {c : AVal} (hc : c.ids = []) : CellsOk L w B m [] c c :=
  ⟨rfl, fun j d hd => ⟨d, hd, TreeOk.self (idsL_mem (ids_cells hc) hd)⟩⟩

theorem CellsOk.cell {B : Nat → Prop} {is : List Nat} {c t : AVal} (hc : c.cells = [c]) (ht : t.cells = [t]) (h : TreeOk L w B m is c t) : CellsOk L w B m is c t := by
  refine ⟨by rw [hc, ht]; rfl, fun j d hd => ?_⟩
  rw [hc] at hd
  cases j with
  | zero => simp at hd; exact ⟨t, by rw [ht]; rfl, hd ▸ h⟩
  | succ j => simp at hd

theorem ids_of_mem {l : List AVal} (h : ∀ (i : Nat) (x : AVal), l[i]? = some x → x.ids = []) : idsL l = [] := by
  induction l with
  | nil => rfl
  | cons x xs ih =>
    simp only [idsL, List.append_eq_nil_iff]
    exact ⟨h 0 x rfl, ih (fun i y hy => h (i + 1) y (by simpa using hy))⟩

theorem cells_eq {w : World} {b : Nat} {arr : Array Value} {el : TypeId} {fz : Nat × Nat} (h : w.heap[b]? = some (.cells arr el fz)) (j : Nat) :
    w.cell? ⟨b, j, none⟩ = arr[j]? := cell_of_row w b j arr el fz h

theorem tree_ok {H : Heap} (s : Sim L N w H.at m) : ∀ n : Nat,
    (∀ (c t : AVal) (is : List Nat), c.tree H n = some (t, is) → TreeOk L w (Bof N H.at m) m is c t ∧ CellsOk L w (Bof N H.at m) m is c t) ∧
    (∀ (l ts : List AVal) (is : List Nat), treeL H n l = some (ts, is) → ts.length = l.length ∧
      ∀ (i : Nat) (c : AVal), l[i]? = some c → ∃ t, ts[i]? = some t ∧ TreeOk L w (Bof N H.at m) m is c t ∧ CellsOk L w (Bof N H.at m) m is c t)
  | 0 => ⟨fun _ _ _ h => by simp [AVal.tree] at h, fun _ _ _ h => by simp [treeL] at h⟩
  | n + 1 => by
    obtain ⟨ihv, ihl⟩ := tree_ok s n
    have aggArr : ∀ (vs : Array Value) (cs ts : List AVal) (is : List Nat), ts.length = cs.length →
        (∀ (i : Nat) (c : AVal), cs[i]? = some c → ∃ t, ts[i]? = some t ∧ TreeOk L w (Bof N H.at m) m is c t ∧ CellsOk L w (Bof N H.at m) m is c t) →
        ∀ B' : Nat → Prop, (∀ b, B' b → Bof N H.at m b) → (∀ id ∈ is, ∀ p, m id = some p → ¬ B' p.blk) →
        (∀ (i : Nat) (c : AVal), cs[i]? = some c → Reps L w (Bof N H.at m) m (vs.getD i undef) c) →
        ∀ (i : Nat) (t : AVal), ts[i]? = some t → Reps L w B' m (vs.getD i undef) t := by
      intro vs cs ts is hlen hall B' h1 h2 hr i t ht
      have hi : i < cs.length := by
        rw [← hlen]
        rcases Nat.lt_or_ge i ts.length with h | h
        · exact h
        · simp [List.getElem?_eq_none h] at ht
      have hc : cs[i]? = some cs[i] := List.getElem?_eq_getElem hi
      obtain ⟨t', ht', hok, _⟩ := hall i _ hc
      rw [ht] at ht'; cases ht'
      exact hok.2 B' h1 h2 _ (hr i _ hc)
    have idsArr : ∀ (cs ts : List AVal) (is : List Nat), ts.length = cs.length →
        (∀ (i : Nat) (c : AVal), cs[i]? = some c → ∃ t, ts[i]? = some t ∧ TreeOk L w (Bof N H.at m) m is c t ∧ CellsOk L w (Bof N H.at m) m is c t) → idsL ts = [] := by
      intro cs ts is hlen hall
      refine ids_of_mem fun i t ht => ?_
      have hi : i < cs.length := by
        rw [← hlen]
        rcases Nat.lt_or_ge i ts.length with h | h
        · exact h
        · simp [List.getElem?_eq_none h] at ht
      obtain ⟨t', ht', hok, _⟩ := hall i _ (List.getElem?_eq_getElem hi)
      rw [ht] at ht'; cases ht'
      exact hok.1
    constructor
    · intro c t is hc
      cases c with
      | und => simp only [AVal.tree, Option.some.injEq, Prod.mk.injEq] at hc; obtain ⟨rfl, rfl⟩ := hc; exact ⟨TreeOk.self rfl, CellsOk.self rfl⟩
      | bool b => simp only [AVal.tree, Option.some.injEq, Prod.mk.injEq] at hc; obtain ⟨rfl, rfl⟩ := hc; exact ⟨TreeOk.self rfl, CellsOk.self rfl⟩
      | int k x => simp only [AVal.tree, Option.some.injEq, Prod.mk.injEq] at hc; obtain ⟨rfl, rfl⟩ := hc; exact ⟨TreeOk.self rfl, CellsOk.self rfl⟩
      | str x => simp only [AVal.tree, Option.some.injEq, Prod.mk.injEq] at hc; obtain ⟨rfl, rfl⟩ := hc; exact ⟨TreeOk.self rfl, CellsOk.self rfl⟩
      | slc b xs => simp only [AVal.tree, Option.some.injEq, Prod.mk.injEq] at hc; obtain ⟨rfl, rfl⟩ := hc; exact ⟨TreeOk.self rfl, CellsOk.self rfl⟩
      | ptr cs => simp only [AVal.tree, Option.some.injEq, Prod.mk.injEq] at hc; obtain ⟨rfl, rfl⟩ := hc; exact ⟨TreeOk.self rfl, CellsOk.self rfl⟩
      | nilp => simp only [AVal.tree, Option.some.injEq, Prod.mk.injEq] at hc; obtain ⟨rfl, rfl⟩ := hc; exact ⟨TreeOk.self rfl, CellsOk.self rfl⟩
      | nilfn => simp only [AVal.tree, Option.some.injEq, Prod.mk.injEq] at hc; obtain ⟨rfl, rfl⟩ := hc; exact ⟨TreeOk.self rfl, CellsOk.self rfl⟩
      | nilif => simp only [AVal.tree, Option.some.injEq, Prod.mk.injEq] at hc; obtain ⟨rfl, rfl⟩ := hc; exact ⟨TreeOk.self rfl, CellsOk.self rfl⟩
      | mslc id off len =>
        simp only [AVal.tree] at hc
        cases hb : H.at id with
        | none => rw [hb] at hc; simp at hc
        | some b =>
          rw [hb] at hc
          simp only at hc
          split at hc
          · rename_i hlen
            simp only [Option.map_eq_some_iff] at hc
            obtain ⟨⟨ts, js⟩, htl, he⟩ := hc
            simp only [Prod.mk.injEq] at he
            obtain ⟨rfl, rfl⟩ := he
            obtain ⟨hl, hall⟩ := ihl _ _ _ htl
            have hids := idsArr _ _ _ hl hall
            have hL : ts.length = len := by rw [hl]; simp; omega
            have hok : TreeOk L w (Bof N H.at m) m (id :: js) (.mslc id off len) (.slc false ts) := by
              refine ⟨rfl, fun B' h1 h2 v hv => ?_⟩
              cases hv with
              | mslc _ _ _ cap p arr0 el0 fz0 hm hcap hblk hroom =>
                obtain ⟨q, arr, el, hq, hes, hn, ha, hsz, hcell⟩ := s.blk id b hb
                rw [hm] at hq; cases hq
                rw [ha] at hblk; cases hblk
                have hget : ∀ (i : Nat) (x : AVal), ts[i]? = some x → ∃ c, b.elems[off + i]? = some c ∧
                    TreeOk L w (Bof N H.at m) m js c x ∧ CellsOk L w (Bof N H.at m) m js c x := by
                  intro i x hx
                  have hi : i < len := by
                    rw [← hL]
                    rcases Nat.lt_or_ge i ts.length with h | h
                    · exact h
                    · simp [List.getElem?_eq_none h] at hx
                  have hc : ((b.elems.drop off).take len)[i]? = b.elems[off + i]? := by
                    rw [List.getElem?_take, if_pos hi, List.getElem?_drop]
                  have hlt : off + i < b.elems.length := by omega
                  refine ⟨b.elems[off + i], List.getElem?_eq_getElem hlt, ?_⟩
                  obtain ⟨t, ht, h1, h2⟩ := hall i b.elems[off + i] (by rw [hc]; exact List.getElem?_eq_getElem hlt)
                  rw [hx] at ht; cases ht
                  exact ⟨h1, h2⟩
                rw [← hL]
                refine .slc _ p.esz cap ts (fun i j => arr0.getD (p.base + (off + i) * p.esz + j) undef) (fun _ => rfl) (by omega) ?_ hids ?_ ?_ ?_
                · intro i x hx
                  obtain ⟨c, hc, _, hco⟩ := hget i x hx
                  rw [hco.1]; exact hsz _ _ hc
                · intro i x j c hx hj
                  obtain ⟨c0, hc0, _, hco⟩ := hget i x hx
                  have hjl : j < c0.cells.length := by
                    rw [← hco.1]
                    rcases Nat.lt_or_ge j x.cells.length with h | h
                    · exact h
                    · simp [List.getElem?_eq_none h] at hj
                  obtain ⟨v, hv, _⟩ := hcell (off + i) c0 j _ hc0 (List.getElem?_eq_getElem hjl)
                  have e : p.base + off * p.esz + (i * p.esz + j) = p.base + (off + i) * p.esz + j := by rw [Nat.add_mul]; omega
                  show w.cell? ⟨p.blk, p.base + off * p.esz + (i * p.esz + j), none⟩ = _
                  rw [e, cells_eq ha, hv]
                  have hlt := (Array.getElem?_eq_some_iff.1 hv).1
                  simp [Array.getD, hlt, (Array.getElem?_eq_some_iff.1 hv).2]
                · intro i x j c hx hj
                  obtain ⟨c0, hc0, _, hco⟩ := hget i x hx
                  have hjl : j < c0.cells.length := by
                    rw [← hco.1]
                    rcases Nat.lt_or_ge j x.cells.length with h | h
                    · exact h
                    · simp [List.getElem?_eq_none h] at hj
                  obtain ⟨v, hv, hr⟩ := hcell (off + i) c0 j _ hc0 (List.getElem?_eq_getElem hjl)
                  obtain ⟨t', ht', hok'⟩ := hco.2 j _ (List.getElem?_eq_getElem hjl)
                  rw [hj] at ht'; cases ht'
                  have hlt := (Array.getElem?_eq_some_iff.1 hv).1
                  have : arr0.getD (p.base + (off + i) * p.esz + j) undef = v := by simp [Array.getD, hlt, (Array.getElem?_eq_some_iff.1 hv).2]
                  rw [this]
                  exact hok'.2 B' h1 (fun id' hid' => h2 id' (List.mem_cons_of_mem _ hid')) v hr
                · intro _
                  exact ⟨h2 id (by simp) p hm, heap_lt ha⟩
            exact ⟨hok, CellsOk.cell rfl rfl hok⟩
          · simp at hc
      | mptr id i o =>
        simp only [AVal.tree] at hc
        cases hb : H.at id with
        | none => rw [hb] at hc; simp at hc
        | some b =>
          rw [hb] at hc
          simp only at hc
          cases he : b.elems[i]? with
          | none => rw [he] at hc; simp at hc
          | some e =>
            rw [he] at hc
            simp only [Option.map_eq_some_iff] at hc
            obtain ⟨⟨ts, js⟩, htl, hee⟩ := hc
            simp only [Prod.mk.injEq] at hee
            obtain ⟨rfl, rfl⟩ := hee
            obtain ⟨hl, hall⟩ := ihl _ _ _ htl
            have hids := idsArr _ _ _ hl hall
            have hok : TreeOk L w (Bof N H.at m) m (id :: js) (.mptr id i o) (.ptr ts) := by
              refine ⟨rfl, fun B' h1 h2 v hv => ?_⟩
              cases hv with
              | mptr _ _ _ p hm =>
                obtain ⟨q, arr, el, hq, hes, hn, ha, hsz, hcell⟩ := s.blk id b hb
                rw [hm] at hq; cases hq
                have hget : ∀ (j : Nat) (x : AVal), ts[j]? = some x → ∃ c v, e.cells[o + j]? = some c ∧ arr[p.base + i * p.esz + (o + j)]? = some v ∧
                    Reps L w (Bof N H.at m) m v c ∧ TreeOk L w (Bof N H.at m) m js c x := by
                  intro j x hx
                  have hj : j < (e.cells.drop o).length := by
                    rw [← hl]
                    rcases Nat.lt_or_ge j ts.length with h | h
                    · exact h
                    · simp [List.getElem?_eq_none h] at hx
                  have hlt : o + j < e.cells.length := by simp at hj; omega
                  obtain ⟨t, ht, hto, _⟩ := hall j e.cells[o + j] (by rw [List.getElem?_drop]; exact List.getElem?_eq_getElem hlt)
                  rw [hx] at ht; cases ht
                  obtain ⟨v, hv, hr⟩ := hcell i e (o + j) _ he (List.getElem?_eq_getElem hlt)
                  exact ⟨_, v, List.getElem?_eq_getElem hlt, hv, hr, hto⟩
                refine .ptr _ ts (fun j => arr.getD (p.base + i * p.esz + (o + j)) undef) rfl hids ?_ ?_ ?_
                · intro j x hx
                  obtain ⟨c, v, _, hv, _, _⟩ := hget j x hx
                  show w.cell? ⟨p.blk, p.base + i * p.esz + o + j, none⟩ = _
                  have e2 : p.base + i * p.esz + o + j = p.base + i * p.esz + (o + j) := by omega
                  rw [e2, cells_eq ha, hv]
                  have hlt := (Array.getElem?_eq_some_iff.1 hv).1
                  simp [Array.getD, hlt, (Array.getElem?_eq_some_iff.1 hv).2]
                · intro j x hx
                  obtain ⟨c, v, _, hv, hr, hto⟩ := hget j x hx
                  have hlt := (Array.getElem?_eq_some_iff.1 hv).1
                  have : arr.getD (p.base + i * p.esz + (o + j)) undef = v := by simp [Array.getD, hlt, (Array.getElem?_eq_some_iff.1 hv).2]
                  rw [this]
                  exact hto.2 B' h1 (fun id' hid' => h2 id' (List.mem_cons_of_mem _ hid')) v hr
                · intro _
                  exact ⟨h2 id (by simp) p hm, heap_lt ha⟩
            exact ⟨hok, CellsOk.cell rfl rfl hok⟩
      | agg cs =>
        simp only [AVal.tree, Option.map_eq_some_iff] at hc
        obtain ⟨⟨ts, js⟩, htl, he⟩ := hc
        simp only [Prod.mk.injEq] at he
        obtain ⟨rfl, rfl⟩ := he
        obtain ⟨hl, hall⟩ := ihl _ _ _ htl
        refine ⟨⟨idsArr _ _ _ hl hall, fun B' h1 h2 v hv => ?_⟩, hl, fun j d hd => ?_⟩
        · cases hv with
          | agg vs _ hvl hr => exact .agg vs ts (by rw [hl]; exact hvl) (aggArr vs cs ts js hl hall B' h1 h2 hr)
        · obtain ⟨t, ht, hok, _⟩ := hall j d hd
          exact ⟨t, ht, hok⟩
      | fn f a b =>
        simp only [AVal.tree, Option.bind_eq_some_iff, Option.map_eq_some_iff] at hc
        obtain ⟨⟨ta, ja⟩, hta, ⟨tb, jb⟩, htb, he⟩ := hc
        simp only [Prod.mk.injEq] at he
        obtain ⟨rfl, rfl⟩ := he
        obtain ⟨hla, halla⟩ := ihl _ _ _ hta
        obtain ⟨hlb, hallb⟩ := ihl _ _ _ htb
        have hok : TreeOk L w (Bof N H.at m) m (ja ++ jb) (.fn f a b) (.fn f ta tb) := by
          refine ⟨by simp only [AVal.ids, idsArr _ _ _ hla halla, idsArr _ _ _ hlb hallb, List.append_nil], fun B' h1 h2 v hv => ?_⟩
          cases hv with
          | fn _ _ _ vf vc hok hf hc rf rc =>
            exact .fn f ta tb vf vc hok (by rw [hla]; exact hf) (by rw [hlb]; exact hc)
              (aggArr vf a ta ja hla halla B' h1 (fun id hid => h2 id (List.mem_append_left _ hid)) rf)
              (aggArr vc b tb jb hlb hallb B' h1 (fun id hid => h2 id (List.mem_append_right _ hid)) rc)
        exact ⟨hok, CellsOk.cell rfl rfl hok⟩
      | ifc ty v =>
        simp only [AVal.tree, Option.map_eq_some_iff] at hc
        obtain ⟨⟨tv, js⟩, htv, he⟩ := hc
        simp only [Prod.mk.injEq] at he
        obtain ⟨rfl, rfl⟩ := he
        obtain ⟨hv1, _⟩ := ihv _ _ _ htv
        have hok : TreeOk L w (Bof N H.at m) m js (.ifc ty v) (.ifc ty tv) := by
          refine ⟨by simpa only [AVal.ids] using hv1.1, fun B' h1 h2 x hx => ?_⟩
          cases hx with
          | ifc _ x0 _ hx0 => exact .ifc ty x0 tv (hv1.2 B' h1 h2 _ hx0)
        exact ⟨hok, CellsOk.cell rfl rfl hok⟩
      | tup cs =>
        simp only [AVal.tree, Option.map_eq_some_iff] at hc
        obtain ⟨⟨ts, js⟩, htl, he⟩ := hc
        simp only [Prod.mk.injEq] at he
        obtain ⟨rfl, rfl⟩ := he
        obtain ⟨hl, hall⟩ := ihl _ _ _ htl
        have hok : TreeOk L w (Bof N H.at m) m js (.tup cs) (.tup ts) := by
          refine ⟨idsArr _ _ _ hl hall, fun B' h1 h2 v hv => ?_⟩
          cases hv with
          | tup vs _ hvl hr => exact .tup vs ts (by rw [hl]; exact hvl) (aggArr vs cs ts js hl hall B' h1 h2 hr)
        exact ⟨hok, CellsOk.cell rfl rfl hok⟩
    · intro l ts is hl
      unfold treeL at hl
      split at hl
      · rename_i hids
        simp only [Option.some.injEq, Prod.mk.injEq] at hl
        obtain ⟨rfl, rfl⟩ := hl
        exact ⟨rfl, fun i c hc => ⟨c, hc, TreeOk.self (idsL_mem hids hc), CellsOk.self (idsL_mem hids hc)⟩⟩
      · cases l with
        | nil => rename_i hids; exact absurd rfl hids
        | cons v vs =>
          simp only [Option.bind_eq_some_iff, Option.map_eq_some_iff] at hl
          obtain ⟨⟨tv, ja⟩, htv, ⟨tvs, jb⟩, htvs, he⟩ := hl
          simp only [Prod.mk.injEq] at he
          obtain ⟨rfl, rfl⟩ := he
          obtain ⟨h1, h2⟩ := ihv _ _ _ htv
          obtain ⟨hlen, hall⟩ := ihl _ _ _ htvs
          refine ⟨by simp [hlen], fun i c hc => ?_⟩
          cases i with
          | zero =>
            simp at hc; subst hc
            exact ⟨tv, rfl, h1.more (fun x hx => List.mem_append_left _ hx), h2.more (fun x hx => List.mem_append_left _ hx)⟩
          | succ i =>
            simp at hc
            obtain ⟨t, ht, a, b⟩ := hall i c hc
            exact ⟨t, by simpa using ht, a.more (fun x hx => List.mem_append_right _ hx), b.more (fun x hx => List.mem_append_right _ hx)⟩
end
end Go.Ash
