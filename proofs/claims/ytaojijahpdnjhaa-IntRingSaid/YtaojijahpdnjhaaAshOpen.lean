/- What a law is handed, as trees: plain data of any shape. -/
import Derived.Test.YtaojijahpdnjhaaAshRun
import Derived.ChangeArms
import Derived.ChangeSlices
import Derived.Carry
set_option linter.all false
namespace Go.Ash
open Go.RowKit

def isStructT (P : Program) (t : TypeId) : Bool := match P.underlying t with | some (.struct _) => true | _ => false

/-- Fields that lie one behind the other. -/
def tiles (P : Program) : Nat → List Field → Option Nat
  | o, [] => some o
  | o, f :: fs => if f.offset = o then tiles P (o + P.cellsOf f.type) fs else none

def plainTy (P : Program) : Nat → TypeId → Bool
  | 0, _ => false
  | k + 1, t => match P.underlying t with
    | some .bool | some (.int _) | some .string => true
    | some (.slice e) => plainTy P k e && decide (0 < P.cellsOf e)
    | some (.struct fs) => fs.toList.all (fun f => plainTy P k f.type) && decide (tiles P 0 fs.toList = some (P.cellsOf t))
    | _ => false

def mkA (agg : Bool) (ys : List AVal) : AVal := if agg then .agg ys else ys.headD .und

/-- What the cells of a type show. -/
def ShapeC (P : Program) : Nat → TypeId → List AVal → Prop
  | 0, _, _ => False
  | k + 1, t, as => match P.underlying t with
    | some .bool => ∃ b, as = [.bool b]
    | some (.int kd) => ∃ n, as = [.int kd n] ∧ kd.min ≤ n ∧ n ≤ kd.max
    | some .string => ∃ s : ByteArray, as = [.str s] ∧ s.size ≤ maxLen
    | some (.slice e) => as = [.slc true []] ∨ ∃ xs, as = [.slc false xs] ∧ xs.length ≤ maxLen ∧ ∀ x ∈ xs, ∃ ys, x = mkA (isStructT P e) ys ∧ ShapeC P k e ys
    | some (.struct fs) => as.length = P.cellsOf t ∧ ∀ f ∈ fs.toList, ShapeC P k f.type ((as.drop f.offset).take (P.cellsOf f.type))
    | _ => False

theorem shape_one {P : Program} {k : Nat} {t : TypeId} {ys : List AVal} (h : ShapeC P k t ys) (hs : isStructT P t = false) : ∃ c, ys = [c] ∧ c.cells = [c] := by
  cases k with
  | zero => exact h.elim
  | succ k =>
    unfold ShapeC at h
    unfold isStructT at hs
    split at h
    · obtain ⟨b, rfl⟩ := h; exact ⟨_, rfl, rfl⟩
    · obtain ⟨n, rfl, _⟩ := h; exact ⟨_, rfl, rfl⟩
    · obtain ⟨s, rfl, _⟩ := h; exact ⟨_, rfl, rfl⟩
    · rcases h with rfl | ⟨xs, rfl, _⟩ <;> exact ⟨_, rfl, rfl⟩
    · rename_i ht; rw [ht] at hs; simp at hs
    · exact h.elim

theorem mkA_cells {P : Program} {k : Nat} {t : TypeId} {ys : List AVal} (h : ShapeC P k t ys) : (mkA (isStructT P t) ys).cells = ys := by
  unfold mkA
  split
  · rfl
  · rename_i hs
    obtain ⟨c, rfl, hc⟩ := shape_one h (by simpa using hs)
    exact hc

theorem mkA_ids {agg : Bool} {ys : List AVal} (h : idsL ys = []) : (mkA agg ys).ids = [] := by
  unfold mkA
  split
  · exact h
  · cases ys with
    | nil => rfl
    | cons y ys => simp only [idsL, List.append_eq_nil_iff] at h; exact h.1

section
variable {L : Link} {H : Type} {enc : TypeId × Value → H} {w : World} {base : Nat} {spare : Nat → Bool} {held : Bool}

def RowRead (L : Link) (w : World) (cs : List Value) (as : List AVal) : Prop :=
  as.length = cs.length ∧ idsL as = [] ∧ ∀ (i : Nat) (c : AVal) (u : Value), as[i]? = some c → cs[i]? = some u → Reps L w (fun _ => False) (fun _ => none) u c

theorem idsL_append : ∀ (a b : List AVal), idsL (a ++ b) = idsL a ++ idsL b
  | [], b => rfl
  | x :: a, b => by simp only [List.cons_append, idsL, idsL_append a b, List.append_assoc]

theorem RowRead.append {c1 c2 : List Value} {a1 a2 : List AVal} (h1 : RowRead L w c1 a1) (h2 : RowRead L w c2 a2) : RowRead L w (c1 ++ c2) (a1 ++ a2) := by
  obtain ⟨l1, i1, r1⟩ := h1
  obtain ⟨l2, i2, r2⟩ := h2
  refine ⟨by simp [l1, l2], by rw [idsL_append, i1, i2]; rfl, ?_⟩
  intro i c u hc hu
  by_cases hi : i < a1.length
  · rw [List.getElem?_append_left hi] at hc
    rw [List.getElem?_append_left (by omega)] at hu
    exact r1 i c u hc hu
  · rw [List.getElem?_append_right (by omega)] at hc
    rw [List.getElem?_append_right (by omega), ← l1] at hu
    exact r2 _ c u hc hu

theorem rowRead_one {u : Value} {c : AVal} (hi : c.ids = []) (h : Reps L w (fun _ => False) (fun _ => none) u c) : RowRead L w [u] [c] := by
  refine ⟨rfl, by simp [idsL, hi], ?_⟩
  intro i c' u' hc hu
  cases i with
  | zero => simp at hc hu; subst hc; subst hu; exact h
  | succ i => simp at hc

theorem cell_spot_none {a : Addr} {i s j : Nat} {u : Value} (h0 : a.spot = none) (h : w.cell? ((a.add (i * s)).add j) = some u) : w.cell? ⟨a.block, a.off + (i * s + j), none⟩ = some u := by
  rw [addr_add h0, Addr.add_lit] at h
  rw [← Nat.add_assoc]; exact h

theorem open_cells : ∀ (k : Nat) (t : TypeId), plainTy L.P k t = true → ∀ (fuel : Nat) (cs : List Value) (x : DataW H × List MemPlace), DataW.trod enc L.P w base spare held fuel t cs = some x →
    ∃ as, RowRead L w cs as ∧ ShapeC L.P k t as
  | 0, _, h => by simp [plainTy] at h
  | k + 1, t, hp => by
    intro fuel cs x hx
    unfold plainTy at hp
    split at hp
    · rename_i ht
      obtain ⟨b, rfl, _⟩ := DataW.trod_bool ht hx
      exact ⟨[.bool b], rowRead_one rfl (.bool b), by unfold ShapeC; rw [ht]; exact ⟨b, rfl⟩⟩
    · rename_i kd ht
      obtain ⟨n, rfl, _, hw⟩ := DataW.trod_int ht hx
      simp only [Lit.wf, Bool.and_eq_true, decide_eq_true_eq] at hw
      exact ⟨[.int kd n], rowRead_one rfl (.int kd n), by unfold ShapeC; rw [ht]; exact ⟨n, rfl, hw.1, hw.2⟩⟩
    · rename_i ht
      obtain ⟨s, rfl, _, hs⟩ := DataW.trod_string ht hx
      exact ⟨[.str s], rowRead_one rfl (.str s), by unfold ShapeC; rw [ht]; exact ⟨s, rfl, hs⟩⟩
    · rename_i e ht
      simp only [Bool.and_eq_true, decide_eq_true_eq] at hp
      obtain ⟨hpe, hpos⟩ := hp
      rcases DataW.trod_slice ht hx with ⟨rfl, _⟩ | ⟨a, len, cap, elems, rest, n, _, rfl, _, hb, hl, hm, hlen, hel, _, _⟩
      · exact ⟨[.slc true []], rowRead_one rfl .nils, by unfold ShapeC; rw [ht]; exact .inl rfl⟩
      · have each : ∀ i, i < len → ∃ ci as, (∀ j, j < L.P.cellsOf e → w.cell? ((a.add (i * L.P.cellsOf e)).add j) = ci[j]?) ∧ ci.length = L.P.cellsOf e ∧ RowRead L w ci as ∧ ShapeC L.P k e as := by
          intro i hi
          have h1 := hel i hi
          rw [List.getElem?_eq_getElem (by omega), Option.bind_eq_some_iff] at h1
          obtain ⟨ci, hci, htr⟩ := h1
          obtain ⟨_, hcl, hcell⟩ := World.cells?_some hci
          obtain ⟨as, hr, hs⟩ := open_cells k e hpe n ci _ htr
          exact ⟨ci, as, hcell, hcl, hr, hs⟩
        have hch : ∃ f : Nat → List AVal, ∀ i, i < len → ∃ ci, (∀ j, j < L.P.cellsOf e → w.cell? ((a.add (i * L.P.cellsOf e)).add j) = ci[j]?) ∧ ci.length = L.P.cellsOf e ∧ RowRead L w ci (f i) ∧ ShapeC L.P k e (f i) := by
          refine ⟨fun i => if h : i < len then Classical.choose (Classical.choose_spec (each i h)) else [], fun i h => ?_⟩
          simp only [dif_pos h]
          exact ⟨_, Classical.choose_spec (Classical.choose_spec (each i h))⟩
        obtain ⟨f, hf⟩ := hch
        have hxl : ((List.range len).map fun i => mkA (isStructT L.P e) (f i)).length = len := by simp
        have hget : ∀ (i : Nat) (y : AVal), ((List.range len).map fun i => mkA (isStructT L.P e) (f i))[i]? = some y → i < len ∧ y = mkA (isStructT L.P e) (f i) := by
          intro i y hy
          have hi : i < len := by have := lt_of_getx hy; rw [hxl] at this; exact this
          simp [hi] at hy
          exact ⟨hi, hy.symm⟩
        have hspot : 0 < len → a.spot = none := by
          intro h0
          obtain ⟨ci, hc, hcl, _, _⟩ := hf 0 h0
          have := hc 0 hpos
          rw [List.getElem?_eq_getElem (by omega)] at this
          have h2 := World.cell?_spot this
          simpa [Addr.add] using h2
        have hcell : ∀ (i : Nat) (y : AVal) (j : Nat) (c : AVal), ((List.range len).map fun i => mkA (isStructT L.P e) (f i))[i]? = some y → y.cells[j]? = some c →
            ∃ u, w.cell? ⟨a.block, a.off + (i * L.P.cellsOf e + j), none⟩ = some u ∧ Reps L w (fun _ => False) (fun _ => none) u c := by
          intro i y j c hy hj
          obtain ⟨hi, rfl⟩ := hget i y hy
          obtain ⟨ci, hc, hcl, ⟨hl1, _, hrep⟩, hs⟩ := hf i hi
          rw [mkA_cells hs] at hj
          have hjl : j < L.P.cellsOf e := by have := lt_of_getx hj; omega
          have h1 := hc j hjl
          rw [List.getElem?_eq_getElem (by omega)] at h1
          exact ⟨_, cell_spot_none (hspot (by omega)) h1, hrep j c _ hj (List.getElem?_eq_getElem (by omega))⟩
        refine ⟨[.slc false ((List.range len).map fun i => mkA (isStructT L.P e) (f i))], rowRead_one rfl ?_, ?_⟩
        · have := Reps.slc (L := L) (w := w) (B := fun _ => False) (m := fun _ => none) a (L.P.cellsOf e) cap ((List.range len).map fun i => mkA (isStructT L.P e) (f i))
            (fun i j => (w.cell? ⟨a.block, a.off + (i * L.P.cellsOf e + j), none⟩).getD undef) (fun hne => hspot (by
              rcases Nat.eq_zero_or_pos len with h | h
              · subst h; simp at hne
              · exact h)) (by rw [hxl]; exact hl) (by
              intro i y hy
              obtain ⟨hi, rfl⟩ := hget i y hy
              obtain ⟨ci, _, hcl, ⟨hl1, _, _⟩, hs⟩ := hf i hi
              rw [mkA_cells hs]; omega) (ids_of_mem fun i y hy => by
              obtain ⟨hi, rfl⟩ := hget i y hy
              obtain ⟨ci, _, _, ⟨_, hids, _⟩, _⟩ := hf i hi
              exact mkA_ids hids) (by
              intro i y j c hy hj
              obtain ⟨u, hu, _⟩ := hcell i y j c hy hj
              rw [hu]; rfl) (by
              intro i y j c hy hj
              obtain ⟨u, hu, hr⟩ := hcell i y j c hy hj
              rw [hu]; exact hr) (by
              intro hne
              refine ⟨fun h => h, ?_⟩
              have h0 : 0 < len := by
                rcases Nat.eq_zero_or_pos len with h | h
                · subst h; simp at hne
                · exact h
              obtain ⟨ci, hc, hcl, _, _⟩ := hf 0 h0
              have h1 := hc 0 hpos
              rw [List.getElem?_eq_getElem (by omega)] at h1
              have hblk : ((a.add (0 * L.P.cellsOf e)).add 0).block = a.block := by rw [ChangeShapes.block_add, ChangeShapes.block_add]
              unfold World.cell? at h1
              rw [hblk] at h1
              rcases Nat.lt_or_ge a.block w.heap.size with h | h
              · exact h
              · rw [Array.getElem?_eq_none h] at h1; simp at h1)
          rw [hxl] at this
          exact this
        · unfold ShapeC
          rw [ht]
          refine .inr ⟨_, rfl, by rw [hxl]; omega, ?_⟩
          intro y hy
          obtain ⟨i, hi⟩ := List.mem_iff_getElem?.1 hy
          obtain ⟨hil, rfl⟩ := hget i y hi
          obtain ⟨_, _, _, _, hs⟩ := hf i hil
          exact ⟨f i, rfl, hs⟩
    · rename_i fs ht
      simp only [Bool.and_eq_true, decide_eq_true_eq, List.all_eq_true] at hp
      obtain ⟨hpf, htile⟩ := hp
      obtain ⟨xs, n, _, _, hcl, hxl, hfd⟩ := DataW.trod_struct ht hx
      have each : ∀ f ∈ fs.toList, ∃ as, RowRead L w ((cs.drop f.offset).take (L.P.cellsOf f.type)) as ∧ ShapeC L.P k f.type as := by
        intro f hf
        obtain ⟨i, hi⟩ := List.mem_iff_getElem?.1 hf
        have h1 := hfd i f (by simpa using hi)
        have hil : i < xs.length := by
          rw [hxl]
          have := lt_of_getx hi
          simpa using this
        rw [List.getElem?_eq_getElem hil] at h1
        exact open_cells k f.type (hpf f hf) n _ _ h1
      -- one field behind the other
      have build : ∀ (l : List Field) (o top : Nat), tiles L.P o l = some top → o ≤ cs.length → top = cs.length → (∀ f ∈ l, ∃ as, RowRead L w ((cs.drop f.offset).take (L.P.cellsOf f.type)) as ∧ ShapeC L.P k f.type as) →
          ∃ as, RowRead L w (cs.drop o) as ∧ ∀ f ∈ l, o ≤ f.offset ∧ ShapeC L.P k f.type ((as.drop (f.offset - o)).take (L.P.cellsOf f.type)) := by
        intro l
        induction l with
        | nil =>
          intro o top hti ho htop _
          simp only [tiles, Option.some.injEq] at hti
          refine ⟨[], ⟨?_, rfl, fun i c u hc => by simp at hc⟩, fun f hf => by cases hf⟩
          simp; omega
        | cons f l ih =>
          intro o top hti ho htop hall
          simp only [tiles] at hti
          split at hti
          · rename_i hfo
            obtain ⟨a1, hr1, hs1⟩ := hall f (by simp)
            have hle : o + L.P.cellsOf f.type ≤ cs.length := by
              have : ∀ (l : List Field) (p q : Nat), tiles L.P p l = some q → p ≤ q := by
                intro l
                induction l with
                | nil => intro p q h; simp only [tiles, Option.some.injEq] at h; omega
                | cons g l ih => intro p q h; simp only [tiles] at h; split at h; · have := ih _ _ h; omega
                                 · simp at h
              have := this _ _ _ hti; omega
            obtain ⟨a2, hr2, hs2⟩ := ih _ top hti hle htop (fun g hg => hall g (by simp [hg]))
            rw [hfo] at hr1
            have hl1 : a1.length = L.P.cellsOf f.type := by rw [hr1.1]; simp; omega
            have hsplit : cs.drop o = (cs.drop o).take (L.P.cellsOf f.type) ++ cs.drop (o + L.P.cellsOf f.type) := by
              rw [← List.drop_drop, List.take_append_drop]
            refine ⟨a1 ++ a2, by rw [hsplit]; exact hr1.append hr2, ?_⟩
            intro g hg
            rcases List.mem_cons.1 hg with rfl | hg
            · refine ⟨by omega, ?_⟩
              rw [hfo, Nat.sub_self, List.drop_zero, List.take_append_of_le_length (by omega), List.take_of_length_le (by omega)]
              exact hs1
            · obtain ⟨h1, h2⟩ := hs2 g hg
              refine ⟨by omega, ?_⟩
              rw [List.drop_append, List.drop_of_length_le (by omega), List.nil_append]
              rw [show g.offset - o - a1.length = g.offset - (o + L.P.cellsOf f.type) from by omega]
              exact h2
          · simp at hti
      obtain ⟨as, hr, hs⟩ := build fs.toList 0 _ htile (by omega) hcl.symm each
      simp only [List.drop_zero] at hr
      refine ⟨as, hr, ?_⟩
      unfold ShapeC
      rw [ht]
      refine ⟨by rw [hr.1, hcl], fun f hf => ?_⟩
      have := (hs f hf).2
      simpa using this
    · simp at hp

/-- An argument as a tree. -/
theorem open_arg {r : Reach} {b0 k : Nat} {t : TypeId} {v : Value} {d : DataW H} {ps : List MemPlace} (hp : plainTy L.P k t = true) (hval : Value.okWide L.P w r b0 t v)
    (hd : DataW.Trod enc L.P w base spare held t v d ps) : ∃ ys, Reps L w (fun _ => False) (fun _ => none) v (mkA (isStructT L.P t) ys) ∧ (mkA (isStructT L.P t) ys).ids = [] ∧ ShapeC L.P k t ys := by
  obtain ⟨fuel, hx⟩ := hd
  obtain ⟨as, ⟨hl, hids, hrep⟩, hs⟩ := open_cells k t hp fuel _ _ hx
  refine ⟨as, ?_, mkA_ids hids, hs⟩
  unfold mkA
  split
  · rename_i hst
    unfold isStructT at hst
    unfold Value.okWide at hval
    split at hst
    · rename_i fs ht
      rw [ht] at hval
      obtain ⟨cs, rfl, _, _⟩ := hval
      have hcs : (Value.agg cs).cells.toList = cs.toList := rfl
      rw [hcs] at hl hrep
      refine .agg cs as (by simpa using hl.symm) fun i c hc => ?_
      have hi : i < cs.size := by have := lt_of_getx hc; simp at hl; omega
      refine hrep i c _ hc ?_
      simp [Array.getD, hi]
    · simp at hst
  · rename_i hst
    obtain ⟨c, rfl, hc⟩ := shape_one hs (by simpa using hst)
    have hone : v.cells.toList = [v] := by
      cases v <;> first | rfl | skip
      rename_i vs
      exfalso
      unfold Value.okWide at hval
      unfold isStructT at hst
      cases ht : L.P.underlying t with
      | none => rw [ht] at hval; simp [Cell.okWide, ht, Cell.ok] at hval
      | some d =>
        rw [ht] at hval hst
        cases d <;> simp [Cell.okWide, ht, Cell.ok] at hval hst
        cases k with
        | zero => simp [plainTy] at hp
        | succ k => unfold plainTy at hp; rw [ht] at hp; simp at hp
    rw [hone] at hrep
    exact hrep 0 c v rfl rfl
end

/-- A law's call: it answers true, and nothing that was there is touched. -/
theorem law_calls {L : Link} {call : CallF} (hcall : CallOk L call) {f : Nat} (hok : L.ok f) {args : Array Value} {as : List AVal} {H : Heap} (hc : call f as [] = some (.bool true, H)) {W : World}
    (hl : args.size = as.length) (hr : ∀ (i : Nat) (a : AVal), as[i]? = some a → Reps L W (fun _ => False) (fun _ => none) (args.getD i undef) a) :
    Calls L.P (L.fn f) args W fun e W' => e = .returned (.bool true) ∧ Below W.heap.size W W' := by
  have hB : ∀ b, ¬ Bof (fun _ => False) (Heap.at []) (fun _ => none) b := by
    rintro b (h | ⟨id, k, p, hk, _⟩)
    · exact h
    · simp [Heap.at] at hk
  have s0 : Sim L (fun _ => False) W (Heap.at []) (fun _ => none) :=
    ⟨fun b hb => hb.elim, fun id k hk => by simp [Heap.at] at hk, fun id1 id2 k1 k2 p1 p2 h1 => by simp [Heap.at] at h1⟩
  refine (hcall f as [] _ H hc hok (fun _ => False) W (fun _ => none) args s0 (fun _ _ h => by cases h) hl (fun i a ha => (hr i a ha).less (fun b hb => hB b hb))).mono ?_
  rintro e W' ⟨u, m', rfl, _, _, hf, _, _, hru⟩
  have := hru.bool_inv
  subst this
  exact ⟨rfl, ⟨hf.ext.rest.1, hf.ext.rest.2.1, hf.ext.rest.2.2, hf.ext.size, fun k hk => hf.ext.old k hk (by
    rintro ⟨id, kb, p, hk', _⟩
    simp [Heap.at] at hk')⟩⟩
end Go.Ash
