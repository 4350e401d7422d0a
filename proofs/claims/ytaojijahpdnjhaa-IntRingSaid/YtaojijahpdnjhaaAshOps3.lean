/- Operations that make or write blocks: each does in the model what it does here. -/
import Derived.Test.YtaojijahpdnjhaaAshOps2
set_option linter.all false
namespace Go.Ash
section
variable {L : Link} {N : Nat → Prop} {w : World} {h : HF} {B : Nat → Prop} {m : PMap} {ρ : Operand → Value} {o : Oper}

theorem run_places {P : Program} : ∀ (fs : List Field), (∀ f ∈ fs, (szOf P f.type).isSome = true) →
    (fs.mapM fun f => do pure (f.offset, ← sizeOf f.type) : Sem (List (Nat × Nat))).run P w = .ok (fs.map fun f => (f.offset, (szOf P f.type).getD 0)) w
  | [], _ => by simp
  | f :: fs, hf => by
    obtain ⟨n, hn⟩ := Option.isSome_iff_exists.1 (hf f (by simp))
    simp only [List.mapM_cons, Sem.run_bind, run_sizeOf hn, Result.andThen_ok, Sem.run_pure, run_places fs (fun g hg => hf g (by simp [hg])), List.map_cons, hn, Option.getD_some]

theorem gives_build {t : TypeId} {parts : Array (Nat × Operand)} {ps : List (Nat × Nat)} {zero vs cs : List AVal} {z : Value} {fields : Array Field} (ho : o.op = .build t parts)
    (hz : zeroOf L.P t = some z) (ht : L.P.underlying t = some (.struct fields)) (hzr : constRepL zero z.cells.toList = true)
    (hall : fields.toList.all (fun f => (szOf L.P f.type).isSome) = true)
    (hps : parts.toList.map (fun q => (fields[q.1]?).map fun f => (f.offset, (szOf L.P f.type).getD 0)) = ps.map some)
    (hargs : Args L w B m ρ (parts.toList.map (·.2)) vs) (hf : fillA zero ps vs = some cs) : Gives L w B m ρ o (.agg cs) := by
  obtain ⟨hl, hr⟩ := constRepL_reps (L := L) (w := w) (B := B) (m := m) zero _ hzr
  have hc : CellsRep L w B m z.cells zero := by
    refine ⟨by simpa using hl, fun j c hj => ?_⟩
    have := hr j c hj
    have hlt : j < z.cells.size := by
      have : j < zero.length := by
        rcases Nat.lt_or_ge j zero.length with h | h
        · exact h
        · simp [List.getElem?_eq_none h] at hj
      simp at hl; omega
    exact ⟨z.cells[j], Array.getElem?_eq_getElem hlt, by simpa [hlt] using this⟩
  let pl : Nat → Option (Nat × Nat) := fun i => (fields.map fun f => (f.offset, (szOf L.P f.type).getD 0))[i]?
  have hps' : parts.toList.map (fun q => pl q.1) = ps.map some := by
    rw [← hps]
    apply List.map_congr_left
    intro q _
    simp [pl]
  obtain ⟨arr', h1, h2⟩ := fill_ok (pl := pl) parts.toList ps vs zero cs z.cells hps' hargs hc hf
  refine ⟨.agg arr', ?_, ?_⟩
  · simp only [execOp, ho]
    refine run_val ?_
    obtain ⟨i, hi, hiz⟩ : ∃ i, L.P.info? t = some i ∧ i.zero = some z := by
      unfold zeroOf at hz
      cases hi : L.P.info? t with
      | none => rw [hi] at hz; simp at hz
      | some i => rw [hi] at hz; exact ⟨i, rfl, hz⟩
    have hm : (fields.mapM fun f => do pure (f.offset, ← sizeOf f.type) : Sem (Array (Nat × Nat))).run L.P w = .ok (fields.map fun f => (f.offset, (szOf L.P f.type).getD 0)) w := by
      rw [Array.mapM_eq_mapM_toList]
      simp only [Sem.run_map, run_places fields.toList (fun f hf => List.all_eq_true.1 hall f hf), Result.andThen_ok]
      congr 1
      rw [← Array.toList_map, Array.toArray_toList]
    have e : (parts.map fun x => (x.fst, ρ x.snd)).toList = parts.toList.map fun x => (x.1, ρ x.2) := by simp
    simp only [Instr.build, zeroValue, typeInfo, Sem.run_bind, run_program, Result.andThen_ok, hi, Sem.run_pure, hiz, underlying, ht, hm, e]
    have h1' : Instr.fill (fun i => (fields.map fun f => (f.offset, (szOf L.P f.type).getD 0))[i]?) z.cells (parts.toList.map fun x => (x.1, ρ x.2)) = some arr' := h1
    rw [h1']
    rfl
  · refine .agg arr' cs h2.1 fun i c hc => ?_
    obtain ⟨u, hu, hru⟩ := h2.2 i c hc
    have hlt := (Array.getElem?_eq_some_iff.1 hu).1
    simpa [Array.getD, hlt, (Array.getElem?_eq_some_iff.1 hu).2] using hru

/-- What an operation leaves that may touch blocks. -/
def nextVal : Next → Value
  | .value v => v
  | _ => undef

def plainNext : Next → Prop
  | .value _ => True
  | .skip => True
  | _ => False

structure Does (L : Link) (N : Nat → Prop) (w : World) (h : HF) (m : PMap) (ρ : Operand → Value) (o : Oper) (v : AVal) (h' : HF) (fresh : Nat) : Prop where
  does : ∃ r w' m', (execOp ρ o).run L.P w = .ok r w' ∧ plainNext r ∧ Step L N w h m w' h' m' ∧ (∀ id, id ≠ fresh → m' id = m id) ∧ (h' fresh = none → m' fresh = none) ∧
    Reps L w' (Bof N h' m') m' (nextVal r) v

theorem Gives.does {v : AVal} (s : Sim L N w h m) (g : Gives L w (Bof N h m) m ρ o v) {fresh : Nat} (hmf : m fresh = none) : Does L N w h m ρ o v h fresh := by
  obtain ⟨u, hu, hr⟩ := g
  exact ⟨.value u, w, m, hu, trivial, Step.refl s, fun _ _ => rfl, fun _ => hmf, hr⟩

theorem does_newVar (s : Sim L N w h m) {fresh : Nat} (hf : h fresh = none) (hmf : m fresh = none) {el : TypeId} {u : Value} {v : AVal}
    (hr : Reps L w (Bof N h m) m u v) (hc : v.cells.all AVal.isCell = true ∨ u.cells.size = v.cells.length ∧ ∀ (j : Nat) (c : AVal), v.cells[j]? = some c → ∃ x, u.cells[j]? = some x ∧ Reps L w (Bof N h m) m x c)
    (hrun : (execOp ρ o).run L.P w = .ok (.value (.pointer (some ⟨w.heap.size, 0, none⟩))) (w.alloc (.cells u.cells el))) :
    Does L N w h m ρ o (.mptr fresh 0 0) (upd h fresh (some ⟨false, v.cells.length, [v]⟩)) fresh := by
  have hcells : u.cells.size = v.cells.length ∧ ∀ (j : Nat) (c : AVal), v.cells[j]? = some c → ∃ x, u.cells[j]? = some x ∧ Reps L w (Bof N h m) m x c := by
    rcases hc with hc | hc
    · obtain ⟨h1, h2⟩ := hr.cells hc
      exact ⟨h1, fun j c hj => let ⟨x, a, b, _⟩ := h2 j c hj; ⟨x, a, b⟩⟩
    · exact hc
  refine ⟨_, _, upd m fresh (some ⟨w.heap.size, 0, v.cells.length⟩), hrun, trivial, ?_, fun id hid => upd_ne _ _ hid, (fun h => by rw [upd_same] at h; cases h), ?_⟩
  · refine Step.new s (WExt.alloc w _) (heap_alloc_new w _) hf hmf ?_ ?_
    · intro i x hx
      cases i with
      | zero => simp at hx; subst hx; rfl
      | succ i => simp at hx
    · intro i x j c hx hj
      cases i with
      | zero =>
        simp at hx; subst hx
        obtain ⟨u', hu', hr'⟩ := hcells.2 j c hj
        exact ⟨u', by simpa using hu', hr'⟩
      | succ i => simp at hx
  · have := Reps.mptr (L := L) (w := w.alloc (.cells u.cells el)) (B := Bof N (upd h fresh (some ⟨false, v.cells.length, [v]⟩)) (upd m fresh (some ⟨w.heap.size, 0, v.cells.length⟩)))
      (m := upd m fresh (some ⟨w.heap.size, 0, v.cells.length⟩)) fresh 0 0 ⟨w.heap.size, 0, v.cells.length⟩ (upd_same _ _ _)
    simpa [nextVal] using this

theorem does_box (s : Sim L N w h m) {fresh : Nat} (hf : h fresh = none) (hmf : m fresh = none) {el : TypeId} {x : Operand} {v : AVal} (ho : o.op = .box el x)
    (hr : Reps L w (Bof N h m) m (ρ x) v) (hc : v.cells.all AVal.isCell = true) :
    Does L N w h m ρ o (.mptr fresh 0 0) (upd h fresh (some ⟨false, v.cells.length, [v]⟩)) fresh := by
  refine does_newVar (el := el) s hf hmf hr (.inl hc) ?_
  simp only [execOp, ho]
  refine run_val ?_
  simp [Instr.box, newVar, newRow]

theorem zero_cells {zero : AVal} {z : Value} (h : constRep zero z = true) : z.cells.size = zero.cells.length ∧
    ∀ (j : Nat) (c : AVal), zero.cells[j]? = some c → ∃ x, z.cells[j]? = some x ∧ Reps L w B m x c := by
  have hr := constRep_reps (L := L) (w := w) (B := B) (m := m) zero z h
  cases zero <;> try (
    have e : z.cells = #[z] := by cases hr <;> first | rfl | (simp [constRep] at h)
    refine ⟨by rw [e]; rfl, fun j c hj => ?_⟩
    simp only [AVal.cells] at hj
    cases j with
    | zero => simp at hj; subst hj; exact ⟨z, by rw [e]; rfl, hr⟩
    | succ j => simp at hj)
  rename_i cs
  cases hr with
  | agg vs _ hl hr =>
    refine ⟨hl, fun j c hj => ?_⟩
    simp only [AVal.cells] at hj
    have hlt : j < vs.size := by
      rw [hl]
      rcases Nat.lt_or_ge j cs.length with h | h
      · exact h
      · simp [List.getElem?_eq_none h] at hj
    have := hr j c hj
    exact ⟨vs[j], Array.getElem?_eq_getElem hlt, by simpa [Array.getD, hlt] using this⟩

theorem zero_info {P : Program} {t : TypeId} {z : Value} (h : zeroOf P t = some z) : ∃ i, P.info? t = some i ∧ i.zero = some z := by
  unfold zeroOf at h
  cases hi : P.info? t with
  | none => rw [hi] at h; simp at h
  | some i => rw [hi] at h; exact ⟨i, rfl, h⟩

theorem does_alloc (s : Sim L N w h m) {fresh : Nat} (hf : h fresh = none) (hmf : m fresh = none) {t : TypeId} {zero : AVal} {z : Value} (ho : o.op = .alloc t)
    (hz : zeroOf L.P t = some z) (hzr : constRep zero z = true) :
    Does L N w h m ρ o (.mptr fresh 0 0) (upd h fresh (some ⟨false, zero.cells.length, [zero]⟩)) fresh := by
  refine does_newVar (el := t) (u := z) s hf hmf (constRep_reps _ _ hzr) (.inr (zero_cells hzr)) ?_
  obtain ⟨i, hi, hiz⟩ := zero_info hz
  simp only [execOp, ho]
  refine run_val ?_
  simp [Instr.alloc, zeroValue, typeInfo, hi, hiz, newVar, newRow]

/-- Cells of a row of elements. -/
def RowRep (L : Link) (w : World) (B : Nat → Prop) (m : PMap) (esz : Nat) (arr : Array Value) (xs : List AVal) : Prop :=
  arr.size = xs.length * esz ∧ (∀ x ∈ xs, x.cells.length = esz) ∧
  ∀ (i : Nat) (x : AVal) (j : Nat) (c : AVal), xs[i]? = some x → x.cells[j]? = some c → ∃ u, arr[i * esz + j]? = some u ∧ Reps L w B m u c

theorem place_ok {esz : Nat} (he : 0 < esz) : ∀ (parts : List (Nat × Operand)) (vs xs xs' : List AVal) (arr : Array Value),
    Args L w B m ρ (parts.map (·.2)) vs → (∀ q ∈ parts, q.1 < xs.length) → goodElems esz vs = true → RowRep L w B m esz arr xs → placeAll xs (parts.map (·.1)) vs = some xs' →
    ∃ arr', Instr.fill (fun i => some (i * esz, esz)) arr (parts.map fun (i, x) => (i, ρ x)) = some arr' ∧ RowRep L w B m esz arr' xs'
  | [], vs, xs, xs', arr, hargs, _, _, hr, hp => by
    cases hargs
    simp [placeAll] at hp; subst hp
    exact ⟨arr, rfl, hr⟩
  | (i, x) :: parts, vs, xs, xs', arr, hargs, hlt, hg, hr, hp => by
    cases hargs with
    | cons hv hargs =>
      rename_i v vs
      simp only [List.map_cons, placeAll] at hp
      simp only [goodElems, List.all_cons, Bool.and_eq_true, beq_iff_eq] at hg
      obtain ⟨⟨hvl, hvc⟩, hg⟩ := hg
      obtain ⟨hsz, hcells⟩ := hv.cells hvc
      have hil : i < xs.length := hlt (i, x) (by simp)
      have hroom : i * esz + esz ≤ arr.size := by
        rw [hr.1, ← Nat.succ_mul]; exact Nat.mul_le_mul_right _ hil
      obtain ⟨hgt, hgs⟩ := foldl_set (ρ x).cells.toList (i * esz) 0 arr (by simp [hsz, hvl]; omega)
      simp only [Nat.add_zero, Array.length_toList] at hgt hgs
      have hr' : RowRep L w B m esz (((ρ x).cells.toList.zipIdx 0).foldl (fun (cs : Array Value) (c : Value × Nat) => cs.setIfInBounds (i * esz + c.2) c.1) arr) (xs.set i v) := by
        refine ⟨by rw [hgs, hr.1]; simp, ?_, ?_⟩
        · intro y hy
          rcases List.mem_or_eq_of_mem_set hy with h | h
          · exact hr.2.1 y h
          · rw [h]; exact hvl
        · intro k y j c hy hj
          rw [hgt, hsz, hvl]
          by_cases hki : k = i
          · subst hki
            rw [List.getElem?_set_self hil] at hy
            cases hy
            have hjl : j < esz := by
              rw [← hvl]
              rcases Nat.lt_or_ge j v.cells.length with h | h
              · exact h
              · simp [List.getElem?_eq_none h] at hj
            rw [if_pos (by omega)]
            obtain ⟨u, hu, hru, _⟩ := hcells j c hj
            exact ⟨u, by simpa using hu, hru⟩
          · rw [List.getElem?_set_ne (Ne.symm hki)] at hy
            have hyl := hr.2.1 y (List.mem_of_getElem? hy)
            have hjl : j < esz := by
              rw [← hyl]
              rcases Nat.lt_or_ge j y.cells.length with h | h
              · exact h
              · simp [List.getElem?_eq_none h] at hj
            have hne : ¬ (i * esz ≤ k * esz + j ∧ k * esz + j < i * esz + esz) := by
              rintro ⟨h1, h2⟩
              rcases Nat.lt_or_gt_of_ne hki with hlt | hgt
              · have := Nat.mul_le_mul_right esz (Nat.succ_le_of_lt hlt)
                rw [Nat.succ_mul] at this; omega
              · have := Nat.mul_le_mul_right esz (Nat.succ_le_of_lt hgt)
                rw [Nat.succ_mul] at this; omega
            rw [if_neg hne]
            exact hr.2.2 k y j c hy hj
      obtain ⟨arr', h1, h2⟩ := place_ok he parts vs _ xs' _ hargs (fun q hq => by simpa using hlt q (by simp [hq])) hg hr' hp
      refine ⟨arr', ?_, h2⟩
      simp only [List.map_cons, Instr.fill]
      have hne' : (decide ((ρ x).cells.size ≠ esz) || decide (i * esz + (ρ x).cells.size > arr.size)) = false := by
        have : (ρ x).cells.size = esz := by rw [hsz]; exact hvl
        simp [this]; omega
      rw [if_neg (by rw [hne']; simp)]
      have e : (ρ x).cells.zipIdx.foldl (fun (cs : Array Value) (c : Value × Nat) => cs.setIfInBounds (i * esz + c.2) c.1) arr =
          ((ρ x).cells.toList.zipIdx 0).foldl (fun (cs : Array Value) (c : Value × Nat) => cs.setIfInBounds (i * esz + c.2) c.1) arr := by
        rw [← Array.foldl_toList]; simp
      rw [e]
      exact h1

theorem does_newRow (s : Sim L N w h m) {fresh esz n c : Nat} (hf : h fresh = none) (hmf : m fresh = none) {el : TypeId} {arr : Array Value} {xs : List AVal} {w1 : World}
    (hn : xs.length = n) (hnc : n ≤ c) (hroom : c * esz ≤ arr.size) (hsz : ∀ x ∈ xs, x.cells.length = esz) (hw1 : w1.heap = w.heap) (hr1 : w1.os = w.os ∧ w1.tape = w.tape ∧ w1.output = w.output)
    (hcell : ∀ (i : Nat) (x : AVal) (j : Nat) (c : AVal), xs[i]? = some x → x.cells[j]? = some c → ∃ u, arr[i * esz + j]? = some u ∧ Reps L w (Bof N h m) m u c)
    (hrun : (execOp ρ o).run L.P w = .ok (.value (.slice (some ⟨w.heap.size, 0, none⟩) n c)) (w1.alloc (.cells arr el))) :
    Does L N w h m ρ o (.mslc fresh 0 n) (upd h fresh (some ⟨false, esz, xs⟩)) fresh := by
  have hnew : (w1.alloc (.cells arr el)).heap[w.heap.size]? = some (.cells arr el (0, 0)) := by
    rw [← hw1]; exact heap_alloc_new w1 _
  have hext : WExt (fun _ => False) w (w1.alloc (.cells arr el)) := by
    have := WExt.alloc w1 (.cells arr el)
    exact ⟨by have := this.size; rw [hw1] at this; exact this, fun b hb hn => by have := this.old b (by rw [hw1]; exact hb) hn; rw [hw1] at this; exact this, fun _ _ _ _ h => h.elim, hr1⟩
  refine ⟨_, _, upd m fresh (some ⟨w.heap.size, 0, esz⟩), hrun, trivial, ?_, fun id hid => upd_ne _ _ hid, (fun h => by rw [upd_same] at h; cases h), ?_⟩
  · exact Step.new s hext hnew hf hmf (fun i x hx => hsz x (List.mem_of_getElem? hx)) hcell
  · have := Reps.mslc (L := L) (w := w1.alloc (.cells arr el)) (B := Bof N (upd h fresh (some ⟨false, esz, xs⟩)) (upd m fresh (some ⟨w.heap.size, 0, esz⟩)))
      (m := upd m fresh (some ⟨w.heap.size, 0, esz⟩)) fresh 0 n c ⟨w.heap.size, 0, esz⟩ arr el (0, 0) (upd_same _ _ _) hnc hnew (by simpa using hroom)
    simpa [nextVal] using this

theorem does_bslice (s : Sim L N w h m) {fresh : Nat} (hf : h fresh = none) (hmf : m fresh = none) {t e : TypeId} {len esz : Nat} {parts : Array (Nat × Operand)} {zero : AVal} {z : Value}
    {vs xs : List AVal} {i : TypeInfo} (ho : o.op = .buildSlice t len parts) (ht : L.P.underlying t = some (.slice e)) (hi : L.P.info? e = some i) (hz : zeroOf L.P e = some z)
    (hzr : constRep zero z = true) (his : i.size = esz) (hzs : z.cells.size = esz) (he : 0 < esz) (hmax : len * esz ≤ 2 ^ 24) (hlt : ∀ q ∈ parts.toList, q.1 < len)
    (hargs : Args L w (Bof N h m) m ρ (parts.toList.map (·.2)) vs) (hg : goodElems esz vs = true) (hp : placeAll (List.replicate len zero) (parts.toList.map (·.1)) vs = some xs) :
    Does L N w h m ρ o (.mslc fresh 0 len) (upd h fresh (some ⟨false, esz, xs⟩)) fresh := by
  obtain ⟨hzl, hzc⟩ := zero_cells (L := L) (w := w) (B := Bof N h m) (m := m) hzr
  have hrow : RowRep L w (Bof N h m) m esz ((Array.range (len * esz)).map (z.cells[· % z.cells.size]!)) (List.replicate len zero) := by
    refine ⟨by simp, fun x hx => by rw [List.eq_of_mem_replicate hx, ← hzl, hzs], fun k x j c hx hj => ?_⟩
    have hk : k < len := by
      rcases Nat.lt_or_ge k len with h | h
      · exact h
      · simp [List.getElem?_replicate, Nat.not_lt.2 h] at hx
    have hxz : x = zero := by simp [List.getElem?_replicate, hk] at hx; exact hx.symm
    subst hxz
    obtain ⟨u, hu, hr⟩ := hzc j c hj
    have hju := (Array.getElem?_eq_some_iff.1 hu).1
    have hlt2 : k * esz + j < len * esz := by
      have := Nat.mul_le_mul_right esz (Nat.succ_le_of_lt hk)
      rw [Nat.succ_mul] at this; omega
    refine ⟨u, ?_, hr⟩
    rw [Array.getElem?_map, Array.getElem?_range, if_pos hlt2]
    simp only [Option.map_some, Option.some.injEq]
    have hmod : (k * esz + j) % z.cells.size = j := by
      rw [hzs, Nat.add_comm, Nat.add_mul_mod_self_right, Nat.mod_eq_of_lt (by omega)]
    rw [hmod, getElem!_pos z.cells j hju, (Array.getElem?_eq_some_iff.1 hu).2]
  obtain ⟨arr', h1, h2⟩ := place_ok (ρ := ρ) he parts.toList vs _ xs _ hargs (fun q hq => by simpa using hlt q hq) hg hrow hp
  have hlen : xs.length = len := by
    have : ∀ (is : List Nat) (vs xs xs' : List AVal), placeAll xs is vs = some xs' → xs'.length = xs.length := by
      intro is
      induction is with
      | nil => intro vs xs xs' h; cases vs <;> simp [placeAll] at h; rw [h]
      | cons i is ih => intro vs xs xs' h; cases vs with
        | nil => simp [placeAll] at h
        | cons v vs => simp only [placeAll] at h; rw [ih _ _ _ h]; simp
    rw [this _ _ _ _ hp]; simp
  refine does_newRow (el := e) (w1 := w) s hf hmf hlen (Nat.le_refl _) ?_ h2.2.1 rfl ⟨rfl, rfl, rfl⟩ h2.2.2 ?_ (arr := arr')
  · rw [h2.1, hlen]; exact Nat.le_refl _
  · obtain ⟨i', hi', hiz⟩ := zero_info hz
    rw [hi] at hi'; cases hi'
    have e1 : (parts.map fun x => (x.fst, ρ x.snd)).toList = parts.toList.map fun x => (x.1, ρ x.2) := by simp
    have hmax' : ¬ (len * esz > 2 ^ 24) := by omega
    have h1' : Instr.fill (fun i => some (i * esz, esz)) ((Array.range (len * esz)).map (fun x => z.cells[x % z.cells.size]!)) (parts.toList.map (fun x => (x.1, ρ x.2))) = some arr' := h1
    simp only [execOp, ho]
    refine run_val ?_
    simp only [Instr.buildSlice, Sem.run_bind, underlying, run_program, Result.andThen_ok, ht, Sem.run_pure, sizeOf, typeInfo, hi, his, hmax', if_false, e1]
    by_cases h0 : len * esz = 0
    · have earr : ∀ f : Nat → Value, (Array.range (len * esz)).map f = (Array.range (len * esz)).map (fun x => z.cells[x % z.cells.size]!) := by
        intro f; simp [h0, Array.range_zero']
      rw [if_pos h0]
      simp only [Sem.run_bind, Sem.run_pure, Result.andThen_ok]
      rw [earr (fun x => (#[] : Array Value)[x % (#[] : Array Value).size]!), h1']
      simp [newRow]
    · simp only [h0, if_false, zeroValue, typeInfo, Sem.run_bind, run_program, Result.andThen_ok, hi, hiz, Sem.run_pure, h1']
      simp [newRow]
end
end Go.Ash
