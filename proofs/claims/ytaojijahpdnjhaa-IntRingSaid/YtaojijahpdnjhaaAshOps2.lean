/- Slicing, structs built, functions made: each does in the model what it does here. -/
import Derived.Test.YtaojijahpdnjhaaAshOps1
set_option linter.all false
namespace Go.Ash
section
variable {L : Link} {N : Nat → Prop} {w : World} {B : Nat → Prop} {m : PMap} {ρ : Operand → Value} {o : Oper}

/-! ### Slicing -/

theorem run_bounds {P : Program} {lo hi mx : Option Operand} {vs : List AVal} {isS : Bool} {len cap l h : Nat} (hcap : len ≤ cap)
    (hargs : Args L w B m ρ (lo.toList ++ hi.toList ++ mx.toList) vs) (hb : bounds len lo.isSome hi.isSome mx.isSome vs = some (l, h)) :
    ∃ mm, (Instr.sliceBounds isS len cap (lo.map ρ) (hi.map ρ) (mx.map ρ)).run P w = .ok (l, h, mm) w ∧ l ≤ h ∧ h ≤ len ∧ h ≤ mm ∧ mm ≤ cap := by
  have num : ∀ (x : Operand) (v : AVal) (top n : Nat), Reps L w B m (ρ x) v →
      (match v with | .int _ i => if 0 ≤ i ∧ i ≤ top then some i.toNat else none | _ => none) = some n →
      ∀ (y : Nat) (c : BoundsCode), top ≤ y → (Instr.sliceBound (ρ x) y c).run P w = .ok n w ∧ n ≤ top := by
    intro x v top n hr hv y c hy
    split at hv
    · rename_i k i
      split at hv
      · rename_i hi
        simp only [Option.some.injEq] at hv
        subst hv
        rw [hr.int_inv]
        exact ⟨run_sliceBound w k i y c hi.1 (by omega), by omega⟩
      · simp at hv
    · simp at hv
  cases lo with
  | none =>
    cases hi with
    | none =>
      cases mx with
      | none =>
        cases hargs
        simp only [Option.isSome, bounds, Option.some.injEq, Prod.mk.injEq] at hb
        obtain ⟨rfl, rfl⟩ := hb
        exact ⟨cap, by simp [Instr.sliceBounds], by omega, by omega, by omega, by omega⟩
      | some z => cases hargs with | cons _ h2 => cases h2; simp [bounds] at hb
    | some y =>
      cases mx with
      | none =>
        obtain ⟨v, rfl, hr⟩ := All2.one hargs
        simp only [Option.isSome, bounds, Option.map_eq_some_iff] at hb
        obtain ⟨n, hn, he⟩ := hb
        simp only [Prod.mk.injEq] at he
        obtain ⟨rfl, rfl⟩ := he
        obtain ⟨h1, h2⟩ := num y v len n hr hn cap (if isS then .sliceAcap else .sliceAlen) hcap
        exact ⟨cap, by simp [Instr.sliceBounds, h1], by omega, by omega, by omega, by omega⟩
      | some z =>
        obtain ⟨v, v', rfl, hr, hr'⟩ := All2.two hargs
        simp only [Option.isSome, bounds, Option.bind_eq_some_iff, Option.map_eq_some_iff] at hb
        obtain ⟨mm, hm, n, hn, he⟩ := hb
        simp only [Prod.mk.injEq] at he
        obtain ⟨rfl, rfl⟩ := he
        obtain ⟨h1, h2⟩ := num z v' len mm hr' hm cap (if isS then .slice3Acap else .slice3Alen) hcap
        obtain ⟨h3, h4⟩ := num y v mm n hr hn mm .slice3B (Nat.le_refl _)
        exact ⟨mm, by simp [Instr.sliceBounds, h1, h3], by omega, by omega, by omega, by omega⟩
  | some x =>
    cases hi with
    | none =>
      cases mx with
      | none =>
        obtain ⟨v, rfl, hr⟩ := All2.one hargs
        simp only [Option.isSome, bounds, Option.map_eq_some_iff] at hb
        obtain ⟨n, hn, he⟩ := hb
        simp only [Prod.mk.injEq] at he
        obtain ⟨rfl, rfl⟩ := he
        obtain ⟨h1, h2⟩ := num x v len n hr hn len .sliceB (Nat.le_refl _)
        exact ⟨cap, by simp [Instr.sliceBounds, h1], by omega, by omega, by omega, by omega⟩
      | some z => obtain ⟨v, v', rfl, hr, hr'⟩ := All2.two hargs; simp [bounds] at hb
    | some y =>
      cases mx with
      | none =>
        obtain ⟨v, v', rfl, hr, hr'⟩ := All2.two hargs
        simp only [Option.isSome, bounds, Option.bind_eq_some_iff, Option.map_eq_some_iff] at hb
        obtain ⟨n, hn, l', hl', he⟩ := hb
        simp only [Prod.mk.injEq] at he
        obtain ⟨rfl, rfl⟩ := he
        obtain ⟨h1, h2⟩ := num y v' len n hr' hn cap (if isS then .sliceAcap else .sliceAlen) hcap
        obtain ⟨h3, h4⟩ := num x v n l' hr hl' n .sliceB (Nat.le_refl _)
        exact ⟨cap, by simp [Instr.sliceBounds, h1, h3], by omega, by omega, by omega, by omega⟩
      | some z =>
        cases hargs with
        | cons hr h2 =>
          obtain ⟨v', v'', rfl, hr', hr''⟩ := All2.two h2
          rename_i v
          simp only [Option.isSome, bounds, Option.bind_eq_some_iff, Option.map_eq_some_iff] at hb
          obtain ⟨mm, hm, n, hn, l', hl', he⟩ := hb
          simp only [Prod.mk.injEq] at he
          obtain ⟨rfl, rfl⟩ := he
          obtain ⟨h1, h2⟩ := num z v'' len mm hr'' hm cap (if isS then .slice3Acap else .slice3Alen) hcap
          obtain ⟨h3, h4⟩ := num y v' mm n hr' hn mm .slice3B (Nat.le_refl _)
          obtain ⟨h5, h6⟩ := num x v n l' hr hl' n .slice3C (Nat.le_refl _)
          exact ⟨mm, by simp [Instr.sliceBounds, h1, h3, h5], by omega, by omega, by omega, by omega⟩

theorem run_sliceAt {P : Program} {t e : TypeId} {esz l h mm len cap : Nat} {a : Option Addr} {lo hi mx : Option Value} (ht : P.underlying t = some (.slice e))
    (hs : szOf P e = some esz) (hb : (Instr.sliceBounds true len cap lo hi mx).run P w = .ok (l, h, mm) w) :
    (Instr.sliceAt t (.slice a len cap) lo hi mx).run P w = .ok (.slice (if mm = l then a else a.map (·.add (l * esz))) (h - l) (mm - l)) w := by
  simp [Instr.sliceAt, Instr.slice, underlying, ht, hb, run_sizeOf hs]

theorem gives_slice {t e : TypeId} {esz : Nat} {x : Operand} {lo hi mx : Option Operand} {n : Bool} {xs vs : List AVal} {l h : Nat} (ho : o.op = .slice t x lo hi mx)
    (ht : L.P.underlying t = some (.slice e)) (hs : szOf L.P e = some esz) (ha : Reps L w B m (ρ x) (.slc n xs))
    (hargs : Args L w B m ρ (lo.toList ++ hi.toList ++ mx.toList) vs) (hb : bounds xs.length lo.isSome hi.isSome mx.isSome vs = some (l, h))
    (hg : l = 0 ∨ ∀ x ∈ xs, x.cells.length = esz) : Gives L w B m ρ o (.slc n ((xs.take h).drop l)) := by
  generalize hx : ρ x = u at ha
  have run : ∀ a len cap mm, u = .slice a len cap → (Instr.sliceBounds true len cap (lo.map ρ) (hi.map ρ) (mx.map ρ)).run L.P w = .ok (l, h, mm) w →
      (execOp ρ o).run L.P w = .ok (.value (.slice (if mm = l then a else a.map (·.add (l * esz))) (h - l) (mm - l))) w := by
    intro a len cap mm hu hb
    simp only [execOp, ho, hx, hu]
    exact run_val (run_sliceAt ht hs hb)
  cases ha with
  | nils =>
    obtain ⟨mm, h1, h2, h3, h4, h5⟩ := run_bounds (P := L.P) (isS := true) (cap := 0) (Nat.le_refl 0) hargs hb
    simp at h3
    have e1 : l = 0 := by omega
    have e2 : mm = 0 := by omega
    subst e1; subst e2; subst h3
    exact ⟨_, run none 0 0 0 rfl h1, by simpa using Reps.nils⟩
  | slc ad s cap _ us hspot hcap hszs hids hcell hrep hB =>
    obtain ⟨mm, h1, h2, h3, h4, h5⟩ := run_bounds (P := L.P) (isS := true) (cap := cap) hcap hargs hb
    refine ⟨_, run (some ad) xs.length cap mm rfl h1, ?_⟩
    have hlen : ((xs.take h).drop l).length = h - l := by simp; omega
    have hget : ∀ (i : Nat) (y : AVal), ((xs.take h).drop l)[i]? = some y → xs[l + i]? = some y := by
      intro i y hy
      rw [List.getElem?_drop, List.getElem?_take] at hy
      split at hy
      · exact hy
      · simp at hy
    have hids' : idsL ((xs.take h).drop l) = [] := ids_of_mem fun i y hy => idsL_mem hids (hget i y hy)
    rw [← hlen]
    by_cases hml : mm = l
    · have hnil : ((xs.take h).drop l) = [] := List.eq_nil_of_length_eq_zero (by omega)
      rw [if_pos hml, hnil]
      exact .slc ad s (mm - l) [] us (fun h => absurd rfl h) (by simp) (by simp) rfl (by simp) (by simp) (by simp)
    · rw [if_neg hml]
      simp only [Option.map_some]
      by_cases hne : xs = []
      · have hnil : ((xs.take h).drop l) = [] := by simp [hne]
        rw [hnil]
        exact .slc _ s (mm - l) [] us (fun h => absurd rfl h) (by simp) (by simp) rfl (by simp) (by simp) (by simp)
      rw [addr_add (hspot hne)]
      have hse : l * esz = l * s := by
        rcases hg with h0 | hg
        · rw [h0]; simp
        · cases xs with
          | nil => exact absurd rfl hne
          | cons y ys => rw [← hszs 0 y rfl, hg y (by simp)]
      rw [hse]
      refine .slc _ s (mm - l) _ (fun i j => us (l + i) j) (fun _ => rfl) (by omega) ?_ hids' ?_ ?_ ?_
      · intro i y hy; exact hszs _ _ (hget i y hy)
      · intro i y j c hy hc
        have := hcell _ _ j c (hget i y hy) hc
        have e : ad.off + l * s + (i * s + j) = ad.off + ((l + i) * s + j) := by rw [Nat.add_mul]; omega
        show w.cell? ⟨ad.block, ad.off + l * s + (i * s + j), none⟩ = _
        rw [e]; exact this
      · intro i y j c hy hc; exact hrep _ _ j c (hget i y hy) hc
      · intro _; exact hB hne

theorem gives_slice_m {t e : TypeId} {esz : Nat} {x : Operand} {lo hi mx : Option Operand} {id off len : Nat} {vs : List AVal} {l h : Nat} {p : Pl} (ho : o.op = .slice t x lo hi mx)
    (ht : L.P.underlying t = some (.slice e)) (hs : szOf L.P e = some esz) (ha : Reps L w B m (ρ x) (.mslc id off len)) (hp : m id = some p) (hpe : p.esz = esz)
    (hargs : Args L w B m ρ (lo.toList ++ hi.toList ++ mx.toList) vs) (hb : bounds len lo.isSome hi.isSome mx.isSome vs = some (l, h)) :
    Gives L w B m ρ o (if l = 0 then .mslc id off h else if l = h then .slc false [] else .mslc id (off + l) (h - l)) := by
  generalize hx : ρ x = u at ha
  cases ha with
  | mslc _ _ _ cap q arr el fz hm hcap hblk hroom =>
    rw [hp] at hm; cases hm
    obtain ⟨mm, h1, h2, h3, h4, h5⟩ := run_bounds (P := L.P) (isS := true) (cap := cap) hcap hargs hb
    refine ⟨.slice (if mm = l then some ⟨p.blk, p.base + off * p.esz, none⟩ else (some (⟨p.blk, p.base + off * p.esz, none⟩ : Addr)).map (·.add (l * esz))) (h - l) (mm - l), ?_, ?_⟩
    · simp only [execOp, ho, hx]
      exact run_val (run_sliceAt ht hs h1)
    · by_cases hl0 : l = 0
      · subst hl0
        rw [if_pos rfl]
        have e : (if mm = 0 then some (⟨p.blk, p.base + off * p.esz, none⟩ : Addr) else (some (⟨p.blk, p.base + off * p.esz, none⟩ : Addr)).map (·.add (0 * esz))) = some ⟨p.blk, p.base + off * p.esz, none⟩ := by
          split <;> simp [Addr.add]
        rw [e]
        refine .mslc id off h mm p arr el fz hp (by omega) hblk ?_
        refine Nat.le_trans ?_ hroom
        exact Nat.add_le_add_left (Nat.mul_le_mul_right _ (by omega)) _
      · rw [if_neg hl0]
        by_cases hlh : l = h
        · subst hlh
          rw [if_pos rfl, Nat.sub_self]
          by_cases hml : mm = l
          · rw [if_pos hml]
            exact .slc _ 0 (mm - l) [] (fun _ _ => undef) (fun _ => rfl) (by simp) (by simp) rfl (by simp) (by simp) (by simp)
          · rw [if_neg hml]
            simp only [Option.map_some]
            rw [Addr.add_lit]
            exact .slc _ 0 (mm - l) [] (fun _ _ => undef) (fun _ => rfl) (by simp) (by simp) rfl (by simp) (by simp) (by simp)
        · rw [if_neg hlh, if_neg (by omega)]
          simp only [Option.map_some]
          rw [Addr.add_lit, ← hpe]
          have e : p.base + off * p.esz + l * p.esz = p.base + (off + l) * p.esz := by rw [Nat.add_mul]; omega
          rw [e]
          refine .mslc id (off + l) (h - l) (mm - l) p arr el fz hp (by omega) hblk ?_
          refine Nat.le_trans ?_ hroom
          exact Nat.add_le_add_left (Nat.mul_le_mul_right _ (by omega)) _

theorem gives_slice_s {t : TypeId} {x : Operand} {lo hi : Option Operand} {s : ByteArray} {vs : List AVal} {l h : Nat} (ho : o.op = .slice t x lo hi none)
    (ht : L.P.underlying t = some .string) (ha : Reps L w B m (ρ x) (.str s))
    (hargs : Args L w B m ρ (lo.toList ++ hi.toList) vs) (hb : bounds s.size lo.isSome hi.isSome false vs = some (l, h)) :
    Gives L w B m ρ o (.str (s.extract l h)) := by
  obtain ⟨mm, h1, _⟩ := run_bounds (P := L.P) (mx := none) (isS := false) (cap := s.size) (Nat.le_refl _) (by simpa using hargs) hb
  refine ⟨_, ?_, .str _⟩
  simp only [execOp, ho, ha.str_inv]
  refine run_val ?_
  simp only [Option.map_none] at h1
  simp [Instr.sliceAt, Instr.slice, underlying, ht, h1]

/-! ### Functions made -/

theorem args_arr {xs : Array Operand} {vs : List AVal} (h : Args L w B m ρ xs.toList vs) : (xs.map ρ).size = vs.length ∧
    ∀ (i : Nat) (c : AVal), vs[i]? = some c → Reps L w B m ((xs.map ρ).getD i undef) c := by
  have hl := h.length
  refine ⟨by simpa using hl, fun i c hc => ?_⟩
  have hi : i < xs.size := by
    have : i < vs.length := by
      rcases Nat.lt_or_ge i vs.length with h | h
      · exact h
      · simp [List.getElem?_eq_none h] at hc
    simp at hl; omega
  have := h.get (i := i) (a := xs[i]) (by simp [hi]) hc
  simpa [Array.getD, hi] using this

theorem All2.split {α β : Type} {R : α → β → Prop} {as as' : List α} {bs : List β} (h : All2 R (as ++ as') bs) :
    All2 R as (bs.take as.length) ∧ All2 R as' (bs.drop as.length) := by
  induction as generalizing bs with
  | nil => exact ⟨.nil, by simpa using h⟩
  | cons a as ih =>
    cases h with
    | cons h1 h2 =>
      obtain ⟨h3, h4⟩ := ih h2
      exact ⟨.cons h1 h3, h4⟩

theorem gives_mkfn {f g : Nat} {first cap : Array Operand} {vs : List AVal} (ho : o.op = .makeFunc (.func f) first cap) (hf : L.fn g = f) (hok : L.ok g)
    (hargs : Args L w B m ρ (first.toList ++ cap.toList) vs) : Gives L w B m ρ o (.fn g (vs.take first.size) (vs.drop first.size)) := by
  obtain ⟨h1, h2⟩ := All2.split hargs
  simp only [Array.length_toList] at h1 h2
  obtain ⟨h3, h4⟩ := args_arr h1
  obtain ⟨h5, h6⟩ := args_arr h2
  refine ⟨.func (.func (L.fn g)) (first.map ρ) (cap.map ρ), ?_, .fn g _ _ _ _ hok h3 h5 h4 h6⟩
  simp [execOp, ho, Instr.makeFunc, hf]

/-! ### Structs built -/

theorem setAll_length (cs : List AVal) (o : Nat) (vs : List AVal) : (setAll cs o vs).length = cs.length := by
  induction vs generalizing cs o with
  | nil => rfl
  | cons v vs ih => simp [setAll, ih]

theorem setAll_get (vs : List AVal) : ∀ (cs : List AVal) (o j : Nat), o + vs.length ≤ cs.length →
    (setAll cs o vs)[j]? = if o ≤ j ∧ j < o + vs.length then vs[j - o]? else cs[j]? := by
  induction vs with
  | nil => intro cs o j _; simp [setAll]; omega
  | cons v vs ih =>
    intro cs o j h
    simp only [List.length_cons] at h
    simp only [setAll]
    rw [ih _ _ _ (by simp; omega)]
    by_cases hj : o = j
    · subst hj
      rw [if_neg (by omega), if_pos (by simp), List.getElem?_set_self (by omega)]
      simp
    · by_cases h1 : o + 1 ≤ j ∧ j < o + 1 + vs.length
      · rw [if_pos h1, if_pos (by simp; omega)]
        have : j - o = (j - (o + 1)) + 1 := by omega
        rw [this, List.getElem?_cons_succ]
      · rw [if_neg h1, if_neg (by simp; omega), List.getElem?_set_ne hj]

theorem foldl_set (l : List Value) : ∀ (off k : Nat) (cs : Array Value), off + k + l.length ≤ cs.size →
    (∀ j, ((l.zipIdx k).foldl (fun (cs : Array Value) (c : Value × Nat) => cs.setIfInBounds (off + c.2) c.1) cs)[j]? = if off + k ≤ j ∧ j < off + k + l.length then l[j - (off + k)]? else cs[j]?) ∧
    ((l.zipIdx k).foldl (fun (cs : Array Value) (c : Value × Nat) => cs.setIfInBounds (off + c.2) c.1) cs).size = cs.size := by
  induction l with
  | nil => intro off k cs _; exact ⟨fun j => by simp; omega, by simp⟩
  | cons v l ih =>
    intro off k cs h
    simp only [List.length_cons] at h
    simp only [List.zipIdx_cons, List.foldl_cons]
    obtain ⟨h1, h2⟩ := ih off (k + 1) (cs.setIfInBounds (off + k) v) (by simp; omega)
    refine ⟨fun j => ?_, by rw [h2]; simp⟩
    rw [h1]
    by_cases hj : off + k = j
    · subst hj
      rw [if_neg (by omega), if_pos (by simp), Array.getElem?_setIfInBounds_self_of_lt (by omega)]
      simp
    · by_cases h3 : off + (k + 1) ≤ j ∧ j < off + (k + 1) + l.length
      · rw [if_pos h3, if_pos (by simp; omega)]
        have : j - (off + k) = (j - (off + (k + 1))) + 1 := by omega
        rw [this, List.getElem?_cons_succ]
      · rw [if_neg h3, if_neg (by simp; omega), Array.getElem?_setIfInBounds_ne hj]

/-- Cells that stand for a list. -/
def CellsRep (L : Link) (w : World) (B : Nat → Prop) (m : PMap) (arr : Array Value) (cs : List AVal) : Prop :=
  arr.size = cs.length ∧ ∀ (j : Nat) (c : AVal), cs[j]? = some c → ∃ u, arr[j]? = some u ∧ Reps L w B m u c

theorem fill_ok {pl : Nat → Option (Nat × Nat)} : ∀ (parts : List (Nat × Operand)) (ps : List (Nat × Nat)) (vs cs cs' : List AVal) (arr : Array Value),
    parts.map (fun q => pl q.1) = ps.map some → Args L w B m ρ (parts.map (·.2)) vs → CellsRep L w B m arr cs → fillA cs ps vs = some cs' →
    ∃ arr', Instr.fill pl arr (parts.map fun (i, x) => (i, ρ x)) = some arr' ∧ CellsRep L w B m arr' cs'
  | [], ps, vs, cs, cs', arr, hps, hargs, hc, hf => by
    cases ps with
    | nil => cases hargs; simp [fillA] at hf; subst hf; exact ⟨arr, rfl, hc⟩
    | cons _ _ => simp at hps
  | (i, x) :: parts, ps, vs, cs, cs', arr, hps, hargs, hc, hf => by
    cases ps with
    | nil => simp at hps
    | cons q ps =>
      obtain ⟨off, size⟩ := q
      simp only [List.map_cons, List.cons.injEq] at hps
      cases hargs with
      | cons hr hargs =>
        rename_i v vs
        simp only [fillA] at hf
        split at hf
        · rename_i hcond
          obtain ⟨hlen, hall, hle⟩ := hcond
          obtain ⟨hsz, hcells⟩ := hr.cells hall
          have hsz' : (ρ x).cells.size = v.cells.length := hsz
          obtain ⟨hg, hgs⟩ := foldl_set (ρ x).cells.toList off 0 arr (by simp [hsz', hc.1]; omega)
          simp only [Nat.add_zero, Array.length_toList] at hg hgs
          have hc' : CellsRep L w B m (((ρ x).cells.toList.zipIdx 0).foldl (fun (cs : Array Value) (c : Value × Nat) => cs.setIfInBounds (off + c.2) c.1) arr) (setAll cs off v.cells) := by
            refine ⟨by rw [hgs, setAll_length]; exact hc.1, fun j c hj => ?_⟩
            rw [setAll_get _ _ _ _ (by omega)] at hj
            rw [hg, hsz']
            split at hj
            · rename_i hin
              rw [if_pos hin]
              obtain ⟨u, hu, hru, _⟩ := hcells _ _ hj
              exact ⟨u, by simpa using hu, hru⟩
            · rename_i hin
              rw [if_neg hin]
              exact hc.2 j c hj
          obtain ⟨arr', h1, h2⟩ := fill_ok parts ps vs _ cs' _ hps.2 hargs hc' hf
          refine ⟨arr', ?_, h2⟩
          simp only [List.map_cons, Instr.fill, hps.1]
          have hne : ¬ ((ρ x).cells.size ≠ size ∨ off + (ρ x).cells.size > arr.size) := by
            rw [hsz', hc.1]; omega
          have hne' : (decide ((ρ x).cells.size ≠ size) || decide (off + (ρ x).cells.size > arr.size)) = false := by
            simp only [ne_eq, not_or, Decidable.not_not] at hne
            simp [hne.1]; omega
          rw [if_neg (by rw [hne']; simp)]
          have e : (ρ x).cells.zipIdx.foldl (fun (cs : Array Value) (c : Value × Nat) => cs.setIfInBounds (off + c.2) c.1) arr =
              ((ρ x).cells.toList.zipIdx 0).foldl (fun (cs : Array Value) (c : Value × Nat) => cs.setIfInBounds (off + c.2) c.1) arr := by
            rw [← Array.foldl_toList]; simp
          rw [e]
          exact h1
        · simp at hf

end
end Go.Ash
