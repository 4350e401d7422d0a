/- Calls that answer trees: how they are reckoned. -/
import Derived.Test.YtaojijahpdnjhaaAshNum
import Derived.Test.YtaojijahpdnjhaaAshRen
set_option linter.all false
namespace Go.Ash

theorem renL_map (ρ : Nat → Nat) : ∀ l : List AVal, renL ρ l = l.map (AVal.ren ρ)
  | [] => rfl
  | x :: l => by simp only [renL, List.map_cons, renL_map ρ l]

mutual
theorem ids_ren (ρ : Nat → Nat) : ∀ v : AVal, (v.ren ρ).ids = v.ids.map ρ
  | .mslc id off len => by simp [AVal.ren, AVal.ids]
  | .mptr id i o => by simp [AVal.ren, AVal.ids]
  | .agg cs => by simp only [AVal.ren, AVal.ids, idsL_ren ρ cs]
  | .fn f a b => by simp only [AVal.ren, AVal.ids, idsL_ren ρ a, idsL_ren ρ b, List.map_append]
  | .ifc t v => by simp only [AVal.ren, AVal.ids, ids_ren ρ v]
  | .tup vs => by simp only [AVal.ren, AVal.ids, idsL_ren ρ vs]
  | .und | .bool _ | .int _ _ | .str _ | .slc _ _ | .ptr _ | .nilp | .nilfn | .nilif => rfl
theorem idsL_ren (ρ : Nat → Nat) : ∀ l : List AVal, idsL (renL ρ l) = (idsL l).map ρ
  | [] => rfl
  | v :: vs => by simp only [renL, idsL, ids_ren ρ v, idsL_ren ρ vs, List.map_append]
end

theorem idsL_ex {l : List AVal} {id : Nat} (h : id ∈ idsL l) : ∃ (i : Nat) (x : AVal), l[i]? = some x ∧ id ∈ x.ids := by
  induction l with
  | nil => simp [idsL] at h
  | cons v vs ih =>
    simp only [idsL, List.mem_append] at h
    rcases h with h | h
    · exact ⟨0, v, rfl, h⟩
    · obtain ⟨i, x, hx, hi⟩ := ih h
      exact ⟨i + 1, x, by simpa using hx, hi⟩

mutual
theorem ren_below {ρ : Nat → Nat} {n : Nat} (hpl : ∀ y, y < n → ρ y = y) : ∀ v : AVal, (∀ y ∈ v.ids, y < n) → v.ren ρ = v
  | .mslc id off len, h => by simp only [AVal.ren]; rw [hpl id (h id (by simp [AVal.ids]))]
  | .mptr id i o, h => by simp only [AVal.ren]; rw [hpl id (h id (by simp [AVal.ids]))]
  | .agg cs, h => by simp only [AVal.ren]; rw [renL_below hpl cs (fun y hy => h y (by simpa [AVal.ids] using hy))]
  | .fn f a b, h => by simp only [AVal.ren]; rw [renL_below hpl a (fun y hy => h y (by simp [AVal.ids, hy])), renL_below hpl b (fun y hy => h y (by simp [AVal.ids, hy]))]
  | .ifc t v, h => by simp only [AVal.ren]; rw [ren_below hpl v (fun y hy => h y (by simpa [AVal.ids] using hy))]
  | .tup vs, h => by simp only [AVal.ren]; rw [renL_below hpl vs (fun y hy => h y (by simpa [AVal.ids] using hy))]
  | .und, _ | .bool _, _ | .int _ _, _ | .str _, _ | .slc _ _, _ | .ptr _, _ | .nilp, _ | .nilfn, _ | .nilif, _ => rfl
theorem renL_below {ρ : Nat → Nat} {n : Nat} (hpl : ∀ y, y < n → ρ y = y) : ∀ l : List AVal, (∀ y ∈ idsL l, y < n) → renL ρ l = l
  | [], _ => rfl
  | v :: vs, h => by simp only [renL]; rw [ren_below hpl v (fun y hy => h y (by simp [idsL, hy])), renL_below hpl vs (fun y hy => h y (by simp [idsL, hy]))]
end

theorem tree_ren {H : Heap} {l : List Nat} (hcl : ∀ x ∈ l, ∀ b, H.at x = some b → ∀ y ∈ idsL b.elems, y ∈ l) : ∀ n : Nat,
    (∀ (c t : AVal) (is : List Nat), (∀ y ∈ c.ids, y ∈ l) → c.tree H n = some (t, is) → ∃ js, (c.ren (place l)).tree (pack H l) n = some (t, js)) ∧
    (∀ (vs ts : List AVal) (is : List Nat), (∀ y ∈ idsL vs, y ∈ l) → treeL H n vs = some (ts, is) → ∃ js, treeL (pack H l) n (renL (place l) vs) = some (ts, js))
  | 0 => ⟨fun _ _ _ _ h => by simp [AVal.tree] at h, fun _ _ _ _ h => by simp [treeL] at h⟩
  | n + 1 => by
    obtain ⟨ihv, ihl⟩ := tree_ren hcl n
    constructor
    · intro c t is hi hc
      cases c <;> simp only [AVal.tree, AVal.ren] at hc ⊢
      case mslc id off len =>
        have hid : id ∈ l := hi id (by simp [AVal.ids])
        split at hc
        · rename_i b hb
          have hp : (pack H l).at (place l id) = some (b.ren (place l)) := by rw [pack_at, place_get hid]; simp [hb]
          rw [hp]
          simp only [Blk.ren, renL_length]
          split at hc
          · rename_i hle
            rw [if_pos hle]
            simp only [Option.map_eq_some_iff, Prod.mk.injEq] at hc
            obtain ⟨⟨ts, js⟩, htl, rfl, _⟩ := hc
            obtain ⟨js', h'⟩ := ihl _ ts js (by
              intro y hy
              obtain ⟨k, c, hk, hy⟩ := idsL_ex hy
              rw [List.getElem?_take] at hk
              split at hk
              · rw [List.getElem?_drop] at hk
                exact hcl id hid b hb y (idsL_mem_of hk hy)
              · simp at hk) htl
            have e : ((renL (place l) b.elems).drop off).take len = renL (place l) ((b.elems.drop off).take len) := by
              simp only [renL_map, List.map_take, List.map_drop]
            refine ⟨place l id :: js', ?_⟩
            rw [e, h']; rfl
          · simp at hc
        · simp at hc
      case mptr id i o =>
        have hid : id ∈ l := hi id (by simp [AVal.ids])
        split at hc
        · rename_i b hb
          have hp : (pack H l).at (place l id) = some (b.ren (place l)) := by rw [pack_at, place_get hid]; simp [hb]
          rw [hp]
          simp only [Blk.ren, renL_get]
          split at hc
          · rename_i el hel
            rw [hel]
            simp only [Option.map_some, Option.map_eq_some_iff, Prod.mk.injEq] at hc ⊢
            obtain ⟨⟨ts, js⟩, htl, rfl, _⟩ := hc
            obtain ⟨js', h'⟩ := ihl _ ts js (by
              intro y hy
              obtain ⟨k, c, hk, hy⟩ := idsL_ex hy
              rw [List.getElem?_drop] at hk
              exact hcl id hid b hb y (idsL_mem_of hel (cells_ids hk hy))) htl
            have e : ((el.ren (place l)).cells.drop o) = renL (place l) (el.cells.drop o) := by
              rw [cells_ren]; simp only [renL_map, List.map_drop]
            exact ⟨_, (ts, js'), by rw [e]; exact h', rfl, rfl⟩
          · simp at hc
        · simp at hc
      case agg cs =>
        simp only [Option.map_eq_some_iff, Prod.mk.injEq] at hc ⊢
        obtain ⟨⟨ts, js⟩, htl, rfl, _⟩ := hc
        obtain ⟨js', h'⟩ := ihl _ ts js (fun y hy => hi y (by simpa [AVal.ids] using hy)) htl
        exact ⟨_, _, h', rfl, rfl⟩
      case tup cs =>
        simp only [Option.map_eq_some_iff, Prod.mk.injEq] at hc ⊢
        obtain ⟨⟨ts, js⟩, htl, rfl, _⟩ := hc
        obtain ⟨js', h'⟩ := ihl _ ts js (fun y hy => hi y (by simpa [AVal.ids] using hy)) htl
        exact ⟨_, _, h', rfl, rfl⟩
      case ifc ty v =>
        simp only [Option.map_eq_some_iff, Prod.mk.injEq] at hc ⊢
        obtain ⟨⟨ts, js⟩, htl, rfl, _⟩ := hc
        obtain ⟨js', h'⟩ := ihv _ ts js (fun y hy => hi y (by simpa [AVal.ids] using hy)) htl
        exact ⟨_, _, h', rfl, rfl⟩
      case fn f a b =>
        simp only [Option.bind_eq_some_iff, Option.map_eq_some_iff, Prod.mk.injEq] at hc ⊢
        obtain ⟨⟨ta, ja⟩, hta, ⟨tb, jb⟩, htb, rfl, _⟩ := hc
        obtain ⟨js', h'⟩ := ihl _ ta ja (fun y hy => hi y (by simp [AVal.ids, hy])) hta
        obtain ⟨ks', h''⟩ := ihl _ tb jb (fun y hy => hi y (by simp [AVal.ids, hy])) htb
        exact ⟨_, _, h', _, h'', rfl, rfl⟩
      all_goals
        simp only [Option.some.injEq, Prod.mk.injEq] at hc
        obtain ⟨rfl, _⟩ := hc
        exact ⟨[], rfl⟩
    · intro vs ts is hi hl
      unfold treeL at hl ⊢
      split at hl
      · rename_i h0
        simp only [Option.some.injEq, Prod.mk.injEq] at hl
        obtain ⟨rfl, _⟩ := hl
        rw [if_pos (by rw [idsL_ren, h0]; rfl), renL_self _ _ h0]
        exact ⟨[], rfl⟩
      · rename_i h0
        rw [if_neg (by rw [idsL_ren]; simpa using h0)]
        cases vs with
        | nil => exact absurd rfl h0
        | cons v vs =>
          simp only [renL, Option.bind_eq_some_iff, Option.map_eq_some_iff, Prod.mk.injEq] at hl ⊢
          obtain ⟨⟨tv, ja⟩, htv, ⟨tvs, jb⟩, htvs, rfl, _⟩ := hl
          obtain ⟨js', h'⟩ := ihv _ tv ja (fun y hy => hi y (by simp [idsL, hy])) htv
          obtain ⟨ks', h''⟩ := ihl _ tvs jb (fun y hy => hi y (by simp [idsL, hy])) htvs
          exact ⟨_, _, h', _, h'', rfl, rfl⟩
section
variable {F : Nat → Option RFunc}

theorem run_eq {id : Nat} {fn : RFunc} (hF : F id = some fn) {args : List AVal} {H : Heap} (hn : args.length = fn.npar) : run F id args H =
    match exec F fn.body (fn.enter args H) with
    | some (.exit _, _) => none
    | some (_, st) => fn.leave st
    | none => none := by
  unfold run runWith
  rw [hF]
  simp only [hn, if_true]
  rfl

/-- A call that answers a tree, from the run of its body. -/
theorem pure_exec {id : Nat} {fn : RFunc} (hF : F id = some fn) {args : List AVal} (hn : args.length = fn.npar) {ex : Ex} {st : St} (he : exec F fn.body (fn.enter args []) = some (ex, st))
    (hx : ex = .normal ∨ ex = .ret) (hp : st.pin = 0) {vs : List AVal} (hv : resL st fn.res = some vs) {l : List Nat} (hr : reach st.heap fuelIds (tupled vs).ids [] = some l) {t : AVal} {is : List Nat}
    (ht : treeL st.heap fuelTree [tupled vs] = some ([t], is)) : pureCall (run F) id args = some t := by
  unfold pureCall
  rw [run_eq hF hn, he]
  have hleave : ∃ v H', fn.leave st = some (v, H') ∧ ∃ js, treeL H' fuelTree [v] = some ([t], js) := by
    unfold RFunc.leave
    rw [hv]
    simp only [Option.bind_some, hp]
    split
    · exact ⟨_, _, rfl, is, ht⟩
    · have hrange : List.range 0 ++ (tupled vs).ids = (tupled vs).ids := rfl
      rw [hrange, hr]
      obtain ⟨_, hin, hnd, hcl⟩ := reach_spec _ _ _ _ hr
      obtain ⟨js, hjs⟩ := (tree_ren (H := st.heap) (l := l) (fun x hx => hcl x hx (by simp)) fuelTree).2 [tupled vs] [t] is (by
        intro y hy
        simp only [idsL, List.append_nil] at hy
        exact hin y hy) ht
      exact ⟨_, _, rfl, js, by simpa [renL] using hjs⟩
  obtain ⟨v, H', h1, js, h2⟩ := hleave
  rcases hx with rfl | rfl <;> simp only [h1, Option.bind_some, h2, List.head?_cons]

theorem treeL_free {H : Heap} {n : Nat} {l : List AVal} (h : idsL l = []) : treeL H (n + 1) l = some (l, []) := by
  unfold treeL; rw [if_pos h]

/-- The same, where the answer has no block in it. -/
theorem pure_free {id : Nat} {fn : RFunc} (hF : F id = some fn) {args : List AVal} (hn : args.length = fn.npar) {ex : Ex} {st : St} (he : exec F fn.body (fn.enter args []) = some (ex, st))
    (hx : ex = .normal ∨ ex = .ret) (hp : st.pin = 0) {vs : List AVal} (hv : resL st fn.res = some vs) (hi : (tupled vs).ids = []) : pureCall (run F) id args = some (tupled vs) :=
  pure_exec hF hn he hx hp hv (l := []) (by rw [hi]; rfl) (t := tupled vs) (is := []) (treeL_free (n := 39) (by simp only [idsL, hi, List.append_nil]))

theorem any_pure {call : CallF} {f : Nat} {vs : List AVal} {H : Heap} : anyCall call false f vs H =
    if idsL vs = [] then (pureCall call f vs).map fun v => (v, H) else (handOn vs H).bind fun x => (pureCall call f x.1).map fun v => (v, x.2) := by
  by_cases h : idsL vs = []
  · rw [if_pos h]
    simp only [anyCall, handOn, h, if_true, Bool.false_eq_true, if_false, Option.bind_some]
  · rw [if_neg h]
    simp only [anyCall, Bool.false_eq_true, if_false]

theorem any_hand {call : CallF} {f : Nat} {vs ts : List AVal} {H : Heap} {l : List Nat} (h : treeL H fuelTree vs = some (ts, l)) (h0 : idsL vs ≠ []) :
    anyCall call false f vs H = (pureCall call f ts).map fun v => (v, freeze H l) := by
  simp only [anyCall, handOn, h0, h, Bool.false_eq_true, if_false, Option.bind_some, Option.map_some]

/-- At a loop's head: nothing is renumbered. -/
theorem tidy_keep {live : List Bool} {st : St} (hr : reach st.heap fuelIds (List.range st.pin ++ idsL (mask live st.vars)) [] = some (List.range st.heap.length))
    (hi : ∀ b ∈ st.heap, ∀ k, b = some k → ∀ y ∈ idsL k.elems, y < st.heap.length) :
    tidy live st = some { st with vars := mask live st.vars, env := [] } := by
  unfold tidy
  split
  · rfl
  · rw [hr]
    obtain ⟨_, hin, _, _⟩ := reach_spec _ _ _ _ hr
    have hpl : ∀ y, y < st.heap.length → place (List.range st.heap.length) y = y := by
      intro y hy
      exact place_of List.nodup_range (by simp [hy])
    have hren : ∀ v : AVal, (∀ y ∈ v.ids, y < st.heap.length) → v.ren (place (List.range st.heap.length)) = v := ren_below hpl
    have hrenL : ∀ l : List AVal, (∀ y ∈ idsL l, y < st.heap.length) → renL (place (List.range st.heap.length)) l = l := renL_below hpl
    simp only [Option.map_some, Option.some.injEq]
    have h1 := hrenL (mask live st.vars) (fun y hy => by
      have := hin y (List.mem_append_right _ hy)
      simpa using this)
    have h2 : pack st.heap (List.range st.heap.length) = st.heap := by
      apply List.ext_getElem?
      intro k
      unfold pack
      rw [List.getElem?_map]
      by_cases hk : k < st.heap.length
      · simp only [List.getElem?_range hk, Option.map_some]
        have hat : st.heap.at k = (st.heap[k]?).join := heap_at_eq _ _
        rw [hat, List.getElem?_eq_getElem hk]
        simp only [Option.join_some, Option.some.injEq]
        cases hb : st.heap[k] with
        | none => rfl
        | some b =>
          simp only [Option.map_some, Option.some.injEq, Blk.ren]
          rw [hrenL b.elems (hi _ (List.getElem_mem hk) b hb)]
      · rw [List.getElem?_eq_none (by simp; omega), List.getElem?_eq_none (by omega)]; rfl
    rw [h1, h2]

/-- What a call answers, from what its body came to: a tree. -/
def finish (fn : RFunc) : Option (Ex × St) → Option AVal
  | some (.exit _, _) => none
  | some (_, st) => if st.pin = 0 then match resL st fn.res with
      | some vs => match reach st.heap fuelIds (tupled vs).ids [] with
        | some _ => match treeL st.heap fuelTree [tupled vs] with
          | some ([t], _) => some t
          | _ => none
        | none => none
      | none => none
    else none
  | none => none

theorem pure_ret {id : Nat} {fn : RFunc} (hF : F id = some fn) {args : List AVal} (hn : args.length = fn.npar) {t : AVal} (h : finish fn (exec F fn.body (fn.enter args [])) = some t) :
    pureCall (run F) id args = some t := by
  cases he : exec F fn.body (fn.enter args []) with
  | none => rw [he] at h; simp [finish] at h
  | some x =>
    obtain ⟨ex, st⟩ := x
    rw [he] at h
    have key : ∀ (hx : ex = .normal ∨ ex = .ret), pureCall (run F) id args = some t := by
      intro hx
      have h' : (if st.pin = 0 then match resL st fn.res with
        | some vs => match reach st.heap fuelIds (tupled vs).ids [] with
          | some _ => match treeL st.heap fuelTree [tupled vs] with
            | some ([t], _) => some t
            | _ => none
          | none => none
        | none => none
      else none) = some t := by rcases hx with rfl | rfl <;> exact h
      split at h'
      · rename_i hp
        split at h'
        · rename_i vs hvs
          split at h'
          · rename_i l hl
            split at h'
            · rename_i t' is ht
              cases h'
              exact pure_exec hF hn he hx hp hvs hl ht
            · simp at h'
          · simp at h'
        · simp at h'
      · simp at h'
    cases ex with
    | normal => exact key (.inl rfl)
    | ret => exact key (.inr rfl)
    | exit i => simp [finish] at h

@[simp] theorem finish_none {fn : RFunc} : finish fn none = none := rfl
@[simp] theorem finish_ret {fn : RFunc} {st : St} : finish fn (some (.ret, st)) = finish fn (some (.normal, st)) := rfl

/-- The answer has no block in it. -/
@[simp] theorem finish_free {fn : RFunc} {vars env : List AVal} {H : Heap} : finish fn (some (.normal, ⟨vars, env, H, 0⟩)) = match resL ⟨vars, env, H, 0⟩ fn.res with
    | some vs => if (tupled vs).ids = [] then some (tupled vs) else match reach H fuelIds (tupled vs).ids [] with
        | some _ => match treeL H fuelTree [tupled vs] with
          | some ([t], _) => some t
          | _ => none
        | none => none
    | none => none := by
  simp only [finish, if_true]
  cases resL ⟨vars, env, H, 0⟩ fn.res with
  | none => rfl
  | some vs =>
    simp only
    by_cases hi : (tupled vs).ids = []
    · rw [if_pos hi]
      have h1 : reach H fuelIds (tupled vs).ids [] = some [] := by rw [hi]; rfl
      have h2 : treeL H fuelTree [tupled vs] = some ([tupled vs], []) := treeL_free (n := 39) (by simp only [idsL, hi, List.append_nil])
      rw [h1, h2]
    · rw [if_neg hi]

attribute [simp] resL resA tupled RFunc.enter newBlk Heap.at

/-- At a loop's head, with one block. -/
theorem tidy_one {live : List Bool} {vars env : List AVal} {b : Blk} (hv : idsL (mask live vars) = [0]) (hb : idsL b.elems = []) :
    tidy live ⟨vars, env, [some b], 0⟩ = some ⟨mask live vars, [], [some b], 0⟩ := by
  refine tidy_keep ?_ ?_
  · simp [hv, reach, fuelIds, Heap.at, hb, List.range_succ]
  · intro x hx k hk y hy
    simp at hx; subst hx; cases hk
    rw [hb] at hy; cases hy

theorem set_u32s (l : List Nat) (k : Nat) {z : Int} (h : 0 ≤ z) : (u32s l).set k (.int .u32 z) = u32s (l.set k z.toNat) := by
  rw [← u32s_set, Int.toNat_of_nonneg h]

theorem get?_u32s (l : List Nat) (i : Nat) (h : i < l.length) : (u32s l)[i]? = some (.int .u32 ((l[i] : Nat) : Int)) := by simp [u32s, h]

@[simp] theorem nat_min (a b : Nat) : Nat.min a b = min a b := rfl
attribute [simp] IntKind.bits
theorem maxB : maxBytes = 70368744177664 := rfl
@[simp] theorem fdiv_32 (x : Int) : x.fdiv 4294967296 = x / 4294967296 := Int.fdiv_eq_ediv_of_nonneg _ (by decide)
@[simp] theorem fdiv_63 (x : Int) : x.fdiv 9223372036854775808 = x / 9223372036854775808 := Int.fdiv_eq_ediv_of_nonneg _ (by decide)


theorem exec_loop_env {live : List Bool} {b : RCode} {vars env env' : List AVal} {H : Heap} {p : Nat} : exec F (.loop live b) ⟨vars, env, H, p⟩ = exec F (.loop live b) ⟨vars, env', H, p⟩ := by
  rw [exec_loop, exec_loop]; rfl

/-- A block handed on, alone. -/
theorem hand_one {off len : Nat} {b : Blk} (hb : idsL b.elems = []) (hle : off + len ≤ b.elems.length) : handOn [.mslc 0 off len] [some b] =
    some ([.slc false ((b.elems.drop off).take len)], [some { b with frozen := true }]) := by
  have hfree : idsL ((b.elems.drop off).take len) = [] := by
    have : ∀ y, y ∉ idsL ((b.elems.drop off).take len) := by
      intro y hy
      obtain ⟨k, c, hk, hyc⟩ := idsL_ex hy
      rw [List.getElem?_take] at hk
      split at hk
      · rw [List.getElem?_drop] at hk
        have := idsL_mem_of hk hyc
        rw [hb] at this; cases this
      · simp at hk
    exact List.eq_nil_iff_forall_not_mem.2 this
  have ht : treeL [some b] fuelTree [.mslc 0 off len] = some ([.slc false ((b.elems.drop off).take len)], [0]) := by
    have h1 : AVal.tree [some b] 39 (.mslc 0 off len) = some (.slc false ((b.elems.drop off).take len), [0]) := by
      simp only [AVal.tree, Heap.at, if_pos hle, treeL_free (n := 37) hfree, Option.map_some]
    have h2 : treeL [some b] 39 [] = some ([], []) := rfl
    unfold fuelTree
    rw [treeL]
    simp only [idsL, AVal.ids, List.append_nil, List.cons_ne_nil, if_false, h1, h2, Option.bind_some, Option.map_some]
  simp only [handOn, ht, Option.map_some, idsL, AVal.ids, List.append_nil, List.cons_ne_nil, if_false]
  rfl

theorem hand_u32 {off len esz : Nat} {fz : Bool} {l : List Nat} (hle : off + len ≤ l.length) : handOn [.mslc 0 off len] [some ⟨fz, esz, u32s l⟩] =
    some ([.slc false (u32s ((l.drop off).take len))], [some ⟨true, esz, u32s l⟩]) := by
  rw [hand_one (by simp) (by simpa using hle)]
  simp only [u32s_drop, u32s_take]

@[simp] theorem get_zero (x : AVal) (l : List AVal) : (x :: l)[0]? = some x := rfl
@[simp] theorem get_succ (x : AVal) (l : List AVal) (i : Nat) : (x :: l)[i + 1]? = l[i]? := rfl
@[simp] theorem os_load_mptr {agg : Bool} {sz id i o f : Nat} {H : Heap} : opSem (.load agg sz) [.mptr id i o] H f = match H.at id with
    | some b =>
      match b.elems[i]? with
      | some e => (partA agg sz (e.cells.drop o)).map fun v => (v, .none)
      | none => none
    | none => none := rfl

@[simp] theorem reach_two {x : Option Blk} {fz : Bool} {esz : Nat} {l : List Nat} : reach [x, some ⟨fz, esz, u32s l⟩] fuelIds [1] [] = some [1] := by
  simp [reach, fuelIds, Heap.at]

theorem treeL_cons {H : Heap} {n : Nat} {v : AVal} {vs : List AVal} (h : idsL (v :: vs) ≠ []) : treeL H (n + 1) (v :: vs) =
    (v.tree H n).bind fun x => (treeL H n vs).map fun y => (x.1 :: y.1, x.2 ++ y.2) := by
  conv => lhs; unfold treeL
  rw [if_neg h]

theorem tree_two {x : Option Blk} {fz b : Bool} {esz n : Nat} {l : List Nat} (hn : n ≤ l.length) : treeL [x, some ⟨fz, esz, u32s l⟩] fuelTree [.agg [.bool b, .mslc 1 0 n]] =
    some ([.agg [.bool b, .slc false (u32s (l.take n))]], [1]) := by
  have h1 : AVal.tree [x, some ⟨fz, esz, u32s l⟩] 36 (.mslc 1 0 n) = some (.slc false (u32s (l.take n)), [1]) := by
    simp only [AVal.tree, Heap.at, length_u32s, Nat.zero_add, hn, if_true, List.drop_zero, u32s_take, treeL_free (n := 34) (idsL_u32s _), Option.map_some]
  have h2 : treeL [x, some ⟨fz, esz, u32s l⟩] 37 [.mslc 1 0 n] = some ([.slc false (u32s (l.take n))], [1]) := by
    rw [treeL_cons (by simp), h1]; rfl
  have h3 : treeL [x, some ⟨fz, esz, u32s l⟩] 38 [.bool b, .mslc 1 0 n] = some ([.bool b, .slc false (u32s (l.take n))], [1]) := by
    rw [treeL_cons (by simp), h2]; rfl
  have h4 : AVal.tree [x, some ⟨fz, esz, u32s l⟩] 39 (.agg [.bool b, .mslc 1 0 n]) = some (.agg [.bool b, .slc false (u32s (l.take n))], [1]) := by
    simp only [AVal.tree, h3, Option.map_some]
  unfold fuelTree
  rw [treeL_cons (by simp), h4]
  rfl
end
end Go.Ash
