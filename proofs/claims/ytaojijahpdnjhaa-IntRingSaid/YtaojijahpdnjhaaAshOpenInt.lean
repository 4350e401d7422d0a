/- Integers among what a law is handed; a law's call from its run. -/
import Derived.Test.YtaojijahpdnjhaaAshOpen
import Derived.Test.YtaojijahpdnjhaaAshCall
import Derived.Test.YtaojijahpdnjhaaAshTools
set_option linter.all false
namespace Go.Ash
open Go.RowKit

/-- The type of integers: a sign and a slice of limbs. -/
structure IntTy (P : Program) (t : TypeId) : Prop where
  ex : ∃ (f0 f1 : Field) (e : TypeId), P.underlying t = some (.struct #[f0, f1]) ∧ f0.offset = 0 ∧ f1.offset = 1 ∧ P.cellsOf t = 2 ∧ P.cellsOf f0.type = 1 ∧ P.cellsOf f1.type = 1 ∧
    P.underlying f0.type = some .bool ∧ P.underlying f1.type = some (.slice e) ∧ P.underlying e = some (.int .u32)

theorem ints_list {P : Program} {k : Nat} {e : TypeId} (he : P.underlying e = some (.int .u32)) : ∀ (xs : List AVal), (∀ x ∈ xs, ∃ ys, x = mkA (isStructT P e) ys ∧ ShapeC P k e ys) → ∃ l, xs = u32s l ∧ Lim l
  | [], _ => ⟨[], rfl, fun x hx => by cases hx⟩
  | x :: xs, h => by
    obtain ⟨l, rfl, hl⟩ := ints_list he xs (fun y hy => h y (by simp [hy]))
    obtain ⟨ys, rfl, hs⟩ := h x (by simp)
    cases k with
    | zero => exact hs.elim
    | succ k =>
      unfold ShapeC at hs
      rw [he] at hs
      obtain ⟨n, rfl, h1, h2⟩ := hs
      have hst : isStructT P e = false := by unfold isStructT; rw [he]
      have h1' : 0 ≤ n := h1
      have h2' : n ≤ 4294967295 := h2
      refine ⟨n.toNat :: l, ?_, ?_⟩
      · simp only [hst, mkA, u32s, List.map_cons, Int.toNat_of_nonneg h1']
        rfl
      · intro y hy
        show y < 4294967296
        rcases List.mem_cons.1 hy with rfl | hy
        · omega
        · exact hl y hy

theorem shape_int {P : Program} {k : Nat} {t : TypeId} (ht : IntTy P t) {ys : List AVal} (h : ShapeC P k t ys) :
    ∃ neg r l, mkA (isStructT P t) ys = .agg [.bool neg, .slc r (u32s l)] ∧ Lim l ∧ l.length < 2^63 := by
  obtain ⟨f0, f1, e, h1, o0, o1, c, c0, c1, hb, hs, he⟩ := ht.ex
  have hst : isStructT P t = true := by unfold isStructT; rw [h1]
  cases k with
  | zero => exact h.elim
  | succ k =>
    unfold ShapeC at h
    rw [h1] at h
    obtain ⟨hlen, hf⟩ := h
    have g0 := hf f0 (by simp)
    have g1 := hf f1 (by simp)
    rw [c] at hlen
    match ys, hlen with
    | [y0, y1], _ =>
      rw [o0, c0] at g0
      rw [o1, c1] at g1
      simp only [List.drop_zero, List.take_succ_cons, List.take_zero, List.drop_succ_cons] at g0 g1
      cases k with
      | zero => exact g0.elim
      | succ k =>
        unfold ShapeC at g0 g1
        rw [hb] at g0
        rw [hs] at g1
        obtain ⟨b, hb'⟩ := g0
        have hy0 : y0 = .bool b := by simpa using hb'
        subst hy0
        rcases g1 with hy1 | ⟨xs, hy1, hle, hxs⟩
        · have : y1 = .slc true [] := by simpa using hy1
          subst this
          exact ⟨b, true, [], by rw [hst]; rfl, (fun x hx => absurd hx (by simp)), by decide⟩
        · have : y1 = .slc false xs := by simpa using hy1
          subst this
          obtain ⟨l, rfl, hl⟩ := ints_list he xs hxs
          refine ⟨b, false, l, by rw [hst]; rfl, hl, ?_⟩
          rw [length_u32s] at hle
          have : maxLen = 9223372036854775807 := rfl
          omega

/-- A law's call, from its run. -/
theorem law_pure {L : Link} {call : CallF} (hcall : CallOk L call) {f : Nat} (hok : L.ok f) {args : Array Value} {as : List AVal} (hc : pureCall call f as = some (.bool true)) {W : World}
    (hids : idsL as = []) (hl : args.size = as.length) (hr : ∀ (i : Nat) (a : AVal), as[i]? = some a → Reps L W (fun _ => False) (fun _ => none) (args.getD i undef) a) :
    Calls L.P (L.fn f) args W fun e W' => e = .returned (.bool true) ∧ Below W.heap.size W W' := by
  have hB : ∀ b, ¬ Bof (fun _ => False) (Heap.at []) (fun _ => none) b := by
    rintro b (h | ⟨id, k, p, hk, _⟩)
    · exact h
    · simp [Heap.at] at hk
  have s0 : Sim L (fun _ => False) W (Heap.at []) (fun _ => none) :=
    ⟨fun b hb => hb.elim, fun id k hk => by simp [Heap.at] at hk, fun id1 id2 k1 k2 p1 p2 h1 => by simp [Heap.at] at h1⟩
  refine (pureCall_ok hcall hc hok s0 hids hl (fun i a ha => (hr i a ha).less (fun b hb => hB b hb))).mono ?_
  rintro e W' ⟨u, rfl, hext, hru⟩
  have := hru.bool_inv
  subst this
  exact ⟨rfl, ⟨hext.rest.1, hext.rest.2.1, hext.rest.2.2, hext.size, fun k hk => hext.old k hk (fun h => h)⟩⟩
end Go.Ash
