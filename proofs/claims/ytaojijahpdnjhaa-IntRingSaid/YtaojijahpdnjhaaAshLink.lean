/- A table of code and a program: when the one is the other's. -/
import Derived.Test.YtaojijahpdnjhaaAshDraw
set_option linter.all false
namespace Go.Ash

def look {α : Type} : List (Nat × α) → Nat → Option α
  | [], _ => none
  | (k, v) :: l, i => if i = k then some v else look l i

def numOf (l : List (Nat × Nat)) (i : Nat) : Nat := (look l i).getD 0
def hasOf (l : List (Nat × Nat)) (i : Nat) : Bool := (look l i).isSome

theorem look_mem {α : Type} : ∀ {l : List (Nat × α)} {i : Nat} {v : α}, look l i = some v → (i, v) ∈ l
  | [], _, _, h => by simp [look] at h
  | (k, x) :: l, i, v, h => by
    simp only [look] at h
    split at h
    · rename_i hk; cases h; subst hk; simp
    · exact List.mem_cons_of_mem _ (look_mem h)

/-- One function of the table. -/
def Ties (P : Program) (ids tys : List (Nat × Nat)) (tab : List (Nat × RFunc)) (f n : Nat) : Prop :=
  ∃ gf r, P.funcs[n]? = some gf ∧ look tab f = some r ∧ chkF P (numOf ids) (numOf tys) (hasOf ids) drawC gf r = true

def theLink (P : Program) (ids tys : List (Nat × Nat)) : Link := ⟨P, numOf ids, numOf tys, fun g => hasOf ids g = true⟩

theorem linked_of {P : Program} {ids tys : List (Nat × Nat)} {tab : List (Nat × RFunc)} (hmix : P.follows .mixedOrders = true) (h : ∀ p ∈ ids, Ties P ids tys tab p.1 p.2) :
    Linked (theLink P ids tys) (hasOf ids) drawC (look tab) := by
  have fns : ∀ f, hasOf ids f = true → ∃ gf r, P.funcs[numOf ids f]? = some gf ∧ look tab f = some r ∧ chkF P (numOf ids) (numOf tys) (hasOf ids) drawC gf r = true := by
    intro f hf
    unfold hasOf at hf
    obtain ⟨n, hn⟩ := Option.isSome_iff_exists.1 hf
    have := h _ (look_mem hn)
    unfold numOf
    rw [hn]
    exact this
  have ok : LinkOk (theLink P ids tys) (hasOf ids) := by
    refine ⟨fun g hg => hg, fun f hf => ?_⟩
    obtain ⟨gf, r, h1, _, h3⟩ := fns f hf
    unfold chkF at h3
    simp only [Bool.and_eq_true] at h3
    obtain ⟨⟨⟨⟨_, _⟩, h4⟩, h5⟩, _⟩ := h3
    split at h5
    · rename_i c hc
      exact ⟨gf, c, h1, by simpa using h4, hc⟩
    · simp at h5
  exact ⟨fun _ => Iff.rfl, fns, drawOk ok hmix⟩
end Go.Ash
