/- The statement GaugeTimes holds: products of estimates stop at the top, in any order. Whatever is handed in. -/
import Derived.Test.YtaojijahpdnjhaaRows
import Derived.WalkKit
import Derived.ProofKit
import Derived.OpenShut
import Derived.ShutString
import Derived.ChangeOld
import Derived.Below
import Derived.SizedLaws
import Derived.Test.YtaojijahpdnjhaaAshP11
set_option linter.all false
namespace Go.Proofs.Ytaojijahpdnjhaa.lawGaugeTimes
open Go.ChangeShapes Go.WideShapes Go.ChangeAt Go.RowKit
open Go.Ash
set_option linter.unusedVariables false
theorem own : ownKnob Try.prog.godebug = none := by kernel_rfl
theorem laid : laidOutB Try.prog = true := by kernel_rfl
theorem plainz : plainTy Try.prog 3 24 = true := by kernel_rfl
set_option maxRecDepth 100000 in
theorem begun : pureCall (Go.Ash.run (Go.Ash.look Seat.tab)) 2 [] = some (.bool true) := by
  have h1 : Go.Ash.runN (Go.Ash.look Seat.tab) 60 2 [] [] = some (.bool true, []) := by kernel_rfl
  unfold pureCall
  rw [run_of_runN 60 h1]
  rfl
theorem okf : hasOf Seat.ids 5 = true := by kernel_rfl
theorem fnf : (theLink Try.prog Seat.ids Seat.tys).fn 5 = 4 := by kernel_rfl
set_option maxRecDepth 100000 in
theorem lifted (os : Os) (started : os.Started) (H : Type) (enc : TypeId × Value → H) :
    ReturnsInHanded {} Try.checked os 4 .any (Rows.gaugeTimesSpec.pre6 enc Try.prog Try.f4 Rows.gaugeTimesRow.domain false) (Rows.gaugeTimesSpec.post enc Try.prog Try.f4 false true false false) := by
  refine returnsInHanded_of_change_sized (C := Try.checked) own started (by kernel_rfl) Try.func4
    (ChangeSpec.witness6 (enc := enc) (C := Try.checked) false ⟨#[], #[.slice none 0 0], []⟩ 8 (by kernel_rfl) (by kernel_rfl) (by kernel_rfl) (by kernel_rfl)) ?_
  intro W base args ds gs before hval0 hW hcnd hsz0 _
  have hval : ∀ (j : Nat) t v, Try.f4.params[j]? = some t → args[j]? = some v → Value.okWide Try.prog W .any base t v := hval0
  have hW' := hW
  obtain ⟨p, q, hA0, hV, rfl, hfz, hnd⟩ := hW
  have hA : DataW.TrodAll enc Try.prog W 0 (fun _ => true) true Try.f4.params.toList args.toList ds p := hA0
  rw [Try.params4] at hA hval
  obtain ⟨v0, d0, rfl, rfl, t0⟩ := trodAll_one hA
  obtain ⟨rfl, rfl⟩ := trodVars_none hV
  have hlt := hW'.lt
  obtain ⟨y0, r0, i0, s0⟩ := open_arg (L := theLink Try.prog Seat.ids Seat.tys) plainz (hval 0 24 v0 rfl rfl) t0
  obtain ⟨k0, l0, e0, hl0, hm0⟩ := shape_zs Try.underlying24 Try.underlying3 s0
  rw [show (theLink Try.prog Seat.ids Seat.tys).P = Try.prog from rfl, e0] at r0 i0
  have hrun := gauge_times (F := Go.Ash.look Seat.tab) begun k0 l0 hl0 hm0
  have hc := law_pure Seat.runs okf hrun (W := W) (args := #[v0]) (by simp only [idsL, i0, List.append_nil]) rfl (by
    intro i a ha
    match i, ha with
    | 0, ha => simp at ha; subst ha; exact r0
    | i + 1, ha => simp at ha)
  rw [fnf] at hc
  refine hc.mono fun e W' ⟨he, bel⟩ => ?_
  subst he
  exact ⟨_, rfl, _, _, _, [], _, [], hW', trodAll_mk1 (shut_bool Try.underlying4 _),
    trodAll_mk1 (Below.trod laid (by kernel_rfl) (of_decide_eq_true (by kernel_rfl)) t0 bel (fun x hx => hlt x (by simp [hx]))), rfl, bel.frame _, fun h => by cases h⟩
theorem over : Rows.gaugeTimesRow.holds Try.pinned (OpenSpec.ofChange Rows.gaugeTimesSpec) :=
  OpenClaim.holds_of_wide 4 Try.f4 rfl rfl rfl rfl rfl rfl rfl ⟨rfl, rfl, rfl, rfl, rfl⟩ rfl rfl rfl rfl rfl (by kernel_rfl) Try.func4 (by kernel_rfl)
    (of_decide_eq_true (by kernel_rfl)) (by unfold Func.isWrapper; first | (rw [if_pos (by decide +kernel)]; kernel_rfl) | (rw [if_neg (by decide +kernel)]; exact ⟨rfl, rfl⟩))
    (fun os started H enc _ => lifted os started H enc)
end Go.Proofs.Ytaojijahpdnjhaa.lawGaugeTimes
namespace Go.Proofs.Ytaojijahpdnjhaa
/-- The row, under a short name, for the claim. -/
theorem gaugetimes_holds : Rows.GaugeTimesSaid := lawGaugeTimes.over
#print axioms gaugetimes_holds
end Go.Proofs.Ytaojijahpdnjhaa
