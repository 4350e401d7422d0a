/- The statement IntForms holds: noughts at the end say nothing, and nothing that is handed in is changed. Whatever is handed in. -/
import Derived.Test.YtaojijahpdnjhaaRows
import Derived.Carry
import Derived.WalkKit
import Derived.ProofKit
import Derived.OpenShut
import Derived.ShutString
import Derived.ChangeOld
import Derived.Below
import Derived.SizedLaws
import Derived.Test.YtaojijahpdnjhaaAshP13
set_option linter.all false

namespace Go.Proofs.Ytaojijahpdnjhaa.lawIntForms
open Go.ChangeShapes Go.WideShapes Go.ChangeAt Go.RowKit
open Go.Ash
set_option linter.unusedVariables false
theorem own : ownKnob Try.prog.godebug = none := by kernel_rfl
theorem laid : laidOutB Try.prog = true := by kernel_rfl
theorem intTy : IntTy Try.prog 34 := ⟨_, _, _, Try.underlying34, rfl, rfl, by kernel_rfl, by kernel_rfl, by kernel_rfl, Try.underlying4, Try.underlying32, Try.underlying76⟩
theorem plainI : plainTy Try.prog 4 34 = true := by kernel_rfl
theorem plainm : plainTy Try.prog 2 3 = true := by kernel_rfl
set_option maxRecDepth 100000 in
theorem begun : pureCall (Go.Ash.run (Go.Ash.look Seat.tab)) 22 [] = some (.bool true) := by
  have h1 : Go.Ash.runN (Go.Ash.look Seat.tab) 60 22 [] [] = some (.bool true, []) := by kernel_rfl
  unfold pureCall
  rw [run_of_runN 60 h1]
  rfl
theorem okf : hasOf Seat.ids 45 = true := by kernel_rfl
theorem fnf : (theLink Try.prog Seat.ids Seat.tys).fn 45 = 10 := by kernel_rfl
set_option maxRecDepth 100000 in
theorem lifted (os : Os) (started : os.Started) (H : Type) (enc : TypeId × Value → H) :
    ReturnsInHanded {} Try.checked os 10 .any (Rows.intFormsSpec.pre6 enc Try.prog Try.f10 Rows.intFormsRow.domain false) (Rows.intFormsSpec.post enc Try.prog Try.f10 false true false false) := by
  refine returnsInHanded_of_change_sized (C := Try.checked) own started (by kernel_rfl) Try.func10
    (ChangeSpec.witness6 (enc := enc) (C := Try.checked) false ⟨#[], #[.agg #[.bool false, .slice none 0 0], .agg #[.bool false, .slice none 0 0], .int .i64 0], []⟩ 8 (by kernel_rfl) (by kernel_rfl) (by kernel_rfl) (by kernel_rfl)) ?_
  intro W base args ds gs before hval0 hW hcnd hsz0 _
  have hval : ∀ (j : Nat) t v, Try.f10.params[j]? = some t → args[j]? = some v → Value.okWide Try.prog W .any base t v := hval0
  have hW' := hW
  obtain ⟨p, q, hA0, hV, rfl, hfz, hnd⟩ := hW
  have hA : DataW.TrodAll enc Try.prog W 0 (fun _ => true) true Try.f10.params.toList args.toList ds p := hA0
  rw [Try.params10] at hA hval
  obtain ⟨v0, v1, v2, d0, d1, d2, p0, p1, p2, rfl, rfl, rfl, t0, t1, t2⟩ := trodAll_three hA
  obtain ⟨rfl, rfl⟩ := trodVars_none hV
  have hlt := hW'.lt
  obtain ⟨y0, r0, i0, s0⟩ := open_arg (L := theLink Try.prog Seat.ids Seat.tys) plainI (hval 0 34 v0 rfl rfl) t0
  obtain ⟨y1, r1, i1, s1⟩ := open_arg (L := theLink Try.prog Seat.ids Seat.tys) plainI (hval 1 34 v1 rfl rfl) t1
  obtain ⟨y2, r2, i2, s2⟩ := open_arg (L := theLink Try.prog Seat.ids Seat.tys) plainm (hval 2 3 v2 rfl rfl) t2
  obtain ⟨n0, k0, l0, e0, hl0, hm0⟩ := shape_int intTy s0
  obtain ⟨n1, k1, l1, e1, hl1, hm1⟩ := shape_int intTy s1
  obtain ⟨n2, e2, hl2, hm2⟩ := shape_i64 Try.underlying3 s2
  rw [show (theLink Try.prog Seat.ids Seat.tys).P = Try.prog from rfl, e0] at r0 i0
  rw [show (theLink Try.prog Seat.ids Seat.tys).P = Try.prog from rfl, e1] at r1 i1
  rw [show (theLink Try.prog Seat.ids Seat.tys).P = Try.prog from rfl, e2] at r2 i2
  have hrun := int_forms' (F := Go.Ash.look Seat.tab) begun n0 k0 l0 hl0 hm0 n1 k1 l1 hl1 hm1 n2 hl2 hm2
  have hc := law_pure Seat.runs okf hrun (W := W) (args := #[v0, v1, v2]) (by simp only [idsL, i0, i1, i2, List.append_nil]) rfl (by
    intro i a ha
    match i, ha with
    | 0, ha => simp at ha; subst ha; exact r0
    | 1, ha => simp at ha; subst ha; exact r1
    | 2, ha => simp at ha; subst ha; exact r2
    | i + 3, ha => simp at ha)
  rw [fnf] at hc
  refine hc.mono fun e W' ⟨he, bel⟩ => ?_
  subst he
  exact ⟨_, rfl, _, _, _, [], _, [], hW', trodAll_mk1 (shut_bool Try.underlying4 _),
    trodAll_mk3 (Below.trod laid (by kernel_rfl) (of_decide_eq_true (by kernel_rfl)) t0 bel (fun x hx => hlt x (by simp [hx]))) (Below.trod laid (by kernel_rfl) (of_decide_eq_true (by kernel_rfl)) t1 bel (fun x hx => hlt x (by simp [hx]))) (Below.trod laid (by kernel_rfl) (of_decide_eq_true (by kernel_rfl)) t2 bel (fun x hx => hlt x (by simp [hx]))), rfl, bel.frame _, fun h => by cases h⟩
theorem over : Rows.intFormsRow.holds Try.pinned (OpenSpec.ofChange Rows.intFormsSpec) :=
  OpenClaim.holds_of_wide 10 Try.f10 rfl rfl rfl rfl rfl rfl rfl ⟨rfl, rfl, rfl, rfl, rfl⟩ rfl rfl rfl rfl rfl (by kernel_rfl) Try.func10 (by kernel_rfl)
    (of_decide_eq_true (by kernel_rfl)) (by unfold Func.isWrapper; first | (rw [if_pos (by decide +kernel)]; kernel_rfl) | (rw [if_neg (by decide +kernel)]; exact ⟨rfl, rfl⟩))
    (fun os started H enc _ => lifted os started H enc)
end Go.Proofs.Ytaojijahpdnjhaa.lawIntForms
namespace Go.Proofs.Ytaojijahpdnjhaa
/-- The row, under a short name, for the claim. -/
theorem intforms_holds : Rows.IntFormsSaid := lawIntForms.over
#print axioms intforms_holds
end Go.Proofs.Ytaojijahpdnjhaa
