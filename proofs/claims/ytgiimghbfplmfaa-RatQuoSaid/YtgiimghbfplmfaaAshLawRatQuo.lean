/- The statement RatQuo holds: quotients are right, and 0 divides nothing. Whatever is handed in. -/
import Derived.Test.YtgiimghbfplmfaaRows
import Derived.Carry
import Derived.WalkKit
import Derived.ProofKit
import Derived.OpenShut
import Derived.ShutString
import Derived.ChangeOld
import Derived.Below
import Derived.SizedLaws
import Derived.Test.YtgiimghbfplmfaaAshP13
set_option linter.all false
namespace Go.Proofs.Ytgiimghbfplmfaa.lawRatQuo
open Go.ChangeShapes Go.WideShapes Go.ChangeAt Go.RowKit
open Go.Ash
set_option linter.unusedVariables false
theorem own : ownKnob Try.prog.godebug = none := by kernel_rfl
theorem laid : laidOutB Try.prog = true := by kernel_rfl
theorem intTy : IntTy Try.prog 24 := ⟨_, _, _, Try.underlying24, rfl, rfl, by kernel_rfl, by kernel_rfl, by kernel_rfl, Try.underlying4, Try.underlying22, Try.underlying99⟩
theorem ratTy : RatTy Try.prog 26 24 := ⟨intTy, _, _, Try.underlying26, rfl, rfl, by kernel_rfl, by kernel_rfl, rfl, rfl⟩
theorem plainQ : plainTy Try.prog 5 26 = true := by kernel_rfl
theorem plainn : plainTy Try.prog 2 2 = true := by kernel_rfl
set_option maxRecDepth 100000 in
theorem begun : pureCall (Go.Ash.run (Go.Ash.look Seat.tab)) 121 [] = some (.bool true) := by
  have h1 : Go.Ash.runN (Go.Ash.look Seat.tab) 60 121 [] [] = some (.bool true, []) := by kernel_rfl
  unfold pureCall
  rw [run_of_runN 60 h1]
  rfl
theorem okf : hasOf Seat.ids 134 = true := by kernel_rfl
theorem fnf : (theLink Try.prog Seat.ids Seat.tys).fn 134 = 3 := by kernel_rfl
set_option maxRecDepth 100000 in
theorem lifted (os : Os) (started : os.Started) (H : Type) (enc : TypeId × Value → H) :
    ReturnsInHanded {} Try.checked os 3 .any (Rows.ratQuoSpec.pre6 enc Try.prog Try.f3 Rows.ratQuoRow.domain false) (Rows.ratQuoSpec.post enc Try.prog Try.f3 false true false false) := by
  refine returnsInHanded_of_change_sized (C := Try.checked) own started (by kernel_rfl) Try.func3
    (ChangeSpec.witness6 (enc := enc) (C := Try.checked) false ⟨#[], #[.agg #[.bool false, .slice none 0 0, .bool false, .slice none 0 0], .agg #[.bool false, .slice none 0 0, .bool false, .slice none 0 0], .int .i64 0, .int .i64 0], []⟩ 8 (by kernel_rfl) (by kernel_rfl) (by kernel_rfl) (by kernel_rfl)) ?_
  intro W base args ds gs before hval0 hW hcnd hsz0 _
  have hval : ∀ (j : Nat) t v, Try.f3.params[j]? = some t → args[j]? = some v → Value.okWide Try.prog W .any base t v := hval0
  have hW' := hW
  obtain ⟨p, q, hA0, hV, rfl, hfz, hnd⟩ := hW
  have hA : DataW.TrodAll enc Try.prog W 0 (fun _ => true) true Try.f3.params.toList args.toList ds p := hA0
  rw [Try.params3] at hA hval
  obtain ⟨v0, v1, v2, v3, d0, d1, d2, d3, p0, p1, p2, p3, rfl, rfl, rfl, t0, t1, t2, t3⟩ := trodAll_four hA
  obtain ⟨rfl, rfl⟩ := trodVars_none hV
  have hlt := hW'.lt
  obtain ⟨y0, r0, i0, s0⟩ := open_arg (L := theLink Try.prog Seat.ids Seat.tys) plainQ (hval 0 26 v0 rfl rfl) t0
  obtain ⟨y1, r1, i1, s1⟩ := open_arg (L := theLink Try.prog Seat.ids Seat.tys) plainQ (hval 1 26 v1 rfl rfl) t1
  obtain ⟨y2, r2, i2, s2⟩ := open_arg (L := theLink Try.prog Seat.ids Seat.tys) plainn (hval 2 2 v2 rfl rfl) t2
  obtain ⟨y3, r3, i3, s3⟩ := open_arg (L := theLink Try.prog Seat.ids Seat.tys) plainn (hval 3 2 v3 rfl rfl) t3
  obtain ⟨n0, k0, l0, N0, K0, L0, e0, hl0, hm0, HL0, HM0⟩ := shape_rat ratTy s0
  obtain ⟨n1, k1, l1, N1, K1, L1, e1, hl1, hm1, HL1, HM1⟩ := shape_rat ratTy s1
  obtain ⟨n2, e2, hl2, hm2⟩ := shape_i64 Try.underlying2 s2
  obtain ⟨n3, e3, hl3, hm3⟩ := shape_i64 Try.underlying2 s3
  rw [show (theLink Try.prog Seat.ids Seat.tys).P = Try.prog from rfl, e0] at r0 i0
  rw [show (theLink Try.prog Seat.ids Seat.tys).P = Try.prog from rfl, e1] at r1 i1
  rw [show (theLink Try.prog Seat.ids Seat.tys).P = Try.prog from rfl, e2] at r2 i2
  rw [show (theLink Try.prog Seat.ids Seat.tys).P = Try.prog from rfl, e3] at r3 i3
  have hrun := rat_quo_law (F := Go.Ash.look Seat.tab) begun n0 k0 l0 N0 K0 L0 hl0 hm0 HL0 HM0 n1 k1 l1 N1 K1 L1 hl1 hm1 HL1 HM1 n2 hl2 hm2 n3 hl3 hm3
  have hc := law_pure Seat.runs okf hrun (W := W) (args := #[v0, v1, v2, v3]) (by simp only [idsL, i0, i1, i2, i3, List.append_nil]) rfl (by
    intro i a ha
    match i, ha with
    | 0, ha => simp at ha; subst ha; exact r0
    | 1, ha => simp at ha; subst ha; exact r1
    | 2, ha => simp at ha; subst ha; exact r2
    | 3, ha => simp at ha; subst ha; exact r3
    | i + 4, ha => simp at ha)
  rw [fnf] at hc
  refine hc.mono fun e W' ⟨he, bel⟩ => ?_
  subst he
  exact ⟨_, rfl, _, _, _, [], _, [], hW', trodAll_mk1 (shut_bool Try.underlying4 _),
    trodAll_mk4 (Below.trod laid (by kernel_rfl) (of_decide_eq_true (by kernel_rfl)) t0 bel (fun x hx => hlt x (by simp [hx]))) (Below.trod laid (by kernel_rfl) (of_decide_eq_true (by kernel_rfl)) t1 bel (fun x hx => hlt x (by simp [hx]))) (Below.trod laid (by kernel_rfl) (of_decide_eq_true (by kernel_rfl)) t2 bel (fun x hx => hlt x (by simp [hx]))) (Below.trod laid (by kernel_rfl) (of_decide_eq_true (by kernel_rfl)) t3 bel (fun x hx => hlt x (by simp [hx]))), rfl, bel.frame _, fun h => by cases h⟩
theorem over : Rows.ratQuoRow.holds Try.pinned (OpenSpec.ofChange Rows.ratQuoSpec) :=
  OpenClaim.holds_of_wide 3 Try.f3 rfl rfl rfl rfl rfl rfl rfl ⟨rfl, rfl, rfl, rfl, rfl⟩ rfl rfl rfl rfl rfl (by kernel_rfl) Try.func3 (by kernel_rfl)
    (of_decide_eq_true (by kernel_rfl)) (by unfold Func.isWrapper; first | (rw [if_pos (by decide +kernel)]; kernel_rfl) | (rw [if_neg (by decide +kernel)]; exact ⟨rfl, rfl⟩))
    (fun os started H enc _ => lifted os started H enc)
end Go.Proofs.Ytgiimghbfplmfaa.lawRatQuo
namespace Go.Proofs.Ytgiimghbfplmfaa
/-- The row, under a short name, for the claim. -/
theorem ratquo_holds : Rows.RatQuoSaid := lawRatQuo.over
#print axioms ratquo_holds
end Go.Proofs.Ytgiimghbfplmfaa
