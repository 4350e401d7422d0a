/-
  No cell of these rows narrows 'for every input' (looked for: loops, veiled, ifaces, maps, wideKeys, modest, calm, conditions, laid).
  DERIVED. THE GIVEN ROWS OF THIS SEAT. 12 by the template 'for every input the law returns true; each argument reads behind the call as it read before'; 0 by the template 'total and deterministic' (their statements: YtaojijahpdnjhaaTotals.lean).
  GIVEN WITH THE SEED: the statements are not yours to turn. If you find one false, say at which input.
  Laid BY PROGRAM, IN A SANDBOX (cutbox-rows.mjs): the forced cells as the released guide's own fill.sh prints them over the translation da416c8826b6f7e2… (all of the seat's roots in one cut). By AI agents, Wed Nov 11 2026. No macro, syntax, notation, axiom, sorry.
-/
import Derived.Test.YtaojijahpdnjhaaChecked
import GoSem.Claim
import GoSem.ClaimJoined
import GoSem.ClaimMapViews
import Derived.JoinedTies
import Derived.KernelRfl
namespace Go.Proofs.Ytaojijahpdnjhaa
/- THE CELL 'sum', in the pinned program and in every row, IS THE sha256 OF THE DUMP (.gsa) THAT YtaojijahpdnjhaaProg.lean LOADS. Nothing in Lean hashes anything: it is a label: what it is worth is what the hold of that sum in a sandbox is worth. -/
noncomputable def Try.pinned : Pinned := { name := "ytaojijahpdnjhaa", sum := "da416c8826b6f7e2a0b943ac6dddb082bf62445af71ca0b98d9a82ce00e4f000", checked := Try.checked }
namespace Rows
def none {H : Type} : Left H := { results := [], args := [] }

/-- 'ashlarlaw0.Names': WHATEVER THE INPUT: true; the input reads as it did. -/
def namesSpec : ChangeSpec := { name := "names", fn := fun _ => fun
  | [] => { results := [.lit (.bool true)], args := [] }
  | _ => none }
def namesRow : OpenClaim := { program := "ytaojijahpdnjhaa", sum := "da416c8826b6f7e2a0b943ac6dddb082bf62445af71ca0b98d9a82ce00e4f000", func := "ashlar/ashlarlaw0.Names", spec := "names", apart := false }
def NamesSaid : Prop := namesRow.holds Try.pinned (OpenSpec.ofChange namesSpec)

/-- ITS FALSE NEIGHBOUR: 'it returns false'. Refute it at one input. -/
def namesWrong : ChangeSpec := { name := "names", fn := fun _ => fun
  | [] => { results := [.lit (.bool false)], args := [] }
  | _ => none }
def NamesWrongFalsely : Prop := namesRow.holds Try.pinned (OpenSpec.ofChange namesWrong)

/-- 'ashlarlaw9.GaugeTimes': WHATEVER THE INPUT: true; the input reads as it did. -/
def gaugeTimesSpec : ChangeSpec := { name := "gaugeTimes", fn := fun _ => fun
  | [d] => { results := [.lit (.bool true)], args := [d] }
  | _ => none }
def gaugeTimesRow : OpenClaim := { program := "ytaojijahpdnjhaa", sum := "da416c8826b6f7e2a0b943ac6dddb082bf62445af71ca0b98d9a82ce00e4f000", func := "ashlar/ashlarlaw9.GaugeTimes", spec := "gaugeTimes", unfollowed := true, recurses := true, apart := false }
def GaugeTimesSaid : Prop := gaugeTimesRow.holds Try.pinned (OpenSpec.ofChange gaugeTimesSpec)

/-- ITS FALSE NEIGHBOUR: 'it returns false'. Refute it at one input. -/
def gaugeTimesWrong : ChangeSpec := { name := "gaugeTimes", fn := fun _ => fun
  | [d] => { results := [.lit (.bool false)], args := [d] }
  | _ => none }
def GaugeTimesWrongFalsely : Prop := gaugeTimesRow.holds Try.pinned (OpenSpec.ofChange gaugeTimesWrong)

/-- 'ashlarlaw9.GaugeOps': WHATEVER THE INPUT: true; the input reads as it did. -/
def gaugeOpsSpec : ChangeSpec := { name := "gaugeOps", fn := fun _ => fun
  | [d1, d2, d3, d4] => { results := [.lit (.bool true)], args := [d1, d2, d3, d4] }
  | _ => none }
def gaugeOpsRow : OpenClaim := { program := "ytaojijahpdnjhaa", sum := "da416c8826b6f7e2a0b943ac6dddb082bf62445af71ca0b98d9a82ce00e4f000", func := "ashlar/ashlarlaw9.GaugeOps", spec := "gaugeOps", unfollowed := true, recurses := true, apart := false }
def GaugeOpsSaid : Prop := gaugeOpsRow.holds Try.pinned (OpenSpec.ofChange gaugeOpsSpec)

/-- ITS FALSE NEIGHBOUR: 'it returns false'. Refute it at one input. -/
def gaugeOpsWrong : ChangeSpec := { name := "gaugeOps", fn := fun _ => fun
  | [d1, d2, d3, d4] => { results := [.lit (.bool false)], args := [d1, d2, d3, d4] }
  | _ => none }
def GaugeOpsWrongFalsely : Prop := gaugeOpsRow.holds Try.pinned (OpenSpec.ofChange gaugeOpsWrong)

/-- 'ashlarlaw1.IntQuo': WHATEVER THE INPUT: true; the input reads as it did. -/
def intQuoSpec : ChangeSpec := { name := "intQuo", fn := fun _ => fun
  | [d1, d2] => { results := [.lit (.bool true)], args := [d1, d2] }
  | _ => none }
def intQuoRow : OpenClaim := { program := "ytaojijahpdnjhaa", sum := "da416c8826b6f7e2a0b943ac6dddb082bf62445af71ca0b98d9a82ce00e4f000", func := "ashlar/ashlarlaw1.IntQuo", spec := "intQuo", recurses := true, apart := false }
def IntQuoSaid : Prop := intQuoRow.holds Try.pinned (OpenSpec.ofChange intQuoSpec)

/-- ITS FALSE NEIGHBOUR: 'it returns false'. Refute it at one input. -/
def intQuoWrong : ChangeSpec := { name := "intQuo", fn := fun _ => fun
  | [d1, d2] => { results := [.lit (.bool false)], args := [d1, d2] }
  | _ => none }
def IntQuoWrongFalsely : Prop := intQuoRow.holds Try.pinned (OpenSpec.ofChange intQuoWrong)

/-- 'ashlarlaw1.IntSmall': WHATEVER THE INPUT: true; the input reads as it did. -/
def intSmallSpec : ChangeSpec := { name := "intSmall", fn := fun _ => fun
  | [d1, d2] => { results := [.lit (.bool true)], args := [d1, d2] }
  | _ => none }
def intSmallRow : OpenClaim := { program := "ytaojijahpdnjhaa", sum := "da416c8826b6f7e2a0b943ac6dddb082bf62445af71ca0b98d9a82ce00e4f000", func := "ashlar/ashlarlaw1.IntSmall", spec := "intSmall", recurses := true, apart := false }
def IntSmallSaid : Prop := intSmallRow.holds Try.pinned (OpenSpec.ofChange intSmallSpec)

/-- ITS FALSE NEIGHBOUR: 'it returns false'. Refute it at one input. -/
def intSmallWrong : ChangeSpec := { name := "intSmall", fn := fun _ => fun
  | [d1, d2] => { results := [.lit (.bool false)], args := [d1, d2] }
  | _ => none }
def IntSmallWrongFalsely : Prop := intSmallRow.holds Try.pinned (OpenSpec.ofChange intSmallWrong)

/-- 'ashlarlaw1.IntGcd': WHATEVER THE INPUT: true; the input reads as it did. -/
def intGcdSpec : ChangeSpec := { name := "intGcd", fn := fun _ => fun
  | [d1, d2, d3] => { results := [.lit (.bool true)], args := [d1, d2, d3] }
  | _ => none }
def intGcdRow : OpenClaim := { program := "ytaojijahpdnjhaa", sum := "da416c8826b6f7e2a0b943ac6dddb082bf62445af71ca0b98d9a82ce00e4f000", func := "ashlar/ashlarlaw1.IntGcd", spec := "intGcd", recurses := true, apart := false }
def IntGcdSaid : Prop := intGcdRow.holds Try.pinned (OpenSpec.ofChange intGcdSpec)

/-- ITS FALSE NEIGHBOUR: 'it returns false'. Refute it at one input. -/
def intGcdWrong : ChangeSpec := { name := "intGcd", fn := fun _ => fun
  | [d1, d2, d3] => { results := [.lit (.bool false)], args := [d1, d2, d3] }
  | _ => none }
def IntGcdWrongFalsely : Prop := intGcdRow.holds Try.pinned (OpenSpec.ofChange intGcdWrong)

/-- 'ashlarlaw1.IntMod': WHATEVER THE INPUT: true; the input reads as it did. -/
def intModSpec : ChangeSpec := { name := "intMod", fn := fun _ => fun
  | [d1, d2] => { results := [.lit (.bool true)], args := [d1, d2] }
  | _ => none }
def intModRow : OpenClaim := { program := "ytaojijahpdnjhaa", sum := "da416c8826b6f7e2a0b943ac6dddb082bf62445af71ca0b98d9a82ce00e4f000", func := "ashlar/ashlarlaw1.IntMod", spec := "intMod", recurses := true, apart := false }
def IntModSaid : Prop := intModRow.holds Try.pinned (OpenSpec.ofChange intModSpec)

/-- ITS FALSE NEIGHBOUR: 'it returns false'. Refute it at one input. -/
def intModWrong : ChangeSpec := { name := "intMod", fn := fun _ => fun
  | [d1, d2] => { results := [.lit (.bool false)], args := [d1, d2] }
  | _ => none }
def IntModWrongFalsely : Prop := intModRow.holds Try.pinned (OpenSpec.ofChange intModWrong)

/-- 'ashlarlaw1.IntForms': WHATEVER THE INPUT: true; the input reads as it did. -/
def intFormsSpec : ChangeSpec := { name := "intForms", fn := fun _ => fun
  | [d1, d2, d3] => { results := [.lit (.bool true)], args := [d1, d2, d3] }
  | _ => none }
def intFormsRow : OpenClaim := { program := "ytaojijahpdnjhaa", sum := "da416c8826b6f7e2a0b943ac6dddb082bf62445af71ca0b98d9a82ce00e4f000", func := "ashlar/ashlarlaw1.IntForms", spec := "intForms", recurses := true, apart := false }
def IntFormsSaid : Prop := intFormsRow.holds Try.pinned (OpenSpec.ofChange intFormsSpec)

/-- ITS FALSE NEIGHBOUR: 'it returns false'. Refute it at one input. -/
def intFormsWrong : ChangeSpec := { name := "intForms", fn := fun _ => fun
  | [d1, d2, d3] => { results := [.lit (.bool false)], args := [d1, d2, d3] }
  | _ => none }
def IntFormsWrongFalsely : Prop := intFormsRow.holds Try.pinned (OpenSpec.ofChange intFormsWrong)

/-- 'ashlarlaw1.IntRing': WHATEVER THE INPUT: true; the input reads as it did. -/
def intRingSpec : ChangeSpec := { name := "intRing", fn := fun _ => fun
  | [d1, d2, d3] => { results := [.lit (.bool true)], args := [d1, d2, d3] }
  | _ => none }
def intRingRow : OpenClaim := { program := "ytaojijahpdnjhaa", sum := "da416c8826b6f7e2a0b943ac6dddb082bf62445af71ca0b98d9a82ce00e4f000", func := "ashlar/ashlarlaw1.IntRing", spec := "intRing", recurses := true, apart := false }
def IntRingSaid : Prop := intRingRow.holds Try.pinned (OpenSpec.ofChange intRingSpec)

/-- ITS FALSE NEIGHBOUR: 'it returns false'. Refute it at one input. -/
def intRingWrong : ChangeSpec := { name := "intRing", fn := fun _ => fun
  | [d1, d2, d3] => { results := [.lit (.bool false)], args := [d1, d2, d3] }
  | _ => none }
def IntRingWrongFalsely : Prop := intRingRow.holds Try.pinned (OpenSpec.ofChange intRingWrong)

/-- 'ashlarlaw1.IntSums': WHATEVER THE INPUT: true; the input reads as it did. -/
def intSumsSpec : ChangeSpec := { name := "intSums", fn := fun _ => fun
  | [d1, d2] => { results := [.lit (.bool true)], args := [d1, d2] }
  | _ => none }
def intSumsRow : OpenClaim := { program := "ytaojijahpdnjhaa", sum := "da416c8826b6f7e2a0b943ac6dddb082bf62445af71ca0b98d9a82ce00e4f000", func := "ashlar/ashlarlaw1.IntSums", spec := "intSums", recurses := true, apart := false }
def IntSumsSaid : Prop := intSumsRow.holds Try.pinned (OpenSpec.ofChange intSumsSpec)

/-- ITS FALSE NEIGHBOUR: 'it returns false'. Refute it at one input. -/
def intSumsWrong : ChangeSpec := { name := "intSums", fn := fun _ => fun
  | [d1, d2] => { results := [.lit (.bool false)], args := [d1, d2] }
  | _ => none }
def IntSumsWrongFalsely : Prop := intSumsRow.holds Try.pinned (OpenSpec.ofChange intSumsWrong)

/-- 'ashlarlaw1.IntText': WHATEVER THE INPUT: true; the input reads as it did. -/
def intTextSpec : ChangeSpec := { name := "intText", fn := fun _ => fun
  | [d1, d2] => { results := [.lit (.bool true)], args := [d1, d2] }
  | _ => none }
def intTextRow : OpenClaim := { program := "ytaojijahpdnjhaa", sum := "da416c8826b6f7e2a0b943ac6dddb082bf62445af71ca0b98d9a82ce00e4f000", func := "ashlar/ashlarlaw1.IntText", spec := "intText", recurses := true, apart := false }
def IntTextSaid : Prop := intTextRow.holds Try.pinned (OpenSpec.ofChange intTextSpec)

/-- ITS FALSE NEIGHBOUR: 'it returns false'. Refute it at one input. -/
def intTextWrong : ChangeSpec := { name := "intText", fn := fun _ => fun
  | [d1, d2] => { results := [.lit (.bool false)], args := [d1, d2] }
  | _ => none }
def IntTextWrongFalsely : Prop := intTextRow.holds Try.pinned (OpenSpec.ofChange intTextWrong)

/-- 'ashlarlaw1.IntPower': WHATEVER THE INPUT: true; the input reads as it did. -/
def intPowerSpec : ChangeSpec := { name := "intPower", fn := fun _ => fun
  | [d1, d2] => { results := [.lit (.bool true)], args := [d1, d2] }
  | _ => none }
def intPowerRow : OpenClaim := { program := "ytaojijahpdnjhaa", sum := "da416c8826b6f7e2a0b943ac6dddb082bf62445af71ca0b98d9a82ce00e4f000", func := "ashlar/ashlarlaw1.IntPower", spec := "intPower", recurses := true, apart := false }
def IntPowerSaid : Prop := intPowerRow.holds Try.pinned (OpenSpec.ofChange intPowerSpec)

/-- ITS FALSE NEIGHBOUR: 'it returns false'. Refute it at one input. -/
def intPowerWrong : ChangeSpec := { name := "intPower", fn := fun _ => fun
  | [d1, d2] => { results := [.lit (.bool false)], args := [d1, d2] }
  | _ => none }
def IntPowerWrongFalsely : Prop := intPowerRow.holds Try.pinned (OpenSpec.ofChange intPowerWrong)

/- THE SECOND FORM. 'bulk': how many values and letters a reading holds, each counted each time it is reached (what is shared counts as often as it is met; a slice's spare places count too). A statement '..UptoSaid' is the law's where the arguments, and the package variables that the reading takes, are together of bulk at most 1048576: NARROWER than '..Said'. Prove '..Said' where nothing that the law and all that it calls make is longer than what came in: it says more and counts as full. Else prove '..UptoSaid'. A law counts once. -/
mutual
def uptoBulk {H : Type} : DataW H → Nat
  | .lit (.string bytes) => bytes.length + 1
  | .lit _ => 1
  | .nil => 1
  | .ptr d => uptoBulk d + 1
  | .slice elems spare => uptoBulkAll elems + uptoBulkAll spare + 1
  | .agg parts => uptoBulkAll parts + 1
  | .iface _ d => uptoBulk d + 1
  | .map entries => uptoBulkEntries entries + 1
  | .held _ => 1
def uptoBulkAll {H : Type} : List (DataW H) → Nat
  | [] => 0
  | d :: r => uptoBulk d + uptoBulkAll r
def uptoBulkEntries {H : Type} : List (Lit × DataW H) → Nat
  | [] => 0
  | x :: r => uptoBulkEntry x + uptoBulkEntries r
def uptoBulkEntry {H : Type} : Lit × DataW H → Nat
  | (.string bytes, d) => bytes.length + uptoBulk d + 1
  | (_, d) => uptoBulk d + 1
 end
def uptoSmall : (H : Type) → List (DataW H) → Bool := fun _ ds => decide (uptoBulkAll ds ≤ 1048576)
def OpenSpec.upto (s : _root_.Go.ChangeSpec) : _root_.Go.OpenSpec := { _root_.Go.OpenSpec.ofChange s with cond := some uptoSmall }

/-- 'ashlarlaw0.Names', WHERE WHAT IT READS IS OF BULK AT MOST 1048576: true; the input reads as it did. -/
def namesUptoRow : OpenClaim := { program := "ytaojijahpdnjhaa", sum := "da416c8826b6f7e2a0b943ac6dddb082bf62445af71ca0b98d9a82ce00e4f000", func := "ashlar/ashlarlaw0.Names", spec := "names", apart := false, narrowed := true }
def NamesUptoSaid : Prop := namesUptoRow.holds Try.pinned (OpenSpec.upto namesSpec)

/-- 'ashlarlaw9.GaugeTimes', WHERE WHAT IT READS IS OF BULK AT MOST 1048576: true; the input reads as it did. -/
def gaugeTimesUptoRow : OpenClaim := { program := "ytaojijahpdnjhaa", sum := "da416c8826b6f7e2a0b943ac6dddb082bf62445af71ca0b98d9a82ce00e4f000", func := "ashlar/ashlarlaw9.GaugeTimes", spec := "gaugeTimes", unfollowed := true, recurses := true, apart := false, narrowed := true }
def GaugeTimesUptoSaid : Prop := gaugeTimesUptoRow.holds Try.pinned (OpenSpec.upto gaugeTimesSpec)

/-- 'ashlarlaw9.GaugeOps', WHERE WHAT IT READS IS OF BULK AT MOST 1048576: true; the input reads as it did. -/
def gaugeOpsUptoRow : OpenClaim := { program := "ytaojijahpdnjhaa", sum := "da416c8826b6f7e2a0b943ac6dddb082bf62445af71ca0b98d9a82ce00e4f000", func := "ashlar/ashlarlaw9.GaugeOps", spec := "gaugeOps", unfollowed := true, recurses := true, apart := false, narrowed := true }
def GaugeOpsUptoSaid : Prop := gaugeOpsUptoRow.holds Try.pinned (OpenSpec.upto gaugeOpsSpec)

/-- 'ashlarlaw1.IntQuo', WHERE WHAT IT READS IS OF BULK AT MOST 1048576: true; the input reads as it did. -/
def intQuoUptoRow : OpenClaim := { program := "ytaojijahpdnjhaa", sum := "da416c8826b6f7e2a0b943ac6dddb082bf62445af71ca0b98d9a82ce00e4f000", func := "ashlar/ashlarlaw1.IntQuo", spec := "intQuo", recurses := true, apart := false, narrowed := true }
def IntQuoUptoSaid : Prop := intQuoUptoRow.holds Try.pinned (OpenSpec.upto intQuoSpec)

/-- 'ashlarlaw1.IntSmall', WHERE WHAT IT READS IS OF BULK AT MOST 1048576: true; the input reads as it did. -/
def intSmallUptoRow : OpenClaim := { program := "ytaojijahpdnjhaa", sum := "da416c8826b6f7e2a0b943ac6dddb082bf62445af71ca0b98d9a82ce00e4f000", func := "ashlar/ashlarlaw1.IntSmall", spec := "intSmall", recurses := true, apart := false, narrowed := true }
def IntSmallUptoSaid : Prop := intSmallUptoRow.holds Try.pinned (OpenSpec.upto intSmallSpec)

/-- 'ashlarlaw1.IntGcd', WHERE WHAT IT READS IS OF BULK AT MOST 1048576: true; the input reads as it did. -/
def intGcdUptoRow : OpenClaim := { program := "ytaojijahpdnjhaa", sum := "da416c8826b6f7e2a0b943ac6dddb082bf62445af71ca0b98d9a82ce00e4f000", func := "ashlar/ashlarlaw1.IntGcd", spec := "intGcd", recurses := true, apart := false, narrowed := true }
def IntGcdUptoSaid : Prop := intGcdUptoRow.holds Try.pinned (OpenSpec.upto intGcdSpec)

/-- 'ashlarlaw1.IntMod', WHERE WHAT IT READS IS OF BULK AT MOST 1048576: true; the input reads as it did. -/
def intModUptoRow : OpenClaim := { program := "ytaojijahpdnjhaa", sum := "da416c8826b6f7e2a0b943ac6dddb082bf62445af71ca0b98d9a82ce00e4f000", func := "ashlar/ashlarlaw1.IntMod", spec := "intMod", recurses := true, apart := false, narrowed := true }
def IntModUptoSaid : Prop := intModUptoRow.holds Try.pinned (OpenSpec.upto intModSpec)

/-- 'ashlarlaw1.IntForms', WHERE WHAT IT READS IS OF BULK AT MOST 1048576: true; the input reads as it did. -/
def intFormsUptoRow : OpenClaim := { program := "ytaojijahpdnjhaa", sum := "da416c8826b6f7e2a0b943ac6dddb082bf62445af71ca0b98d9a82ce00e4f000", func := "ashlar/ashlarlaw1.IntForms", spec := "intForms", recurses := true, apart := false, narrowed := true }
def IntFormsUptoSaid : Prop := intFormsUptoRow.holds Try.pinned (OpenSpec.upto intFormsSpec)

/-- 'ashlarlaw1.IntRing', WHERE WHAT IT READS IS OF BULK AT MOST 1048576: true; the input reads as it did. -/
def intRingUptoRow : OpenClaim := { program := "ytaojijahpdnjhaa", sum := "da416c8826b6f7e2a0b943ac6dddb082bf62445af71ca0b98d9a82ce00e4f000", func := "ashlar/ashlarlaw1.IntRing", spec := "intRing", recurses := true, apart := false, narrowed := true }
def IntRingUptoSaid : Prop := intRingUptoRow.holds Try.pinned (OpenSpec.upto intRingSpec)

/-- 'ashlarlaw1.IntSums', WHERE WHAT IT READS IS OF BULK AT MOST 1048576: true; the input reads as it did. -/
def intSumsUptoRow : OpenClaim := { program := "ytaojijahpdnjhaa", sum := "da416c8826b6f7e2a0b943ac6dddb082bf62445af71ca0b98d9a82ce00e4f000", func := "ashlar/ashlarlaw1.IntSums", spec := "intSums", recurses := true, apart := false, narrowed := true }
def IntSumsUptoSaid : Prop := intSumsUptoRow.holds Try.pinned (OpenSpec.upto intSumsSpec)

/-- 'ashlarlaw1.IntText', WHERE WHAT IT READS IS OF BULK AT MOST 1048576: true; the input reads as it did. -/
def intTextUptoRow : OpenClaim := { program := "ytaojijahpdnjhaa", sum := "da416c8826b6f7e2a0b943ac6dddb082bf62445af71ca0b98d9a82ce00e4f000", func := "ashlar/ashlarlaw1.IntText", spec := "intText", recurses := true, apart := false, narrowed := true }
def IntTextUptoSaid : Prop := intTextUptoRow.holds Try.pinned (OpenSpec.upto intTextSpec)

/-- 'ashlarlaw1.IntPower', WHERE WHAT IT READS IS OF BULK AT MOST 1048576: true; the input reads as it did. -/
def intPowerUptoRow : OpenClaim := { program := "ytaojijahpdnjhaa", sum := "da416c8826b6f7e2a0b943ac6dddb082bf62445af71ca0b98d9a82ce00e4f000", func := "ashlar/ashlarlaw1.IntPower", spec := "intPower", recurses := true, apart := false, narrowed := true }
def IntPowerUptoSaid : Prop := intPowerUptoRow.holds Try.pinned (OpenSpec.upto intPowerSpec)

end Rows
end Go.Proofs.Ytaojijahpdnjhaa
