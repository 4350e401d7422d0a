/-
  No cell of these rows narrows 'for every input' (looked for: loops, veiled, ifaces, maps, wideKeys, modest, calm, conditions, laid).
  DERIVED. THE GIVEN ROWS OF THIS SEAT. 14 by the template 'for every input the law returns true; each argument reads behind the call as it read before'; 0 by the template 'total and deterministic' (their statements: YtgiimghbfplmfaaTotals.lean).
  GIVEN WITH THE SEED: the statements are not yours to turn. If you find one false, say at which input.
  Laid BY PROGRAM, IN A SANDBOX (cutbox-rows.mjs): the forced cells as the released guide's own fill.sh prints them over the translation 2bb8b12fd9e89fd9… (all of the seat's roots in one cut). By AI agents, Wed Nov 11 2026. No macro, syntax, notation, axiom, sorry.
-/
import Derived.Test.YtgiimghbfplmfaaChecked
import GoSem.Claim
import GoSem.ClaimJoined
import GoSem.ClaimMapViews
import Derived.JoinedTies
import Derived.KernelRfl
namespace Go.Proofs.Ytgiimghbfplmfaa
/- THE CELL 'sum', in the pinned program and in every row, IS THE sha256 OF THE DUMP (.gsa) THAT YtgiimghbfplmfaaProg.lean LOADS. Nothing in Lean hashes anything: it is a label: what it is worth is what the hold of that sum in a sandbox is worth. -/
noncomputable def Try.pinned : Pinned := { name := "ytgiimghbfplmfaa", sum := "2bb8b12fd9e89fd9eb1ba158a279cddf1f1ec37ef871a9edfb2f45a3fccc6815", checked := Try.checked }
namespace Rows
def none {H : Type} : Left H := { results := [], args := [] }

/-- 'ashlarlaw2.RatQuo': WHATEVER THE INPUT: true; the input reads as it did. -/
def ratQuoSpec : ChangeSpec := { name := "ratQuo", fn := fun _ => fun
  | [d1, d2, d3, d4] => { results := [.lit (.bool true)], args := [d1, d2, d3, d4] }
  | _ => none }
def ratQuoRow : OpenClaim := { program := "ytgiimghbfplmfaa", sum := "2bb8b12fd9e89fd9eb1ba158a279cddf1f1ec37ef871a9edfb2f45a3fccc6815", func := "ashlar/ashlarlaw2.RatQuo", spec := "ratQuo", unfollowed := true, recurses := true, apart := false }
def RatQuoSaid : Prop := ratQuoRow.holds Try.pinned (OpenSpec.ofChange ratQuoSpec)

/-- ITS FALSE NEIGHBOUR: 'it returns false'. Refute it at one input. -/
def ratQuoWrong : ChangeSpec := { name := "ratQuo", fn := fun _ => fun
  | [d1, d2, d3, d4] => { results := [.lit (.bool false)], args := [d1, d2, d3, d4] }
  | _ => none }
def RatQuoWrongFalsely : Prop := ratQuoRow.holds Try.pinned (OpenSpec.ofChange ratQuoWrong)

/-- 'ashlarlaw2.RatScaled': WHATEVER THE INPUT: true; the input reads as it did. -/
def ratScaledSpec : ChangeSpec := { name := "ratScaled", fn := fun _ => fun
  | [d1, d2, d3] => { results := [.lit (.bool true)], args := [d1, d2, d3] }
  | _ => none }
def ratScaledRow : OpenClaim := { program := "ytgiimghbfplmfaa", sum := "2bb8b12fd9e89fd9eb1ba158a279cddf1f1ec37ef871a9edfb2f45a3fccc6815", func := "ashlar/ashlarlaw2.RatScaled", spec := "ratScaled", unfollowed := true, recurses := true, apart := false }
def RatScaledSaid : Prop := ratScaledRow.holds Try.pinned (OpenSpec.ofChange ratScaledSpec)

/-- ITS FALSE NEIGHBOUR: 'it returns false'. Refute it at one input. -/
def ratScaledWrong : ChangeSpec := { name := "ratScaled", fn := fun _ => fun
  | [d1, d2, d3] => { results := [.lit (.bool false)], args := [d1, d2, d3] }
  | _ => none }
def RatScaledWrongFalsely : Prop := ratScaledRow.holds Try.pinned (OpenSpec.ofChange ratScaledWrong)

/-- 'ashlarlaw2.RatSums': WHATEVER THE INPUT: true; the input reads as it did. -/
def ratSumsSpec : ChangeSpec := { name := "ratSums", fn := fun _ => fun
  | [d1, d2] => { results := [.lit (.bool true)], args := [d1, d2] }
  | _ => none }
def ratSumsRow : OpenClaim := { program := "ytgiimghbfplmfaa", sum := "2bb8b12fd9e89fd9eb1ba158a279cddf1f1ec37ef871a9edfb2f45a3fccc6815", func := "ashlar/ashlarlaw2.RatSums", spec := "ratSums", unfollowed := true, recurses := true, apart := false }
def RatSumsSaid : Prop := ratSumsRow.holds Try.pinned (OpenSpec.ofChange ratSumsSpec)

/-- ITS FALSE NEIGHBOUR: 'it returns false'. Refute it at one input. -/
def ratSumsWrong : ChangeSpec := { name := "ratSums", fn := fun _ => fun
  | [d1, d2] => { results := [.lit (.bool false)], args := [d1, d2] }
  | _ => none }
def RatSumsWrongFalsely : Prop := ratSumsRow.holds Try.pinned (OpenSpec.ofChange ratSumsWrong)

/-- 'ashlarlaw2.RatField': WHATEVER THE INPUT: true; the input reads as it did. -/
def ratFieldSpec : ChangeSpec := { name := "ratField", fn := fun _ => fun
  | [d1, d2, d3] => { results := [.lit (.bool true)], args := [d1, d2, d3] }
  | _ => none }
def ratFieldRow : OpenClaim := { program := "ytgiimghbfplmfaa", sum := "2bb8b12fd9e89fd9eb1ba158a279cddf1f1ec37ef871a9edfb2f45a3fccc6815", func := "ashlar/ashlarlaw2.RatField", spec := "ratField", unfollowed := true, recurses := true, apart := false }
def RatFieldSaid : Prop := ratFieldRow.holds Try.pinned (OpenSpec.ofChange ratFieldSpec)

/-- ITS FALSE NEIGHBOUR: 'it returns false'. Refute it at one input. -/
def ratFieldWrong : ChangeSpec := { name := "ratField", fn := fun _ => fun
  | [d1, d2, d3] => { results := [.lit (.bool false)], args := [d1, d2, d3] }
  | _ => none }
def RatFieldWrongFalsely : Prop := ratFieldRow.holds Try.pinned (OpenSpec.ofChange ratFieldWrong)

/-- 'ashlarlaw2.RatText': WHATEVER THE INPUT: true; the input reads as it did. -/
def ratTextSpec : ChangeSpec := { name := "ratText", fn := fun _ => fun
  | [d1, d2] => { results := [.lit (.bool true)], args := [d1, d2] }
  | _ => none }
def ratTextRow : OpenClaim := { program := "ytgiimghbfplmfaa", sum := "2bb8b12fd9e89fd9eb1ba158a279cddf1f1ec37ef871a9edfb2f45a3fccc6815", func := "ashlar/ashlarlaw2.RatText", spec := "ratText", inPlace := ["internal/bytealg.IndexByteString", "internal/bytealg.IndexString"], unfollowed := true, recurses := true, named := ["internal/bytealg.MaxLen"], apart := false }
def RatTextSaid : Prop := ratTextRow.holds Try.pinned (OpenSpec.ofChange ratTextSpec)

/-- ITS FALSE NEIGHBOUR: 'it returns false'. Refute it at one input. -/
def ratTextWrong : ChangeSpec := { name := "ratText", fn := fun _ => fun
  | [d1, d2] => { results := [.lit (.bool false)], args := [d1, d2] }
  | _ => none }
def RatTextWrongFalsely : Prop := ratTextRow.holds Try.pinned (OpenSpec.ofChange ratTextWrong)

/-- 'ashlarlaw3.PolyOf': WHATEVER THE INPUT: true; the input reads as it did. -/
def polyOfSpec : ChangeSpec := { name := "polyOf", fn := fun _ => fun
  | [d] => { results := [.lit (.bool true)], args := [d] }
  | _ => none }
def polyOfRow : OpenClaim := { program := "ytgiimghbfplmfaa", sum := "2bb8b12fd9e89fd9eb1ba158a279cddf1f1ec37ef871a9edfb2f45a3fccc6815", func := "ashlar/ashlarlaw3.PolyOf", spec := "polyOf", unfollowed := true, recurses := true, apart := false }
def PolyOfSaid : Prop := polyOfRow.holds Try.pinned (OpenSpec.ofChange polyOfSpec)

/-- ITS FALSE NEIGHBOUR: 'it returns false'. Refute it at one input. -/
def polyOfWrong : ChangeSpec := { name := "polyOf", fn := fun _ => fun
  | [d] => { results := [.lit (.bool false)], args := [d] }
  | _ => none }
def PolyOfWrongFalsely : Prop := polyOfRow.holds Try.pinned (OpenSpec.ofChange polyOfWrong)

/-- 'ashlarlaw3.PolyContent': WHATEVER THE INPUT: true; the input reads as it did. -/
def polyContentSpec : ChangeSpec := { name := "polyContent", fn := fun _ => fun
  | [d1, d2] => { results := [.lit (.bool true)], args := [d1, d2] }
  | _ => none }
def polyContentRow : OpenClaim := { program := "ytgiimghbfplmfaa", sum := "2bb8b12fd9e89fd9eb1ba158a279cddf1f1ec37ef871a9edfb2f45a3fccc6815", func := "ashlar/ashlarlaw3.PolyContent", spec := "polyContent", unfollowed := true, recurses := true, apart := false }
def PolyContentSaid : Prop := polyContentRow.holds Try.pinned (OpenSpec.ofChange polyContentSpec)

/-- ITS FALSE NEIGHBOUR: 'it returns false'. Refute it at one input. -/
def polyContentWrong : ChangeSpec := { name := "polyContent", fn := fun _ => fun
  | [d1, d2] => { results := [.lit (.bool false)], args := [d1, d2] }
  | _ => none }
def PolyContentWrongFalsely : Prop := polyContentRow.holds Try.pinned (OpenSpec.ofChange polyContentWrong)

/-- 'ashlarlaw3.PolyExact': WHATEVER THE INPUT: true; the input reads as it did. -/
def polyExactSpec : ChangeSpec := { name := "polyExact", fn := fun _ => fun
  | [d1, d2] => { results := [.lit (.bool true)], args := [d1, d2] }
  | _ => none }
def polyExactRow : OpenClaim := { program := "ytgiimghbfplmfaa", sum := "2bb8b12fd9e89fd9eb1ba158a279cddf1f1ec37ef871a9edfb2f45a3fccc6815", func := "ashlar/ashlarlaw3.PolyExact", spec := "polyExact", unfollowed := true, recurses := true, apart := false }
def PolyExactSaid : Prop := polyExactRow.holds Try.pinned (OpenSpec.ofChange polyExactSpec)

/-- ITS FALSE NEIGHBOUR: 'it returns false'. Refute it at one input. -/
def polyExactWrong : ChangeSpec := { name := "polyExact", fn := fun _ => fun
  | [d1, d2] => { results := [.lit (.bool false)], args := [d1, d2] }
  | _ => none }
def PolyExactWrongFalsely : Prop := polyExactRow.holds Try.pinned (OpenSpec.ofChange polyExactWrong)

/-- 'ashlarlaw3.PolyTerms': WHATEVER THE INPUT: true; the input reads as it did. -/
def polyTermsSpec : ChangeSpec := { name := "polyTerms", fn := fun _ => fun
  | [d1, d2] => { results := [.lit (.bool true)], args := [d1, d2] }
  | _ => none }
def polyTermsRow : OpenClaim := { program := "ytgiimghbfplmfaa", sum := "2bb8b12fd9e89fd9eb1ba158a279cddf1f1ec37ef871a9edfb2f45a3fccc6815", func := "ashlar/ashlarlaw3.PolyTerms", spec := "polyTerms", unfollowed := true, recurses := true, apart := false }
def PolyTermsSaid : Prop := polyTermsRow.holds Try.pinned (OpenSpec.ofChange polyTermsSpec)

/-- ITS FALSE NEIGHBOUR: 'it returns false'. Refute it at one input. -/
def polyTermsWrong : ChangeSpec := { name := "polyTerms", fn := fun _ => fun
  | [d1, d2] => { results := [.lit (.bool false)], args := [d1, d2] }
  | _ => none }
def PolyTermsWrongFalsely : Prop := polyTermsRow.holds Try.pinned (OpenSpec.ofChange polyTermsWrong)

/-- 'ashlarlaw3.PolyForms': WHATEVER THE INPUT: true; the input reads as it did. -/
def polyFormsSpec : ChangeSpec := { name := "polyForms", fn := fun _ => fun
  | [d1, d2, d3] => { results := [.lit (.bool true)], args := [d1, d2, d3] }
  | _ => none }
def polyFormsRow : OpenClaim := { program := "ytgiimghbfplmfaa", sum := "2bb8b12fd9e89fd9eb1ba158a279cddf1f1ec37ef871a9edfb2f45a3fccc6815", func := "ashlar/ashlarlaw3.PolyForms", spec := "polyForms", unfollowed := true, recurses := true, apart := false }
def PolyFormsSaid : Prop := polyFormsRow.holds Try.pinned (OpenSpec.ofChange polyFormsSpec)

/-- ITS FALSE NEIGHBOUR: 'it returns false'. Refute it at one input. -/
def polyFormsWrong : ChangeSpec := { name := "polyForms", fn := fun _ => fun
  | [d1, d2, d3] => { results := [.lit (.bool false)], args := [d1, d2, d3] }
  | _ => none }
def PolyFormsWrongFalsely : Prop := polyFormsRow.holds Try.pinned (OpenSpec.ofChange polyFormsWrong)

/-- 'ashlarlaw3.PolyPseudo': WHATEVER THE INPUT: true; the input reads as it did. -/
def polyPseudoSpec : ChangeSpec := { name := "polyPseudo", fn := fun _ => fun
  | [d1, d2] => { results := [.lit (.bool true)], args := [d1, d2] }
  | _ => none }
def polyPseudoRow : OpenClaim := { program := "ytgiimghbfplmfaa", sum := "2bb8b12fd9e89fd9eb1ba158a279cddf1f1ec37ef871a9edfb2f45a3fccc6815", func := "ashlar/ashlarlaw3.PolyPseudo", spec := "polyPseudo", unfollowed := true, recurses := true, apart := false }
def PolyPseudoSaid : Prop := polyPseudoRow.holds Try.pinned (OpenSpec.ofChange polyPseudoSpec)

/-- ITS FALSE NEIGHBOUR: 'it returns false'. Refute it at one input. -/
def polyPseudoWrong : ChangeSpec := { name := "polyPseudo", fn := fun _ => fun
  | [d1, d2] => { results := [.lit (.bool false)], args := [d1, d2] }
  | _ => none }
def PolyPseudoWrongFalsely : Prop := polyPseudoRow.holds Try.pinned (OpenSpec.ofChange polyPseudoWrong)

/-- 'ashlarlaw3.PolyShift': WHATEVER THE INPUT: true; the input reads as it did. -/
def polyShiftSpec : ChangeSpec := { name := "polyShift", fn := fun _ => fun
  | [d1, d2, d3, d4] => { results := [.lit (.bool true)], args := [d1, d2, d3, d4] }
  | _ => none }
def polyShiftRow : OpenClaim := { program := "ytgiimghbfplmfaa", sum := "2bb8b12fd9e89fd9eb1ba158a279cddf1f1ec37ef871a9edfb2f45a3fccc6815", func := "ashlar/ashlarlaw3.PolyShift", spec := "polyShift", unfollowed := true, recurses := true, apart := false }
def PolyShiftSaid : Prop := polyShiftRow.holds Try.pinned (OpenSpec.ofChange polyShiftSpec)

/-- ITS FALSE NEIGHBOUR: 'it returns false'. Refute it at one input. -/
def polyShiftWrong : ChangeSpec := { name := "polyShift", fn := fun _ => fun
  | [d1, d2, d3, d4] => { results := [.lit (.bool false)], args := [d1, d2, d3, d4] }
  | _ => none }
def PolyShiftWrongFalsely : Prop := polyShiftRow.holds Try.pinned (OpenSpec.ofChange polyShiftWrong)

/-- 'ashlarlaw3.PolyRing': WHATEVER THE INPUT: true; the input reads as it did. -/
def polyRingSpec : ChangeSpec := { name := "polyRing", fn := fun _ => fun
  | [d1, d2, d3, d4] => { results := [.lit (.bool true)], args := [d1, d2, d3, d4] }
  | _ => none }
def polyRingRow : OpenClaim := { program := "ytgiimghbfplmfaa", sum := "2bb8b12fd9e89fd9eb1ba158a279cddf1f1ec37ef871a9edfb2f45a3fccc6815", func := "ashlar/ashlarlaw3.PolyRing", spec := "polyRing", unfollowed := true, recurses := true, apart := false }
def PolyRingSaid : Prop := polyRingRow.holds Try.pinned (OpenSpec.ofChange polyRingSpec)

/-- ITS FALSE NEIGHBOUR: 'it returns false'. Refute it at one input. -/
def polyRingWrong : ChangeSpec := { name := "polyRing", fn := fun _ => fun
  | [d1, d2, d3, d4] => { results := [.lit (.bool false)], args := [d1, d2, d3, d4] }
  | _ => none }
def PolyRingWrongFalsely : Prop := polyRingRow.holds Try.pinned (OpenSpec.ofChange polyRingWrong)

/-- 'ashlarlaw3.PolySums': WHATEVER THE INPUT: true; the input reads as it did. -/
def polySumsSpec : ChangeSpec := { name := "polySums", fn := fun _ => fun
  | [d1, d2, d3] => { results := [.lit (.bool true)], args := [d1, d2, d3] }
  | _ => none }
def polySumsRow : OpenClaim := { program := "ytgiimghbfplmfaa", sum := "2bb8b12fd9e89fd9eb1ba158a279cddf1f1ec37ef871a9edfb2f45a3fccc6815", func := "ashlar/ashlarlaw3.PolySums", spec := "polySums", unfollowed := true, recurses := true, apart := false }
def PolySumsSaid : Prop := polySumsRow.holds Try.pinned (OpenSpec.ofChange polySumsSpec)

/-- ITS FALSE NEIGHBOUR: 'it returns false'. Refute it at one input. -/
def polySumsWrong : ChangeSpec := { name := "polySums", fn := fun _ => fun
  | [d1, d2, d3] => { results := [.lit (.bool false)], args := [d1, d2, d3] }
  | _ => none }
def PolySumsWrongFalsely : Prop := polySumsRow.holds Try.pinned (OpenSpec.ofChange polySumsWrong)

/- THE SECOND FORM. 'bulk': how many values and letters a reading holds, each counted each time it is reached (what is shared counts as often as it is met; a slice's spare places count too). A statement '..UptoSaid' is the law's where the arguments, and the package variables that the reading takes, are together of bulk at most 1048576: NARROWER than '..Said'. Prove '..Said' where nothing that the law and all that it calls make is longer than what came in: it says more and counts as full. Else prove '..UptoSaid'. A law counts once. -/
mutual
def uptoBulk {H : Type} : DataW H → Nat
  | .lit (.string bytes) => bytes.length + 1
  | .lit _ => 1
  | .nil => 1
  | .ptr d => uptoBulk d + 1
  | .slice elems spare => uptoBulkAll elems + uptoBulkAll spare + 1
  | .agg parts => uptoBulkAll parts + 1
  | .iface _ d => uptoBulk d + 1
  | .map entries => uptoBulkEntries entries + 1
  | .held _ => 1
def uptoBulkAll {H : Type} : List (DataW H) → Nat
  | [] => 0
  | d :: r => uptoBulk d + uptoBulkAll r
def uptoBulkEntries {H : Type} : List (Lit × DataW H) → Nat
  | [] => 0
  | x :: r => uptoBulkEntry x + uptoBulkEntries r
def uptoBulkEntry {H : Type} : Lit × DataW H → Nat
  | (.string bytes, d) => bytes.length + uptoBulk d + 1
  | (_, d) => uptoBulk d + 1
 end
def uptoSmall : (H : Type) → List (DataW H) → Bool := fun _ ds => decide (uptoBulkAll ds ≤ 1048576)
def OpenSpec.upto (s : _root_.Go.ChangeSpec) : _root_.Go.OpenSpec := { _root_.Go.OpenSpec.ofChange s with cond := some uptoSmall }

/-- 'ashlarlaw2.RatQuo', WHERE WHAT IT READS IS OF BULK AT MOST 1048576: true; the input reads as it did. -/
def ratQuoUptoRow : OpenClaim := { program := "ytgiimghbfplmfaa", sum := "2bb8b12fd9e89fd9eb1ba158a279cddf1f1ec37ef871a9edfb2f45a3fccc6815", func := "ashlar/ashlarlaw2.RatQuo", spec := "ratQuo", unfollowed := true, recurses := true, apart := false, narrowed := true }
def RatQuoUptoSaid : Prop := ratQuoUptoRow.holds Try.pinned (OpenSpec.upto ratQuoSpec)

/-- 'ashlarlaw2.RatScaled', WHERE WHAT IT READS IS OF BULK AT MOST 1048576: true; the input reads as it did. -/
def ratScaledUptoRow : OpenClaim := { program := "ytgiimghbfplmfaa", sum := "2bb8b12fd9e89fd9eb1ba158a279cddf1f1ec37ef871a9edfb2f45a3fccc6815", func := "ashlar/ashlarlaw2.RatScaled", spec := "ratScaled", unfollowed := true, recurses := true, apart := false, narrowed := true }
def RatScaledUptoSaid : Prop := ratScaledUptoRow.holds Try.pinned (OpenSpec.upto ratScaledSpec)

/-- 'ashlarlaw2.RatSums', WHERE WHAT IT READS IS OF BULK AT MOST 1048576: true; the input reads as it did. -/
def ratSumsUptoRow : OpenClaim := { program := "ytgiimghbfplmfaa", sum := "2bb8b12fd9e89fd9eb1ba158a279cddf1f1ec37ef871a9edfb2f45a3fccc6815", func := "ashlar/ashlarlaw2.RatSums", spec := "ratSums", unfollowed := true, recurses := true, apart := false, narrowed := true }
def RatSumsUptoSaid : Prop := ratSumsUptoRow.holds Try.pinned (OpenSpec.upto ratSumsSpec)

/-- 'ashlarlaw2.RatField', WHERE WHAT IT READS IS OF BULK AT MOST 1048576: true; the input reads as it did. -/
def ratFieldUptoRow : OpenClaim := { program := "ytgiimghbfplmfaa", sum := "2bb8b12fd9e89fd9eb1ba158a279cddf1f1ec37ef871a9edfb2f45a3fccc6815", func := "ashlar/ashlarlaw2.RatField", spec := "ratField", unfollowed := true, recurses := true, apart := false, narrowed := true }
def RatFieldUptoSaid : Prop := ratFieldUptoRow.holds Try.pinned (OpenSpec.upto ratFieldSpec)

/-- 'ashlarlaw2.RatText', WHERE WHAT IT READS IS OF BULK AT MOST 1048576: true; the input reads as it did. -/
def ratTextUptoRow : OpenClaim := { program := "ytgiimghbfplmfaa", sum := "2bb8b12fd9e89fd9eb1ba158a279cddf1f1ec37ef871a9edfb2f45a3fccc6815", func := "ashlar/ashlarlaw2.RatText", spec := "ratText", inPlace := ["internal/bytealg.IndexByteString", "internal/bytealg.IndexString"], unfollowed := true, recurses := true, named := ["internal/bytealg.MaxLen"], apart := false, narrowed := true }
def RatTextUptoSaid : Prop := ratTextUptoRow.holds Try.pinned (OpenSpec.upto ratTextSpec)

/-- 'ashlarlaw3.PolyOf', WHERE WHAT IT READS IS OF BULK AT MOST 1048576: true; the input reads as it did. -/
def polyOfUptoRow : OpenClaim := { program := "ytgiimghbfplmfaa", sum := "2bb8b12fd9e89fd9eb1ba158a279cddf1f1ec37ef871a9edfb2f45a3fccc6815", func := "ashlar/ashlarlaw3.PolyOf", spec := "polyOf", unfollowed := true, recurses := true, apart := false, narrowed := true }
def PolyOfUptoSaid : Prop := polyOfUptoRow.holds Try.pinned (OpenSpec.upto polyOfSpec)

/-- 'ashlarlaw3.PolyContent', WHERE WHAT IT READS IS OF BULK AT MOST 1048576: true; the input reads as it did. -/
def polyContentUptoRow : OpenClaim := { program := "ytgiimghbfplmfaa", sum := "2bb8b12fd9e89fd9eb1ba158a279cddf1f1ec37ef871a9edfb2f45a3fccc6815", func := "ashlar/ashlarlaw3.PolyContent", spec := "polyContent", unfollowed := true, recurses := true, apart := false, narrowed := true }
def PolyContentUptoSaid : Prop := polyContentUptoRow.holds Try.pinned (OpenSpec.upto polyContentSpec)

/-- 'ashlarlaw3.PolyExact', WHERE WHAT IT READS IS OF BULK AT MOST 1048576: true; the input reads as it did. -/
def polyExactUptoRow : OpenClaim := { program := "ytgiimghbfplmfaa", sum := "2bb8b12fd9e89fd9eb1ba158a279cddf1f1ec37ef871a9edfb2f45a3fccc6815", func := "ashlar/ashlarlaw3.PolyExact", spec := "polyExact", unfollowed := true, recurses := true, apart := false, narrowed := true }
def PolyExactUptoSaid : Prop := polyExactUptoRow.holds Try.pinned (OpenSpec.upto polyExactSpec)

/-- 'ashlarlaw3.PolyTerms', WHERE WHAT IT READS IS OF BULK AT MOST 1048576: true; the input reads as it did. -/
def polyTermsUptoRow : OpenClaim := { program := "ytgiimghbfplmfaa", sum := "2bb8b12fd9e89fd9eb1ba158a279cddf1f1ec37ef871a9edfb2f45a3fccc6815", func := "ashlar/ashlarlaw3.PolyTerms", spec := "polyTerms", unfollowed := true, recurses := true, apart := false, narrowed := true }
def PolyTermsUptoSaid : Prop := polyTermsUptoRow.holds Try.pinned (OpenSpec.upto polyTermsSpec)

/-- 'ashlarlaw3.PolyForms', WHERE WHAT IT READS IS OF BULK AT MOST 1048576: true; the input reads as it did. -/
def polyFormsUptoRow : OpenClaim := { program := "ytgiimghbfplmfaa", sum := "2bb8b12fd9e89fd9eb1ba158a279cddf1f1ec37ef871a9edfb2f45a3fccc6815", func := "ashlar/ashlarlaw3.PolyForms", spec := "polyForms", unfollowed := true, recurses := true, apart := false, narrowed := true }
def PolyFormsUptoSaid : Prop := polyFormsUptoRow.holds Try.pinned (OpenSpec.upto polyFormsSpec)

/-- 'ashlarlaw3.PolyPseudo', WHERE WHAT IT READS IS OF BULK AT MOST 1048576: true; the input reads as it did. -/
def polyPseudoUptoRow : OpenClaim := { program := "ytgiimghbfplmfaa", sum := "2bb8b12fd9e89fd9eb1ba158a279cddf1f1ec37ef871a9edfb2f45a3fccc6815", func := "ashlar/ashlarlaw3.PolyPseudo", spec := "polyPseudo", unfollowed := true, recurses := true, apart := false, narrowed := true }
def PolyPseudoUptoSaid : Prop := polyPseudoUptoRow.holds Try.pinned (OpenSpec.upto polyPseudoSpec)

/-- 'ashlarlaw3.PolyShift', WHERE WHAT IT READS IS OF BULK AT MOST 1048576: true; the input reads as it did. -/
def polyShiftUptoRow : OpenClaim := { program := "ytgiimghbfplmfaa", sum := "2bb8b12fd9e89fd9eb1ba158a279cddf1f1ec37ef871a9edfb2f45a3fccc6815", func := "ashlar/ashlarlaw3.PolyShift", spec := "polyShift", unfollowed := true, recurses := true, apart := false, narrowed := true }
def PolyShiftUptoSaid : Prop := polyShiftUptoRow.holds Try.pinned (OpenSpec.upto polyShiftSpec)

/-- 'ashlarlaw3.PolyRing', WHERE WHAT IT READS IS OF BULK AT MOST 1048576: true; the input reads as it did. -/
def polyRingUptoRow : OpenClaim := { program := "ytgiimghbfplmfaa", sum := "2bb8b12fd9e89fd9eb1ba158a279cddf1f1ec37ef871a9edfb2f45a3fccc6815", func := "ashlar/ashlarlaw3.PolyRing", spec := "polyRing", unfollowed := true, recurses := true, apart := false, narrowed := true }
def PolyRingUptoSaid : Prop := polyRingUptoRow.holds Try.pinned (OpenSpec.upto polyRingSpec)

/-- 'ashlarlaw3.PolySums', WHERE WHAT IT READS IS OF BULK AT MOST 1048576: true; the input reads as it did. -/
def polySumsUptoRow : OpenClaim := { program := "ytgiimghbfplmfaa", sum := "2bb8b12fd9e89fd9eb1ba158a279cddf1f1ec37ef871a9edfb2f45a3fccc6815", func := "ashlar/ashlarlaw3.PolySums", spec := "polySums", unfollowed := true, recurses := true, apart := false, narrowed := true }
def PolySumsUptoSaid : Prop := polySumsUptoRow.holds Try.pinned (OpenSpec.upto polySumsSpec)

end Rows
end Go.Proofs.Ytgiimghbfplmfaa
