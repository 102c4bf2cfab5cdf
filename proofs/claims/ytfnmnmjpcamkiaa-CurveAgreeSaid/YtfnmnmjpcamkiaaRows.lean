/-
  No cell of these rows narrows 'for every input' (looked for: loops, veiled, ifaces, maps, wideKeys, modest, calm, conditions, laid).
  DERIVED. THE GIVEN ROWS OF THIS SEAT. 16 by the template 'for every input the law returns true; each argument reads behind the call as it read before'; 0 by the template 'total and deterministic' (their statements: YtfnmnmjpcamkiaaTotals.lean).
  GIVEN WITH THE SEED: the statements are not yours to turn. If you find one false, say at which input.
  Laid BY PROGRAM, IN A SANDBOX (cutbox-rows.mjs): the forced cells as the released guide's own fill.sh prints them over the translation 2928cc5af28e6b73… (all of the seat's roots in one cut). By AI agents, Wed Nov 11 2026. No macro, syntax, notation, axiom, sorry.
-/
import Derived.Test.YtfnmnmjpcamkiaaChecked
import GoSem.Claim
import GoSem.ClaimJoined
import GoSem.ClaimMapViews
import Derived.JoinedTies
import Derived.KernelRfl
namespace Go.Proofs.Ytfnmnmjpcamkiaa
/- THE CELL 'sum', in the pinned program and in every row, IS THE sha256 OF THE DUMP (.gsa) THAT YtfnmnmjpcamkiaaProg.lean LOADS. Nothing in Lean hashes anything: it is a label: what it is worth is what the hold of that sum in a sandbox is worth. -/
noncomputable def Try.pinned : Pinned := { name := "ytfnmnmjpcamkiaa", sum := "2928cc5af28e6b730eec3fcf88f84e2cccdfd6ee95ad7960d983a2f26e81a554", checked := Try.checked }
namespace Rows
def none {H : Type} : Left H := { results := [], args := [] }

/-- 'dovecotelaw01.FieldChecks': WHATEVER THE INPUT: true; the input reads as it did. -/
def fieldChecksSpec : ChangeSpec := { name := "fieldChecks", fn := fun _ => fun
  | [d1, d2, d3] => { results := [.lit (.bool true)], args := [d1, d2, d3] }
  | _ => none }
def fieldChecksRow : OpenClaim := { program := "ytfnmnmjpcamkiaa", sum := "2928cc5af28e6b730eec3fcf88f84e2cccdfd6ee95ad7960d983a2f26e81a554", func := "dovecote/dovecotelaw01.FieldChecks", spec := "fieldChecks", inPlace := ["math/bits.Add64"], apart := false }
def FieldChecksSaid : Prop := fieldChecksRow.holds Try.pinned (OpenSpec.ofChange fieldChecksSpec)

/-- ITS FALSE NEIGHBOUR: 'it returns false'. Refute it at one input. -/
def fieldChecksWrong : ChangeSpec := { name := "fieldChecks", fn := fun _ => fun
  | [d1, d2, d3] => { results := [.lit (.bool false)], args := [d1, d2, d3] }
  | _ => none }
def FieldChecksWrongFalsely : Prop := fieldChecksRow.holds Try.pinned (OpenSpec.ofChange fieldChecksWrong)

/-- 'dovecotelaw01.FieldSums': WHATEVER THE INPUT: true; the input reads as it did. -/
def fieldSumsSpec : ChangeSpec := { name := "fieldSums", fn := fun _ => fun
  | [d] => { results := [.lit (.bool true)], args := [d] }
  | _ => none }
def fieldSumsRow : OpenClaim := { program := "ytfnmnmjpcamkiaa", sum := "2928cc5af28e6b730eec3fcf88f84e2cccdfd6ee95ad7960d983a2f26e81a554", func := "dovecote/dovecotelaw01.FieldSums", spec := "fieldSums", inPlace := ["math/bits.Add64"], apart := false }
def FieldSumsSaid : Prop := fieldSumsRow.holds Try.pinned (OpenSpec.ofChange fieldSumsSpec)

/-- ITS FALSE NEIGHBOUR: 'it returns false'. Refute it at one input. -/
def fieldSumsWrong : ChangeSpec := { name := "fieldSums", fn := fun _ => fun
  | [d] => { results := [.lit (.bool false)], args := [d] }
  | _ => none }
def FieldSumsWrongFalsely : Prop := fieldSumsRow.holds Try.pinned (OpenSpec.ofChange fieldSumsWrong)

/-- 'dovecotelaw01.FieldProducts': WHATEVER THE INPUT: true; the input reads as it did. -/
def fieldProductsSpec : ChangeSpec := { name := "fieldProducts", fn := fun _ => fun
  | [d] => { results := [.lit (.bool true)], args := [d] }
  | _ => none }
def fieldProductsRow : OpenClaim := { program := "ytfnmnmjpcamkiaa", sum := "2928cc5af28e6b730eec3fcf88f84e2cccdfd6ee95ad7960d983a2f26e81a554", func := "dovecote/dovecotelaw01.FieldProducts", spec := "fieldProducts", inPlace := ["math/bits.Add64"], apart := false }
def FieldProductsSaid : Prop := fieldProductsRow.holds Try.pinned (OpenSpec.ofChange fieldProductsSpec)

/-- ITS FALSE NEIGHBOUR: 'it returns false'. Refute it at one input. -/
def fieldProductsWrong : ChangeSpec := { name := "fieldProducts", fn := fun _ => fun
  | [d] => { results := [.lit (.bool false)], args := [d] }
  | _ => none }
def FieldProductsWrongFalsely : Prop := fieldProductsRow.holds Try.pinned (OpenSpec.ofChange fieldProductsWrong)

/-- 'dovecotelaw01.FieldTwos': WHATEVER THE INPUT: true; the input reads as it did. -/
def fieldTwosSpec : ChangeSpec := { name := "fieldTwos", fn := fun _ => fun
  | [d1, d2] => { results := [.lit (.bool true)], args := [d1, d2] }
  | _ => none }
def fieldTwosRow : OpenClaim := { program := "ytfnmnmjpcamkiaa", sum := "2928cc5af28e6b730eec3fcf88f84e2cccdfd6ee95ad7960d983a2f26e81a554", func := "dovecote/dovecotelaw01.FieldTwos", spec := "fieldTwos", inPlace := ["math/bits.Add64"], apart := false }
def FieldTwosSaid : Prop := fieldTwosRow.holds Try.pinned (OpenSpec.ofChange fieldTwosSpec)

/-- ITS FALSE NEIGHBOUR: 'it returns false'. Refute it at one input. -/
def fieldTwosWrong : ChangeSpec := { name := "fieldTwos", fn := fun _ => fun
  | [d1, d2] => { results := [.lit (.bool false)], args := [d1, d2] }
  | _ => none }
def FieldTwosWrongFalsely : Prop := fieldTwosRow.holds Try.pinned (OpenSpec.ofChange fieldTwosWrong)

/-- 'dovecotelaw01.FieldRing': WHATEVER THE INPUT: true; the input reads as it did. -/
def fieldRingSpec : ChangeSpec := { name := "fieldRing", fn := fun _ => fun
  | [d1, d2, d3] => { results := [.lit (.bool true)], args := [d1, d2, d3] }
  | _ => none }
def fieldRingRow : OpenClaim := { program := "ytfnmnmjpcamkiaa", sum := "2928cc5af28e6b730eec3fcf88f84e2cccdfd6ee95ad7960d983a2f26e81a554", func := "dovecote/dovecotelaw01.FieldRing", spec := "fieldRing", inPlace := ["math/bits.Add64"], apart := false }
def FieldRingSaid : Prop := fieldRingRow.holds Try.pinned (OpenSpec.ofChange fieldRingSpec)

/-- ITS FALSE NEIGHBOUR: 'it returns false'. Refute it at one input. -/
def fieldRingWrong : ChangeSpec := { name := "fieldRing", fn := fun _ => fun
  | [d1, d2, d3] => { results := [.lit (.bool false)], args := [d1, d2, d3] }
  | _ => none }
def FieldRingWrongFalsely : Prop := fieldRingRow.holds Try.pinned (OpenSpec.ofChange fieldRingWrong)

/-- 'dovecotelaw01.FieldBack': WHATEVER THE INPUT: true; the input reads as it did. -/
def fieldBackSpec : ChangeSpec := { name := "fieldBack", fn := fun _ => fun
  | [d1, d2] => { results := [.lit (.bool true)], args := [d1, d2] }
  | _ => none }
def fieldBackRow : OpenClaim := { program := "ytfnmnmjpcamkiaa", sum := "2928cc5af28e6b730eec3fcf88f84e2cccdfd6ee95ad7960d983a2f26e81a554", func := "dovecote/dovecotelaw01.FieldBack", spec := "fieldBack", inPlace := ["math/bits.Add64"], apart := false }
def FieldBackSaid : Prop := fieldBackRow.holds Try.pinned (OpenSpec.ofChange fieldBackSpec)

/-- ITS FALSE NEIGHBOUR: 'it returns false'. Refute it at one input. -/
def fieldBackWrong : ChangeSpec := { name := "fieldBack", fn := fun _ => fun
  | [d1, d2] => { results := [.lit (.bool false)], args := [d1, d2] }
  | _ => none }
def FieldBackWrongFalsely : Prop := fieldBackRow.holds Try.pinned (OpenSpec.ofChange fieldBackWrong)

/-- 'dovecotelaw01.FieldSigns': WHATEVER THE INPUT: true; the input reads as it did. -/
def fieldSignsSpec : ChangeSpec := { name := "fieldSigns", fn := fun _ => fun
  | [d1, d2] => { results := [.lit (.bool true)], args := [d1, d2] }
  | _ => none }
def fieldSignsRow : OpenClaim := { program := "ytfnmnmjpcamkiaa", sum := "2928cc5af28e6b730eec3fcf88f84e2cccdfd6ee95ad7960d983a2f26e81a554", func := "dovecote/dovecotelaw01.FieldSigns", spec := "fieldSigns", inPlace := ["math/bits.Add64"], apart := false }
def FieldSignsSaid : Prop := fieldSignsRow.holds Try.pinned (OpenSpec.ofChange fieldSignsSpec)

/-- ITS FALSE NEIGHBOUR: 'it returns false'. Refute it at one input. -/
def fieldSignsWrong : ChangeSpec := { name := "fieldSigns", fn := fun _ => fun
  | [d1, d2] => { results := [.lit (.bool false)], args := [d1, d2] }
  | _ => none }
def FieldSignsWrongFalsely : Prop := fieldSignsRow.holds Try.pinned (OpenSpec.ofChange fieldSignsWrong)

/-- 'dovecotelaw01.FieldWide': WHATEVER THE INPUT: true; the input reads as it did. -/
def fieldWideSpec : ChangeSpec := { name := "fieldWide", fn := fun _ => fun
  | [d1, d2] => { results := [.lit (.bool true)], args := [d1, d2] }
  | _ => none }
def fieldWideRow : OpenClaim := { program := "ytfnmnmjpcamkiaa", sum := "2928cc5af28e6b730eec3fcf88f84e2cccdfd6ee95ad7960d983a2f26e81a554", func := "dovecote/dovecotelaw01.FieldWide", spec := "fieldWide", inPlace := ["math/bits.Add64"], apart := false }
def FieldWideSaid : Prop := fieldWideRow.holds Try.pinned (OpenSpec.ofChange fieldWideSpec)

/-- ITS FALSE NEIGHBOUR: 'it returns false'. Refute it at one input. -/
def fieldWideWrong : ChangeSpec := { name := "fieldWide", fn := fun _ => fun
  | [d1, d2] => { results := [.lit (.bool false)], args := [d1, d2] }
  | _ => none }
def FieldWideWrongFalsely : Prop := fieldWideRow.holds Try.pinned (OpenSpec.ofChange fieldWideWrong)

/-- 'dovecotelaw02.CurveTimes': WHATEVER THE INPUT: true; the input reads as it did. -/
def curveTimesSpec : ChangeSpec := { name := "curveTimes", fn := fun _ => fun
  | [d1, d2] => { results := [.lit (.bool true)], args := [d1, d2] }
  | _ => none }
def curveTimesRow : OpenClaim := { program := "ytfnmnmjpcamkiaa", sum := "2928cc5af28e6b730eec3fcf88f84e2cccdfd6ee95ad7960d983a2f26e81a554", func := "dovecote/dovecotelaw02.CurveTimes", spec := "curveTimes", inPlace := ["math/bits.Add64"], apart := false }
def CurveTimesSaid : Prop := curveTimesRow.holds Try.pinned (OpenSpec.ofChange curveTimesSpec)

/-- ITS FALSE NEIGHBOUR: 'it returns false'. Refute it at one input. -/
def curveTimesWrong : ChangeSpec := { name := "curveTimes", fn := fun _ => fun
  | [d1, d2] => { results := [.lit (.bool false)], args := [d1, d2] }
  | _ => none }
def CurveTimesWrongFalsely : Prop := curveTimesRow.holds Try.pinned (OpenSpec.ofChange curveTimesWrong)

/-- 'dovecotelaw01.FieldPowers': WHATEVER THE INPUT: true; the input reads as it did. -/
def fieldPowersSpec : ChangeSpec := { name := "fieldPowers", fn := fun _ => fun
  | [d1, d2] => { results := [.lit (.bool true)], args := [d1, d2] }
  | _ => none }
def fieldPowersRow : OpenClaim := { program := "ytfnmnmjpcamkiaa", sum := "2928cc5af28e6b730eec3fcf88f84e2cccdfd6ee95ad7960d983a2f26e81a554", func := "dovecote/dovecotelaw01.FieldPowers", spec := "fieldPowers", inPlace := ["math/bits.Add64"], apart := false }
def FieldPowersSaid : Prop := fieldPowersRow.holds Try.pinned (OpenSpec.ofChange fieldPowersSpec)

/-- ITS FALSE NEIGHBOUR: 'it returns false'. Refute it at one input. -/
def fieldPowersWrong : ChangeSpec := { name := "fieldPowers", fn := fun _ => fun
  | [d1, d2] => { results := [.lit (.bool false)], args := [d1, d2] }
  | _ => none }
def FieldPowersWrongFalsely : Prop := fieldPowersRow.holds Try.pinned (OpenSpec.ofChange fieldPowersWrong)

/-- 'dovecotelaw01.FieldSquares': WHATEVER THE INPUT: true; the input reads as it did. -/
def fieldSquaresSpec : ChangeSpec := { name := "fieldSquares", fn := fun _ => fun
  | [d1, d2, d3] => { results := [.lit (.bool true)], args := [d1, d2, d3] }
  | _ => none }
def fieldSquaresRow : OpenClaim := { program := "ytfnmnmjpcamkiaa", sum := "2928cc5af28e6b730eec3fcf88f84e2cccdfd6ee95ad7960d983a2f26e81a554", func := "dovecote/dovecotelaw01.FieldSquares", spec := "fieldSquares", inPlace := ["math/bits.Add64"], apart := false }
def FieldSquaresSaid : Prop := fieldSquaresRow.holds Try.pinned (OpenSpec.ofChange fieldSquaresSpec)

/-- ITS FALSE NEIGHBOUR: 'it returns false'. Refute it at one input. -/
def fieldSquaresWrong : ChangeSpec := { name := "fieldSquares", fn := fun _ => fun
  | [d1, d2, d3] => { results := [.lit (.bool false)], args := [d1, d2, d3] }
  | _ => none }
def FieldSquaresWrongFalsely : Prop := fieldSquaresRow.holds Try.pinned (OpenSpec.ofChange fieldSquaresWrong)

/-- 'dovecotelaw02.CurveShared': WHATEVER THE INPUT: true; the input reads as it did. -/
def curveSharedSpec : ChangeSpec := { name := "curveShared", fn := fun _ => fun
  | [d1, d2] => { results := [.lit (.bool true)], args := [d1, d2] }
  | _ => none }
def curveSharedRow : OpenClaim := { program := "ytfnmnmjpcamkiaa", sum := "2928cc5af28e6b730eec3fcf88f84e2cccdfd6ee95ad7960d983a2f26e81a554", func := "dovecote/dovecotelaw02.CurveShared", spec := "curveShared", inPlace := ["math/bits.Add64"], apart := false }
def CurveSharedSaid : Prop := curveSharedRow.holds Try.pinned (OpenSpec.ofChange curveSharedSpec)

/-- ITS FALSE NEIGHBOUR: 'it returns false'. Refute it at one input. -/
def curveSharedWrong : ChangeSpec := { name := "curveShared", fn := fun _ => fun
  | [d1, d2] => { results := [.lit (.bool false)], args := [d1, d2] }
  | _ => none }
def CurveSharedWrongFalsely : Prop := curveSharedRow.holds Try.pinned (OpenSpec.ofChange curveSharedWrong)

/-- 'dovecotelaw02.CurveBits': WHATEVER THE INPUT: true; the input reads as it did. -/
def curveBitsSpec : ChangeSpec := { name := "curveBits", fn := fun _ => fun
  | [d1, d2, d3] => { results := [.lit (.bool true)], args := [d1, d2, d3] }
  | _ => none }
def curveBitsRow : OpenClaim := { program := "ytfnmnmjpcamkiaa", sum := "2928cc5af28e6b730eec3fcf88f84e2cccdfd6ee95ad7960d983a2f26e81a554", func := "dovecote/dovecotelaw02.CurveBits", spec := "curveBits", inPlace := ["math/bits.Add64"], apart := false }
def CurveBitsSaid : Prop := curveBitsRow.holds Try.pinned (OpenSpec.ofChange curveBitsSpec)

/-- ITS FALSE NEIGHBOUR: 'it returns false'. Refute it at one input. -/
def curveBitsWrong : ChangeSpec := { name := "curveBits", fn := fun _ => fun
  | [d1, d2, d3] => { results := [.lit (.bool false)], args := [d1, d2, d3] }
  | _ => none }
def CurveBitsWrongFalsely : Prop := curveBitsRow.holds Try.pinned (OpenSpec.ofChange curveBitsWrong)

/-- 'dovecotelaw02.CurveChains': WHATEVER THE INPUT: true; the input reads as it did. -/
def curveChainsSpec : ChangeSpec := { name := "curveChains", fn := fun _ => fun
  | [d1, d2] => { results := [.lit (.bool true)], args := [d1, d2] }
  | _ => none }
def curveChainsRow : OpenClaim := { program := "ytfnmnmjpcamkiaa", sum := "2928cc5af28e6b730eec3fcf88f84e2cccdfd6ee95ad7960d983a2f26e81a554", func := "dovecote/dovecotelaw02.CurveChains", spec := "curveChains", inPlace := ["math/bits.Add64"], apart := false }
def CurveChainsSaid : Prop := curveChainsRow.holds Try.pinned (OpenSpec.ofChange curveChainsSpec)

/-- ITS FALSE NEIGHBOUR: 'it returns false'. Refute it at one input. -/
def curveChainsWrong : ChangeSpec := { name := "curveChains", fn := fun _ => fun
  | [d1, d2] => { results := [.lit (.bool false)], args := [d1, d2] }
  | _ => none }
def CurveChainsWrongFalsely : Prop := curveChainsRow.holds Try.pinned (OpenSpec.ofChange curveChainsWrong)

/-- 'dovecotelaw02.CurveSteps': WHATEVER THE INPUT: true; the input reads as it did. -/
def curveStepsSpec : ChangeSpec := { name := "curveSteps", fn := fun _ => fun
  | [d1, d2, d3] => { results := [.lit (.bool true)], args := [d1, d2, d3] }
  | _ => none }
def curveStepsRow : OpenClaim := { program := "ytfnmnmjpcamkiaa", sum := "2928cc5af28e6b730eec3fcf88f84e2cccdfd6ee95ad7960d983a2f26e81a554", func := "dovecote/dovecotelaw02.CurveSteps", spec := "curveSteps", inPlace := ["math/bits.Add64"], apart := false }
def CurveStepsSaid : Prop := curveStepsRow.holds Try.pinned (OpenSpec.ofChange curveStepsSpec)

/-- ITS FALSE NEIGHBOUR: 'it returns false'. Refute it at one input. -/
def curveStepsWrong : ChangeSpec := { name := "curveSteps", fn := fun _ => fun
  | [d1, d2, d3] => { results := [.lit (.bool false)], args := [d1, d2, d3] }
  | _ => none }
def CurveStepsWrongFalsely : Prop := curveStepsRow.holds Try.pinned (OpenSpec.ofChange curveStepsWrong)

/-- 'dovecotelaw02.CurveAgree': WHATEVER THE INPUT: true; the input reads as it did. -/
def curveAgreeSpec : ChangeSpec := { name := "curveAgree", fn := fun _ => fun
  | [d1, d2, d3] => { results := [.lit (.bool true)], args := [d1, d2, d3] }
  | _ => none }
def curveAgreeRow : OpenClaim := { program := "ytfnmnmjpcamkiaa", sum := "2928cc5af28e6b730eec3fcf88f84e2cccdfd6ee95ad7960d983a2f26e81a554", func := "dovecote/dovecotelaw02.CurveAgree", spec := "curveAgree", inPlace := ["math/bits.Add64"], apart := false }
def CurveAgreeSaid : Prop := curveAgreeRow.holds Try.pinned (OpenSpec.ofChange curveAgreeSpec)

/-- ITS FALSE NEIGHBOUR: 'it returns false'. Refute it at one input. -/
def curveAgreeWrong : ChangeSpec := { name := "curveAgree", fn := fun _ => fun
  | [d1, d2, d3] => { results := [.lit (.bool false)], args := [d1, d2, d3] }
  | _ => none }
def CurveAgreeWrongFalsely : Prop := curveAgreeRow.holds Try.pinned (OpenSpec.ofChange curveAgreeWrong)

/- THE SECOND FORM. 'bulk': how many values and letters a reading holds, each counted each time it is reached (what is shared counts as often as it is met; a slice's spare places count too). A statement '..UptoSaid' is the law's where the arguments, and the package variables that the reading takes, are together of bulk at most 1048576: NARROWER than '..Said'. Prove '..Said' where nothing that the law and all that it calls make is longer than what came in: it says more and counts as full. Else prove '..UptoSaid'. A law counts once. -/
mutual
def uptoBulk {H : Type} : DataW H → Nat
  | .lit (.string bytes) => bytes.length + 1
  | .lit _ => 1
  | .nil => 1
  | .ptr d => uptoBulk d + 1
  | .slice elems spare => uptoBulkAll elems + uptoBulkAll spare + 1
  | .agg parts => uptoBulkAll parts + 1
  | .iface _ d => uptoBulk d + 1
  | .map entries => uptoBulkEntries entries + 1
  | .held _ => 1
def uptoBulkAll {H : Type} : List (DataW H) → Nat
  | [] => 0
  | d :: r => uptoBulk d + uptoBulkAll r
def uptoBulkEntries {H : Type} : List (Lit × DataW H) → Nat
  | [] => 0
  | x :: r => uptoBulkEntry x + uptoBulkEntries r
def uptoBulkEntry {H : Type} : Lit × DataW H → Nat
  | (.string bytes, d) => bytes.length + uptoBulk d + 1
  | (_, d) => uptoBulk d + 1
 end
def uptoSmall : (H : Type) → List (DataW H) → Bool := fun _ ds => decide (uptoBulkAll ds ≤ 1048576)
def OpenSpec.upto (s : _root_.Go.ChangeSpec) : _root_.Go.OpenSpec := { _root_.Go.OpenSpec.ofChange s with cond := some uptoSmall }

/-- 'dovecotelaw01.FieldChecks', WHERE WHAT IT READS IS OF BULK AT MOST 1048576: true; the input reads as it did. -/
def fieldChecksUptoRow : OpenClaim := { program := "ytfnmnmjpcamkiaa", sum := "2928cc5af28e6b730eec3fcf88f84e2cccdfd6ee95ad7960d983a2f26e81a554", func := "dovecote/dovecotelaw01.FieldChecks", spec := "fieldChecks", inPlace := ["math/bits.Add64"], apart := false, narrowed := true }
def FieldChecksUptoSaid : Prop := fieldChecksUptoRow.holds Try.pinned (OpenSpec.upto fieldChecksSpec)

/-- 'dovecotelaw01.FieldSums', WHERE WHAT IT READS IS OF BULK AT MOST 1048576: true; the input reads as it did. -/
def fieldSumsUptoRow : OpenClaim := { program := "ytfnmnmjpcamkiaa", sum := "2928cc5af28e6b730eec3fcf88f84e2cccdfd6ee95ad7960d983a2f26e81a554", func := "dovecote/dovecotelaw01.FieldSums", spec := "fieldSums", inPlace := ["math/bits.Add64"], apart := false, narrowed := true }
def FieldSumsUptoSaid : Prop := fieldSumsUptoRow.holds Try.pinned (OpenSpec.upto fieldSumsSpec)

/-- 'dovecotelaw01.FieldProducts', WHERE WHAT IT READS IS OF BULK AT MOST 1048576: true; the input reads as it did. -/
def fieldProductsUptoRow : OpenClaim := { program := "ytfnmnmjpcamkiaa", sum := "2928cc5af28e6b730eec3fcf88f84e2cccdfd6ee95ad7960d983a2f26e81a554", func := "dovecote/dovecotelaw01.FieldProducts", spec := "fieldProducts", inPlace := ["math/bits.Add64"], apart := false, narrowed := true }
def FieldProductsUptoSaid : Prop := fieldProductsUptoRow.holds Try.pinned (OpenSpec.upto fieldProductsSpec)

/-- 'dovecotelaw01.FieldTwos', WHERE WHAT IT READS IS OF BULK AT MOST 1048576: true; the input reads as it did. -/
def fieldTwosUptoRow : OpenClaim := { program := "ytfnmnmjpcamkiaa", sum := "2928cc5af28e6b730eec3fcf88f84e2cccdfd6ee95ad7960d983a2f26e81a554", func := "dovecote/dovecotelaw01.FieldTwos", spec := "fieldTwos", inPlace := ["math/bits.Add64"], apart := false, narrowed := true }
def FieldTwosUptoSaid : Prop := fieldTwosUptoRow.holds Try.pinned (OpenSpec.upto fieldTwosSpec)

/-- 'dovecotelaw01.FieldRing', WHERE WHAT IT READS IS OF BULK AT MOST 1048576: true; the input reads as it did. -/
def fieldRingUptoRow : OpenClaim := { program := "ytfnmnmjpcamkiaa", sum := "2928cc5af28e6b730eec3fcf88f84e2cccdfd6ee95ad7960d983a2f26e81a554", func := "dovecote/dovecotelaw01.FieldRing", spec := "fieldRing", inPlace := ["math/bits.Add64"], apart := false, narrowed := true }
def FieldRingUptoSaid : Prop := fieldRingUptoRow.holds Try.pinned (OpenSpec.upto fieldRingSpec)

/-- 'dovecotelaw01.FieldBack', WHERE WHAT IT READS IS OF BULK AT MOST 1048576: true; the input reads as it did. -/
def fieldBackUptoRow : OpenClaim := { program := "ytfnmnmjpcamkiaa", sum := "2928cc5af28e6b730eec3fcf88f84e2cccdfd6ee95ad7960d983a2f26e81a554", func := "dovecote/dovecotelaw01.FieldBack", spec := "fieldBack", inPlace := ["math/bits.Add64"], apart := false, narrowed := true }
def FieldBackUptoSaid : Prop := fieldBackUptoRow.holds Try.pinned (OpenSpec.upto fieldBackSpec)

/-- 'dovecotelaw01.FieldSigns', WHERE WHAT IT READS IS OF BULK AT MOST 1048576: true; the input reads as it did. -/
def fieldSignsUptoRow : OpenClaim := { program := "ytfnmnmjpcamkiaa", sum := "2928cc5af28e6b730eec3fcf88f84e2cccdfd6ee95ad7960d983a2f26e81a554", func := "dovecote/dovecotelaw01.FieldSigns", spec := "fieldSigns", inPlace := ["math/bits.Add64"], apart := false, narrowed := true }
def FieldSignsUptoSaid : Prop := fieldSignsUptoRow.holds Try.pinned (OpenSpec.upto fieldSignsSpec)

/-- 'dovecotelaw01.FieldWide', WHERE WHAT IT READS IS OF BULK AT MOST 1048576: true; the input reads as it did. -/
def fieldWideUptoRow : OpenClaim := { program := "ytfnmnmjpcamkiaa", sum := "2928cc5af28e6b730eec3fcf88f84e2cccdfd6ee95ad7960d983a2f26e81a554", func := "dovecote/dovecotelaw01.FieldWide", spec := "fieldWide", inPlace := ["math/bits.Add64"], apart := false, narrowed := true }
def FieldWideUptoSaid : Prop := fieldWideUptoRow.holds Try.pinned (OpenSpec.upto fieldWideSpec)

/-- 'dovecotelaw02.CurveTimes', WHERE WHAT IT READS IS OF BULK AT MOST 1048576: true; the input reads as it did. -/
def curveTimesUptoRow : OpenClaim := { program := "ytfnmnmjpcamkiaa", sum := "2928cc5af28e6b730eec3fcf88f84e2cccdfd6ee95ad7960d983a2f26e81a554", func := "dovecote/dovecotelaw02.CurveTimes", spec := "curveTimes", inPlace := ["math/bits.Add64"], apart := false, narrowed := true }
def CurveTimesUptoSaid : Prop := curveTimesUptoRow.holds Try.pinned (OpenSpec.upto curveTimesSpec)

/-- 'dovecotelaw01.FieldPowers', WHERE WHAT IT READS IS OF BULK AT MOST 1048576: true; the input reads as it did. -/
def fieldPowersUptoRow : OpenClaim := { program := "ytfnmnmjpcamkiaa", sum := "2928cc5af28e6b730eec3fcf88f84e2cccdfd6ee95ad7960d983a2f26e81a554", func := "dovecote/dovecotelaw01.FieldPowers", spec := "fieldPowers", inPlace := ["math/bits.Add64"], apart := false, narrowed := true }
def FieldPowersUptoSaid : Prop := fieldPowersUptoRow.holds Try.pinned (OpenSpec.upto fieldPowersSpec)

/-- 'dovecotelaw01.FieldSquares', WHERE WHAT IT READS IS OF BULK AT MOST 1048576: true; the input reads as it did. -/
def fieldSquaresUptoRow : OpenClaim := { program := "ytfnmnmjpcamkiaa", sum := "2928cc5af28e6b730eec3fcf88f84e2cccdfd6ee95ad7960d983a2f26e81a554", func := "dovecote/dovecotelaw01.FieldSquares", spec := "fieldSquares", inPlace := ["math/bits.Add64"], apart := false, narrowed := true }
def FieldSquaresUptoSaid : Prop := fieldSquaresUptoRow.holds Try.pinned (OpenSpec.upto fieldSquaresSpec)

/-- 'dovecotelaw02.CurveShared', WHERE WHAT IT READS IS OF BULK AT MOST 1048576: true; the input reads as it did. -/
def curveSharedUptoRow : OpenClaim := { program := "ytfnmnmjpcamkiaa", sum := "2928cc5af28e6b730eec3fcf88f84e2cccdfd6ee95ad7960d983a2f26e81a554", func := "dovecote/dovecotelaw02.CurveShared", spec := "curveShared", inPlace := ["math/bits.Add64"], apart := false, narrowed := true }
def CurveSharedUptoSaid : Prop := curveSharedUptoRow.holds Try.pinned (OpenSpec.upto curveSharedSpec)

/-- 'dovecotelaw02.CurveBits', WHERE WHAT IT READS IS OF BULK AT MOST 1048576: true; the input reads as it did. -/
def curveBitsUptoRow : OpenClaim := { program := "ytfnmnmjpcamkiaa", sum := "2928cc5af28e6b730eec3fcf88f84e2cccdfd6ee95ad7960d983a2f26e81a554", func := "dovecote/dovecotelaw02.CurveBits", spec := "curveBits", inPlace := ["math/bits.Add64"], apart := false, narrowed := true }
def CurveBitsUptoSaid : Prop := curveBitsUptoRow.holds Try.pinned (OpenSpec.upto curveBitsSpec)

/-- 'dovecotelaw02.CurveChains', WHERE WHAT IT READS IS OF BULK AT MOST 1048576: true; the input reads as it did. -/
def curveChainsUptoRow : OpenClaim := { program := "ytfnmnmjpcamkiaa", sum := "2928cc5af28e6b730eec3fcf88f84e2cccdfd6ee95ad7960d983a2f26e81a554", func := "dovecote/dovecotelaw02.CurveChains", spec := "curveChains", inPlace := ["math/bits.Add64"], apart := false, narrowed := true }
def CurveChainsUptoSaid : Prop := curveChainsUptoRow.holds Try.pinned (OpenSpec.upto curveChainsSpec)

/-- 'dovecotelaw02.CurveSteps', WHERE WHAT IT READS IS OF BULK AT MOST 1048576: true; the input reads as it did. -/
def curveStepsUptoRow : OpenClaim := { program := "ytfnmnmjpcamkiaa", sum := "2928cc5af28e6b730eec3fcf88f84e2cccdfd6ee95ad7960d983a2f26e81a554", func := "dovecote/dovecotelaw02.CurveSteps", spec := "curveSteps", inPlace := ["math/bits.Add64"], apart := false, narrowed := true }
def CurveStepsUptoSaid : Prop := curveStepsUptoRow.holds Try.pinned (OpenSpec.upto curveStepsSpec)

/-- 'dovecotelaw02.CurveAgree', WHERE WHAT IT READS IS OF BULK AT MOST 1048576: true; the input reads as it did. -/
def curveAgreeUptoRow : OpenClaim := { program := "ytfnmnmjpcamkiaa", sum := "2928cc5af28e6b730eec3fcf88f84e2cccdfd6ee95ad7960d983a2f26e81a554", func := "dovecote/dovecotelaw02.CurveAgree", spec := "curveAgree", inPlace := ["math/bits.Add64"], apart := false, narrowed := true }
def CurveAgreeUptoSaid : Prop := curveAgreeUptoRow.holds Try.pinned (OpenSpec.upto curveAgreeSpec)

end Rows
end Go.Proofs.Ytfnmnmjpcamkiaa
