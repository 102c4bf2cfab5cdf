/-
  No cell of these rows narrows 'for every input' (looked for: loops, veiled, ifaces, maps, wideKeys, modest, calm, conditions, laid).
  DERIVED. THE GIVEN ROWS OF THIS SEAT. 8 by the template 'for every input the law returns true; each argument reads behind the call as it read before'; 0 by the template 'total and deterministic' (their statements: YtkoplgpobagfoaaTotals.lean).
  GIVEN WITH THE SEED: the statements are not yours to turn. If you find one false, say at which input.
  Laid BY PROGRAM, IN A SANDBOX (cutbox-rows.mjs): the forced cells as the released guide's own fill.sh prints them over the translation 57af9a6cba2df593… (all of the seat's roots in one cut). By AI agents, Wed Nov 11 2026. No macro, syntax, notation, axiom, sorry.
-/
import Derived.Test.YtkoplgpobagfoaaChecked
import GoSem.Claim
import GoSem.ClaimJoined
import GoSem.ClaimMapViews
import Derived.JoinedTies
import Derived.KernelRfl
namespace Go.Proofs.Ytkoplgpobagfoaa
/- THE CELL 'sum', in the pinned program and in every row, IS THE sha256 OF THE DUMP (.gsa) THAT YtkoplgpobagfoaaProg.lean LOADS. Nothing in Lean hashes anything: it is a label: what it is worth is what the hold of that sum in a sandbox is worth. -/
noncomputable def Try.pinned : Pinned := { name := "ytkoplgpobagfoaa", sum := "57af9a6cba2df593ebcec121e71ec27227095f4e32d0f8a5fb21dcd7c49f9b1a", checked := Try.checked }
namespace Rows
def none {H : Type} : Left H := { results := [], args := [] }

/-- 'dovecotelaw27.ViewLinks': WHATEVER THE INPUT: true; the input reads as it did. -/
def viewLinksSpec : ChangeSpec := { name := "viewLinks", fn := fun _ => fun
  | [d1, d2] => { results := [.lit (.bool true)], args := [d1, d2] }
  | _ => none }
def viewLinksRow : OpenClaim := { program := "ytkoplgpobagfoaa", sum := "57af9a6cba2df593ebcec121e71ec27227095f4e32d0f8a5fb21dcd7c49f9b1a", func := "dovecote/dovecotelaw27.ViewLinks", spec := "viewLinks", unfollowed := true, recurses := true, apart := false }
def ViewLinksSaid : Prop := viewLinksRow.holds Try.pinned (OpenSpec.ofChange viewLinksSpec)

/-- ITS FALSE NEIGHBOUR: 'it returns false'. Refute it at one input. -/
def viewLinksWrong : ChangeSpec := { name := "viewLinks", fn := fun _ => fun
  | [d1, d2] => { results := [.lit (.bool false)], args := [d1, d2] }
  | _ => none }
def ViewLinksWrongFalsely : Prop := viewLinksRow.holds Try.pinned (OpenSpec.ofChange viewLinksWrong)

/-- 'dovecotelaw27.ViewReads': WHATEVER THE INPUT: true; the input reads as it did. -/
def viewReadsSpec : ChangeSpec := { name := "viewReads", fn := fun _ => fun
  | [d] => { results := [.lit (.bool true)], args := [d] }
  | _ => none }
def viewReadsRow : OpenClaim := { program := "ytkoplgpobagfoaa", sum := "57af9a6cba2df593ebcec121e71ec27227095f4e32d0f8a5fb21dcd7c49f9b1a", func := "dovecote/dovecotelaw27.ViewReads", spec := "viewReads", unfollowed := true, recurses := true, apart := false }
def ViewReadsSaid : Prop := viewReadsRow.holds Try.pinned (OpenSpec.ofChange viewReadsSpec)

/-- ITS FALSE NEIGHBOUR: 'it returns false'. Refute it at one input. -/
def viewReadsWrong : ChangeSpec := { name := "viewReads", fn := fun _ => fun
  | [d] => { results := [.lit (.bool false)], args := [d] }
  | _ => none }
def ViewReadsWrongFalsely : Prop := viewReadsRow.holds Try.pinned (OpenSpec.ofChange viewReadsWrong)

/-- 'dovecotelaw27.ViewBytes': WHATEVER THE INPUT: true; the input reads as it did. -/
def viewBytesSpec : ChangeSpec := { name := "viewBytes", fn := fun _ => fun
  | [d] => { results := [.lit (.bool true)], args := [d] }
  | _ => none }
def viewBytesRow : OpenClaim := { program := "ytkoplgpobagfoaa", sum := "57af9a6cba2df593ebcec121e71ec27227095f4e32d0f8a5fb21dcd7c49f9b1a", func := "dovecote/dovecotelaw27.ViewBytes", spec := "viewBytes", inPlace := ["internal/abi.NoEscape"], unfollowed := true, recurses := true, apart := false }
def ViewBytesSaid : Prop := viewBytesRow.holds Try.pinned (OpenSpec.ofChange viewBytesSpec)

/-- ITS FALSE NEIGHBOUR: 'it returns false'. Refute it at one input. -/
def viewBytesWrong : ChangeSpec := { name := "viewBytes", fn := fun _ => fun
  | [d] => { results := [.lit (.bool false)], args := [d] }
  | _ => none }
def ViewBytesWrongFalsely : Prop := viewBytesRow.holds Try.pinned (OpenSpec.ofChange viewBytesWrong)

/-- 'dovecotelaw27.ViewCuts': WHATEVER THE INPUT: true; the input reads as it did. -/
def viewCutsSpec : ChangeSpec := { name := "viewCuts", fn := fun _ => fun
  | [d1, d2] => { results := [.lit (.bool true)], args := [d1, d2] }
  | _ => none }
def viewCutsRow : OpenClaim := { program := "ytkoplgpobagfoaa", sum := "57af9a6cba2df593ebcec121e71ec27227095f4e32d0f8a5fb21dcd7c49f9b1a", func := "dovecote/dovecotelaw27.ViewCuts", spec := "viewCuts", unfollowed := true, recurses := true, apart := false }
def ViewCutsSaid : Prop := viewCutsRow.holds Try.pinned (OpenSpec.ofChange viewCutsSpec)

/-- ITS FALSE NEIGHBOUR: 'it returns false'. Refute it at one input. -/
def viewCutsWrong : ChangeSpec := { name := "viewCuts", fn := fun _ => fun
  | [d1, d2] => { results := [.lit (.bool false)], args := [d1, d2] }
  | _ => none }
def ViewCutsWrongFalsely : Prop := viewCutsRow.holds Try.pinned (OpenSpec.ofChange viewCutsWrong)

/-- 'dovecotelaw27.ViewSums': WHATEVER THE INPUT: true; the input reads as it did. -/
def viewSumsSpec : ChangeSpec := { name := "viewSums", fn := fun _ => fun
  | [d1, d2] => { results := [.lit (.bool true)], args := [d1, d2] }
  | _ => none }
def viewSumsRow : OpenClaim := { program := "ytkoplgpobagfoaa", sum := "57af9a6cba2df593ebcec121e71ec27227095f4e32d0f8a5fb21dcd7c49f9b1a", func := "dovecote/dovecotelaw27.ViewSums", spec := "viewSums", unfollowed := true, recurses := true, apart := false }
def ViewSumsSaid : Prop := viewSumsRow.holds Try.pinned (OpenSpec.ofChange viewSumsSpec)

/-- ITS FALSE NEIGHBOUR: 'it returns false'. Refute it at one input. -/
def viewSumsWrong : ChangeSpec := { name := "viewSums", fn := fun _ => fun
  | [d1, d2] => { results := [.lit (.bool false)], args := [d1, d2] }
  | _ => none }
def ViewSumsWrongFalsely : Prop := viewSumsRow.holds Try.pinned (OpenSpec.ofChange viewSumsWrong)

/-- 'dovecotelaw27.ViewJoins': WHATEVER THE INPUT: true; the input reads as it did. -/
def viewJoinsSpec : ChangeSpec := { name := "viewJoins", fn := fun _ => fun
  | [d] => { results := [.lit (.bool true)], args := [d] }
  | _ => none }
def viewJoinsRow : OpenClaim := { program := "ytkoplgpobagfoaa", sum := "57af9a6cba2df593ebcec121e71ec27227095f4e32d0f8a5fb21dcd7c49f9b1a", func := "dovecote/dovecotelaw27.ViewJoins", spec := "viewJoins", unfollowed := true, recurses := true, apart := false }
def ViewJoinsSaid : Prop := viewJoinsRow.holds Try.pinned (OpenSpec.ofChange viewJoinsSpec)

/-- ITS FALSE NEIGHBOUR: 'it returns false'. Refute it at one input. -/
def viewJoinsWrong : ChangeSpec := { name := "viewJoins", fn := fun _ => fun
  | [d] => { results := [.lit (.bool false)], args := [d] }
  | _ => none }
def ViewJoinsWrongFalsely : Prop := viewJoinsRow.holds Try.pinned (OpenSpec.ofChange viewJoinsWrong)

/-- 'dovecotelaw27.ViewBack': WHATEVER THE INPUT: true; the input reads as it did. -/
def viewBackSpec : ChangeSpec := { name := "viewBack", fn := fun _ => fun
  | [d1, d2] => { results := [.lit (.bool true)], args := [d1, d2] }
  | _ => none }
def viewBackRow : OpenClaim := { program := "ytkoplgpobagfoaa", sum := "57af9a6cba2df593ebcec121e71ec27227095f4e32d0f8a5fb21dcd7c49f9b1a", func := "dovecote/dovecotelaw27.ViewBack", spec := "viewBack", inPlace := ["internal/abi.NoEscape"], unfollowed := true, recurses := true, apart := false }
def ViewBackSaid : Prop := viewBackRow.holds Try.pinned (OpenSpec.ofChange viewBackSpec)

/-- ITS FALSE NEIGHBOUR: 'it returns false'. Refute it at one input. -/
def viewBackWrong : ChangeSpec := { name := "viewBack", fn := fun _ => fun
  | [d1, d2] => { results := [.lit (.bool false)], args := [d1, d2] }
  | _ => none }
def ViewBackWrongFalsely : Prop := viewBackRow.holds Try.pinned (OpenSpec.ofChange viewBackWrong)

/-- 'dovecotelaw27.ViewMerges': WHATEVER THE INPUT: true; the input reads as it did. -/
def viewMergesSpec : ChangeSpec := { name := "viewMerges", fn := fun _ => fun
  | [d1, d2, d3] => { results := [.lit (.bool true)], args := [d1, d2, d3] }
  | _ => none }
def viewMergesRow : OpenClaim := { program := "ytkoplgpobagfoaa", sum := "57af9a6cba2df593ebcec121e71ec27227095f4e32d0f8a5fb21dcd7c49f9b1a", func := "dovecote/dovecotelaw27.ViewMerges", spec := "viewMerges", unfollowed := true, recurses := true, apart := false }
def ViewMergesSaid : Prop := viewMergesRow.holds Try.pinned (OpenSpec.ofChange viewMergesSpec)

/-- ITS FALSE NEIGHBOUR: 'it returns false'. Refute it at one input. -/
def viewMergesWrong : ChangeSpec := { name := "viewMerges", fn := fun _ => fun
  | [d1, d2, d3] => { results := [.lit (.bool false)], args := [d1, d2, d3] }
  | _ => none }
def ViewMergesWrongFalsely : Prop := viewMergesRow.holds Try.pinned (OpenSpec.ofChange viewMergesWrong)

/- THE SECOND FORM. 'bulk': how many values and letters a reading holds, each counted each time it is reached (what is shared counts as often as it is met; a slice's spare places count too). A statement '..UptoSaid' is the law's where the arguments, and the package variables that the reading takes, are together of bulk at most 1048576: NARROWER than '..Said'. Prove '..Said' where nothing that the law and all that it calls make is longer than what came in: it says more and counts as full. Else prove '..UptoSaid'. A law counts once. -/
mutual
def uptoBulk {H : Type} : DataW H → Nat
  | .lit (.string bytes) => bytes.length + 1
  | .lit _ => 1
  | .nil => 1
  | .ptr d => uptoBulk d + 1
  | .slice elems spare => uptoBulkAll elems + uptoBulkAll spare + 1
  | .agg parts => uptoBulkAll parts + 1
  | .iface _ d => uptoBulk d + 1
  | .map entries => uptoBulkEntries entries + 1
  | .held _ => 1
def uptoBulkAll {H : Type} : List (DataW H) → Nat
  | [] => 0
  | d :: r => uptoBulk d + uptoBulkAll r
def uptoBulkEntries {H : Type} : List (Lit × DataW H) → Nat
  | [] => 0
  | x :: r => uptoBulkEntry x + uptoBulkEntries r
def uptoBulkEntry {H : Type} : Lit × DataW H → Nat
  | (.string bytes, d) => bytes.length + uptoBulk d + 1
  | (_, d) => uptoBulk d + 1
 end
def uptoSmall : (H : Type) → List (DataW H) → Bool := fun _ ds => decide (uptoBulkAll ds ≤ 1048576)
def OpenSpec.upto (s : _root_.Go.ChangeSpec) : _root_.Go.OpenSpec := { _root_.Go.OpenSpec.ofChange s with cond := some uptoSmall }

/-- 'dovecotelaw27.ViewLinks', WHERE WHAT IT READS IS OF BULK AT MOST 1048576: true; the input reads as it did. -/
def viewLinksUptoRow : OpenClaim := { program := "ytkoplgpobagfoaa", sum := "57af9a6cba2df593ebcec121e71ec27227095f4e32d0f8a5fb21dcd7c49f9b1a", func := "dovecote/dovecotelaw27.ViewLinks", spec := "viewLinks", unfollowed := true, recurses := true, apart := false, narrowed := true }
def ViewLinksUptoSaid : Prop := viewLinksUptoRow.holds Try.pinned (OpenSpec.upto viewLinksSpec)

/-- 'dovecotelaw27.ViewReads', WHERE WHAT IT READS IS OF BULK AT MOST 1048576: true; the input reads as it did. -/
def viewReadsUptoRow : OpenClaim := { program := "ytkoplgpobagfoaa", sum := "57af9a6cba2df593ebcec121e71ec27227095f4e32d0f8a5fb21dcd7c49f9b1a", func := "dovecote/dovecotelaw27.ViewReads", spec := "viewReads", unfollowed := true, recurses := true, apart := false, narrowed := true }
def ViewReadsUptoSaid : Prop := viewReadsUptoRow.holds Try.pinned (OpenSpec.upto viewReadsSpec)

/-- 'dovecotelaw27.ViewBytes', WHERE WHAT IT READS IS OF BULK AT MOST 1048576: true; the input reads as it did. -/
def viewBytesUptoRow : OpenClaim := { program := "ytkoplgpobagfoaa", sum := "57af9a6cba2df593ebcec121e71ec27227095f4e32d0f8a5fb21dcd7c49f9b1a", func := "dovecote/dovecotelaw27.ViewBytes", spec := "viewBytes", inPlace := ["internal/abi.NoEscape"], unfollowed := true, recurses := true, apart := false, narrowed := true }
def ViewBytesUptoSaid : Prop := viewBytesUptoRow.holds Try.pinned (OpenSpec.upto viewBytesSpec)

/-- 'dovecotelaw27.ViewCuts', WHERE WHAT IT READS IS OF BULK AT MOST 1048576: true; the input reads as it did. -/
def viewCutsUptoRow : OpenClaim := { program := "ytkoplgpobagfoaa", sum := "57af9a6cba2df593ebcec121e71ec27227095f4e32d0f8a5fb21dcd7c49f9b1a", func := "dovecote/dovecotelaw27.ViewCuts", spec := "viewCuts", unfollowed := true, recurses := true, apart := false, narrowed := true }
def ViewCutsUptoSaid : Prop := viewCutsUptoRow.holds Try.pinned (OpenSpec.upto viewCutsSpec)

/-- 'dovecotelaw27.ViewSums', WHERE WHAT IT READS IS OF BULK AT MOST 1048576: true; the input reads as it did. -/
def viewSumsUptoRow : OpenClaim := { program := "ytkoplgpobagfoaa", sum := "57af9a6cba2df593ebcec121e71ec27227095f4e32d0f8a5fb21dcd7c49f9b1a", func := "dovecote/dovecotelaw27.ViewSums", spec := "viewSums", unfollowed := true, recurses := true, apart := false, narrowed := true }
def ViewSumsUptoSaid : Prop := viewSumsUptoRow.holds Try.pinned (OpenSpec.upto viewSumsSpec)

/-- 'dovecotelaw27.ViewJoins', WHERE WHAT IT READS IS OF BULK AT MOST 1048576: true; the input reads as it did. -/
def viewJoinsUptoRow : OpenClaim := { program := "ytkoplgpobagfoaa", sum := "57af9a6cba2df593ebcec121e71ec27227095f4e32d0f8a5fb21dcd7c49f9b1a", func := "dovecote/dovecotelaw27.ViewJoins", spec := "viewJoins", unfollowed := true, recurses := true, apart := false, narrowed := true }
def ViewJoinsUptoSaid : Prop := viewJoinsUptoRow.holds Try.pinned (OpenSpec.upto viewJoinsSpec)

/-- 'dovecotelaw27.ViewBack', WHERE WHAT IT READS IS OF BULK AT MOST 1048576: true; the input reads as it did. -/
def viewBackUptoRow : OpenClaim := { program := "ytkoplgpobagfoaa", sum := "57af9a6cba2df593ebcec121e71ec27227095f4e32d0f8a5fb21dcd7c49f9b1a", func := "dovecote/dovecotelaw27.ViewBack", spec := "viewBack", inPlace := ["internal/abi.NoEscape"], unfollowed := true, recurses := true, apart := false, narrowed := true }
def ViewBackUptoSaid : Prop := viewBackUptoRow.holds Try.pinned (OpenSpec.upto viewBackSpec)

/-- 'dovecotelaw27.ViewMerges', WHERE WHAT IT READS IS OF BULK AT MOST 1048576: true; the input reads as it did. -/
def viewMergesUptoRow : OpenClaim := { program := "ytkoplgpobagfoaa", sum := "57af9a6cba2df593ebcec121e71ec27227095f4e32d0f8a5fb21dcd7c49f9b1a", func := "dovecote/dovecotelaw27.ViewMerges", spec := "viewMerges", unfollowed := true, recurses := true, apart := false, narrowed := true }
def ViewMergesUptoSaid : Prop := viewMergesUptoRow.holds Try.pinned (OpenSpec.upto viewMergesSpec)

end Rows
end Go.Proofs.Ytkoplgpobagfoaa
