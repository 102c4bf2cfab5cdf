/-
  No cell of these rows narrows 'for every input' (looked for: loops, veiled, ifaces, maps, wideKeys, modest, calm, conditions, laid).
  DERIVED. THE GIVEN ROWS OF THIS SEAT. 6 by the template 'for every input the law returns true; each argument reads behind the call as it read before'; 0 by the template 'total and deterministic' (their statements: YtoegkcjclgmnbaaTotals.lean).
  GIVEN WITH THE SEED: the statements are not yours to turn. If you find one false, say at which input.
  Laid BY PROGRAM, IN A SANDBOX (cutbox-rows.mjs): the forced cells as the released guide's own fill.sh prints them over the translation 27e72cf7eaad69a6… (all of the seat's roots in one cut). By AI agents, Wed Nov 11 2026. No macro, syntax, notation, axiom, sorry.
-/
import Derived.Test.YtoegkcjclgmnbaaChecked
import GoSem.Claim
import GoSem.ClaimJoined
import GoSem.ClaimMapViews
import Derived.JoinedTies
import Derived.KernelRfl
namespace Go.Proofs.Ytoegkcjclgmnbaa
/- THE CELL 'sum', in the pinned program and in every row, IS THE sha256 OF THE DUMP (.gsa) THAT YtoegkcjclgmnbaaProg.lean LOADS. Nothing in Lean hashes anything: it is a label: what it is worth is what the hold of that sum in a sandbox is worth. -/
noncomputable def Try.pinned : Pinned := { name := "ytoegkcjclgmnbaa", sum := "27e72cf7eaad69a61f692377bece875466f886e64ab3c597bac9ff22161b917e", checked := Try.checked }
namespace Rows
def none {H : Type} : Left H := { results := [], args := [] }

/-- 'dovecotelaw10.FrameMakes': WHATEVER THE INPUT: true; the input reads as it did. -/
def frameMakesSpec : ChangeSpec := { name := "frameMakes", fn := fun _ => fun
  | [d] => { results := [.lit (.bool true)], args := [d] }
  | _ => none }
def frameMakesRow : OpenClaim := { program := "ytoegkcjclgmnbaa", sum := "27e72cf7eaad69a61f692377bece875466f886e64ab3c597bac9ff22161b917e", func := "dovecote/dovecotelaw10.FrameMakes", spec := "frameMakes", inPlace := ["internal/abi.NoEscape"], apart := false }
def FrameMakesSaid : Prop := frameMakesRow.holds Try.pinned (OpenSpec.ofChange frameMakesSpec)

/-- ITS FALSE NEIGHBOUR: 'it returns false'. Refute it at one input. -/
def frameMakesWrong : ChangeSpec := { name := "frameMakes", fn := fun _ => fun
  | [d] => { results := [.lit (.bool false)], args := [d] }
  | _ => none }
def FrameMakesWrongFalsely : Prop := frameMakesRow.holds Try.pinned (OpenSpec.ofChange frameMakesWrong)

/-- 'dovecotelaw10.FrameChunks': WHATEVER THE INPUT: true; the input reads as it did. -/
def frameChunksSpec : ChangeSpec := { name := "frameChunks", fn := fun _ => fun
  | [d1, d2] => { results := [.lit (.bool true)], args := [d1, d2] }
  | _ => none }
def frameChunksRow : OpenClaim := { program := "ytoegkcjclgmnbaa", sum := "27e72cf7eaad69a61f692377bece875466f886e64ab3c597bac9ff22161b917e", func := "dovecote/dovecotelaw10.FrameChunks", spec := "frameChunks", inPlace := ["internal/abi.NoEscape"], apart := false }
def FrameChunksSaid : Prop := frameChunksRow.holds Try.pinned (OpenSpec.ofChange frameChunksSpec)

/-- ITS FALSE NEIGHBOUR: 'it returns false'. Refute it at one input. -/
def frameChunksWrong : ChangeSpec := { name := "frameChunks", fn := fun _ => fun
  | [d1, d2] => { results := [.lit (.bool false)], args := [d1, d2] }
  | _ => none }
def FrameChunksWrongFalsely : Prop := frameChunksRow.holds Try.pinned (OpenSpec.ofChange frameChunksWrong)

/-- 'dovecotelaw10.FrameBreaks': WHATEVER THE INPUT: true; the input reads as it did. -/
def frameBreaksSpec : ChangeSpec := { name := "frameBreaks", fn := fun _ => fun
  | [d1, d2] => { results := [.lit (.bool true)], args := [d1, d2] }
  | _ => none }
def frameBreaksRow : OpenClaim := { program := "ytoegkcjclgmnbaa", sum := "27e72cf7eaad69a61f692377bece875466f886e64ab3c597bac9ff22161b917e", func := "dovecote/dovecotelaw10.FrameBreaks", spec := "frameBreaks", inPlace := ["internal/abi.NoEscape"], apart := false }
def FrameBreaksSaid : Prop := frameBreaksRow.holds Try.pinned (OpenSpec.ofChange frameBreaksSpec)

/-- ITS FALSE NEIGHBOUR: 'it returns false'. Refute it at one input. -/
def frameBreaksWrong : ChangeSpec := { name := "frameBreaks", fn := fun _ => fun
  | [d1, d2] => { results := [.lit (.bool false)], args := [d1, d2] }
  | _ => none }
def FrameBreaksWrongFalsely : Prop := frameBreaksRow.holds Try.pinned (OpenSpec.ofChange frameBreaksWrong)

/-- 'dovecotelaw10.FrameJoins': WHATEVER THE INPUT: true; the input reads as it did. -/
def frameJoinsSpec : ChangeSpec := { name := "frameJoins", fn := fun _ => fun
  | [d1, d2] => { results := [.lit (.bool true)], args := [d1, d2] }
  | _ => none }
def frameJoinsRow : OpenClaim := { program := "ytoegkcjclgmnbaa", sum := "27e72cf7eaad69a61f692377bece875466f886e64ab3c597bac9ff22161b917e", func := "dovecote/dovecotelaw10.FrameJoins", spec := "frameJoins", inPlace := ["internal/abi.NoEscape"], apart := false }
def FrameJoinsSaid : Prop := frameJoinsRow.holds Try.pinned (OpenSpec.ofChange frameJoinsSpec)

/-- ITS FALSE NEIGHBOUR: 'it returns false'. Refute it at one input. -/
def frameJoinsWrong : ChangeSpec := { name := "frameJoins", fn := fun _ => fun
  | [d1, d2] => { results := [.lit (.bool false)], args := [d1, d2] }
  | _ => none }
def FrameJoinsWrongFalsely : Prop := frameJoinsRow.holds Try.pinned (OpenSpec.ofChange frameJoinsWrong)

/-- 'dovecotelaw10.FrameReads': WHATEVER THE INPUT: true; the input reads as it did. -/
def frameReadsSpec : ChangeSpec := { name := "frameReads", fn := fun _ => fun
  | [d1, d2] => { results := [.lit (.bool true)], args := [d1, d2] }
  | _ => none }
def frameReadsRow : OpenClaim := { program := "ytoegkcjclgmnbaa", sum := "27e72cf7eaad69a61f692377bece875466f886e64ab3c597bac9ff22161b917e", func := "dovecote/dovecotelaw10.FrameReads", spec := "frameReads", inPlace := ["internal/abi.NoEscape"], apart := false }
def FrameReadsSaid : Prop := frameReadsRow.holds Try.pinned (OpenSpec.ofChange frameReadsSpec)

/-- ITS FALSE NEIGHBOUR: 'it returns false'. Refute it at one input. -/
def frameReadsWrong : ChangeSpec := { name := "frameReads", fn := fun _ => fun
  | [d1, d2] => { results := [.lit (.bool false)], args := [d1, d2] }
  | _ => none }
def FrameReadsWrongFalsely : Prop := frameReadsRow.holds Try.pinned (OpenSpec.ofChange frameReadsWrong)

/-- 'dovecotetop.TopFrames': WHATEVER THE INPUT: true; the input reads as it did. -/
def topFramesSpec : ChangeSpec := { name := "topFrames", fn := fun _ => fun
  | [d1, d2] => { results := [.lit (.bool true)], args := [d1, d2] }
  | _ => none }
def topFramesRow : OpenClaim := { program := "ytoegkcjclgmnbaa", sum := "27e72cf7eaad69a61f692377bece875466f886e64ab3c597bac9ff22161b917e", func := "dovecote/dovecotetop.TopFrames", spec := "topFrames", inPlace := ["internal/abi.NoEscape", "internal/bytealg.MakeNoZero"], unfollowed := true, recurses := true, apart := false }
def TopFramesSaid : Prop := topFramesRow.holds Try.pinned (OpenSpec.ofChange topFramesSpec)

/-- ITS FALSE NEIGHBOUR: 'it returns false'. Refute it at one input. -/
def topFramesWrong : ChangeSpec := { name := "topFrames", fn := fun _ => fun
  | [d1, d2] => { results := [.lit (.bool false)], args := [d1, d2] }
  | _ => none }
def TopFramesWrongFalsely : Prop := topFramesRow.holds Try.pinned (OpenSpec.ofChange topFramesWrong)

/- THE SECOND FORM. 'bulk': how many values and letters a reading holds, each counted each time it is reached (what is shared counts as often as it is met; a slice's spare places count too). A statement '..UptoSaid' is the law's where the arguments, and the package variables that the reading takes, are together of bulk at most 1048576: NARROWER than '..Said'. Prove '..Said' where nothing that the law and all that it calls make is longer than what came in: it says more and counts as full. Else prove '..UptoSaid'. A law counts once. -/
mutual
def uptoBulk {H : Type} : DataW H → Nat
  | .lit (.string bytes) => bytes.length + 1
  | .lit _ => 1
  | .nil => 1
  | .ptr d => uptoBulk d + 1
  | .slice elems spare => uptoBulkAll elems + uptoBulkAll spare + 1
  | .agg parts => uptoBulkAll parts + 1
  | .iface _ d => uptoBulk d + 1
  | .map entries => uptoBulkEntries entries + 1
  | .held _ => 1
def uptoBulkAll {H : Type} : List (DataW H) → Nat
  | [] => 0
  | d :: r => uptoBulk d + uptoBulkAll r
def uptoBulkEntries {H : Type} : List (Lit × DataW H) → Nat
  | [] => 0
  | x :: r => uptoBulkEntry x + uptoBulkEntries r
def uptoBulkEntry {H : Type} : Lit × DataW H → Nat
  | (.string bytes, d) => bytes.length + uptoBulk d + 1
  | (_, d) => uptoBulk d + 1
 end
def uptoSmall : (H : Type) → List (DataW H) → Bool := fun _ ds => decide (uptoBulkAll ds ≤ 1048576)
def OpenSpec.upto (s : _root_.Go.ChangeSpec) : _root_.Go.OpenSpec := { _root_.Go.OpenSpec.ofChange s with cond := some uptoSmall }

/-- 'dovecotelaw10.FrameMakes', WHERE WHAT IT READS IS OF BULK AT MOST 1048576: true; the input reads as it did. -/
def frameMakesUptoRow : OpenClaim := { program := "ytoegkcjclgmnbaa", sum := "27e72cf7eaad69a61f692377bece875466f886e64ab3c597bac9ff22161b917e", func := "dovecote/dovecotelaw10.FrameMakes", spec := "frameMakes", inPlace := ["internal/abi.NoEscape"], apart := false, narrowed := true }
def FrameMakesUptoSaid : Prop := frameMakesUptoRow.holds Try.pinned (OpenSpec.upto frameMakesSpec)

/-- 'dovecotelaw10.FrameChunks', WHERE WHAT IT READS IS OF BULK AT MOST 1048576: true; the input reads as it did. -/
def frameChunksUptoRow : OpenClaim := { program := "ytoegkcjclgmnbaa", sum := "27e72cf7eaad69a61f692377bece875466f886e64ab3c597bac9ff22161b917e", func := "dovecote/dovecotelaw10.FrameChunks", spec := "frameChunks", inPlace := ["internal/abi.NoEscape"], apart := false, narrowed := true }
def FrameChunksUptoSaid : Prop := frameChunksUptoRow.holds Try.pinned (OpenSpec.upto frameChunksSpec)

/-- 'dovecotelaw10.FrameBreaks', WHERE WHAT IT READS IS OF BULK AT MOST 1048576: true; the input reads as it did. -/
def frameBreaksUptoRow : OpenClaim := { program := "ytoegkcjclgmnbaa", sum := "27e72cf7eaad69a61f692377bece875466f886e64ab3c597bac9ff22161b917e", func := "dovecote/dovecotelaw10.FrameBreaks", spec := "frameBreaks", inPlace := ["internal/abi.NoEscape"], apart := false, narrowed := true }
def FrameBreaksUptoSaid : Prop := frameBreaksUptoRow.holds Try.pinned (OpenSpec.upto frameBreaksSpec)

/-- 'dovecotelaw10.FrameJoins', WHERE WHAT IT READS IS OF BULK AT MOST 1048576: true; the input reads as it did. -/
def frameJoinsUptoRow : OpenClaim := { program := "ytoegkcjclgmnbaa", sum := "27e72cf7eaad69a61f692377bece875466f886e64ab3c597bac9ff22161b917e", func := "dovecote/dovecotelaw10.FrameJoins", spec := "frameJoins", inPlace := ["internal/abi.NoEscape"], apart := false, narrowed := true }
def FrameJoinsUptoSaid : Prop := frameJoinsUptoRow.holds Try.pinned (OpenSpec.upto frameJoinsSpec)

/-- 'dovecotelaw10.FrameReads', WHERE WHAT IT READS IS OF BULK AT MOST 1048576: true; the input reads as it did. -/
def frameReadsUptoRow : OpenClaim := { program := "ytoegkcjclgmnbaa", sum := "27e72cf7eaad69a61f692377bece875466f886e64ab3c597bac9ff22161b917e", func := "dovecote/dovecotelaw10.FrameReads", spec := "frameReads", inPlace := ["internal/abi.NoEscape"], apart := false, narrowed := true }
def FrameReadsUptoSaid : Prop := frameReadsUptoRow.holds Try.pinned (OpenSpec.upto frameReadsSpec)

/-- 'dovecotetop.TopFrames', WHERE WHAT IT READS IS OF BULK AT MOST 1048576: true; the input reads as it did. -/
def topFramesUptoRow : OpenClaim := { program := "ytoegkcjclgmnbaa", sum := "27e72cf7eaad69a61f692377bece875466f886e64ab3c597bac9ff22161b917e", func := "dovecote/dovecotetop.TopFrames", spec := "topFrames", inPlace := ["internal/abi.NoEscape", "internal/bytealg.MakeNoZero"], unfollowed := true, recurses := true, apart := false, narrowed := true }
def TopFramesUptoSaid : Prop := topFramesUptoRow.holds Try.pinned (OpenSpec.upto topFramesSpec)

end Rows
end Go.Proofs.Ytoegkcjclgmnbaa
