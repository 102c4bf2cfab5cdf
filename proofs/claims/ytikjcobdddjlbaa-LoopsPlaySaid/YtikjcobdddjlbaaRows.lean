/-
  No cell of these rows narrows 'for every input' (looked for: loops, veiled, ifaces, maps, wideKeys, modest, calm, conditions, laid).
  DERIVED. THE GIVEN ROWS OF THIS SEAT. 4 by the template 'for every input the law returns true; each argument reads behind the call as it read before'; 0 by the template 'total and deterministic' (their statements: YtikjcobdddjlbaaTotals.lean).
  GIVEN WITH THE SEED: the statements are not yours to turn. If you find one false, say at which input.
  Laid BY PROGRAM, IN A SANDBOX (cutbox-rows.mjs): the forced cells as the released guide's own fill.sh prints them over the translation 3528a15c6309b01b… (all of the seat's roots in one cut). By AI agents, Wed Nov 11 2026. No macro, syntax, notation, axiom, sorry.
-/
import Derived.Test.YtikjcobdddjlbaaChecked
import GoSem.Claim
import GoSem.ClaimJoined
import GoSem.ClaimMapViews
import Derived.JoinedTies
import Derived.KernelRfl
namespace Go.Proofs.Ytikjcobdddjlbaa
/- THE CELL 'sum', in the pinned program and in every row, IS THE sha256 OF THE DUMP (.gsa) THAT YtikjcobdddjlbaaProg.lean LOADS. Nothing in Lean hashes anything: it is a label: what it is worth is what the hold of that sum in a sandbox is worth. -/
noncomputable def Try.pinned : Pinned := { name := "ytikjcobdddjlbaa", sum := "3528a15c6309b01ba50628da8c21be0c51084254d6362c8577af455b38e1dc64", checked := Try.checked }
namespace Rows
def none {H : Type} : Left H := { results := [], args := [] }

/-- 'dovecotelaw23.LoopsQuiet': WHATEVER THE INPUT: true; the input reads as it did. -/
def loopsQuietSpec : ChangeSpec := { name := "loopsQuiet", fn := fun _ => fun
  | [d1, d2] => { results := [.lit (.bool true)], args := [d1, d2] }
  | _ => none }
def loopsQuietRow : OpenClaim := { program := "ytikjcobdddjlbaa", sum := "3528a15c6309b01ba50628da8c21be0c51084254d6362c8577af455b38e1dc64", func := "dovecote/dovecotelaw23.LoopsQuiet", spec := "loopsQuiet", unfollowed := true, recurses := true, apart := false }
def LoopsQuietSaid : Prop := loopsQuietRow.holds Try.pinned (OpenSpec.ofChange loopsQuietSpec)

/-- ITS FALSE NEIGHBOUR: 'it returns false'. Refute it at one input. -/
def loopsQuietWrong : ChangeSpec := { name := "loopsQuiet", fn := fun _ => fun
  | [d1, d2] => { results := [.lit (.bool false)], args := [d1, d2] }
  | _ => none }
def LoopsQuietWrongFalsely : Prop := loopsQuietRow.holds Try.pinned (OpenSpec.ofChange loopsQuietWrong)

/-- 'dovecotelaw23.LoopsRings': WHATEVER THE INPUT: true; the input reads as it did. -/
def loopsRingsSpec : ChangeSpec := { name := "loopsRings", fn := fun _ => fun
  | [d1, d2] => { results := [.lit (.bool true)], args := [d1, d2] }
  | _ => none }
def loopsRingsRow : OpenClaim := { program := "ytikjcobdddjlbaa", sum := "3528a15c6309b01ba50628da8c21be0c51084254d6362c8577af455b38e1dc64", func := "dovecote/dovecotelaw23.LoopsRings", spec := "loopsRings", unfollowed := true, recurses := true, apart := false }
def LoopsRingsSaid : Prop := loopsRingsRow.holds Try.pinned (OpenSpec.ofChange loopsRingsSpec)

/-- ITS FALSE NEIGHBOUR: 'it returns false'. Refute it at one input. -/
def loopsRingsWrong : ChangeSpec := { name := "loopsRings", fn := fun _ => fun
  | [d1, d2] => { results := [.lit (.bool false)], args := [d1, d2] }
  | _ => none }
def LoopsRingsWrongFalsely : Prop := loopsRingsRow.holds Try.pinned (OpenSpec.ofChange loopsRingsWrong)

/-- 'dovecotelaw23.LoopsForget': WHATEVER THE INPUT: true; the input reads as it did. -/
def loopsForgetSpec : ChangeSpec := { name := "loopsForget", fn := fun _ => fun
  | [d1, d2, d3] => { results := [.lit (.bool true)], args := [d1, d2, d3] }
  | _ => none }
def loopsForgetRow : OpenClaim := { program := "ytikjcobdddjlbaa", sum := "3528a15c6309b01ba50628da8c21be0c51084254d6362c8577af455b38e1dc64", func := "dovecote/dovecotelaw23.LoopsForget", spec := "loopsForget", unfollowed := true, recurses := true, apart := false }
def LoopsForgetSaid : Prop := loopsForgetRow.holds Try.pinned (OpenSpec.ofChange loopsForgetSpec)

/-- ITS FALSE NEIGHBOUR: 'it returns false'. Refute it at one input. -/
def loopsForgetWrong : ChangeSpec := { name := "loopsForget", fn := fun _ => fun
  | [d1, d2, d3] => { results := [.lit (.bool false)], args := [d1, d2, d3] }
  | _ => none }
def LoopsForgetWrongFalsely : Prop := loopsForgetRow.holds Try.pinned (OpenSpec.ofChange loopsForgetWrong)

/-- 'dovecotelaw23.LoopsPlay': WHATEVER THE INPUT: true; the input reads as it did. -/
def loopsPlaySpec : ChangeSpec := { name := "loopsPlay", fn := fun _ => fun
  | [d1, d2] => { results := [.lit (.bool true)], args := [d1, d2] }
  | _ => none }
def loopsPlayRow : OpenClaim := { program := "ytikjcobdddjlbaa", sum := "3528a15c6309b01ba50628da8c21be0c51084254d6362c8577af455b38e1dc64", func := "dovecote/dovecotelaw23.LoopsPlay", spec := "loopsPlay", unfollowed := true, recurses := true, apart := false }
def LoopsPlaySaid : Prop := loopsPlayRow.holds Try.pinned (OpenSpec.ofChange loopsPlaySpec)

/-- ITS FALSE NEIGHBOUR: 'it returns false'. Refute it at one input. -/
def loopsPlayWrong : ChangeSpec := { name := "loopsPlay", fn := fun _ => fun
  | [d1, d2] => { results := [.lit (.bool false)], args := [d1, d2] }
  | _ => none }
def LoopsPlayWrongFalsely : Prop := loopsPlayRow.holds Try.pinned (OpenSpec.ofChange loopsPlayWrong)

/- THE SECOND FORM. 'bulk': how many values and letters a reading holds, each counted each time it is reached (what is shared counts as often as it is met; a slice's spare places count too). A statement '..UptoSaid' is the law's where the arguments, and the package variables that the reading takes, are together of bulk at most 1048576: NARROWER than '..Said'. Prove '..Said' where nothing that the law and all that it calls make is longer than what came in: it says more and counts as full. Else prove '..UptoSaid'. A law counts once. -/
mutual
def uptoBulk {H : Type} : DataW H → Nat
  | .lit (.string bytes) => bytes.length + 1
  | .lit _ => 1
  | .nil => 1
  | .ptr d => uptoBulk d + 1
  | .slice elems spare => uptoBulkAll elems + uptoBulkAll spare + 1
  | .agg parts => uptoBulkAll parts + 1
  | .iface _ d => uptoBulk d + 1
  | .map entries => uptoBulkEntries entries + 1
  | .held _ => 1
def uptoBulkAll {H : Type} : List (DataW H) → Nat
  | [] => 0
  | d :: r => uptoBulk d + uptoBulkAll r
def uptoBulkEntries {H : Type} : List (Lit × DataW H) → Nat
  | [] => 0
  | x :: r => uptoBulkEntry x + uptoBulkEntries r
def uptoBulkEntry {H : Type} : Lit × DataW H → Nat
  | (.string bytes, d) => bytes.length + uptoBulk d + 1
  | (_, d) => uptoBulk d + 1
 end
def uptoSmall : (H : Type) → List (DataW H) → Bool := fun _ ds => decide (uptoBulkAll ds ≤ 1048576)
def OpenSpec.upto (s : _root_.Go.ChangeSpec) : _root_.Go.OpenSpec := { _root_.Go.OpenSpec.ofChange s with cond := some uptoSmall }

/-- 'dovecotelaw23.LoopsQuiet', WHERE WHAT IT READS IS OF BULK AT MOST 1048576: true; the input reads as it did. -/
def loopsQuietUptoRow : OpenClaim := { program := "ytikjcobdddjlbaa", sum := "3528a15c6309b01ba50628da8c21be0c51084254d6362c8577af455b38e1dc64", func := "dovecote/dovecotelaw23.LoopsQuiet", spec := "loopsQuiet", unfollowed := true, recurses := true, apart := false, narrowed := true }
def LoopsQuietUptoSaid : Prop := loopsQuietUptoRow.holds Try.pinned (OpenSpec.upto loopsQuietSpec)

/-- 'dovecotelaw23.LoopsRings', WHERE WHAT IT READS IS OF BULK AT MOST 1048576: true; the input reads as it did. -/
def loopsRingsUptoRow : OpenClaim := { program := "ytikjcobdddjlbaa", sum := "3528a15c6309b01ba50628da8c21be0c51084254d6362c8577af455b38e1dc64", func := "dovecote/dovecotelaw23.LoopsRings", spec := "loopsRings", unfollowed := true, recurses := true, apart := false, narrowed := true }
def LoopsRingsUptoSaid : Prop := loopsRingsUptoRow.holds Try.pinned (OpenSpec.upto loopsRingsSpec)

/-- 'dovecotelaw23.LoopsForget', WHERE WHAT IT READS IS OF BULK AT MOST 1048576: true; the input reads as it did. -/
def loopsForgetUptoRow : OpenClaim := { program := "ytikjcobdddjlbaa", sum := "3528a15c6309b01ba50628da8c21be0c51084254d6362c8577af455b38e1dc64", func := "dovecote/dovecotelaw23.LoopsForget", spec := "loopsForget", unfollowed := true, recurses := true, apart := false, narrowed := true }
def LoopsForgetUptoSaid : Prop := loopsForgetUptoRow.holds Try.pinned (OpenSpec.upto loopsForgetSpec)

/-- 'dovecotelaw23.LoopsPlay', WHERE WHAT IT READS IS OF BULK AT MOST 1048576: true; the input reads as it did. -/
def loopsPlayUptoRow : OpenClaim := { program := "ytikjcobdddjlbaa", sum := "3528a15c6309b01ba50628da8c21be0c51084254d6362c8577af455b38e1dc64", func := "dovecote/dovecotelaw23.LoopsPlay", spec := "loopsPlay", unfollowed := true, recurses := true, apart := false, narrowed := true }
def LoopsPlayUptoSaid : Prop := loopsPlayUptoRow.holds Try.pinned (OpenSpec.upto loopsPlaySpec)

end Rows
end Go.Proofs.Ytikjcobdddjlbaa
