/-
  The law LoopsPlay: for every input the call returns true, and each argument reads afterwards as it read before: the row round the walk 'LoopsPlay_walk'.
-/
import Derived.Test.YtikjcobdddjlbaaRows
import Derived.Test.YtikjcobdddjlbaaPlay
import Derived.Test.YtikjcobdddjlbaaBulk
import Derived.WalkKit
import Derived.ProofKit
import Derived.OpenShut
import Derived.ShutString
import Derived.SliceStrings
import Derived.ChangeOld
import Derived.Below
import Derived.SizedLaws
import Derived.JoinedCond
import Derived.Deep.CondSized
import Derived.Lib.SmallJoins
import Derived.ChangeSame
import Derived.Test.YtikjcobdddjlbaaRecs
namespace Go.Proofs.Ytikjcobdddjlbaa.lawLoopsPlay
open Go.ChangeShapes Go.WideShapes Go.ChangeAt Go.RowKit Go.Proofs.Ytikjcobdddjlbaa
open Go.ChangeMaps (open_string shut_string)
set_option linter.unusedVariables false
set_option linter.unusedSimpArgs false
open Go.Joins
theorem own : ownKnob Try.prog.godebug = none := by kernel_rfl
theorem laidOut : laidOutB Try.prog = true := by kernel_rfl

set_option maxRecDepth 100000 in
theorem contract (H : Type) (enc : TypeId × Value → H) (W : World) (base : Nat) (args : Array Value) (ds gs : List (DataW H)) (before : List MemPlace)
    (hval : ∀ (j : Nat) t v, Try.f6.params[j]? = some t → args[j]? = some v → Value.okWide Try.prog W .any base t v)
    (hW : DataW.Whole enc Try.prog Try.f6.params.toList Rows.loopsPlaySpec.vars false W args.toList ds gs before)
    (hsz : (DataW.weightsEach Try.prog (Try.f6.params.toList ++ Rows.loopsPlaySpec.plain.varTypes Try.prog) (ds ++ gs)).all (· ≤ reachBytes) = true) :
    Calls Try.prog 6 args W fun e W' => ∃ v, e = .returned v ∧ Rows.loopsPlaySpec.post enc Try.prog Try.f6 false true false false W args v W' := by
  have hW' := hW
  obtain ⟨p, q, hA0, hV, rfl, hfz, hnd⟩ := hW
  have hA : DataW.TrodAll enc Try.prog W 0 (fun _ => true) true Try.f6.params.toList args.toList ds p := hA0
  rw [Try.params6] at hA hval hsz
  obtain ⟨v0, vs0, d0, ds0, p0, q0, hargs, rfl, rfl, h0, r0⟩ := trodAll_cons hA
  obtain ⟨v1, vs1, d1, ds1, p1, q1, rfl, rfl, rfl, h1, r1⟩ := trodAll_cons r0
  obtain ⟨rfl, rfl, rfl⟩ := trodAll_nil r1
  obtain rfl : args = #[v0, v1] := by cases args; simp_all
  obtain ⟨rfl, rfl⟩ := trodVars_none hV
  clear hA0
  simp only [List.append_nil] at hW'
  obtain ⟨f0, g0, i0, fy0, gy0, iy0, m0, rfl, rfl, rfl, hf0, hg0, hi0⟩ := open_agg3 Try.underlying23 (by kernel_rfl) (by kernel_rfl) (hval 0 23 v0 rfl rfl) h0
  obtain ⟨fa0, fe0, rfl, fw0⟩ := DataW.trod_int Try.underlying3 hf0
  obtain ⟨ga0, ge0, rfl, gw0⟩ := DataW.trod_int Try.underlying3 hg0
  obtain ⟨ia0, ie0, rfl, iw0⟩ := DataW.trod_int Try.underlying3 hi0
  simp only [List.cons.injEq, and_true] at fe0 ge0 ie0
  subst fe0 ge0 ie0
  have fz0 : -9223372036854775808 ≤ fa0 ∧ fa0 ≤ 9223372036854775807 := by simpa [Lit.wf, IntKind.min, IntKind.max, IntKind.signed, IntKind.bits] using fw0
  have gz0 : -9223372036854775808 ≤ ga0 ∧ ga0 ≤ 9223372036854775807 := by simpa [Lit.wf, IntKind.min, IntKind.max, IntKind.signed, IntKind.bits] using gw0
  have iz0 : -9223372036854775808 ≤ ia0 ∧ ia0 ≤ 9223372036854775807 := by simpa [Lit.wf, IntKind.min, IntKind.max, IntKind.signed, IntKind.bits] using iw0
  have k1 := h1
  have lt1 : ∀ x ∈ p1, x.block < W.heap.size := by obtain ⟨m, hm⟩ := k1; exact DataW.trod_lt m _ _ _ hm
  obtain ⟨a1, c1, ts1, rfl, e1, z1, hd1⟩ := open_acts (hval 1 43 v1 rfl rfl) h1
  have l1 : ts1.length * 40 ≤ 140737488351232 := by
    rcases hd1 with ⟨rfl, rfl⟩ | ⟨l, sp, rfl, hl⟩
    · simp
    · have z := sized_slice hsz (j := 1) (t := 43) (e := 48) rfl rfl Try.underlying43
      rw [show Try.prog.bytesOf 48 = 40 from by kernel_rfl] at z
      simp only [reachBytes] at z
      omega
  refine (LoopsPlay_walk W fa0 fz0 ga0 gz0 ia0 iz0 a1 c1 ts1 e1 z1 l1).mono fun e W' ⟨he, bel⟩ => ?_
  subst he
  exact ⟨_, rfl, _, _, _, [], _, [], hW', trodAll_mk1 (shut_bool Try.underlying4 _), (trodAll_cons_mk (shut_agg3 Try.underlying23 (by kernel_rfl) (by kernel_rfl) ⟨1, trod_int_mk 0 Try.underlying3 fw0⟩ ⟨1, trod_int_mk 0 Try.underlying3 gw0⟩ ⟨1, trod_int_mk 0 Try.underlying3 iw0⟩) (trodAll_cons_mk (Below.trod laidOut (by kernel_rfl) (of_decide_eq_true (by kernel_rfl)) k1 bel lt1) trodAll_mk0)), rfl, bel.frame _, fun h => by cases h⟩

set_option maxRecDepth 100000 in
theorem lifted (os : Os) (started : os.Started) (H : Type) (enc : TypeId × Value → H) :
    ReturnsInHanded {} Try.checked os 6 .any (Rows.loopsPlaySpec.pre6 enc Try.prog Try.f6 Rows.loopsPlayRow.domain false) (Rows.loopsPlaySpec.post enc Try.prog Try.f6 false true false false) := by
  refine returnsInHanded_of_change_sized (C := Try.checked) own started (by kernel_rfl) Try.func6
    (ChangeSpec.witness6 (enc := enc) (C := Try.checked) false ⟨#[], #[.agg #[.int .i64 0, .int .i64 0, .int .i64 0], .slice none 0 0], []⟩ 8 (by kernel_rfl) (by kernel_rfl) (by kernel_rfl) (by kernel_rfl)) ?_
  intro W base args ds gs before hval hW _ hsz _
  exact contract H enc W base args ds gs before hval hW hsz

theorem over : Rows.loopsPlayRow.holds Try.pinned (OpenSpec.ofChange Rows.loopsPlaySpec) :=
  OpenClaim.holds_of_wide 6 Try.f6 rfl rfl rfl rfl rfl rfl rfl ⟨rfl, rfl, rfl, rfl, rfl⟩ rfl rfl rfl rfl rfl (by kernel_rfl) Try.func6 (by kernel_rfl)
    (of_decide_eq_true (by kernel_rfl)) (by unfold Func.isWrapper; first | (rw [if_pos (by decide +kernel)]; kernel_rfl) | (rw [if_neg (by decide +kernel)]; exact ⟨rfl, rfl⟩))
    (fun os started H enc _ => lifted os started H enc)

end Go.Proofs.Ytikjcobdddjlbaa.lawLoopsPlay
namespace Go.Proofs.Ytikjcobdddjlbaa
theorem loopsPlay_holds : Rows.LoopsPlaySaid := lawLoopsPlay.over
#print axioms loopsPlay_holds
end Go.Proofs.Ytikjcobdddjlbaa
