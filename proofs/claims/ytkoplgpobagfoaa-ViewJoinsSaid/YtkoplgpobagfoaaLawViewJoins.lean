/-
  The law ViewJoins: for every input the call returns true, and each argument reads afterwards as it read before: the row round the walk 'ViewJoins_walk'.
-/
import Derived.Test.YtkoplgpobagfoaaRows
import Derived.Test.YtkoplgpobagfoaaVj
import Derived.Test.YtkoplgpobagfoaaBulk
import Derived.WalkKit
import Derived.ProofKit
import Derived.OpenShut
import Derived.ShutString
import Derived.SliceStrings
import Derived.ChangeOld
import Derived.Below
import Derived.SizedLaws
import Derived.JoinedCond
import Derived.Deep.CondSized
import Derived.Test.YtkoplgpobagfoaaRecs
namespace Go.Proofs.Ytkoplgpobagfoaa.lawViewJoins
open Go.ChangeShapes Go.WideShapes Go.ChangeAt Go.RowKit Go.Proofs.Ytkoplgpobagfoaa
open Go.ChangeMaps (open_string shut_string)
set_option linter.unusedVariables false
set_option linter.unusedSimpArgs false
theorem own : ownKnob Try.prog.godebug = none := by kernel_rfl
theorem laidOut : laidOutB Try.prog = true := by kernel_rfl

set_option maxRecDepth 100000 in
theorem contract (H : Type) (enc : TypeId × Value → H) (W : World) (base : Nat) (args : Array Value) (ds gs : List (DataW H)) (before : List MemPlace)
    (hval : ∀ (j : Nat) t v, Try.f8.params[j]? = some t → args[j]? = some v → Value.okWide Try.prog W .any base t v)
    (hW : DataW.Whole enc Try.prog Try.f8.params.toList Rows.viewJoinsSpec.vars false W args.toList ds gs before)
    (hsz : (DataW.weightsEach Try.prog (Try.f8.params.toList ++ Rows.viewJoinsSpec.plain.varTypes Try.prog) (ds ++ gs)).all (· ≤ reachBytes) = true) :
    Calls Try.prog 8 args W fun e W' => ∃ v, e = .returned v ∧ Rows.viewJoinsSpec.post enc Try.prog Try.f8 false true false false W args v W' := by
  have hW' := hW
  obtain ⟨p, q, hA0, hV, rfl, hfz, hnd⟩ := hW
  have hA : DataW.TrodAll enc Try.prog W 0 (fun _ => true) true Try.f8.params.toList args.toList ds p := hA0
  rw [Try.params8] at hA hval hsz
  obtain ⟨v0, vs0, d0, ds0, p0, q0, hargs, rfl, rfl, h0, r0⟩ := trodAll_cons hA
  obtain ⟨rfl, rfl, rfl⟩ := trodAll_nil r0
  obtain rfl : args = #[v0] := by cases args; simp_all
  obtain ⟨rfl, rfl⟩ := trodVars_none hV
  clear hA0
  simp only [List.append_nil] at hW'
  have k0 := h0
  have lt0 : ∀ x ∈ p0, x.block < W.heap.size := by obtain ⟨m, hm⟩ := k0; exact DataW.trod_lt m _ _ _ hm
  obtain ⟨a0, c0, ts0, rfl, e0, z0, hd0⟩ := open_vws (hval 0 54 v0 rfl rfl) h0
  have l0 : ts0.length * 24 ≤ 140737488351232 := by
    rcases hd0 with ⟨rfl, rfl⟩ | ⟨l, sp, rfl, hl⟩
    · simp
    · have z := sized_slice hsz (j := 0) (t := 54) (e := 22) rfl rfl Try.underlying54
      rw [show Try.prog.bytesOf 22 = 24 from by kernel_rfl] at z
      simp only [reachBytes] at z
      omega
  have y0 : ∀ i (h : i < ts0.length), ts0[i].2.length * 32 ≤ 140737488351232 := fun i h => by
    rcases z0 i h with q | ⟨n, hn, q⟩
    · omega
    · have hle : n ≤ reachBytes := by simpa using List.all_eq_true.1 hsz n (DataW.weights_mem_each (j := 0) (t := 54) rfl rfl n hn)
      have hr : reachBytes = 140737488351232 := by decide
      rw [hr] at hle
      exact Nat.le_trans q hle
  refine (ViewJoins_walk W a0 c0 ts0 e0 y0 l0).mono fun e W' ⟨he, bel⟩ => ?_
  subst he
  exact ⟨_, rfl, _, _, _, [], _, [], hW', trodAll_mk1 (shut_bool Try.underlying4 _), (trodAll_cons_mk (Below.trod laidOut (by kernel_rfl) (of_decide_eq_true (by kernel_rfl)) k0 bel lt0) trodAll_mk0), rfl, bel.frame _, fun h => by cases h⟩

set_option maxRecDepth 100000 in
theorem lifted (os : Os) (started : os.Started) (H : Type) (enc : TypeId × Value → H) :
    ReturnsInHanded {} Try.checked os 8 .any (Rows.viewJoinsSpec.pre6 enc Try.prog Try.f8 Rows.viewJoinsRow.domain false) (Rows.viewJoinsSpec.post enc Try.prog Try.f8 false true false false) := by
  refine returnsInHanded_of_change_sized (C := Try.checked) own started (by kernel_rfl) Try.func8
    (ChangeSpec.witness6 (enc := enc) (C := Try.checked) false ⟨#[], #[.slice none 0 0], []⟩ 8 (by kernel_rfl) (by kernel_rfl) (by kernel_rfl) (by kernel_rfl)) ?_
  intro W base args ds gs before hval hW _ hsz _
  exact contract H enc W base args ds gs before hval hW hsz

theorem over : Rows.viewJoinsRow.holds Try.pinned (OpenSpec.ofChange Rows.viewJoinsSpec) :=
  OpenClaim.holds_of_wide 8 Try.f8 rfl rfl rfl rfl rfl rfl rfl ⟨rfl, rfl, rfl, rfl, rfl⟩ rfl rfl rfl rfl rfl (by kernel_rfl) Try.func8 (by kernel_rfl)
    (of_decide_eq_true (by kernel_rfl)) (by unfold Func.isWrapper; first | (rw [if_pos (by decide +kernel)]; kernel_rfl) | (rw [if_neg (by decide +kernel)]; exact ⟨rfl, rfl⟩))
    (fun os started H enc _ => lifted os started H enc)

end Go.Proofs.Ytkoplgpobagfoaa.lawViewJoins
namespace Go.Proofs.Ytkoplgpobagfoaa
theorem viewJoins_holds : Rows.ViewJoinsSaid := lawViewJoins.over
#print axioms viewJoins_holds
end Go.Proofs.Ytkoplgpobagfoaa
