/-
  The law TopFrames: for every input the call returns true, and each argument reads afterwards as it read before: the row round the walk 'TopFrames_walk'.
-/
import Derived.Test.YtoegkcjclgmnbaaRows
import Derived.Test.YtoegkcjclgmnbaaMs
import Derived.Test.YtoegkcjclgmnbaaBulk
import Derived.WalkKit
import Derived.ProofKit
import Derived.OpenShut
import Derived.ShutString
import Derived.SliceStrings
import Derived.ChangeOld
import Derived.Below
import Derived.SizedLaws
import Derived.JoinedCond
import Derived.Deep.CondSized
import Derived.Test.YtoegkcjclgmnbaaRecs
namespace Go.Proofs.Ytoegkcjclgmnbaa.lawTopFrames
open Go.ChangeShapes Go.WideShapes Go.ChangeAt Go.RowKit Go.Proofs.Ytoegkcjclgmnbaa
open Go.ChangeMaps (open_string shut_string)
set_option linter.unusedVariables false
set_option linter.unusedSimpArgs false
theorem own : ownKnob Try.prog.godebug = none := by kernel_rfl
theorem laidOut : laidOutB Try.prog = true := by kernel_rfl

set_option maxRecDepth 100000 in
theorem contract (H : Type) (enc : TypeId × Value → H) (W : World) (base : Nat) (args : Array Value) (ds gs : List (DataW H)) (before : List MemPlace)
    (hval : ∀ (j : Nat) t v, Try.f8.params[j]? = some t → args[j]? = some v → Value.okWide Try.prog W .any base t v)
    (hW : DataW.Whole enc Try.prog Try.f8.params.toList Rows.topFramesSpec.vars false W args.toList ds gs before)
    (hsz : (DataW.weightsEach Try.prog (Try.f8.params.toList ++ Rows.topFramesSpec.plain.varTypes Try.prog) (ds ++ gs)).all (· ≤ reachBytes) = true) :
    Calls Try.prog 8 args W fun e W' => ∃ v, e = .returned v ∧ Rows.topFramesSpec.post enc Try.prog Try.f8 false true false false W args v W' := by
  have hW' := hW
  obtain ⟨p, q, hA0, hV, rfl, hfz, hnd⟩ := hW
  have hA : DataW.TrodAll enc Try.prog W 0 (fun _ => true) true Try.f8.params.toList args.toList ds p := hA0
  rw [Try.params8] at hA hval hsz
  obtain ⟨v0, vs0, d0, ds0, p0, q0, hargs, rfl, rfl, h0, r0⟩ := trodAll_cons hA
  obtain ⟨v1, vs1, d1, ds1, p1, q1, rfl, rfl, rfl, h1, r1⟩ := trodAll_cons r0
  obtain ⟨rfl, rfl, rfl⟩ := trodAll_nil r1
  obtain rfl : args = #[v0, v1] := by cases args; simp_all
  obtain ⟨rfl, rfl⟩ := trodVars_none hV
  clear hA0
  simp only [List.append_nil] at hW'
  have k0 := h0
  have lt0 : ∀ x ∈ p0, x.block < W.heap.size := by obtain ⟨m, hm⟩ := k0; exact DataW.trod_lt m _ _ _ hm
  obtain ⟨a0, c0, ts0, rfl, e0, z0, hd0⟩ := open_mls (hval 0 45 v0 rfl rfl) h0
  have l0 : ts0.length * 104 ≤ 140737488351232 := by
    rcases hd0 with ⟨rfl, rfl⟩ | ⟨l, sp, rfl, hl⟩
    · simp
    · have z := sized_slice hsz (j := 0) (t := 45) (e := 49) rfl rfl Try.underlying45
      rw [show Try.prog.bytesOf 49 = 104 from by kernel_rfl] at z
      simp only [reachBytes] at z
      omega
  have hle : ∀ n ∈ d0.weights Try.prog 45, n ≤ 140737488351232 := fun n hn => by
    have hle : n ≤ reachBytes := by simpa using List.all_eq_true.1 hsz n (DataW.weights_mem_each (j := 0) (t := 45) rfl rfl n hn)
    have hr : reachBytes = 140737488351232 := by decide
    rw [hr] at hle
    exact hle
  have y0 : ∀ i (h : i < ts0.length), ts0[i].s.length * 32 ≤ 140737488351232 ∧ ts0[i].i.length * 16 ≤ 140737488351232 := fun i h => by
    obtain ⟨q1, q2⟩ := z0 i h
    refine ⟨?_, ?_⟩
    · rcases q1 with q | ⟨n, hn, q⟩
      · omega
      · exact Nat.le_trans q (hle n hn)
    · rcases q2 with q | ⟨n, hn, q⟩
      · omega
      · exact Nat.le_trans q (hle n hn)
  have k1 := h1
  have lt1 : ∀ x ∈ p1, x.block < W.heap.size := by obtain ⟨m, hm⟩ := k1; exact DataW.trod_lt m _ _ _ hm
  obtain ⟨ts1, e1, z1, hd1⟩ := open_intA Try.underlying29 Try.underlying3 (by kernel_rfl) (hval 1 29 v1 rfl rfl) h1
  have l1 : ts1.length * 8 ≤ 140737488351232 := by
    rcases hd1 with ⟨rfl, rfl⟩ | ⟨sp, rfl⟩
    · simp
    · have z := sized_slice hsz (j := 1) (t := 29) (e := 3) rfl rfl Try.underlying29
      rw [show Try.prog.bytesOf 3 = 8 from by kernel_rfl] at z
      simp only [ChangeShapes.lits, List.length_map, reachBytes] at z
      omega
  refine (TopFrames_walk W a0 c0 ts0 e0 y0 l0 v1 ts1 e1 z1 l1).mono fun e W' ⟨he, bel⟩ => ?_
  subst he
  exact ⟨_, rfl, _, _, _, [], _, [], hW', trodAll_mk1 (shut_bool Try.underlying4 _), (trodAll_cons_mk (Below.trod laidOut (by kernel_rfl) (of_decide_eq_true (by kernel_rfl)) k0 bel lt0) (trodAll_cons_mk (Below.trod laidOut (by kernel_rfl) (of_decide_eq_true (by kernel_rfl)) k1 bel lt1) trodAll_mk0)), rfl, bel.frame _, fun h => by cases h⟩

set_option maxRecDepth 100000 in
theorem lifted (os : Os) (started : os.Started) (H : Type) (enc : TypeId × Value → H) :
    ReturnsInHanded {} Try.checked os 8 .any (Rows.topFramesSpec.pre6 enc Try.prog Try.f8 Rows.topFramesRow.domain false) (Rows.topFramesSpec.post enc Try.prog Try.f8 false true false false) := by
  refine returnsInHanded_of_change_sized (C := Try.checked) own started (by kernel_rfl) Try.func8
    (ChangeSpec.witness6 (enc := enc) (C := Try.checked) false ⟨#[], #[.slice none 0 0, .slice none 0 0], []⟩ 8 (by kernel_rfl) (by kernel_rfl) (by kernel_rfl) (by kernel_rfl)) ?_
  intro W base args ds gs before hval hW _ hsz _
  exact contract H enc W base args ds gs before hval hW hsz

theorem over : Rows.topFramesRow.holds Try.pinned (OpenSpec.ofChange Rows.topFramesSpec) :=
  OpenClaim.holds_of_wide 8 Try.f8 rfl rfl rfl rfl rfl rfl rfl ⟨rfl, rfl, rfl, rfl, rfl⟩ rfl rfl rfl rfl rfl (by kernel_rfl) Try.func8 (by kernel_rfl)
    (of_decide_eq_true (by kernel_rfl)) (by unfold Func.isWrapper; first | (rw [if_pos (by decide +kernel)]; kernel_rfl) | (rw [if_neg (by decide +kernel)]; exact ⟨rfl, rfl⟩))
    (fun os started H enc _ => lifted os started H enc)

end Go.Proofs.Ytoegkcjclgmnbaa.lawTopFrames
namespace Go.Proofs.Ytoegkcjclgmnbaa
theorem topFrames_holds : Rows.TopFramesSaid := lawTopFrames.over
#print axioms topFrames_holds
end Go.Proofs.Ytoegkcjclgmnbaa
