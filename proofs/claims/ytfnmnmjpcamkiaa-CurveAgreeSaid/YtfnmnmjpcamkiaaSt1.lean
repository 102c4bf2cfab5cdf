/-
  The law CurveSteps, walked.
-/
import Derived.Test.YtfnmnmjpcamkiaaCl9
namespace Go.Proofs.Ytfnmnmjpcamkiaa
open Go.RowKit
set_option linter.unusedVariables false
set_option linter.unusedSimpArgs false

theorem sharedR_err {k u : ByteArray} (h : ¬ (sharedR k u).2 = 0) : (sharedR k u).1 = noB := by
  unfold sharedR at h ⊢
  by_cases h1 : (timesR k u).2 = 0
  · rw [if_pos h1] at h ⊢
    by_cases h2 : (timesR k u).1 = enc 0
    · rw [if_pos h2]
    · rw [if_neg h2] at h
      exact absurd h1 h
  · rw [if_neg h1]

theorem chainG_one (u k : ByteArray) : chainG u [k] = sharedR k u := by
  unfold chainG
  by_cases h : (sharedR k u).2 = 0
  · rw [if_pos h]
    unfold chainG
    rw [← h]
  · rw [if_neg h, ← sharedR_err h]

theorem chainR_two {x y z : ByteArray} (hx : x.size = 32) (hy : y.size = 32) (hz : z.size = 32) :
    chainR z [x, y] = if (sharedR x z).2 = 0 then sharedR y (sharedR x z).1 else sharedR x z := by
  unfold chainR allB
  rw [if_pos (by simp [hx, hy, hz]), if_neg (by simp)]
  unfold chainG
  by_cases h : (sharedR x z).2 = 0
  · rw [if_pos h, if_pos h, chainG_one]
  · rw [if_neg h, if_neg h, ← sharedR_err h]

theorem chainR_none {z : ByteArray} (hz : z.size = 32) : chainR z [] = (z, 0) := by
  unfold chainR allB
  rw [if_pos (by simp [hz]), if_neg (by simp)]
  rfl

theorem strSl_two (w : World) (x y : ByteArray) : StrSl (w.alloc (.cells #[.string x, .string y] 9)) (some ⟨w.heap.size, 0, none⟩) 2 [x, y] := by
  have h := heap_alloc_new w (.cells #[.string x, .string y] 9)
  refine ⟨by simp, fun i hi => ⟨_, _, rfl, ?_⟩⟩
  rw [Nat.zero_add, cell_blk h i]
  match i, hi with
  | 0, _ => rfl
  | 1, _ => rfl

theorem chain2 (w : World) (x y z : ByteArray) (t : Res) (ht : chainR z [x, y] = t) :
    Calls Try.prog 49 #[.string z, .slice (some ⟨w.heap.size, 0, none⟩) 2 2] (w.alloc (.cells #[.string x, .string y] 9)) fun r w' => r = .returned (.tuple #[.string t.1, .int .i64 t.2]) ∧ Touch Nothing w w' := by
  have h := Chain_any (w.alloc (.cells #[.string x, .string y] 9)) z (some ⟨w.heap.size, 0, none⟩) 2 [x, y] (strSl_two w x y) (by simp)
  rw [ht] at h
  exact h.mono fun r w' q => ⟨q.1, ((Touch.refl Nothing w).alloc _).trans' q.2⟩

theorem chain0 (w : World) (z : ByteArray) (hz : z.size = 32) :
    Calls Try.prog 49 #[.string z, .slice none 0 0] w fun r w' => r = .returned (.tuple #[.string z, .int .i64 0]) ∧ Touch Nothing w w' := by
  have h := Chain_any w z none 0 [] ⟨by simp, fun i hi => by simp at hi⟩ (by simp)
  rw [chainR_none hz] at h
  exact h

set_option maxRecDepth 100000 in
set_option maxHeartbeats 800000 in
theorem curveSteps_walk (w : World) (a b c : ByteArray) : Calls Try.prog 17 #[.string a, .string b, .string c] w fun r w' => r = .returned (.bool true) ∧ Touch Nothing w w' := by
  have hx := scalarS_size a
  have hy := scalarS_size b
  have hz := scalarS_size c
  have hA := fun w => scalar_any w a
  have hB := fun w => scalar_any w b
  have hC := fun w => scalar_any w c
  obtain ⟨x, ex⟩ : ∃ x, x = scalarS a := ⟨_, rfl⟩
  obtain ⟨y, ey⟩ : ∃ x, x = scalarS b := ⟨_, rfl⟩
  obtain ⟨z, ez⟩ : ∃ x, x = scalarS c := ⟨_, rfl⟩
  rw [← ex] at hx hA
  rw [← ey] at hy hB
  rw [← ez] at hz hC
  have hS := fun w => Shared_lay w x z
  have hch := chainR_two hx hy hz
  have hc0 := Lib.hid (fun w => chain0 w z hz)
  have hW := Lib.hid (fun w => curveWorks_any w)
  obtain ⟨⟨s, e⟩, hs⟩ : ∃ y, y = sharedR x z := ⟨_, rfl⟩
  have hsx : ¬ e = 0 → s = noB := fun he => by have := sharedR_err (k := x) (u := z) (by rw [← hs]; exact he); rw [← hs] at this; exact this
  rw [← hs] at hS hch
  simp only [] at hS hch
  have hS2 := fun w => Shared_lay w y s
  replace hA := Lib.hid hA
  replace hB := Lib.hid hB
  replace hC := Lib.hid hC
  replace hS := Lib.hid hS
  clear ex ey ez hs hx hy hz
  by_cases he : e = 0
  · subst he
    clear hsx
    rw [if_pos rfl] at hch
    obtain ⟨⟨t, f⟩, ht⟩ : ∃ y', y' = sharedR y s := ⟨_, rfl⟩
    rw [← ht] at hch hS2
    simp only [] at hS2
    have hc2 := Lib.hid (fun w => chain2 w x y z _ hch)
    replace hS2 := Lib.hid hS2
    clear ht hch
    simp only [] at hc2
    go_enter Try.func17, Try.ntmps17
    go_wp2_with (first | (go_at_call 40; refine (hW.out _).mono ?_; rintro r wW ⟨rfl, tW⟩) | (go_at_call_of 48 (Value.string a); refine (hA.out _).mono ?_; rintro r wA ⟨rfl, tA⟩) | (go_at_call_of 48 (Value.string b); refine (hB.out _).mono ?_; rintro r wB ⟨rfl, tB⟩) | (go_at_call_of 48 (Value.string c); refine (hC.out _).mono ?_; rintro r wC ⟨rfl, tC⟩) | (go_at_call_of 44 (Value.string x); refine (hS.out _).mono ?_; rintro r wS ⟨rfl, tS⟩) | (go_at_call_of 44 (Value.string y); refine (hS2.out _).mono ?_; rintro r wT ⟨rfl, tT⟩) | (go_at_call 49; with_reducible refine (hc0.out _).mono ?_; rintro r wY ⟨rfl, tY⟩) | (go_at_call 49; with_reducible refine (hc2.out _).mono ?_; rintro r wX ⟨rfl, tX⟩))
    go_ret
    exact ⟨rfl, (((((((tW.trans' tA).trans' tB).trans' tC).trans' tS).trans' tT).trans' tX).trans' tY)⟩
  · rw [if_neg he] at hch
    have e1 : (e == 0) = false := by simp [he]
    have e2 : (e != 0) = true := by simp [he]
    have hsn : s = noB := hsx he
    subst hsn
    have hc2 := Lib.hid (fun w => chain2 w x y z _ hch)
    clear hch hS2 hsx
    simp only [] at hc2
    unfold noB at hc2 hS
    go_enter Try.func17, Try.ntmps17
    go_wp2_with (first | (go_at_call 40; refine (hW.out _).mono ?_; rintro r wW ⟨rfl, tW⟩) | (go_at_call_of 48 (Value.string a); refine (hA.out _).mono ?_; rintro r wA ⟨rfl, tA⟩) | (go_at_call_of 48 (Value.string b); refine (hB.out _).mono ?_; rintro r wB ⟨rfl, tB⟩) | (go_at_call_of 48 (Value.string c); refine (hC.out _).mono ?_; rintro r wC ⟨rfl, tC⟩) | (go_at_call_of 44 (Value.string x); refine (hS.out _).mono ?_; rintro r wS ⟨rfl, tS⟩) | (go_at_call 49; with_reducible refine (hc0.out _).mono ?_; rintro r wY ⟨rfl, tY⟩) | (go_at_call 49; with_reducible refine (hc2.out _).mono ?_; rintro r wX ⟨rfl, tX⟩))
    go_ret
    exact ⟨rfl, (((((tW.trans' tA).trans' tB).trans' tC).trans' tS).trans' tX).trans' tY⟩

theorem CurveSteps_walk (w : World) (x : ByteArray) (hx : x.size ≤ 140737488351232) (y : ByteArray) (hy : y.size ≤ 140737488351232) (z : ByteArray) (hz : z.size ≤ 140737488351232) :
    Calls Try.prog 17 #[.string x, .string y, .string z] w fun r w' => r = .returned (.bool true) ∧ Below w.heap.size w w' :=
  (curveSteps_walk w x y z).mono fun r w' q => ⟨q.1, q.2.toBelow0 fun _ _ q => q⟩

end Go.Proofs.Ytfnmnmjpcamkiaa
