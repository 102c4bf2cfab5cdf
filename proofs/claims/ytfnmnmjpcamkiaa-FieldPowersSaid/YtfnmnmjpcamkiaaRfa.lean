/-
  Layer 1, the reference: Sub, Inv, Square, walked.
-/
import Derived.Test.YtfnmnmjpcamkiaaRf9
namespace Go.Proofs.Ytfnmnmjpcamkiaa
open Go.RowKit
set_option linter.unusedVariables false
set_option linter.unusedSimpArgs false

set_option maxRecDepth 100000 in
set_option maxHeartbeats 1600000 in
theorem Sub_ref (w : World) (a b : ByteArray) : Calls Try.prog 32 #[.string a, .string b] w fun r w' => r = .returned (subR a b) ∧ Touch Nothing w w' := by
  have hW := fun t => wrong_ref _ _ _ _ (strs_two w a b t) (by simp)
  by_cases hz : wrC [a, b] = 0
  · have hR : subR a b = okV ((dec a - dec b) % PP) := by unfold subR; rw [hz, if_neg (by simp)]
    rw [hR]
    unfold okV
    clear hR
    rw [hz] at hW
    obtain ⟨hall, _⟩ := wrC_zero hz
    obtain ⟨ha32, had⟩ := hall a (by simp)
    obtain ⟨hb32, hbd⟩ := hall b (by simp)
    have oA := fun w => Of_ref w a ha32
    have oB := fun w => Of_ref w b hb32
    have hL := fun w => Less_ref w (dec a) (dec b) ⟨dec_pos a, had⟩ ⟨dec_pos b, hbd⟩
    have hB := fun w => bytes_gen w (numV (canL (subZ (dec a) (dec b)) 10)) (subZ (dec a) (dec b)) rfl (rng_sub _ _)
    obtain ⟨A, eA⟩ : ∃ A, A = numV (canL (dec a) 10) := ⟨_, rfl⟩
    obtain ⟨B, eB⟩ : ∃ B, B = numV (canL (dec b) 10) := ⟨_, rfl⟩
    obtain ⟨C, eC⟩ : ∃ C, C = numV (canL (subZ (dec a) (dec b)) 10) := ⟨_, rfl⟩
    rw [← eA] at oA hL
    rw [← eB] at oB hL
    rw [← eC] at hL hB
    obtain ⟨fin, hfin⟩ : ∃ x, x = subZ (dec a) (dec b) := ⟨_, rfl⟩
    have hf2 : fin = (dec a - dec b) % PP := hfin
    rw [← hf2]
    rw [← hfin] at hB
    replace hfin := Lib.hid hfin
    replace hf2 := Lib.hid hf2
    replace hW := Lib.hid hW
    replace hz := Lib.hid hz
    replace oA := Lib.hid oA
    replace oB := Lib.hid oB
    replace hL := Lib.hid hL
    replace hB := Lib.hid hB
    replace eA := Lib.hid eA
    replace eB := Lib.hid eB
    replace eC := Lib.hid eC
    clear hall had hbd ha32 hb32
    go_enter Try.func32, Try.ntmps32
    go_wp2_with (first | (go_at_call 63; refine (hW.out _).mono ?_; rintro r w2 ⟨rfl, ht2⟩) | (go_at_call_of 60 (Value.string a); refine (oA.out _).mono ?_; rintro r w3 ⟨rfl, ht3⟩) | (go_at_call_of 60 (Value.string b); refine (oB.out _).mono ?_; rintro r w4 ⟨rfl, ht4⟩) | (go_at_call 67; refine (hL.out _).mono ?_; rintro r w5 ⟨rfl, ht5⟩) | (go_at_call 56; refine (hB.out _).mono ?_; rintro r w6 ⟨rfl, ht6⟩))
    go_ret2
    exact ⟨rfl, ((((((Touch.refl Nothing w).alloc _).trans' ht2).trans' ht3).trans' ht4).trans' ht5).trans' ht6⟩
  · have hR : subR a b = errV (wrC [a, b]) := by unfold subR; rw [if_pos hz]
    rw [hR]
    unfold errV
    clear hR
    obtain ⟨q, hq⟩ : ∃ q, q = wrC [a, b] := ⟨_, rfl⟩
    rw [← hq] at hW hz ⊢
    have hqb : (q == 0) = false := by simpa using hz
    replace hz := Lib.hid hz
    replace hq := Lib.hid hq
    replace hW := Lib.hid hW
    go_enter Try.func32, Try.ntmps32
    go_wp2_with (go_at_call 63; refine (hW.out _).mono ?_; rintro r w2 ⟨rfl, ht2⟩)
    go_ret2
    exact ⟨rfl, ((Touch.refl Nothing w).alloc _).trans' ht2⟩

set_option maxRecDepth 100000 in
set_option maxHeartbeats 1600000 in
theorem Inv_ref (w : World) (a : ByteArray) : Calls Try.prog 41 #[.string a] w fun r w' => r = .returned (if chkC a ≠ 0 then errV (chkC a) else okV (invN (dec a))) ∧ Touch Nothing w w' := by
  have hC := Lib.hid (Check_ref w a)
  by_cases hz : chkC a = 0
  · rw [if_neg (by simpa using hz)]
    unfold okV
    obtain ⟨h32, had⟩ := wrong_zero (l := [a]) (by unfold wrongC; rw [if_neg (by simpa using hz)]; rfl) a (by simp)
    rw [hz] at hC
    have oA := fun w => Of_ref w a h32
    have hI := fun w => Inverse_ref w (dec a) ⟨dec_pos a, had⟩
    have hB := fun w => bytes_gen w (numV (canL (invN (dec a)) 10)) (invN (dec a)) rfl (rng_inv _)
    obtain ⟨A, eA⟩ : ∃ A, A = numV (canL (dec a) 10) := ⟨_, rfl⟩
    obtain ⟨C, eC⟩ : ∃ C, C = numV (canL (invN (dec a)) 10) := ⟨_, rfl⟩
    rw [← eA] at oA hI
    rw [← eC] at hI hB
    obtain ⟨fin, hfin⟩ : ∃ x, x = invN (dec a) := ⟨_, rfl⟩
    rw [← hfin] at hB ⊢
    replace hfin := Lib.hid hfin
    replace oA := Lib.hid oA
    replace hI := Lib.hid hI
    replace hB := Lib.hid hB
    replace eA := Lib.hid eA
    replace eC := Lib.hid eC
    clear had h32 hz
    go_enter Try.func41, Try.ntmps41
    go_wp2_with (first | (go_at_call 25; refine hC.out.mono ?_; rintro r w2 ⟨rfl, ht2⟩) | (go_at_call 60; refine (oA.out _).mono ?_; rintro r w3 ⟨rfl, ht3⟩) | (go_at_call 74; refine (hI.out _).mono ?_; rintro r w4 ⟨rfl, ht4⟩) | (go_at_call 56; refine (hB.out _).mono ?_; rintro r w5 ⟨rfl, ht5⟩))
    go_ret2
    exact ⟨rfl, ((ht2.trans' ht3).trans' ht4).trans' ht5⟩
  · rw [if_pos hz]
    unfold errV
    obtain ⟨q, hq⟩ : ∃ q, q = chkC a := ⟨_, rfl⟩
    rw [← hq] at hC hz ⊢
    have hqb : (q == 0) = false := by simpa using hz
    replace hz := Lib.hid hz
    replace hq := Lib.hid hq
    go_enter Try.func41, Try.ntmps41
    go_wp2_with (go_at_call 25; refine hC.out.mono ?_; rintro r w2 ⟨rfl, ht2⟩)
    go_ret2
    exact ⟨rfl, ht2⟩

set_option maxRecDepth 100000 in
set_option maxHeartbeats 1600000 in
theorem Square_ref (w : World) (a : ByteArray) (n : Int) : Calls Try.prog 43 #[.string a, .int .i64 n] w fun r w' => r = .returned (sqR a n) ∧ Touch Nothing w w' := by
  have hC := Lib.hid (Check_ref w a)
  unfold sqR
  by_cases hz : chkC a = 0
  · rw [if_neg (by simpa using hz)]
    rw [hz] at hC
    by_cases hn : n < 0 ∨ 300 < n
    · rw [if_pos hn]
      unfold errV
      replace hz := Lib.hid hz
      rcases hn with hn | hn
      · have d0 : decide (n < 0) = true := by simpa using hn
        go_enter Try.func43, Try.ntmps43
        go_wp2_with (go_at_call 25; refine hC.out.mono ?_; rintro r w2 ⟨rfl, ht2⟩)
        go_ret2
        exact ⟨rfl, ht2⟩
      · have d0 : decide (n < 0) = false := by simp; omega
        have d1 : decide (300 < n) = true := by simpa using hn
        go_enter Try.func43, Try.ntmps43
        go_wp2_with (go_at_call 25; refine hC.out.mono ?_; rintro r w2 ⟨rfl, ht2⟩)
        go_ret2
        exact ⟨rfl, ht2⟩
    · rw [if_neg hn]
      unfold okV
      have d0 : decide (n < 0) = false := by simp; omega
      have d1 : decide (300 < n) = false := by simp; omega
      obtain ⟨h32, had⟩ := wrong_zero (l := [a]) (by unfold wrongC; rw [if_neg (by simpa using hz)]; rfl) a (by simp)
      obtain ⟨m, rfl⟩ := Int.eq_ofNat_of_zero_le (show 0 ≤ n by omega)
      rw [Int.toNat_natCast]
      have oA := fun w => Of_ref w a h32
      have hI := fun w => Squared_ref w (dec a) ⟨dec_pos a, had⟩ m (by omega)
      have hB := fun w => bytes_gen w (numV (canL (sqN (dec a) m) 10)) (sqN (dec a) m) rfl (rng_sq _ _)
      obtain ⟨A, eA⟩ : ∃ A, A = numV (canL (dec a) 10) := ⟨_, rfl⟩
      obtain ⟨C, eC⟩ : ∃ C, C = numV (canL (sqN (dec a) m) 10) := ⟨_, rfl⟩
      rw [← eA] at oA hI
      rw [← eC] at hI hB
      obtain ⟨fin, hfin⟩ : ∃ x, x = sqN (dec a) m := ⟨_, rfl⟩
      rw [← hfin] at hB ⊢
      replace hfin := Lib.hid hfin
      replace oA := Lib.hid oA
      replace hI := Lib.hid hI
      replace hB := Lib.hid hB
      replace eA := Lib.hid eA
      replace eC := Lib.hid eC
      clear had h32 hz
      go_enter Try.func43, Try.ntmps43
      go_wp2_with (first | (go_at_call 25; refine hC.out.mono ?_; rintro r w2 ⟨rfl, ht2⟩) | (go_at_call 60; refine (oA.out _).mono ?_; rintro r w3 ⟨rfl, ht3⟩) | (go_at_call 76; refine (hI.out _).mono ?_; rintro r w4 ⟨rfl, ht4⟩) | (go_at_call 56; refine (hB.out _).mono ?_; rintro r w5 ⟨rfl, ht5⟩))
      go_ret2
      exact ⟨rfl, ((ht2.trans' ht3).trans' ht4).trans' ht5⟩
  · rw [if_pos hz]
    unfold errV
    obtain ⟨q, hq⟩ : ∃ q, q = chkC a := ⟨_, rfl⟩
    rw [← hq] at hC hz ⊢
    have hqb : (q == 0) = false := by simpa using hz
    replace hz := Lib.hid hz
    replace hq := Lib.hid hq
    go_enter Try.func43, Try.ntmps43
    go_wp2_with (go_at_call 25; refine hC.out.mono ?_; rintro r w2 ⟨rfl, ht2⟩)
    go_ret2
    exact ⟨rfl, ht2⟩

end Go.Proofs.Ytfnmnmjpcamkiaa
