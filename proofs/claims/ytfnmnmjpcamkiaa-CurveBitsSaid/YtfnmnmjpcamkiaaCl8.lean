/-
  Layer 2's law helpers: works, walked.
-/
import Derived.Test.YtfnmnmjpcamkiaaCl7
import Derived.Test.YtfnmnmjpcamkiaaGod
namespace Go.Proofs.Ytfnmnmjpcamkiaa
open Go.RowKit
set_option linter.unusedVariables false
set_option linter.unusedSimpArgs false

theorem hex_ok : hexOk hexB nineB.data.toList := by
  refine ⟨by decide +kernel, by decide +kernel, fun k hk => ?_⟩
  have h : ∀ k : Fin 32, (match hexB.data.toList[2 * k.val]?, hexB.data.toList[2 * k.val + 1]?, nineB.data.toList[k.val]? with
    | some x, some y, some z => dgOk x.toNat && dgOk y.toNat && (z.toNat == 16 * dgV x.toNat + dgV y.toNat)
    | _, _, _ => false) = true := by decide +kernel
  have hk2 := h ⟨k, hk⟩
  simp only [] at hk2
  split at hk2
  · rename_i x y z e1 e2 e3
    simp only [Bool.and_eq_true, beq_iff_eq] at hk2
    exact ⟨x, y, z, e1, e2, e3, hk2.1.1, hk2.1.2, hk2.2⟩
  · cases hk2

theorem timesR_nine : timesR (enc 9) (enc 9) = (nineB, 0) := by
  unfold timesR
  rw [if_pos ⟨enc_size _, enc_size _⟩, timesB_nine]

set_option maxRecDepth 100000 in
theorem curveWorks_any (w : World) : Calls Try.prog 40 #[] w fun r w' => r = .returned (.bool true) ∧ Touch Nothing w w' := by
  have hS : ∀ w, Calls Try.prog 21 #[.int .i64 9] w fun r w' => r = .returned (.tuple #[.string (enc 9), .int .i64 0]) ∧ Touch Nothing w w' := fun w => small_yes w 9 (by omega) (by omega)
  have hT := fun w => Times_lay w (enc 9) (enc 9)
  rw [timesR_nine] at hT
  simp only [] at hT
  have hH := fun w => hex_any w hexB nineB.data.toList hex_ok
  rw [show (⟨nineB.data.toList.toArray⟩ : ByteArray) = nineB from rfl] at hH
  unfold hexB at hH
  obtain ⟨n, hn⟩ : ∃ n, n = nineB := ⟨_, rfl⟩
  rw [← hn] at hT hH
  obtain ⟨x, hx⟩ : ∃ x, x = enc 9 := ⟨_, rfl⟩
  rw [← hx] at hT hS
  have hx32 : x.size = 32 := by rw [hx, enc_size]
  have hx32i : (x.size : Int) = 32 := by omega
  replace hT := Lib.hid hT
  replace hx := Lib.hid hx
  replace hS := Lib.hid hS
  replace hH := Lib.hid hH
  clear hn
  go_enter Try.func40, Try.ntmps40
  go_upto_region 3 with (first | (go_at_call 21; refine (hS.out _).mono ?_; rintro r w2 ⟨rfl, ht⟩) | (go_at_call 36; refine (hT.out _).mono ?_; rintro r w3 ⟨rfl, ht3⟩))
  go_wp2_with (first | (go_at_call 73; refine (hH.out _).mono ?_; rintro r w4 ⟨rfl, ht4⟩))
  go_ret
  exact ⟨rfl, (ht.trans' ht3).trans' ht4⟩

end Go.Proofs.Ytfnmnmjpcamkiaa
