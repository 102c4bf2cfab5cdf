/-
  Layer 1: FieldWide, walked.
-/
import Derived.Test.YtfnmnmjpcamkiaaFl1
namespace Go.Proofs.Ytfnmnmjpcamkiaa
open Go.RowKit
set_option linter.unusedVariables false
set_option linter.unusedSimpArgs false

/-- A number times 256 so many times. -/
def hiN (d : Int) (k : Nat) : Int := d * 256 ^ k % PP
theorem hiN_succ (d : Int) (k : Nat) : mulZ (hiN d k) 256 = hiN d (k + 1) := by
  unfold mulZ hiN
  rw [Int.mul_emod (d * 256 ^ k % PP), Int.emod_emod, ← Int.mul_emod, Int.pow_succ, Int.mul_assoc]
theorem hiN_zero (d : Int) : hiN d 0 = d % PP := by unfold hiN; rw [Int.pow_zero, Int.mul_one]

theorem dec_append (x y : ByteArray) : dec (x ++ y) = dec x + 256 ^ x.size * dec y := by
  unfold dec
  rw [ByteArray.data_append, Array.toList_append, decL_append, Array.length_toList]
  show ((decL x.data.toList + 256 ^ x.size * decL y.data.toList : Nat) : Int) = _
  simp

theorem wide_sum (x y : ByteArray) : addZ (dec x % PP) (hiN (dec y) x.size) = dec (x ++ y) % PP := by
  unfold addZ hiN
  rw [← Int.add_emod, dec_append, Int.mul_comm (dec y)]

set_option maxRecDepth 100000 in
set_option maxHeartbeats 3200000 in
theorem FieldWide_walk (w : World) (x : ByteArray) (hx : x.size ≤ 140737488351232) (y : ByteArray) (hy : y.size ≤ 140737488351232) :
    Calls Try.prog 10 #[.string x, .string y] w fun r w' => r = .returned (.bool true) ∧ Below w.heap.size w w' := by
  go_enter Try.func10, Try.ntmps10
  go_upto_region 3 with (go_at_call 26; refine (works_any _).mono ?_; rintro r w1 ⟨rfl, t1⟩)
  go_cut [0, 1] (fun v u wx => v = .string (cutS x 32) ∧ u = .string (cutS y 32) ∧ Touch Nothing w1 wx)
  case first =>
    have cx : (x.size ≤ 32 ∧ cutS x 32 = x) ∨ (32 < x.size ∧ cutS x 32 = x.extract 0 32) := by
      unfold cutS
      by_cases h : x.size ≤ 32
      · exact .inl ⟨h, if_pos h⟩
      · exact .inr ⟨by omega, if_neg h⟩
    have cy : (y.size ≤ 32 ∧ cutS y 32 = y) ∨ (32 < y.size ∧ cutS y 32 = y.extract 0 32) := by
      unfold cutS
      by_cases h : y.size ≤ 32
      · exact .inl ⟨h, if_pos h⟩
      · exact .inr ⟨by omega, if_neg h⟩
    rcases cx with ⟨h1, e1⟩ | ⟨h1, e1⟩
    all_goals
      replace e1 := Lib.hid e1
      rcases cy with ⟨h2, e2⟩ | ⟨h2, e2⟩
      all_goals
        replace e2 := Lib.hid e2
        go_region
        all_goals (go_wp2_with fail; go_meet; exact ⟨by rw [e1.out], by rw [e2.out], (Touch.refl _ _).drew⟩)
  case rest =>
    obtain ⟨hv0, hv1, ht2⟩ := hcut
    subst hv0 hv1
    have hX := cutS_size x 32
    have hY := cutS_size y 32
    obtain ⟨X, eX⟩ : ∃ X, X = cutS x 32 := ⟨_, rfl⟩
    obtain ⟨Y, eY⟩ : ∃ Y, Y = cutS y 32 := ⟨_, rfl⟩
    rw [← eX] at hX ⊢
    rw [← eY] at hY ⊢
    replace eX := Lib.hid eX
    replace eY := Lib.hid eY
    have hs := wide_sum X Y
    have cR := fun w => red1 w (X ++ Y) (by rw [ByteArray.size_append]; omega)
    rw [← hs] at cR
    have e64 : ∀ s : ByteArray, s.size ≤ 32 → eltN s = dec s % PP := fun s h => by unfold eltN cutS; rw [if_pos (by omega)]
    have cX := fun w => elt1 w X (by omega)
    have cY := fun w => elt1 w Y (by omega)
    rw [e64 X hX] at cX
    rw [e64 Y hY, ← hiN_zero] at cY
    obtain ⟨lo, hlo⟩ : ∃ lo, lo = dec X % PP := ⟨_, rfl⟩
    have rlo : Rng lo := by rw [hlo]; exact rng_mod _
    rw [← hlo] at cX cR
    obtain ⟨hi, hhi⟩ : ∃ hi, hi = hiN (dec Y) := ⟨_, rfl⟩
    have rhi : ∀ k, Rng (hi k) := fun k => by rw [hhi]; exact rng_mod _
    have shi : ∀ k, mulZ (hi k) 256 = hi (k + 1) := fun k => by rw [hhi]; exact hiN_succ _ k
    rw [← hhi] at cY cR
    have c256 := fun w => small1 w 256 (by omega) (by omega)
    have cM := fun w k t => mul2 w (hi k) 256 t (rhi k) (rng_small 256 (by omega) (by omega))
    have cA := fun w t => add2 w lo (hi X.size) t rlo (rhi _)
    clear e64 hs
    replace cR := Lib.hid cR
    replace cX := Lib.hid cX
    replace cY := Lib.hid cY
    replace hlo := Lib.hid hlo
    replace rlo := Lib.hid rlo
    replace hhi := Lib.hid hhi
    replace rhi := Lib.hid rhi
    replace shi := Lib.hid shi
    replace c256 := Lib.hid c256
    replace cM := Lib.hid cM
    replace cA := Lib.hid cA
    go_upto_region 6 with (first | (go_at_call 19; refine (cR.out _).mono ?_; rintro r w3 ⟨rfl, t3⟩) | (go_at_call_of 33 (Value.string X); refine (cX.out _).mono ?_; rintro r w4 ⟨rfl, t4⟩) | (go_at_call_of 33 (Value.string Y); refine (cY.out _).mono ?_; rintro r w5 ⟨rfl, t5⟩))
    go_wp2
    have hT5 : Touch Nothing w w5 := by repeat (first | exact Touch.refl _ _ | refine Touch.trans' ?_ (by assumption) | refine Touch.alloc ?_ _)
    go_loopw [8, 36] (fun hv iv wr => ∃ k : Nat, k ≤ X.size ∧ hv = .string (enc (hi k)) ∧ iv = .int .i64 (k : Int) ∧ Touch Nothing w wr) (fun _ iv _ => X.size - (intOf iv).toNat)
    case atStart => exact ⟨0, Nat.zero_le _, rfl, rfl, hT5⟩
    case round =>
      obtain ⟨k, hk, rfl, rfl, ht⟩ := hrel
      by_cases hlt : k < X.size
      · have hst := shi.out k
        have cMk := fun w t => cM.out w k t
        rw [hst] at cMk
        replace hst := Lib.hid hst
        replace cMk := Lib.hid cMk
        go_wp2_with (first | (go_at_call 34; refine (c256.out _).mono ?_; rintro r w6 ⟨rfl, t6⟩) | (go_at_call 29; refine (cMk.out _ _).mono ?_; rintro r w7 ⟨rfl, t7⟩))
        exact ⟨⟨k + 1, by omega, rfl, by simp, ((ht.trans' t6).alloc _).trans' t7⟩, by simp [intOf]; omega⟩
      · obtain rfl : k = X.size := by omega
        go_wp2_with (go_at_call 27; refine (cA.out _ _).mono ?_; rintro r w8 ⟨rfl, t8⟩)
        go_ret
        exact ⟨rfl, Touch.toBelow0 (F := Nothing) ((ht.alloc _).trans' t8) fun _ _ q => q⟩

end Go.Proofs.Ytfnmnmjpcamkiaa
