/-
  Layer 1: a number that is not 0 modulo p, times its power p - 2, is 1. No program in sight.
-/
import Derived.Test.YtfnmnmjpcamkiaaFe
import Derived.Test.YtfnmnmjpcamkiaaPrc
namespace Go.Proofs.Ytfnmnmjpcamkiaa
set_option linter.unusedVariables false

theorem pow_mod_int (x : Int) (k : Nat) : x ^ k % PP = (x % PP) ^ k % PP := by
  induction k with
  | zero => rw [Int.pow_zero, Int.pow_zero]
  | succ k ih =>
    rw [Int.pow_succ, Int.pow_succ, Int.mul_emod, ih]
    conv => rhs; rw [Int.mul_emod, Int.emod_emod]

theorem cast_pow_mod (n k : Nat) : ((n : Int) ^ k) % PP = ((n ^ k % 57896044618658097711785492504343953926634992332820282019728792003956564819949 : Nat) : Int) := by
  rw [Int.natCast_emod, Int.natCast_pow]
  rfl

theorem fermat_int (x : Int) (h : x % PP ≠ 0) (k : Nat) (hk : k = 57896044618658097711785492504343953926634992332820282019728792003956564819949 - 1) : x ^ k % PP = 1 := by
  have h0 : 0 ≤ x % PP := Int.emod_nonneg _ (by decide)
  have h1 : x % PP < PP := Int.emod_lt_of_pos _ (by decide)
  obtain ⟨n, hn⟩ := Int.eq_ofNat_of_zero_le h0
  rw [hn] at h1 h
  rw [pow_mod_int, hn, cast_pow_mod]
  have hnd : ¬ 57896044618658097711785492504343953926634992332820282019728792003956564819949 ∣ n := fun hd => by
    have hpos : 0 < n := by omega
    have := Nat.le_of_dvd hpos hd
    unfold PP at h1
    omega
  have := fermat prm_p hnd
  rw [← hk] at this
  rw [this]
  rfl

theorem inv_int (x : Int) (h : x % PP ≠ 0) (k : Nat) (hk : k = 57896044618658097711785492504343953926634992332820282019728792003956564819947) : x * x ^ k % PP = 1 := by
  have := fermat_int x h (k + 1) (by rw [hk])
  rw [Int.pow_succ, Int.mul_comm] at this
  exact this

end Go.Proofs.Ytfnmnmjpcamkiaa
