/-
  Numbers bit by bit. No program in sight.
-/
import Derived.Test.YtfnmnmjpcamkiaaNum
namespace Go.Proofs.Ytfnmnmjpcamkiaa
set_option linter.unusedVariables false

theorem getD_byte (l : List UInt8) (k : Nat) : (l.getD k 0).toNat = decL l / 256 ^ k % 256 := by
  induction l generalizing k with
  | nil => simp [decL]
  | cons b r ih =>
    have hb := b.toNat_lt
    cases k with
    | zero => simp only [List.getD_cons_zero, decL, Nat.pow_zero, Nat.div_one]; omega
    | succ k =>
      simp only [List.getD_cons_succ, decL, Nat.pow_succ]
      rw [ih k, Nat.mul_comm (256 ^ k) 256, ← Nat.div_div_eq_div_mul]
      congr 2
      omega

/-- The bit number i of a number, out of its byte. -/
theorem bit_of_byte (n a r : Nat) (hr : r < 8) : n / 256 ^ a % 256 / 2 ^ r % 2 = n / 2 ^ (8 * a + r) % 2 := by
  have e : (256 : Nat) = 2 ^ r * 2 ^ (8 - r) := by rw [← Nat.pow_add, show r + (8 - r) = 8 by omega]
  have e1 : n / 256 ^ a % 256 = n / 256 ^ a % (2 ^ r * 2 ^ (8 - r)) := by rw [← e]
  rw [e1, Nat.mod_mul_right_div_self, Nat.div_div_eq_div_mul]
  have e2 : (2 : Nat) ^ (8 - r) = 2 * 2 ^ (7 - r) := by
    rw [show 8 - r = (7 - r) + 1 by omega, Nat.pow_succ, Nat.mul_comm]
  rw [e2, Nat.mod_mul_right_mod]
  congr 2
  rw [show (256 : Nat) = 2 ^ 8 from rfl, ← Nat.pow_mul, ← Nat.pow_add]

theorem bit_of_digit (n a r : Nat) (hr : r < 26) : n / 67108864 ^ a % 67108864 / 2 ^ r % 2 = n / 2 ^ (26 * a + r) % 2 := by
  have e : (67108864 : Nat) = 2 ^ r * 2 ^ (26 - r) := by rw [← Nat.pow_add, show r + (26 - r) = 26 by omega]
  have e1 : n / 67108864 ^ a % 67108864 = n / 67108864 ^ a % (2 ^ r * 2 ^ (26 - r)) := by rw [← e]
  rw [e1, Nat.mod_mul_right_div_self, Nat.div_div_eq_div_mul]
  have e2 : (2 : Nat) ^ (26 - r) = 2 * 2 ^ (25 - r) := by
    rw [show 26 - r = (25 - r) + 1 by omega, Nat.pow_succ, Nat.mul_comm]
  rw [e2, Nat.mod_mul_right_mod]
  congr 2
  rw [show (67108864 : Nat) = 2 ^ 26 from rfl, ← Nat.pow_mul, ← Nat.pow_add]

theorem mod_bit (n i : Nat) : n % 2 ^ (i + 1) = n % 2 ^ i + 2 ^ i * (n / 2 ^ i % 2) := by
  rw [Nat.pow_succ, Nat.mod_mul]

/-- One bit more, among digits. -/
theorem canL_bit (m i b : Nat) (hm : m < 2 ^ i) (hb : b < 2) (hi : i < 256) :
    (canL (m : Int) 10).getD (i / 26) 0 + (b : Int) * 2 ^ (i % 26) < 67108864 ∧ 0 ≤ (canL (m : Int) 10).getD (i / 26) 0 ∧
    (canL (m : Int) 10).set (i / 26) ((canL (m : Int) 10).getD (i / 26) 0 + (b : Int) * 2 ^ (i % 26)) = canL ((m + 2 ^ i * b : Nat) : Int) 10 := by
  have hj : i / 26 < 10 := by omega
  have hl := canL_length (m : Int) 10
  have hpow : (2 : Nat) ^ i = 67108864 ^ (i / 26) * 2 ^ (i % 26) := by
    rw [show (67108864 : Nat) = 2 ^ 26 from rfl, ← Nat.pow_mul, ← Nat.pow_add]
    congr 1
    omega
  have hdig : (canL (m : Int) 10).getD (i / 26) 0 = ((m / 67108864 ^ (i / 26) % 67108864 : Nat) : Int) := by
    rw [canL_get _ _ _ hj]
    simp
  have hlt : m / 67108864 ^ (i / 26) < 2 ^ (i % 26) := by
    rw [Nat.div_lt_iff_lt_mul (Nat.pow_pos (by omega)), Nat.mul_comm, ← hpow]
    exact hm
  have h25 : (2 : Nat) ^ (i % 26) ≤ 33554432 := Nat.pow_le_pow_right (n := 2) (by omega) (show i % 26 ≤ 25 by omega)
  have hmod : m / 67108864 ^ (i / 26) % 67108864 = m / 67108864 ^ (i / 26) := Nat.mod_eq_of_lt (by omega)
  rw [hmod] at hdig
  have hbr : b * 2 ^ (i % 26) ≤ 2 ^ (i % 26) := by
    have : b ≤ 1 := by omega
    calc b * 2 ^ (i % 26) ≤ 1 * 2 ^ (i % 26) := Nat.mul_le_mul_right _ this
      _ = 2 ^ (i % 26) := by omega
  have hcast : (b : Int) * 2 ^ (i % 26) = ((b * 2 ^ (i % 26) : Nat) : Int) := by simp
  have hnew : (canL (m : Int) 10).getD (i / 26) 0 + (b : Int) * 2 ^ (i % 26) < 67108864 := by
    rw [hdig, hcast]; omega
  refine ⟨hnew, by rw [hdig]; exact Int.natCast_nonneg _, ?_⟩
  have hd : Dig ((canL (m : Int) 10).set (i / 26) ((canL (m : Int) 10).getD (i / 26) 0 + (b : Int) * 2 ^ (i % 26))) := fun j => by
    by_cases e : i / 26 = j
    · subst e
      rw [getD_set_same _ _ _ (by omega)]
      refine ⟨?_, hnew⟩
      rw [hdig, hcast]; omega
    · rw [getD_set_other _ _ _ _ e]
      exact canL_dig _ _ j
  have hu := can_uniqL hd
  rw [List.length_set, hl] at hu
  rw [hu]
  congr 1
  have hm256 : (m : Int) < 67108864 ^ 10 := by
    have h1 : (2 : Nat) ^ i ≤ 67108864 ^ 10 := by
      exact Nat.le_trans (Nat.pow_le_pow_right (n := 2) (by omega) (show i ≤ 256 by omega)) (by decide)
    have h3 : m < 67108864 ^ 10 := Nat.lt_of_lt_of_le hm h1
    have h2 : ((67108864 ^ 10 : Nat) : Int) = (67108864 : Int) ^ 10 := by rw [Int.natCast_pow]; rfl
    rw [← h2]
    omega
  rw [nv_set _ _ _ (by omega), nv_canL _ _ (Int.natCast_nonneg _) hm256, show (canL (m : Int) 10).getD (i / 26) 0 + (b : Int) * 2 ^ (i % 26) - (canL (m : Int) 10).getD (i / 26) 0 = (b : Int) * 2 ^ (i % 26) by omega, hcast]
  rw [hpow]
  simp only [Int.natCast_add, Int.natCast_mul, Int.natCast_pow]
  rw [Int.mul_assoc, Int.mul_comm (b : Int)]
  rfl

theorem decL_set (l : List UInt8) (j : Nat) (c : UInt8) (h : j < l.length) : decL (l.set j c) + 256 ^ j * (l.getD j 0).toNat = decL l + 256 ^ j * c.toNat := by
  induction l generalizing j with
  | nil => simp at h
  | cons x r ih =>
    cases j with
    | zero => simp [decL]; omega
    | succ j =>
      have := ih j (by simpa using h)
      simp only [List.set_cons_succ, decL, List.getD_cons_succ, Nat.pow_succ]
      rw [Nat.mul_comm (256 ^ j) 256, Nat.mul_assoc, Nat.mul_assoc]
      omega

theorem encL_get (m k j : Nat) (h : j < k) : ((encL m k).getD j 0).toNat = m / 256 ^ j % 256 := by
  rw [getD_byte, decL_encL]
  have e : (256 : Nat) ^ k = 256 ^ j * 256 ^ (k - j) := by rw [← Nat.pow_add]; congr 1; omega
  rw [e, Nat.mod_mul_right_div_self]
  have e2 : (256 : Nat) ^ (k - j) = 256 * 256 ^ (k - j - 1) := by rw [show k - j = (k - j - 1) + 1 by omega, Nat.pow_succ, Nat.mul_comm]; congr 1
  rw [e2, Nat.mod_mul_right_mod]

/-- One bit more, among bytes. -/
theorem encL_bit (m i b : Nat) (hm : m < 2 ^ i) (hb : b < 2) (hi : i < 256) :
    m / 256 ^ (i / 8) % 256 + b * 2 ^ (i % 8) < 256 ∧
    (encL m 32).set (i / 8) (UInt8.ofNat ((m / 256 ^ (i / 8) % 256 + b * 2 ^ (i % 8)) % 256)) = encL (m + 2 ^ i * b) 32 := by
  have hj : i / 8 < 32 := by omega
  have hl := encL_length m 32
  have hpow : (2 : Nat) ^ i = 256 ^ (i / 8) * 2 ^ (i % 8) := by
    rw [show (256 : Nat) = 2 ^ 8 from rfl, ← Nat.pow_mul, ← Nat.pow_add]
    congr 1
    omega
  have hlt : m / 256 ^ (i / 8) < 2 ^ (i % 8) := by
    rw [Nat.div_lt_iff_lt_mul (Nat.pow_pos (by omega)), Nat.mul_comm, ← hpow]
    exact hm
  have h7 : (2 : Nat) ^ (i % 8) ≤ 128 := Nat.pow_le_pow_right (n := 2) (by omega) (show i % 8 ≤ 7 by omega)
  have hmod : m / 256 ^ (i / 8) % 256 = m / 256 ^ (i / 8) := Nat.mod_eq_of_lt (by omega)
  have hbr : b * 2 ^ (i % 8) ≤ 2 ^ (i % 8) := by
    have : b ≤ 1 := by omega
    calc b * 2 ^ (i % 8) ≤ 1 * 2 ^ (i % 8) := Nat.mul_le_mul_right _ this
      _ = 2 ^ (i % 8) := by omega
  have hnew : m / 256 ^ (i / 8) % 256 + b * 2 ^ (i % 8) < 256 := by rw [hmod]; omega
  refine ⟨hnew, ?_⟩
  have hs := decL_set (encL m 32) (i / 8) (UInt8.ofNat ((m / 256 ^ (i / 8) % 256 + b * 2 ^ (i % 8)) % 256)) (by omega)
  rw [byte_toNat, encL_get m 32 (i / 8) hj, decL_encL, Nat.mod_eq_of_lt hnew, Nat.mul_add] at hs
  have h256 : m % 256 ^ 32 = m := Nat.mod_eq_of_lt (by
    have h1 : (2 : Nat) ^ i ≤ 2 ^ 256 := Nat.pow_le_pow_right (by omega) (by omega)
    have h2 : (256 : Nat) ^ 32 = 2 ^ 256 := by decide
    omega)
  rw [h256] at hs
  have hv : decL ((encL m 32).set (i / 8) (UInt8.ofNat ((m / 256 ^ (i / 8) % 256 + b * 2 ^ (i % 8)) % 256))) = m + 2 ^ i * b := by
    rw [Nat.mod_eq_of_lt hnew, hpow, Nat.mul_assoc, Nat.mul_comm (2 ^ (i % 8)) b]
    omega
  have hu := encL_decL ((encL m 32).set (i / 8) (UInt8.ofNat ((m / 256 ^ (i / 8) % 256 + b * 2 ^ (i % 8)) % 256)))
  rw [List.length_set, hl, hv] at hu
  exact hu.symm

end Go.Proofs.Ytfnmnmjpcamkiaa
