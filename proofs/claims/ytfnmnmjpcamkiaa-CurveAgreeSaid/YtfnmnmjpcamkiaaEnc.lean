/-
  Numbers as bytes, the lowest first. No program in sight.
-/
import Derived.Test.YtfnmnmjpcamkiaaFe
namespace Go.Proofs.Ytfnmnmjpcamkiaa
set_option linter.unusedVariables false

/-- k bytes of n. -/
def encL (n : Nat) : Nat → List UInt8
  | 0 => []
  | k + 1 => UInt8.ofNat (n % 256) :: encL (n / 256) k

def decL : List UInt8 → Nat
  | [] => 0
  | b :: r => b.toNat + 256 * decL r

theorem encL_length (n k : Nat) : (encL n k).length = k := by
  induction k generalizing n with
  | zero => rfl
  | succ k ih => simp [encL, ih]

theorem byte_toNat (n : Nat) : (UInt8.ofNat (n % 256)).toNat = n % 256 := by
  simp [UInt8.toNat_ofNat']

theorem decL_encL (n k : Nat) : decL (encL n k) = n % 256 ^ k := by
  induction k generalizing n with
  | zero => simp [encL, decL, Nat.mod_one]
  | succ k ih =>
    simp only [encL, decL, byte_toNat, ih]
    rw [Nat.pow_succ, Nat.mul_comm (256 ^ k) 256, Nat.mod_mul]

theorem encL_decL (l : List UInt8) : encL (decL l) l.length = l := by
  induction l with
  | nil => rfl
  | cons b r ih =>
    have hb := b.toNat_lt
    simp only [List.length_cons, encL, decL]
    have h1 : (b.toNat + 256 * decL r) % 256 = b.toNat := by omega
    have h2 : (b.toNat + 256 * decL r) / 256 = decL r := by omega
    rw [h1, h2, ih]
    simp

theorem decL_lt (l : List UInt8) : decL l < 256 ^ l.length := by
  induction l with
  | nil => simp [decL]
  | cons b r ih =>
    have hb := b.toNat_lt
    simp only [List.length_cons, decL, Nat.pow_succ]
    omega

theorem decL_append (a b : List UInt8) : decL (a ++ b) = decL a + 256 ^ a.length * decL b := by
  induction a with
  | nil => simp [decL]
  | cons x r ih =>
    simp only [List.cons_append, decL, ih, List.length_cons, Nat.pow_succ]
    rw [Nat.mul_add, ← Nat.mul_assoc, Nat.mul_comm 256 (256 ^ r.length)]
    omega

theorem encL_snoc (n k : Nat) : encL n (k + 1) = encL n k ++ [UInt8.ofNat (n / 256 ^ k % 256)] := by
  induction k generalizing n with
  | zero => simp [encL]
  | succ k ih =>
    rw [encL, ih (n / 256), encL, List.cons_append, Nat.div_div_eq_div_mul, Nat.pow_succ, Nat.mul_comm 256 (256 ^ k)]

theorem encL_mod (n k : Nat) : encL (n % 256 ^ k) k = encL n k := by
  rw [← decL_encL]
  have := encL_decL (encL n k)
  rwa [encL_length] at this

/-- 32 bytes of a number; the number of bytes. -/
def enc (n : Int) : ByteArray := ⟨(encL n.toNat 32).toArray⟩
def dec (s : ByteArray) : Int := (decL s.data.toList : Int)

theorem enc_size (n : Int) : (enc n).size = 32 := by
  show (encL n.toNat 32).toArray.size = 32
  simp [encL_length]

theorem dec_pos (s : ByteArray) : 0 ≤ dec s := Int.natCast_nonneg _

theorem p32 : (256 : Nat) ^ 32 = 115792089237316195423570985008687907853269984665640564039457584007913129639936 := by decide

theorem dec_lt (s : ByteArray) (h : s.size = 32) : dec s < 115792089237316195423570985008687907853269984665640564039457584007913129639936 := by
  have := decL_lt s.data.toList
  have hl : s.data.toList.length = 32 := by rw [Array.length_toList]; exact h
  rw [hl, p32] at this
  unfold dec
  omega

theorem dec_enc (n : Int) (h0 : 0 ≤ n) (h1 : n < 115792089237316195423570985008687907853269984665640564039457584007913129639936) : dec (enc n) = n := by
  unfold dec enc
  simp only [decL_encL, p32]
  omega

theorem enc_dec (s : ByteArray) (h : s.size = 32) : enc (dec s) = s := by
  have hl : s.data.toList.length = 32 := by rw [Array.length_toList]; exact h
  have := encL_decL s.data.toList
  rw [hl] at this
  unfold enc dec
  rw [Int.toNat_natCast, this]

theorem enc_inj {m n : Int} (h0 : 0 ≤ m) (h1 : m < 115792089237316195423570985008687907853269984665640564039457584007913129639936) (g0 : 0 ≤ n) (g1 : n < 115792089237316195423570985008687907853269984665640564039457584007913129639936)
    (h : enc m = enc n) : m = n := by rw [← dec_enc m h0 h1, h, dec_enc n g0 g1]

/-- Whether a number's bytes are these bytes: just if the number is theirs, modulo 2^255 - 19. -/
theorem enc_eq_iff (s : ByteArray) (h : s.size = 32) (x : Int) (h0 : 0 ≤ x) (h1 : x < 115792089237316195423570985008687907853269984665640564039457584007913129639936) : enc x = s ↔ x = dec s := by
  constructor
  · intro e; rw [← e, dec_enc x h0 h1]
  · intro e; rw [e, enc_dec s h]

end Go.Proofs.Ytfnmnmjpcamkiaa
