/-
  The reference's numbers: digits to the base 2^26, the lowest first. No program in sight.
-/
import Derived.Test.YtfnmnmjpcamkiaaEnc
namespace Go.Proofs.Ytfnmnmjpcamkiaa
set_option linter.unusedVariables false

/-- The number of digits. -/
def nv : List Int → Int
  | [] => 0
  | x :: r => x + 67108864 * nv r

theorem nv_set (l : List Int) (i : Nat) (v : Int) (h : i < l.length) : nv (l.set i v) = nv l + 67108864 ^ i * (v - l.getD i 0) := by
  induction l generalizing i with
  | nil => simp at h
  | cons x r ih =>
    cases i with
    | zero => simp [nv]; omega
    | succ i =>
      have := ih i (by simpa using h)
      simp only [List.set_cons_succ, nv, this, List.getD_cons_succ, Int.pow_succ]
      rw [Int.mul_add, ← Int.mul_assoc, Int.mul_comm 67108864 (67108864 ^ i)]
      omega

theorem nv_append (a b : List Int) : nv (a ++ b) = nv a + 67108864 ^ a.length * nv b := by
  induction a with
  | nil => simp [nv]
  | cons x r ih =>
    simp only [List.cons_append, nv, ih, List.length_cons, Int.pow_succ]
    rw [Int.mul_add, ← Int.mul_assoc, Int.mul_comm 67108864 (67108864 ^ r.length)]
    omega

/-- All digits are below the base, and none below 0. -/
def Dig (l : List Int) : Prop := ∀ j, 0 ≤ l.getD j 0 ∧ l.getD j 0 < 67108864

theorem Dig.tail {x : Int} {r : List Int} (h : Dig (x :: r)) : Dig r := fun j => by simpa using h (j + 1)
theorem Dig.head {x : Int} {r : List Int} (h : Dig (x :: r)) : 0 ≤ x ∧ x < 67108864 := by simpa using h 0

theorem nv_dig {l : List Int} (h : Dig l) : 0 ≤ nv l ∧ nv l < 67108864 ^ l.length := by
  induction l with
  | nil => simp [nv]
  | cons x r ih =>
    have h1 := h.head
    have h2 := ih h.tail
    simp only [nv, List.length_cons, Int.pow_succ]
    omega

/-- The digits of a number. -/
def canL (n : Int) : Nat → List Int
  | 0 => []
  | k + 1 => n % 67108864 :: canL (n / 67108864) k

theorem canL_length (n : Int) (k : Nat) : (canL n k).length = k := by
  induction k generalizing n with
  | zero => rfl
  | succ k ih => simp [canL, ih]

theorem canL_dig (n : Int) (k : Nat) : Dig (canL n k) := by
  induction k generalizing n with
  | zero => intro j; simp [canL]
  | succ k ih =>
    intro j
    cases j with
    | zero => simp only [canL, List.getD_cons_zero]; omega
    | succ j => simpa [canL] using ih (n / 67108864) j

theorem can_uniqL {l : List Int} (h : Dig l) : l = canL (nv l) l.length := by
  induction l with
  | nil => rfl
  | cons x r ih =>
    have h1 := h.head
    have h2 := ih h.tail
    simp only [nv, List.length_cons, canL]
    rw [show (x + 67108864 * nv r) % 67108864 = x by omega, show (x + 67108864 * nv r) / 67108864 = nv r by omega, ← h2]

theorem nv_canL (n : Int) (k : Nat) (h0 : 0 ≤ n) (h1 : n < 67108864 ^ k) : nv (canL n k) = n := by
  induction k generalizing n with
  | zero => simp at h1; simp [canL, nv]; omega
  | succ k ih =>
    rw [Int.pow_succ] at h1
    simp only [canL, nv]
    rw [ih (n / 67108864) (by omega) (by omega)]
    omega

theorem canL_get (n : Int) (k j : Nat) (h : j < k) : (canL n k).getD j 0 = n / 67108864 ^ j % 67108864 := by
  induction k generalizing n j with
  | zero => omega
  | succ k ih =>
    cases j with
    | zero => simp [canL]
    | succ j =>
      simp only [canL, List.getD_cons_succ]
      rw [ih (n / 67108864) j (by omega), Int.pow_succ, Int.mul_comm, Int.ediv_ediv_of_nonneg (by omega)]

theorem getD_set_same (l : List Int) (i : Nat) (v : Int) (h : i < l.length) : (l.set i v).getD i 0 = v := by
  simp [List.getD_eq_getElem?_getD, h]
theorem getD_set_other (l : List Int) (i j : Nat) (v : Int) (h : i ≠ j) : (l.set i v).getD j 0 = l.getD j 0 := by
  simp [List.getD_eq_getElem?_getD, List.getElem?_set_ne h]

/-- Carried as far as digit i. -/
structure CarInv (l l' : List Int) (i : Nat) : Prop where
  len : l'.length = l.length
  val : nv l' = nv l
  low : ∀ j, j < i → 0 ≤ l'.getD j 0 ∧ l'.getD j 0 < 67108864
  high : ∀ j, i < j → l'.getD j 0 = l.getD j 0
  cur : -4611686018427387904 ≤ l'.getD i 0 ∧ l'.getD i 0 ≤ 4611686018427387904

def Big (l : List Int) : Prop := ∀ j, -2305843009213693952 ≤ l.getD j 0 ∧ l.getD j 0 ≤ 2305843009213693952

theorem carInv_zero {l : List Int} (h : Big l) : CarInv l l 0 := ⟨rfl, rfl, fun j hj => by omega, fun _ _ => rfl, by have := h 0; omega⟩

theorem carInv_step {l l' : List Int} {i : Nat} (h : CarInv l l' i) (hb : Big l) (hi : i + 1 < l.length) :
    CarInv l ((l'.set i (l'.getD i 0 % 67108864)).set (i + 1) (l'.getD (i + 1) 0 + l'.getD i 0 / 67108864)) (i + 1) := by
  have hl := h.len
  have h1 := h.high (i + 1) (by omega)
  have h2 := hb (i + 1)
  have h3 := h.cur
  refine ⟨by simp [h.len], ?_, fun j hj => ?_, fun j hj => ?_, ?_⟩
  · rw [nv_set _ _ _ (by simp; omega), nv_set _ _ _ (by omega), h.val, getD_set_other _ _ _ _ (by omega), Int.pow_succ]
    have : l'.getD i 0 % 67108864 - l'.getD i 0 = 67108864 * -(l'.getD i 0 / 67108864) := by omega
    rw [this]
    have e2 : l'.getD (i + 1) 0 + l'.getD i 0 / 67108864 - l'.getD (i + 1) 0 = l'.getD i 0 / 67108864 := by omega
    rw [e2, ← Int.mul_assoc, Int.mul_neg]
    omega
  · rw [getD_set_other _ _ _ _ (by omega)]
    by_cases e : j = i
    · subst e
      rw [getD_set_same _ _ _ (by omega)]
      omega
    · rw [getD_set_other _ _ _ _ (by omega)]
      exact h.low j (by omega)
  · rw [getD_set_other _ _ _ _ (by omega), getD_set_other _ _ _ _ (by omega)]
    exact h.high j (by omega)
  · rw [getD_set_same _ _ _ (by simp; omega)]
    omega

/-- What even leaves. -/
def EvenOf (l l' : List Int) : Prop := l'.length = 10 ∧ nv l' = nv l ∧ ∀ j, j < 9 → 0 ≤ l'.getD j 0 ∧ l'.getD j 0 < 67108864

/-- Ten digits, the last one whatever. -/
theorem nv_ten {l : List Int} (hl : l.length = 10) : ∃ m, nv l = m + 67108864 ^ 9 * l.getD 9 0 ∧ m = nv (l.take 9) := by
  refine ⟨_, ?_, rfl⟩
  have h := nv_append (l.take 9) (l.drop 9)
  rw [List.take_append_drop] at h
  rw [h]
  have h9 : (l.take 9).length = 9 := by simp; omega
  rw [h9]
  have : l.drop 9 = [l.getD 9 0] := by
    rw [List.drop_eq_getElem_cons (by omega), List.drop_of_length_le (by omega)]
    simp [List.getD_eq_getElem?_getD, List.getElem?_eq_getElem (show 9 < l.length by omega)]
  rw [this]
  simp [nv]

theorem take_low {l : List Int} {k : Nat} (h : ∀ j, j < k → 0 ≤ l.getD j 0 ∧ l.getD j 0 < 67108864) : Dig (l.take k) := fun j => by
  by_cases hj : j < k
  · have := h j hj
    simpa [List.getD_eq_getElem?_getD, List.getElem?_take_of_lt hj] using this
  · rw [List.getD_eq_getElem?_getD, List.getElem?_eq_none (by simp; omega)]
    simp

theorem even_last {l : List Int} (hl : l.length = 10) (h : ∀ j, j < 9 → 0 ≤ l.getD j 0 ∧ l.getD j 0 < 67108864) : nv l / 27606985387162255149739023449108101809804435888681546220650096895197184 = l.getD 9 0 := by
  obtain ⟨m, hm, hv⟩ := nv_ten hl
  have hd := nv_dig (take_low h)
  rw [← hv] at hd
  have h9 : (l.take 9).length = 9 := by simp; omega
  rw [h9] at hd
  have p9 : (67108864 : Int) ^ 9 = 27606985387162255149739023449108101809804435888681546220650096895197184 := by decide
  rw [p9] at hm hd
  omega

end Go.Proofs.Ytfnmnmjpcamkiaa
