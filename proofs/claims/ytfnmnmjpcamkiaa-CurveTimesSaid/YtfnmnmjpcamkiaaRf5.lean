/-
  Layer 1, the reference: products of digits, plain. Printed by mkrf5.py.
-/
import Derived.Test.YtfnmnmjpcamkiaaRf4
namespace Go.Proofs.Ytfnmnmjpcamkiaa
open Go.RowKit
set_option linter.unusedVariables false
set_option linter.unusedSimpArgs false

/-- Twenty digits. -/
def wideC (l : List Int) : Obj := .cells (numA l) 79
def zeroW : List Int := [0, 0, 0, 0, 0, 0, 0, 0, 0, 0, 0, 0, 0, 0, 0, 0, 0, 0, 0, 0]

/-- Products are added as far as digit i of the one and k of the other. -/
structure MulInv (X Y W : List Int) (i k : Nat) : Prop where
  len : W.length = 20
  val : nv W = nv (X.take i) * nv Y + X.getD i 0 * 67108864 ^ i * nv (Y.take k)
  pos : ∀ j, 0 ≤ W.getD j 0
  near : ∀ j, j < i + k → W.getD j 0 ≤ ((i : Int) + 1) * 4503599627370496
  far : ∀ j, i + k ≤ j → W.getD j 0 ≤ (i : Int) * 4503599627370496

theorem mulInv_zero (X Y : List Int) : MulInv X Y zeroW 0 0 := by
  have h : ∀ j, zeroW.getD j 0 = 0 := fun j => by
    by_cases hj : j < 20
    · have : ∀ j, j < 20 → zeroW.getD j 0 = 0 := by decide
      exact this j hj
    · rw [List.getD_eq_getElem?_getD, List.getElem?_eq_none (by show 20 ≤ j; omega)]
      rfl
  refine ⟨rfl, ?_, fun j => by rw [h]; omega, fun j hj => by omega, fun j _ => by rw [h]; omega⟩
  have : nv zeroW = 0 := by decide
  rw [this]
  simp [nv]

theorem dig_mul {a b : Int} (ha : 0 ≤ a ∧ a < 67108864) (hb : 0 ≤ b ∧ b < 67108864) : 0 ≤ a * b ∧ a * b ≤ 4503599627370496 := by
  have := mulb ha.1 ha.2 hb.1 hb.2
  omega

theorem mulInv_step {X Y W : List Int} {i k : Nat} (h : MulInv X Y W i k) (dX : Dig X) (dY : Dig Y) (lY : Y.length = 10) (hi : i < 10) (hk : k < 10) :
    MulInv X Y (W.set (i + k) (W.getD (i + k) 0 + X.getD i 0 * Y.getD k 0)) i (k + 1) := by
  have hl := h.len
  have hp := dig_mul (dX i) (dY k)
  have hw := h.pos (i + k)
  have hf := h.far (i + k) (Nat.le_refl _)
  refine ⟨by simp [hl], ?_, fun j => ?_, fun j hj => ?_, fun j hj => ?_⟩
  · rw [nv_set _ _ _ (by omega), h.val, take_getD (by omega), nv_append]
    have e2 : (Y.take k).length = k := by rw [List.length_take]; omega
    have e3 : nv [Y.getD k 0] = Y.getD k 0 := by simp [nv]
    rw [e2, e3, show W.getD (i + k) 0 + X.getD i 0 * Y.getD k 0 - W.getD (i + k) 0 = X.getD i 0 * Y.getD k 0 by omega, Int.pow_add, Int.mul_add, ← Int.add_assoc]
    congr 1
    rw [Int.mul_assoc, Int.mul_assoc, Int.mul_left_comm (67108864 ^ k), Int.mul_left_comm (67108864 ^ i) (X.getD i 0)]
  · by_cases e : j = i + k
    · subst e
      rw [getD_set_same _ _ _ (by omega)]
      omega
    · rw [getD_set_other _ _ _ _ (by omega)]
      exact h.pos j
  · by_cases e : j = i + k
    · subst e
      rw [getD_set_same _ _ _ (by omega)]
      omega
    · rw [getD_set_other _ _ _ _ (by omega)]
      exact h.near j (by omega)
  · rw [getD_set_other _ _ _ _ (by omega)]
    exact h.far j (by omega)

theorem mulInv_next {X Y W : List Int} {i : Nat} (h : MulInv X Y W i 10) (lX : X.length = 10) (lY : Y.length = 10) (hi : i < 10) : MulInv X Y W (i + 1) 0 := by
  refine ⟨h.len, ?_, h.pos, fun j hj => ?_, fun j hj => ?_⟩
  · rw [h.val, take_getD (D := X) (by omega), nv_append, List.take_of_length_le (by omega : Y.length ≤ 10), List.take_zero]
    have e2 : (X.take i).length = i := by rw [List.length_take]; omega
    have e3 : nv [X.getD i 0] = X.getD i 0 := by simp [nv]
    rw [e2, e3]
    simp only [nv, Int.mul_zero, Int.add_zero]
    rw [Int.add_mul, Int.mul_comm (67108864 ^ i)]
  · by_cases e : j < i + 10
    · have := h.near j e; push_cast; omega
    · have := h.far j (by omega); push_cast; omega
  · by_cases e : j < i + 10
    · have := h.near j e; push_cast; omega
    · have := h.far j (by omega); push_cast; omega

theorem mulInv_big {X Y W : List Int} (h : MulInv X Y W 10 0) : Big W := fun j => by
  have h1 := h.pos j
  by_cases e : j < 10
  · have := h.near j (by omega); omega
  · have := h.far j (by omega); omega

theorem mulInv_val {X Y W : List Int} (h : MulInv X Y W 10 0) (lX : X.length = 10) : nv W = nv X * nv Y := by
  rw [h.val, List.take_of_length_le (by omega), List.take_zero]
  simp [nv]

/-- What the carried digits are. -/
def WideOf (W : List Int) (v : Int) : Prop := W.length = 20 ∧ nv W = v ∧ Dig W

theorem wide_of {V W : List Int} {v : Int} (h : CarInv V W 19) (hl : V.length = 20) (hv : nv V = v) (h0 : 0 ≤ v) (h1 : v < 3351951982485649274893506249551461531869841455148098344430890360930441007518386744200468574541725856922507964546621512713438470702986642486608412251521024) : WideOf W v := by
  have hlen : W.length = 20 := by rw [h.len, hl]
  refine ⟨hlen, by rw [h.val, hv], fun j => ?_⟩
  by_cases hj : j < 19
  · exact h.low j hj
  · by_cases hj19 : j = 19
    · subst hj19
      have hs := nv_split W 19 (by omega)
      rw [drop_getD (by omega : 19 < W.length), List.drop_of_length_le (by omega)] at hs
      simp only [nv, Int.mul_zero, Int.add_zero] at hs
      have hd := nv_dig (take_low h.low)
      rw [List.length_take, Nat.min_eq_left (by omega)] at hd
      have p19 : (67108864 : Int) ^ 19 = 51146728248377216718956089012931236753385031969422887335676427626502090568823039920051095192592252455482604439493126109519019633529459266458258243584 := by decide
      rw [p19] at hs hd
      rw [h.val, hv] at hs
      omega
    · rw [List.getD_eq_getElem?_getD, List.getElem?_eq_none (by omega)]
      simp

def outL (W : List Int) : List Int := (List.range 10).map fun j => W.getD j 0 + 608 * W.getD (10 + j) 0
def outK (W : List Int) (k : Nat) : List Int := (outL W).take k ++ List.replicate (10 - k) 0

theorem outL_len (W : List Int) : (outL W).length = 10 := by simp [outL]
theorem outL_get (W : List Int) (k : Nat) (h : k < 10) : (outL W).getD k 0 = W.getD k 0 + 608 * W.getD (10 + k) 0 := by
  simp [outL, List.getD_eq_getElem?_getD, h]
theorem outK_len (W : List Int) (k : Nat) (h : k ≤ 10) : (outK W k).length = 10 := by simp [outK, outL_len]; omega
theorem outK_zero (W : List Int) : outK W 0 = zeroN := rfl
theorem outK_all (W : List Int) : outK W 10 = outL W := by
  unfold outK
  rw [List.take_of_length_le (by rw [outL_len]; omega)]
  simp
theorem outK_set (W : List Int) (k : Nat) (h : k < 10) : (outK W k).set k (W.getD k 0 + 608 * W.getD (10 + k) 0) = outK W (k + 1) := by
  unfold outK
  have hl : ((outL W).take k).length = k := by rw [List.length_take, outL_len]; omega
  rw [List.set_append_right k _ (by omega), hl, Nat.sub_self, take_getD (by rw [outL_len]; exact h), outL_get W k h]
  have : 10 - k = (10 - (k + 1)) + 1 := by omega
  rw [this, List.replicate_succ, List.append_assoc]
  rfl

theorem twenty {l : List Int} (h : l.length = 20) : ∃ a0 a1 a2 a3 a4 a5 a6 a7 a8 a9 b0 b1 b2 b3 b4 b5 b6 b7 b8 b9, l = [a0, a1, a2, a3, a4, a5, a6, a7, a8, a9, b0, b1, b2, b3, b4, b5, b6, b7, b8, b9] := by
  match l, h with
  | [a0, a1, a2, a3, a4, a5, a6, a7, a8, a9, b0, b1, b2, b3, b4, b5, b6, b7, b8, b9], _ => exact ⟨_, _, _, _, _, _, _, _, _, _, _, _, _, _, _, _, _, _, _, _, rfl⟩

theorem outL_val {W : List Int} (h : W.length = 20) : nv (outL W) % PP = nv W % PP := by
  obtain ⟨a0, a1, a2, a3, a4, a5, a6, a7, a8, a9, b0, b1, b2, b3, b4, b5, b6, b7, b8, b9, rfl⟩ := twenty h
  have e1 : outL [a0, a1, a2, a3, a4, a5, a6, a7, a8, a9, b0, b1, b2, b3, b4, b5, b6, b7, b8, b9] = [a0 + 608 * b0, a1 + 608 * b1, a2 + 608 * b2, a3 + 608 * b3, a4 + 608 * b4, a5 + 608 * b5, a6 + 608 * b6, a7 + 608 * b7, a8 + 608 * b8, a9 + 608 * b9] := rfl
  have e2 := nv_append [a0, a1, a2, a3, a4, a5, a6, a7, a8, a9] [b0, b1, b2, b3, b4, b5, b6, b7, b8, b9]
  have p10 : (67108864 : Int) ^ 10 = 1852673427797059126777135760139006525652319754650249024631321344126610074238976 := by decide
  have l10 : [a0, a1, a2, a3, a4, a5, a6, a7, a8, a9].length = 10 := rfl
  rw [l10, p10] at e2
  have e3 : nv [a0, a1, a2, a3, a4, a5, a6, a7, a8, a9, b0, b1, b2, b3, b4, b5, b6, b7, b8, b9] = nv [a0, a1, a2, a3, a4, a5, a6, a7, a8, a9] + 1852673427797059126777135760139006525652319754650249024631321344126610074238976 * nv [b0, b1, b2, b3, b4, b5, b6, b7, b8, b9] := e2
  refine mod_of (c := 32 * nv [b0, b1, b2, b3, b4, b5, b6, b7, b8, b9]) ?_
  rw [e1, e3, nv_lit, nv_lit, nv_lit]
  unfold PP
  omega

theorem outL_mid {W : List Int} (h : Dig W) : Mid (outL W) := fun j => by
  by_cases hj : j < 10
  · rw [outL_get W j hj]
    have := h j
    have := h (10 + j)
    omega
  · rw [List.getD_eq_getElem?_getD, List.getElem?_eq_none (by rw [outL_len]; omega)]
    simp

theorem outL_pos {W : List Int} (h : Dig W) : 0 ≤ nv (outL W) := by
  have key : ∀ l : List Int, (∀ j, 0 ≤ l.getD j 0) → 0 ≤ nv l := by
    intro l
    induction l with
    | nil => intro _; simp [nv]
    | cons x r ih =>
      intro hh
      have h0 : 0 ≤ x := by simpa using hh 0
      have h1 := ih fun j => by simpa using hh (j + 1)
      simp only [nv]
      omega
  refine key _ fun j => ?_
  by_cases hj : j < 10
  · rw [outL_get W j hj]
    have := h j
    have := h (10 + j)
    omega
  · rw [List.getD_eq_getElem?_getD, List.getElem?_eq_none (by rw [outL_len]; omega)]
    simp

end Go.Proofs.Ytfnmnmjpcamkiaa
