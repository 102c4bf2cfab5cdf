/-
  Layer 1: five limbs of 51 bits, and what the program does with them; the number modulo 2^255 - 19. No program in sight.
-/
import Derived.Test.YtfnmnmjpcamkiaaPrm
namespace Go.Proofs.Ytfnmnmjpcamkiaa
set_option linter.unusedVariables false

/-- Five limbs. -/
structure El where
  a0 : Int
  a1 : Int
  a2 : Int
  a3 : Int
  a4 : Int

def PP : Int := 57896044618658097711785492504343953926634992332820282019728792003956564819949

/-- The number. -/
def El.val (e : El) : Int := e.a0 + e.a1 * 2251799813685248 + e.a2 * 5070602400912917605986812821504 + e.a3 * 11417981541647679048466287755595961091061972992 + e.a4 * 25711008708143844408671393477458601640355247900524685364822016

/-- All limbs are below b. -/
def El.below (e : El) (b : Int) : Prop := (0 ≤ e.a0 ∧ e.a0 < b) ∧ (0 ≤ e.a1 ∧ e.a1 < b) ∧ (0 ≤ e.a2 ∧ e.a2 < b) ∧ (0 ≤ e.a3 ∧ e.a3 < b) ∧ (0 ≤ e.a4 ∧ e.a4 < b)

theorem El.below.mono {e : El} {b c : Int} (h : e.below b) (hbc : b ≤ c) : e.below c := by
  obtain ⟨h0, h1, h2, h3, h4⟩ := h
  exact ⟨⟨h0.1, by omega⟩, ⟨h1.1, by omega⟩, ⟨h2.1, by omega⟩, ⟨h3.1, by omega⟩, ⟨h4.1, by omega⟩⟩

def carE (e : El) : El :=
  let a1 := e.a1 + e.a0 / 2251799813685248
  let a2 := e.a2 + a1 / 2251799813685248
  let a3 := e.a3 + a2 / 2251799813685248
  let a4 := e.a4 + a3 / 2251799813685248
  ⟨e.a0 % 2251799813685248 + 19 * (a4 / 2251799813685248), a1 % 2251799813685248, a2 % 2251799813685248, a3 % 2251799813685248, a4 % 2251799813685248⟩

theorem carE_val (e : El) : ∃ c, (carE e).val = e.val - PP * c := by
  refine ⟨(e.a4 + (e.a3 + (e.a2 + (e.a1 + e.a0 / 2251799813685248) / 2251799813685248) / 2251799813685248) / 2251799813685248) / 2251799813685248, ?_⟩
  unfold carE El.val PP
  simp only []
  omega

theorem carE_mod (e : El) : (carE e).val % PP = e.val % PP := by
  obtain ⟨c, hc⟩ := carE_val e
  rw [hc, Int.sub_mul_emod_self_left]

theorem carE_below {e : El} (h : e.below 18446744073709551616) : (carE e).below 2251799813846000 ∧ (carE e).a1 < 2251799813685248 ∧ (carE e).a2 < 2251799813685248 ∧ (carE e).a3 < 2251799813685248 ∧ (carE e).a4 < 2251799813685248 := by
  obtain ⟨h0, h1, h2, h3, h4⟩ := h
  unfold carE El.below
  simp only []
  omega

/-- A number below 2^255 as limbs. -/
def canE (n : Int) : El := ⟨n % 2251799813685248, n / 2251799813685248 % 2251799813685248, n / 5070602400912917605986812821504 % 2251799813685248, n / 11417981541647679048466287755595961091061972992 % 2251799813685248, n / 25711008708143844408671393477458601640355247900524685364822016 % 2251799813685248⟩

theorem canE_val (n : Int) (h0 : 0 ≤ n) (h1 : n < 57896044618658097711785492504343953926634992332820282019728792003956564819968) : (canE n).val = n := by
  unfold canE El.val
  simp only []
  omega

theorem canE_below (n : Int) : (canE n).below 2251799813685248 := by
  unfold canE El.below
  simp only []
  omega

theorem can_uniq (e : El) (h : e.below 2251799813685248) : e = canE e.val := by
  obtain ⟨h0, h1, h2, h3, h4⟩ := h
  obtain ⟨a0, a1, a2, a3, a4⟩ := e
  unfold canE El.val
  simp only [El.mk.injEq] at *
  omega

/-- Twice carried: below 2^255. -/
theorem carE_two {e : El} (h : e.below 18446744073709551616) : (carE (carE e)).below 2251799813685248 := by
  obtain ⟨⟨b0, b1, b2, b3, b4⟩, c1, c2, c3, c4⟩ := carE_below h
  generalize carE e = f at *
  unfold carE El.below
  simp only []
  omega

/-- What all the program's numbers are below, limb by limb. -/
def LB : Int := 2251799813846000
def El.Fine (e : El) : Prop := e.below 2251799813846000

theorem canE_fine (n : Int) : (canE n).Fine := (canE_below n).mono (by decide)

theorem mod_of {x y c : Int} (h : x = y - PP * c) : x % PP = y % PP := by
  rw [h, Int.sub_mul_emod_self_left]

theorem mulb {x y c d : Int} (h0 : 0 ≤ x) (h1 : x < c) (h2 : 0 ≤ y) (h3 : y < d) : 0 ≤ x * y ∧ x * y ≤ c * d :=
  ⟨Int.mul_nonneg h0 h2, Int.mul_le_mul (by omega) (by omega) h2 (by omega)⟩

def r0 (a b : El) : Int := a.a0 * b.a0 + a.a1 * (b.a4 * 19) + a.a2 * (b.a3 * 19) + a.a3 * (b.a2 * 19) + a.a4 * (b.a1 * 19)
def r1 (a b : El) : Int := a.a0 * b.a1 + a.a1 * b.a0 + a.a2 * (b.a4 * 19) + a.a3 * (b.a3 * 19) + a.a4 * (b.a2 * 19)
def r2 (a b : El) : Int := a.a0 * b.a2 + a.a1 * b.a1 + a.a2 * b.a0 + a.a3 * (b.a4 * 19) + a.a4 * (b.a3 * 19)
def r3 (a b : El) : Int := a.a0 * b.a3 + a.a1 * b.a2 + a.a2 * b.a1 + a.a3 * b.a0 + a.a4 * (b.a4 * 19)
def r4 (a b : El) : Int := a.a0 * b.a4 + a.a1 * b.a3 + a.a2 * b.a2 + a.a3 * b.a1 + a.a4 * b.a0

def preE (a b : El) : El :=
  ⟨r0 a b % 2251799813685248 + 19 * (r4 a b / 2251799813685248), r1 a b % 2251799813685248 + r0 a b / 2251799813685248, r2 a b % 2251799813685248 + r1 a b / 2251799813685248,
    r3 a b % 2251799813685248 + r2 a b / 2251799813685248, r4 a b % 2251799813685248 + r3 a b / 2251799813685248⟩

def timE (a b : El) : El := carE (preE a b)

theorem r_below {a b : El} (ha : a.Fine) (hb : b.Fine) :
    (0 ≤ r0 a b ∧ r0 a b ≤ 600000000000000000000000000000000) ∧ (0 ≤ r1 a b ∧ r1 a b ≤ 600000000000000000000000000000000) ∧ (0 ≤ r2 a b ∧ r2 a b ≤ 600000000000000000000000000000000) ∧ (0 ≤ r3 a b ∧ r3 a b ≤ 600000000000000000000000000000000) ∧ (0 ≤ r4 a b ∧ r4 a b ≤ 30000000000000000000000000000000) := by
  obtain ⟨⟨a00, a01⟩, ⟨a10, a11⟩, ⟨a20, a21⟩, ⟨a30, a31⟩, ⟨a40, a41⟩⟩ := ha
  obtain ⟨⟨b00, b01⟩, ⟨b10, b11⟩, ⟨b20, b21⟩, ⟨b30, b31⟩, ⟨b40, b41⟩⟩ := hb
  have k := @mulb
  have c1 : 0 ≤ b.a1 * 19 ∧ b.a1 * 19 < 42784196463074000 := by omega
  have c2 : 0 ≤ b.a2 * 19 ∧ b.a2 * 19 < 42784196463074000 := by omega
  have c3 : 0 ≤ b.a3 * 19 ∧ b.a3 * 19 < 42784196463074000 := by omega
  have c4 : 0 ≤ b.a4 * 19 ∧ b.a4 * 19 < 42784196463074000 := by omega
  have m00 := mulb a00 a01 b00 b01
  have m01 := mulb a00 a01 b10 b11
  have m02 := mulb a00 a01 b20 b21
  have m03 := mulb a00 a01 b30 b31
  have m04 := mulb a00 a01 b40 b41
  have m10 := mulb a10 a11 b00 b01
  have m11 := mulb a10 a11 b10 b11
  have m12 := mulb a10 a11 b20 b21
  have m13 := mulb a10 a11 b30 b31
  have m20 := mulb a20 a21 b00 b01
  have m21 := mulb a20 a21 b10 b11
  have m22 := mulb a20 a21 b20 b21
  have m30 := mulb a30 a31 b00 b01
  have m31 := mulb a30 a31 b10 b11
  have m40 := mulb a40 a41 b00 b01
  have n14 := mulb a10 a11 c4.1 c4.2
  have n23 := mulb a20 a21 c3.1 c3.2
  have n24 := mulb a20 a21 c4.1 c4.2
  have n32 := mulb a30 a31 c2.1 c2.2
  have n33 := mulb a30 a31 c3.1 c3.2
  have n34 := mulb a30 a31 c4.1 c4.2
  have n41 := mulb a40 a41 c1.1 c1.2
  have n42 := mulb a40 a41 c2.1 c2.2
  have n43 := mulb a40 a41 c3.1 c3.2
  have n44 := mulb a40 a41 c4.1 c4.2
  unfold r0 r1 r2 r3 r4
  refine ⟨⟨by omega, by omega⟩, ⟨by omega, by omega⟩, ⟨by omega, by omega⟩, ⟨by omega, by omega⟩, ⟨by omega, by omega⟩⟩

theorem preE_below {a b : El} (ha : a.Fine) (hb : b.Fine) : (preE a b).below 9223372036854775808 := by
  obtain ⟨h0, h1, h2, h3, h4⟩ := r_below ha hb
  unfold preE El.below
  simp only []
  omega

theorem carE_fine {e : El} (h : e.below 18446744073709551616) : (carE e).Fine := (carE_below h).1

theorem timE_fine {a b : El} (ha : a.Fine) (hb : b.Fine) : (timE a b).Fine := carE_fine ((preE_below ha hb).mono (by decide))

theorem ring5 (a0 a1 a2 a3 a4 b0 b1 b2 b3 b4 X : Int) :
    (a0 + a1 * X + a2 * (X * X) + a3 * (X * X * X) + a4 * (X * X * X * X)) * (b0 + b1 * X + b2 * (X * X) + b3 * (X * X * X) + b4 * (X * X * X * X)) =
    (a0 * b0 + a1 * (b4 * 19) + a2 * (b3 * 19) + a3 * (b2 * 19) + a4 * (b1 * 19)) + (a0 * b1 + a1 * b0 + a2 * (b4 * 19) + a3 * (b3 * 19) + a4 * (b2 * 19)) * X + (a0 * b2 + a1 * b1 + a2 * b0 + a3 * (b4 * 19) + a4 * (b3 * 19)) * (X * X) +
    (a0 * b3 + a1 * b2 + a2 * b1 + a3 * b0 + a4 * (b4 * 19)) * (X * X * X) + (a0 * b4 + a1 * b3 + a2 * b2 + a3 * b1 + a4 * b0) * (X * X * X * X)
    + (X * X * X * X * X - 19) * ((a1 * b4 + a2 * b3 + a3 * b2 + a4 * b1) + (a2 * b4 + a3 * b3 + a4 * b2) * X + (a3 * b4 + a4 * b3) * (X * X) + a4 * b4 * (X * X * X)) := by
  grind

theorem preE_val (a b : El) : (preE a b).val = r0 a b + r1 a b * 2251799813685248 + r2 a b * 5070602400912917605986812821504 + r3 a b * 11417981541647679048466287755595961091061972992 + r4 a b * 25711008708143844408671393477458601640355247900524685364822016 - PP * (r4 a b / 2251799813685248) := by
  unfold preE El.val PP
  simp only []
  omega

theorem timE_mod (a b : El) : (timE a b).val % PP = a.val * b.val % PP := by
  unfold timE
  rw [carE_mod, preE_val, Int.sub_mul_emod_self_left]
  have h := ring5 a.a0 a.a1 a.a2 a.a3 a.a4 b.a0 b.a1 b.a2 b.a3 b.a4 2251799813685248
  have e : a.val * b.val = r0 a b + r1 a b * 2251799813685248 + r2 a b * 5070602400912917605986812821504 + r3 a b * 11417981541647679048466287755595961091061972992 + r4 a b * 25711008708143844408671393477458601640355247900524685364822016 +
      PP * ((a.a1 * b.a4 + a.a2 * b.a3 + a.a3 * b.a2 + a.a4 * b.a1) + (a.a2 * b.a4 + a.a3 * b.a3 + a.a4 * b.a2) * 2251799813685248 + (a.a3 * b.a4 + a.a4 * b.a3) * (2251799813685248 * 2251799813685248) + a.a4 * b.a4 * (2251799813685248 * 2251799813685248 * 2251799813685248)) := h
  rw [e, Int.add_mul_emod_self_left]

def plusE (a b : El) : El := carE ⟨a.a0 + b.a0, a.a1 + b.a1, a.a2 + b.a2, a.a3 + b.a3, a.a4 + b.a4⟩

theorem plusE_fine {a b : El} (ha : a.Fine) (hb : b.Fine) : (plusE a b).Fine := by
  refine carE_fine ?_
  obtain ⟨h0, h1, h2, h3, h4⟩ := ha
  obtain ⟨g0, g1, g2, g3, g4⟩ := hb
  unfold El.below
  simp only []
  omega

theorem plusE_mod (a b : El) : (plusE a b).val % PP = (a.val + b.val) % PP := by
  unfold plusE
  rw [carE_mod]
  congr 1
  unfold El.val
  simp only []
  omega

def minE (a b : El) : El := carE ⟨a.a0 + 9007199254740916 - b.a0, a.a1 + 9007199254740988 - b.a1, a.a2 + 9007199254740988 - b.a2, a.a3 + 9007199254740988 - b.a3, a.a4 + 9007199254740988 - b.a4⟩

theorem minE_fine {a b : El} (ha : a.Fine) (hb : b.Fine) : (minE a b).Fine := by
  refine carE_fine ?_
  obtain ⟨h0, h1, h2, h3, h4⟩ := ha
  obtain ⟨g0, g1, g2, g3, g4⟩ := hb
  unfold El.below
  simp only []
  omega

theorem minE_mod (a b : El) : (minE a b).val % PP = (a.val - b.val) % PP := by
  unfold minE
  rw [carE_mod]
  have : El.val ⟨a.a0 + 9007199254740916 - b.a0, a.a1 + 9007199254740988 - b.a1, a.a2 + 9007199254740988 - b.a2, a.a3 + 9007199254740988 - b.a3, a.a4 + 9007199254740988 - b.a4⟩ = (a.val - b.val) - PP * (-4) := by
    unfold El.val PP
    simp only []
    omega
  exact mod_of this

/-- The number itself, below p. -/
def leaE (e : El) : El := canE (e.val % PP)

theorem El.val_pos {e : El} {b : Int} (h : e.below b) : 0 ≤ e.val := by
  obtain ⟨h0, h1, h2, h3, h4⟩ := h
  unfold El.val
  omega

theorem El.val_small {e : El} (h : e.below 2251799813685248) : e.val < 57896044618658097711785492504343953926634992332820282019728792003956564819968 := by
  obtain ⟨h0, h1, h2, h3, h4⟩ := h
  unfold El.val
  omega

/-- 19 more, carried along. -/
def incE (e : El) : El :=
  let q0 := e.a0 + 19
  let q1 := e.a1 + q0 / 2251799813685248
  let q2 := e.a2 + q1 / 2251799813685248
  let q3 := e.a3 + q2 / 2251799813685248
  let q4 := e.a4 + q3 / 2251799813685248
  ⟨q0 % 2251799813685248, q1 % 2251799813685248, q2 % 2251799813685248, q3 % 2251799813685248, q4⟩

theorem incE_val (e : El) : (incE e).val = e.val + 19 := by
  unfold incE El.val
  simp only []
  omega

theorem incE_bounds {e : El} (h : e.below 2251799813685248) : (0 ≤ (incE e).a0 ∧ (incE e).a0 < 2251799813685248) ∧ (0 ≤ (incE e).a1 ∧ (incE e).a1 < 2251799813685248) ∧ (0 ≤ (incE e).a2 ∧ (incE e).a2 < 2251799813685248) ∧ (0 ≤ (incE e).a3 ∧ (incE e).a3 < 2251799813685248) ∧ (0 ≤ (incE e).a4 ∧ (incE e).a4 ≤ 2251799813685248) := by
  obtain ⟨h0, h1, h2, h3, h4⟩ := h
  unfold incE
  simp only []
  omega

/-- least's two ways. -/
theorem least_stay {e : El} (h : e.below 2251799813685248) (hs : (incE e).a4 / 2251799813685248 = 0) : e = canE (e.val % PP) := by
  have hv := incE_val e
  have hb := incE_bounds h
  have hlt : e.val < PP := by
    have : (incE e).val < 57896044618658097711785492504343953926634992332820282019728792003956564819968 := El.val_small (by unfold El.below; omega)
    unfold PP; omega
  rw [Int.emod_eq_of_lt (El.val_pos h) hlt]
  exact can_uniq e h

theorem least_turn {e : El} (h : e.below 2251799813685248) (hs : ¬ (incE e).a4 / 2251799813685248 = 0) : (⟨(incE e).a0, (incE e).a1, (incE e).a2, (incE e).a3, (incE e).a4 % 2251799813685248⟩ : El) = canE (e.val % PP) := by
  have hv := incE_val e
  have hb := incE_bounds h
  have hsm := El.val_small h
  have e4 : (incE e).a4 = 2251799813685248 := by omega
  have hval : El.val ⟨(incE e).a0, (incE e).a1, (incE e).a2, (incE e).a3, (incE e).a4 % 2251799813685248⟩ = e.val - PP := by
    unfold PP
    unfold El.val at hv ⊢
    simp only []
    omega
  have hbel : El.below ⟨(incE e).a0, (incE e).a1, (incE e).a2, (incE e).a3, (incE e).a4 % 2251799813685248⟩ 2251799813685248 := by
    unfold El.below; simp only []; omega
  have h0 := El.val_pos hbel
  have he : e.val % PP = e.val - PP := by
    rw [hval] at h0
    rw [← Int.sub_emod_right, Int.emod_eq_of_lt h0 (by unfold PP at *; omega)]
  rw [he, ← hval]
  exact can_uniq _ hbel

end Go.Proofs.Ytfnmnmjpcamkiaa
