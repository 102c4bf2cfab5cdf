/-
  CurveAgree, plain: the steps of the ladder on pairs that stand for points of the curve.
-/
import Derived.Test.YtfnmnmjpcamkiaaAg2
namespace Go.Proofs.Ytfnmnmjpcamkiaa.Agree
set_option linter.unusedVariables false

section
variable {n : Nat} [NeZero n]

/-- A doubled pair; the sum of two. -/
def fdbl (c X Z : Fin n) : Fin n × Fin n :=
  let s := X + Z
  let d := X - Z
  let ss := s * s
  let dd := d * d
  let e := ss - dd
  (ss * dd, e * (c * e + ss))
def fadd (u X2 Z2 X3 Z3 : Fin n) : Fin n × Fin n :=
  let da := (X3 - Z3) * (X2 + Z2)
  let cb := (X3 + Z3) * (X2 - Z2)
  ((da + cb) * (da + cb), (da - cb) * (da - cb) * u)

/-- The pair stands for the point, with a sign. -/
def Rep (s : Fin n) (P : Fin n × Fin n) (X Z : Fin n) : Prop := ∃ t, t ≠ 0 ∧ X = t * s * (1 + P.2) ∧ Z = t * (1 - P.2)

/-- The numbers of the ladder, and of the curve. -/
structure Ld (k A c s : Fin n) : Prop where
  ss : s * s = 1
  c4 : 4 * c = A - 2
  k : k * (s * A + 2) = s * A - 2
  nz : s * A + 2 ≠ 0

variable {inv : Fin n → Fin n} {k A c s : Fin n}

theorem Ld.sz (C : Cv inv k) (L : Ld k A c s) : s ≠ 0 := fun h => C.one (by rw [← L.ss, h]; grind)

theorem rep_of (C : Cv inv k) (L : Ld k A c s) {P : Fin n × Fin n} {X Z : Fin n} (h : X * (1 - P.2) = s * Z * (1 + P.2)) (hz : ¬ (X = 0 ∧ Z = 0)) : Rep s P X Z := by
  obtain ⟨a, y⟩ := P
  have ss := L.ss
  have sz := L.sz C
  unfold Rep
  simp only [] at *
  by_cases hy : 1 - y = 0
  · have e1 : y = 1 := by grind
    subst e1
    have e2 : s * (2 * Z) = 0 := by grind
    have e3 := (C.zd ((C.zd e2).resolve_left sz)).resolve_left C.two
    have i2 := C.i _ C.two
    have hX : X ≠ 0 := fun q => hz ⟨q, e3⟩
    have i2z : inv (2 : Fin n) ≠ 0 := fun q => C.one (by rw [← i2, q]; grind)
    refine ⟨X * s * inv 2, C.nz (C.nz hX sz) i2z, ?_, ?_⟩
    · have : X * s * inv 2 * s * (1 + 1) = X * (s * s) * (2 * inv 2) := by grind
      rw [this, ss, i2]
      grind
    · rw [e3]; grind
  · have iy := C.i _ hy
    have iz : inv (1 - y) ≠ 0 := fun q => C.one (by rw [← iy, q]; grind)
    have hZ : Z ≠ 0 := fun q => by
      rw [q] at h
      have : X * (1 - y) = 0 := by grind
      exact hz ⟨(C.zd this).resolve_right hy, q⟩
    refine ⟨Z * inv (1 - y), C.nz hZ iz, ?_, ?_⟩
    · refine C.can hy ?_
      rw [h]
      have : Z * inv (1 - y) * s * (1 + y) * (1 - y) = s * Z * (1 + y) * ((1 - y) * inv (1 - y)) := by grind
      rw [this, iy]
      grind
    · have : Z * inv (1 - y) * (1 - y) = Z * ((1 - y) * inv (1 - y)) := by grind
      rw [this, iy]
      grind

theorem dbl_x {t s b : Fin n} (ss : s * s = 1) : (t * s * (1 + b) + t * (1 - b)) * (t * s * (1 + b) + t * (1 - b)) * ((t * s * (1 + b) - t * (1 - b)) * (t * s * (1 + b) - t * (1 - b))) = 16 * (t * t * t * t) * (b * b) := by
  have h : (t * s * (1 + b) + t * (1 - b)) * (t * s * (1 + b) - t * (1 - b)) = 4 * (t * t) * b := by
    have e : (t * s * (1 + b) + t * (1 - b)) * (t * s * (1 + b) - t * (1 - b)) = t * t * ((s * s) * ((1 + b) * (1 + b)) - (1 - b) * (1 - b)) := by grind
    rw [e, ss]
    grind
  have e2 : (t * s * (1 + b) + t * (1 - b)) * (t * s * (1 + b) + t * (1 - b)) * ((t * s * (1 + b) - t * (1 - b)) * (t * s * (1 + b) - t * (1 - b))) = ((t * s * (1 + b) + t * (1 - b)) * (t * s * (1 + b) - t * (1 - b))) * ((t * s * (1 + b) + t * (1 - b)) * (t * s * (1 + b) - t * (1 - b))) := by grind
  rw [e2, h]
  grind

theorem dbl_z {X Z c A : Fin n} (c4 : 4 * c = A - 2) : ((X + Z) * (X + Z) - (X - Z) * (X - Z)) * (c * ((X + Z) * (X + Z) - (X - Z) * (X - Z)) + (X + Z) * (X + Z)) = 4 * (X * Z) * (X * X + A * (X * Z) + Z * Z) := by
  have e1 : (X + Z) * (X + Z) - (X - Z) * (X - Z) = 4 * (X * Z) := by grind
  rw [e1]
  have e2 : c * (4 * (X * Z)) + (X + Z) * (X + Z) = (4 * c) * (X * Z) + (X + Z) * (X + Z) := by grind
  rw [e2, c4]
  grind

theorem dbl_z2 {t s b k A : Fin n} (ss : s * s = 1) (hk : k * (s * A + 2) = s * A - 2) : 4 * ((t * s * (1 + b)) * (t * (1 - b))) * ((t * s * (1 + b)) * (t * s * (1 + b)) + A * ((t * s * (1 + b)) * (t * (1 - b))) + (t * (1 - b)) * (t * (1 - b))) = 4 * (t * t * t * t) * s * (1 - b * b) * ((s * A + 2) * (1 - k * b * b)) := by
  have e1 : (t * s * (1 + b)) * (t * s * (1 + b)) + A * ((t * s * (1 + b)) * (t * (1 - b))) + (t * (1 - b)) * (t * (1 - b)) = t * t * ((s * s) * ((1 + b) * (1 + b)) + s * A * (1 - b * b) + (1 - b) * (1 - b)) := by grind
  have e2 : (s * A + 2) * (1 - k * b * b) = (s * A + 2) - (k * (s * A + 2)) * (b * b) := by grind
  rw [e1, e2, hk, ss]
  grind

theorem rep_dbl (C : Cv inv k) (L : Ld k A c s) {P : Fin n × Fin n} {X Z : Fin n} (hP : On k P) (h : Rep s P X Z) : Rep s (eadd inv k P P) (fdbl c X Z).1 (fdbl c X Z).2 := by
  obtain ⟨t, ht, rfl, rfl⟩ := h
  have m := (full C hP hP).2
  have ss := L.ss
  have sz := L.sz C
  have lz := L.nz
  obtain ⟨a, b⟩ := P
  unfold On at hP
  unfold Rep fdbl eadd
  simp only [] at *
  have q := C.i _ m
  have h1 : 1 - k * b * b ≠ 0 := fun e => by
    have e2 : (1 : Fin n) * 1 = k * (b * b) := by grind
    have e3 := C.sq e2
    rw [e3] at e
    exact C.one (by grind)
  obtain ⟨r, er⟩ : ∃ r, r = inv (1 - k * a * b * a * b) := ⟨_, rfl⟩
  rw [← er] at q ⊢
  obtain ⟨D, eD⟩ : ∃ D, D = 1 - k * a * b * a * b := ⟨_, rfl⟩
  rw [← eD] at q m
  have eD2 : D = 2 - a * a - b * b := by rw [eD]; grind
  have g1 : D * (1 - (b * b - a * a) * r) = 2 - 2 * (b * b) := by
    have : D * (1 - (b * b - a * a) * r) = D - (b * b - a * a) * (D * r) := by grind
    rw [this, q, eD2]
    grind
  have g2 : D * (1 + (b * b - a * a) * r) = 2 - 2 * (a * a) := by
    have : D * (1 + (b * b - a * a) * r) = D + (b * b - a * a) * (D * r) := by grind
    rw [this, q, eD2]
    grind
  have h5 : (1 - k * b * b) * (1 - a * a) = b * b * (1 - k) := by clear g1 g2 q eD eD2 er h1; grind
  have h6 : (s * A + 2) * (1 - k) = 4 := by have := L.k; grind
  refine ⟨2 * (t * t * t * t) * s * (s * A + 2) * (1 - k * b * b) * D, C.nz (C.nz (C.nz (C.nz (C.nz C.two (C.nz (C.nz (C.nz ht ht) ht) ht)) sz) lz) h1) m, ?_, ?_⟩
  · rw [dbl_x ss]
    have e : 2 * (t * t * t * t) * s * (s * A + 2) * (1 - k * b * b) * D * s * (1 + (b * b - a * a) * r) = 2 * (t * t * t * t) * (s * s) * (s * A + 2) * (1 - k * b * b) * (D * (1 + (b * b - a * a) * r)) := by grind
    have e2 : 2 * (t * t * t * t) * 1 * (s * A + 2) * (1 - k * b * b) * (2 - 2 * (a * a)) = 4 * (t * t * t * t) * (s * A + 2) * ((1 - k * b * b) * (1 - a * a)) := by grind
    have e3 : 4 * (t * t * t * t) * (s * A + 2) * (b * b * (1 - k)) = 4 * (t * t * t * t) * (b * b) * ((s * A + 2) * (1 - k)) := by grind
    rw [e, g2, ss, e2, h5, e3, h6]
    grind
  · rw [dbl_z L.c4, dbl_z2 ss L.k]
    have e : 2 * (t * t * t * t) * s * (s * A + 2) * (1 - k * b * b) * D * (1 - (b * b - a * a) * r) = 2 * (t * t * t * t) * s * (s * A + 2) * (1 - k * b * b) * (D * (1 - (b * b - a * a) * r)) := by grind
    rw [e, g1]
    grind

end
end Go.Proofs.Ytfnmnmjpcamkiaa.Agree
