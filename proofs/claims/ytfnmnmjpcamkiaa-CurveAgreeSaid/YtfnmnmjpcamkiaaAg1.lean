/-
  CurveAgree, plain: a complete Edwards curve over the numbers modulo n: the sum of two of its points. No program in sight.
-/
import Derived.Test.YtfnmnmjpcamkiaaPrm
namespace Go.Proofs.Ytfnmnmjpcamkiaa.Agree
set_option linter.unusedVariables false

section
variable {n : Nat} [NeZero n]

/-- A field with an inverse that is told, a number k that is no square. -/
structure Cv (inv : Fin n → Fin n) (k : Fin n) : Prop where
  i : ∀ a, a ≠ 0 → a * inv a = 1
  i0 : inv 0 = 0
  two : (2 : Fin n) ≠ 0
  ns : ∀ a, a * a ≠ k

variable {inv : Fin n → Fin n} {k : Fin n}

theorem Cv.zd (C : Cv inv k) {a b : Fin n} (h : a * b = 0) : a = 0 ∨ b = 0 := by
  by_cases ha : a = 0
  · exact .inl ha
  · have := C.i a ha
    exact .inr (by grind)
theorem Cv.nz (C : Cv inv k) {a b : Fin n} (ha : a ≠ 0) (hb : b ≠ 0) : a * b ≠ 0 := fun h => (C.zd h).elim ha hb
theorem Cv.one (C : Cv inv k) : (1 : Fin n) ≠ 0 := fun h => C.two (by grind)
theorem Cv.inv1 (C : Cv inv k) : inv 1 = 1 := by have := C.i 1 C.one; grind
theorem Cv.kz (C : Cv inv k) : k ≠ 0 := fun h => C.ns 0 (by grind)
theorem Cv.can (C : Cv inv k) {a b c : Fin n} (hc : c ≠ 0) (h : a * c = b * c) : a = b := by
  have := C.i c hc
  have e : a * (c * inv c) = b * (c * inv c) := by grind
  rw [this] at e
  grind
/-- A square times k is a square only where both are zero. -/
theorem Cv.sq (C : Cv inv k) {a b : Fin n} (h : a * a = k * (b * b)) : b = 0 := by
  by_cases hb : b = 0
  · exact hb
  · have := C.i b hb
    refine absurd ?_ (C.ns (a * inv b))
    have e : (a * inv b) * (a * inv b) = k * ((b * inv b) * (b * inv b)) := by grind
    rw [this] at e
    grind

/-- On the curve. -/
def On (k : Fin n) (P : Fin n × Fin n) : Prop := P.1 * P.1 + P.2 * P.2 = 1 + k * P.1 * P.1 * P.2 * P.2

theorem full_eps (C : Cv inv k) {a b c d : Fin n} (e1 : a * a + b * b = 1 + k * a * a * b * b) (e2 : c * c + d * d = 1 + k * c * c * d * d) (h : (k * a * b * c * d) * (k * a * b * c * d) = 1) : False := by
  obtain ⟨t, ht⟩ : ∃ t, t = k * a * b * c * d := ⟨_, rfl⟩
  rw [← ht] at h
  have h1 : (a + t * b) * (a + t * b) = k * ((a * b * (c + d)) * (a * b * (c + d))) := by
    have q : k * a * a * b * b * (c * c + d * d) = k * a * a * b * b + 1 := by
      rw [e2]
      have : k * a * a * b * b * (1 + k * c * c * d * d) = k * a * a * b * b + (k * a * b * c * d) * (k * a * b * c * d) := by grind
      rw [this, ← ht, h]
    have r : t * (a * b) = k * a * b * c * d * (a * b) := by rw [ht]
    have s : (a + t * b) * (a + t * b) = a * a + t * t * (b * b) + (t * (a * b) + t * (a * b)) := by grind
    rw [s, h, r]
    grind
  have h2 : (a - t * b) * (a - t * b) = k * ((a * b * (c - d)) * (a * b * (c - d))) := by
    have q : k * a * a * b * b * (c * c + d * d) = k * a * a * b * b + 1 := by
      rw [e2]
      have : k * a * a * b * b * (1 + k * c * c * d * d) = k * a * a * b * b + (k * a * b * c * d) * (k * a * b * c * d) := by grind
      rw [this, ← ht, h]
    have r : t * (a * b) = k * a * b * c * d * (a * b) := by rw [ht]
    have s : (a - t * b) * (a - t * b) = a * a + t * t * (b * b) - (t * (a * b) + t * (a * b)) := by grind
    rw [s, h, r]
    grind
  have g1 := C.sq h1
  have g2 := C.sq h2
  have tz : t ≠ 0 := fun q => C.one (by rw [← h, q]; grind)
  have ab : a * b ≠ 0 := fun q => tz (by rw [ht]; grind)
  have p1 := (C.zd g1).resolve_left ab
  have p2 := (C.zd g2).resolve_left ab
  have p3 : (2 : Fin n) * c = 0 := by grind
  have p4 := (C.zd p3).resolve_left C.two
  exact tz (by rw [ht, p4]; grind)

theorem full (C : Cv inv k) {P Q : Fin n × Fin n} (hP : On k P) (hQ : On k Q) : 1 + k * P.1 * P.2 * Q.1 * Q.2 ≠ 0 ∧ 1 - k * P.1 * P.2 * Q.1 * Q.2 ≠ 0 := by
  refine ⟨fun h => full_eps C hP hQ ?_, fun h => full_eps C hP hQ ?_⟩
  · have : k * P.1 * P.2 * Q.1 * Q.2 = -1 := by grind
    rw [this]
    grind
  · have : k * P.1 * P.2 * Q.1 * Q.2 = 1 := by grind
    rw [this]
    grind

/-- The sum. -/
def eadd (inv : Fin n → Fin n) (k : Fin n) (P Q : Fin n × Fin n) : Fin n × Fin n :=
  ((P.1 * Q.2 + P.2 * Q.1) * inv (1 + k * P.1 * P.2 * Q.1 * Q.2), (P.2 * Q.2 - P.1 * Q.1) * inv (1 - k * P.1 * P.2 * Q.1 * Q.2))
def eO : Fin n × Fin n := (0, 1)
def eneg (P : Fin n × Fin n) : Fin n × Fin n := (-P.1, P.2)

theorem on_O : On k (eO : Fin n × Fin n) := by unfold On eO; grind
theorem on_neg {P : Fin n × Fin n} (h : On k P) : On k (eneg P) := by unfold On eneg at *; grind

theorem close_id {a b c d k : Fin n} (e1 : a * a + b * b = 1 + k * a * a * b * b) (e2 : c * c + d * d = 1 + k * c * c * d * d) :
    (a * d + b * c) * (a * d + b * c) * ((1 - k * a * b * c * d) * (1 - k * a * b * c * d)) + (b * d - a * c) * (b * d - a * c) * ((1 + k * a * b * c * d) * (1 + k * a * b * c * d)) =
      (1 + k * a * b * c * d) * (1 + k * a * b * c * d) * ((1 - k * a * b * c * d) * (1 - k * a * b * c * d)) + k * ((a * d + b * c) * (a * d + b * c)) * ((b * d - a * c) * (b * d - a * c)) := by
  grind

theorem on_frac {N M p q D E k : Fin n} (hp : D * p = 1) (hq : E * q = 1) (h : N * N * (E * E) + M * M * (D * D) = D * D * (E * E) + k * (N * N) * (M * M)) :
    N * p * (N * p) + M * q * (M * q) = 1 + k * (N * p) * (N * p) * (M * q) * (M * q) := by
  have e : (N * N * (E * E) + M * M * (D * D)) * (p * p * (q * q)) = (D * D * (E * E) + k * (N * N) * (M * M)) * (p * p * (q * q)) := by rw [h]
  have e1 : (N * N * (E * E) + M * M * (D * D)) * (p * p * (q * q)) = N * p * (N * p) * ((E * q) * (E * q)) + M * q * (M * q) * ((D * p) * (D * p)) := by grind
  have e2 : (D * D * (E * E) + k * (N * N) * (M * M)) * (p * p * (q * q)) = ((D * p) * (D * p)) * ((E * q) * (E * q)) + k * (N * p) * (N * p) * (M * q) * (M * q) := by grind
  rw [e1, e2, hp, hq] at e
  grind

theorem on_add (C : Cv inv k) {P Q : Fin n × Fin n} (hP : On k P) (hQ : On k Q) : On k (eadd inv k P Q) := by
  obtain ⟨h1, h2⟩ := full C hP hQ
  obtain ⟨a, b⟩ := P
  obtain ⟨c, d⟩ := Q
  unfold On eadd at *
  simp only [] at *
  exact on_frac (C.i _ h1) (C.i _ h2) (close_id hP hQ)

theorem add_O (C : Cv inv k) (P : Fin n × Fin n) : eadd inv k P eO = P := by
  obtain ⟨a, b⟩ := P
  unfold eadd eO
  simp only []
  have e1 : 1 + k * a * b * 0 * 1 = 1 := by grind
  have e2 : 1 - k * a * b * 0 * 1 = 1 := by grind
  rw [e1, e2, C.inv1]
  refine Prod.ext ?_ ?_ <;> simp only [] <;> grind
theorem add_comm (P Q : Fin n × Fin n) : eadd inv k P Q = eadd inv k Q P := by
  obtain ⟨a, b⟩ := P
  obtain ⟨c, d⟩ := Q
  unfold eadd
  simp only []
  have e : k * a * b * c * d = k * c * d * a * b := by grind
  rw [e]
  refine Prod.ext ?_ ?_ <;> simp only [] <;> grind
theorem O_add (C : Cv inv k) (P : Fin n × Fin n) : eadd inv k eO P = P := by rw [add_comm, add_O C]
theorem add_neg (C : Cv inv k) {P : Fin n × Fin n} (hP : On k P) : eadd inv k P (eneg P) = eO := by
  have h2 := (full C hP (on_neg hP)).2
  obtain ⟨a, b⟩ := P
  unfold On eadd eO eneg at *
  simp only [] at *
  have e := C.i _ h2
  have e3 : b * b - a * -a = 1 - k * a * b * -a * b := by grind
  refine Prod.ext ?_ ?_
  · simp only []
    have : a * b + b * -a = 0 := by grind
    rw [this]
    grind
  · simp only []
    rw [e3]
    exact e

end
end Go.Proofs.Ytfnmnmjpcamkiaa.Agree
