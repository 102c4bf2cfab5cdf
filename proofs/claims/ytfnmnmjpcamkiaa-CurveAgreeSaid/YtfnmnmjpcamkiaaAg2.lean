/-
  CurveAgree, plain: the sum of the curve is associative; multiples. Printed by mkag2.py.
-/
import Derived.Test.YtfnmnmjpcamkiaaAg1
namespace Go.Proofs.Ytfnmnmjpcamkiaa.Agree
set_option linter.unusedVariables false

section
variable {n : Nat} [NeZero n]

set_option maxHeartbeats 4000000 in
theorem assocX {a b c d e f k : Fin n} (e1 : a*a + b*b = 1 + k*a*a*b*b) (e2 : c*c + d*d = 1 + k*c*c*d*d) (e3 : e*e + f*f = 1 + k*e*e*f*f) : ((a*d+b*c)*(1-k*a*b*c*d)*f+(b*d-a*c)*(1+k*a*b*c*d)*e)*((1+k*c*d*e*f)*(1-k*c*d*e*f)+k*a*b*(c*f+d*e)*(d*f-c*e)) = (a*((d*f-c*e)*(1+k*c*d*e*f))+b*((c*f+d*e)*(1-k*c*d*e*f)))*((1+k*a*b*c*d)*(1-k*a*b*c*d)+k*(a*d+b*c)*(b*d-a*c)*e*f) := by
  have h : ((a*d+b*c)*(1-k*a*b*c*d)*f+(b*d-a*c)*(1+k*a*b*c*d)*e)*((1+k*c*d*e*f)*(1-k*c*d*e*f)+k*a*b*(c*f+d*e)*(d*f-c*e)) - (a*((d*f-c*e)*(1+k*c*d*e*f))+b*((c*f+d*e)*(1-k*c*d*e*f)))*((1+k*a*b*c*d)*(1-k*a*b*c*d)+k*(a*d+b*c)*(b*d-a*c)*e*f) = (a*c*c*c*c*d*d*d*e*e*f*k*k-a*c*c*c*c*d*e*e*f*k-a*c*c*c*d*d*d*d*e*f*f*k*k-a*c*c*c*d*d*e*e*e*k+a*c*c*c*d*d*e*k+a*c*c*d*d*d*f*f*f*k-a*c*c*d*d*d*f*k+a*c*d*d*d*d*e*f*f*k+b*c*c*c*c*d*d*d*e*f*f*k*k-b*c*c*c*c*d*e*f*f*k+b*c*c*c*d*d*d*d*e*e*f*k*k+b*c*c*c*d*d*f*f*f*k-b*c*c*c*d*d*f*k+b*c*c*d*d*d*e*e*e*k-b*c*c*d*d*d*e*k-b*c*d*d*d*d*e*e*f*k)*(a*a+b*b-1-k*a*a*b*b) + (a*a*a*c*c*d*e*e*f*k-a*a*a*c*d*d*e*f*f*k+a*a*a*c*e*e*e*f*f*k-a*a*a*c*e*e*e-a*a*a*c*e*f*f+a*a*a*c*e-a*a*a*d*e*e*f*f*f*k+a*a*a*d*e*e*f+a*a*a*d*f*f*f-a*a*a*d*f-a*a*b*c*c*d*e*e*e*f*f*k*k+a*a*b*c*c*d*e*f*f*k-a*a*b*c*d*d*e*e*f*f*f*k*k+a*a*b*c*d*d*e*e*f*k-a*a*b*c*e*e*f*f*f*k+a*a*b*c*e*e*f+a*a*b*c*f*f*f-a*a*b*c*f-a*a*b*d*e*e*e*f*f*k+a*a*b*d*e*e*e+a*a*b*d*e*f*f-a*a*b*d*e-a*b*b*c*c*d*e*e*f*f*f*k*k+a*b*b*c*c*d*e*e*f*k+a*b*b*c*d*d*e*e*e*f*f*k*k-a*b*b*c*d*d*e*f*f*k+a*b*b*c*e*e*e*f*f*k-a*b*b*c*e*e*e-a*b*b*c*e*f*f+a*b*b*c*e-a*b*b*d*e*e*f*f*f*k+a*b*b*d*e*e*f+a*b*b*d*f*f*f-a*b*b*d*f-a*c*c*d*e*e*f*k+a*c*d*d*e*f*f*k-a*c*e*e*e*f*f*k+a*c*e*e*e+a*c*e*f*f-a*c*e+a*d*e*e*f*f*f*k-a*d*e*e*f-a*d*f*f*f+a*d*f+b*b*b*c*c*d*e*f*f*k+b*b*b*c*d*d*e*e*f*k-b*b*b*c*e*e*f*f*f*k+b*b*b*c*e*e*f+b*b*b*c*f*f*f-b*b*b*c*f-b*b*b*d*e*e*e*f*f*k+b*b*b*d*e*e*e+b*b*b*d*e*f*f-b*b*b*d*e-b*c*c*d*e*f*f*k-b*c*d*d*e*e*f*k+b*c*e*e*f*f*f*k-b*c*e*e*f-b*c*f*f*f+b*c*f+b*d*e*e*e*f*f*k-b*d*e*e*e-b*d*e*f*f+b*d*e)*(c*c+d*d-1-k*c*c*d*d) + (a*a*a*c*c*c*e-a*a*a*c*c*d*f+a*a*a*c*d*d*e-a*a*a*c*e-a*a*a*d*d*d*f+a*a*a*d*f-a*a*b*c*c*c*f+a*a*b*c*c*d*e*k-a*a*b*c*c*d*e+a*a*b*c*d*d*f*k-a*a*b*c*d*d*f+a*a*b*c*f-a*a*b*d*d*d*e+a*a*b*d*e+a*b*b*c*c*c*e+a*b*b*c*c*d*f*k-a*b*b*c*c*d*f-a*b*b*c*d*d*e*k+a*b*b*c*d*d*e-a*b*b*c*e-a*b*b*d*d*d*f+a*b*b*d*f-a*c*c*c*e+a*c*c*d*f-a*c*d*d*e+a*c*e+a*d*d*d*f-a*d*f-b*b*b*c*c*c*f-b*b*b*c*c*d*e-b*b*b*c*d*d*f+b*b*b*c*f-b*b*b*d*d*d*e+b*b*b*d*e+b*c*c*c*f+b*c*c*d*e+b*c*d*d*f-b*c*f+b*d*d*d*e-b*d*e)*(e*e+f*f-1-k*e*e*f*f) := by grind
  have e1' : a*a+b*b-1-k*a*a*b*b = 0 := by grind
  have e2' : c*c+d*d-1-k*c*c*d*d = 0 := by grind
  have e3' : e*e+f*f-1-k*e*e*f*f = 0 := by grind
  rw [e1', e2', e3'] at h
  grind

set_option maxHeartbeats 4000000 in
theorem assocY {a b c d e f k : Fin n} (e1 : a*a + b*b = 1 + k*a*a*b*b) (e2 : c*c + d*d = 1 + k*c*c*d*d) (e3 : e*e + f*f = 1 + k*e*e*f*f) : ((b*d-a*c)*(1+k*a*b*c*d)*f-(a*d+b*c)*(1-k*a*b*c*d)*e)*((1+k*c*d*e*f)*(1-k*c*d*e*f)-k*a*b*(c*f+d*e)*(d*f-c*e)) = (b*((d*f-c*e)*(1+k*c*d*e*f))-a*((c*f+d*e)*(1-k*c*d*e*f)))*((1+k*a*b*c*d)*(1-k*a*b*c*d)-k*(a*d+b*c)*(b*d-a*c)*e*f) := by
  have h : ((b*d-a*c)*(1+k*a*b*c*d)*f-(a*d+b*c)*(1-k*a*b*c*d)*e)*((1+k*c*d*e*f)*(1-k*c*d*e*f)-k*a*b*(c*f+d*e)*(d*f-c*e)) - (b*((d*f-c*e)*(1+k*c*d*e*f))-a*((c*f+d*e)*(1-k*c*d*e*f)))*((1+k*a*b*c*d)*(1-k*a*b*c*d)-k*(a*d+b*c)*(b*d-a*c)*e*f) = (-a*c*c*c*c*d*d*d*e*f*f*k*k+a*c*c*c*c*d*e*f*f*k-a*c*c*c*d*d*d*d*e*e*f*k*k-a*c*c*c*d*d*f*f*f*k+a*c*c*c*d*d*f*k-a*c*c*d*d*d*e*e*e*k+a*c*c*d*d*d*e*k+a*c*d*d*d*d*e*e*f*k+b*c*c*c*c*d*d*d*e*e*f*k*k-b*c*c*c*c*d*e*e*f*k-b*c*c*c*d*d*d*d*e*f*f*k*k-b*c*c*c*d*d*e*e*e*k+b*c*c*c*d*d*e*k+b*c*c*d*d*d*f*f*f*k-b*c*c*d*d*d*f*k+b*c*d*d*d*d*e*f*f*k)*(a*a+b*b-1-k*a*a*b*b) + (-a*a*a*c*c*d*e*f*f*k-a*a*a*c*d*d*e*e*f*k+a*a*a*c*e*e*f*f*f*k-a*a*a*c*e*e*f-a*a*a*c*f*f*f+a*a*a*c*f+a*a*a*d*e*e*e*f*f*k-a*a*a*d*e*e*e-a*a*a*d*e*f*f+a*a*a*d*e-a*a*b*c*c*d*e*e*f*f*f*k*k+a*a*b*c*c*d*e*e*f*k+a*a*b*c*d*d*e*e*e*f*f*k*k-a*a*b*c*d*d*e*f*f*k+a*a*b*c*e*e*e*f*f*k-a*a*b*c*e*e*e-a*a*b*c*e*f*f+a*a*b*c*e-a*a*b*d*e*e*f*f*f*k+a*a*b*d*e*e*f+a*a*b*d*f*f*f-a*a*b*d*f+a*b*b*c*c*d*e*e*e*f*f*k*k-a*b*b*c*c*d*e*f*f*k+a*b*b*c*d*d*e*e*f*f*f*k*k-a*b*b*c*d*d*e*e*f*k+a*b*b*c*e*e*f*f*f*k-a*b*b*c*e*e*f-a*b*b*c*f*f*f+a*b*b*c*f+a*b*b*d*e*e*e*f*f*k-a*b*b*d*e*e*e-a*b*b*d*e*f*f+a*b*b*d*e+a*c*c*d*e*f*f*k+a*c*d*d*e*e*f*k-a*c*e*e*f*f*f*k+a*c*e*e*f+a*c*f*f*f-a*c*f-a*d*e*e*e*f*f*k+a*d*e*e*e+a*d*e*f*f-a*d*e+b*b*b*c*c*d*e*e*f*k-b*b*b*c*d*d*e*f*f*k+b*b*b*c*e*e*e*f*f*k-b*b*b*c*e*e*e-b*b*b*c*e*f*f+b*b*b*c*e-b*b*b*d*e*e*f*f*f*k+b*b*b*d*e*e*f+b*b*b*d*f*f*f-b*b*b*d*f-b*c*c*d*e*e*f*k+b*c*d*d*e*f*f*k-b*c*e*e*e*f*f*k+b*c*e*e*e+b*c*e*f*f-b*c*e+b*d*e*e*f*f*f*k-b*d*e*e*f-b*d*f*f*f+b*d*f)*(c*c+d*d-1-k*c*c*d*d) + (a*a*a*c*c*c*f+a*a*a*c*c*d*e+a*a*a*c*d*d*f-a*a*a*c*f+a*a*a*d*d*d*e-a*a*a*d*e+a*a*b*c*c*c*e+a*a*b*c*c*d*f*k-a*a*b*c*c*d*f-a*a*b*c*d*d*e*k+a*a*b*c*d*d*e-a*a*b*c*e-a*a*b*d*d*d*f+a*a*b*d*f+a*b*b*c*c*c*f-a*b*b*c*c*d*e*k+a*b*b*c*c*d*e-a*b*b*c*d*d*f*k+a*b*b*c*d*d*f-a*b*b*c*f+a*b*b*d*d*d*e-a*b*b*d*e-a*c*c*c*f-a*c*c*d*e-a*c*d*d*f+a*c*f-a*d*d*d*e+a*d*e+b*b*b*c*c*c*e-b*b*b*c*c*d*f+b*b*b*c*d*d*e-b*b*b*c*e-b*b*b*d*d*d*f+b*b*b*d*f-b*c*c*c*e+b*c*c*d*f-b*c*d*d*e+b*c*e+b*d*d*d*f-b*d*f)*(e*e+f*f-1-k*e*e*f*f) := by grind
  have e1' : a*a+b*b-1-k*a*a*b*b = 0 := by grind
  have e2' : c*c+d*d-1-k*c*c*d*d = 0 := by grind
  have e3' : e*e+f*f-1-k*e*e*f*f = 0 := by grind
  rw [e1', e2', e3'] at h
  grind

theorem fracL1 {N M D E p q r e f k : Fin n} (hp : D * p = 1) (hq : E * q = 1) (hr : (1 + k * (N * p) * (M * q) * e * f) * r = 1) : ((N * p * f + M * q * e) * r) * (D * E + k * N * M * e * f) = N * E * f + M * D * e := by grind
theorem fracL2 {N M D E p q r e f k : Fin n} (hp : D * p = 1) (hq : E * q = 1) (hr : (1 - k * (N * p) * (M * q) * e * f) * r = 1) : ((M * q * f - N * p * e) * r) * (D * E - k * N * M * e * f) = M * D * f - N * E * e := by grind
theorem fracR1 {N M D E p q r a b k : Fin n} (hp : D * p = 1) (hq : E * q = 1) (hr : (1 + k * a * b * (N * p) * (M * q)) * r = 1) : ((a * (M * q) + b * (N * p)) * r) * (D * E + k * a * b * N * M) = a * (M * D) + b * (N * E) := by grind
theorem fracR2 {N M D E p q r a b k : Fin n} (hp : D * p = 1) (hq : E * q = 1) (hr : (1 - k * a * b * (N * p) * (M * q)) * r = 1) : ((b * (M * q) - a * (N * p)) * r) * (D * E - k * a * b * N * M) = b * (M * D) - a * (N * E) := by grind
theorem denL1 {N M D E p q e f k : Fin n} (hp : D * p = 1) (hq : E * q = 1) : D * E * (1 + k * (N * p) * (M * q) * e * f) = D * E + k * N * M * e * f := by grind
theorem denL2 {N M D E p q e f k : Fin n} (hp : D * p = 1) (hq : E * q = 1) : D * E * (1 - k * (N * p) * (M * q) * e * f) = D * E - k * N * M * e * f := by grind
theorem denR1 {N M D E p q a b k : Fin n} (hp : D * p = 1) (hq : E * q = 1) : D * E * (1 + k * a * b * (N * p) * (M * q)) = D * E + k * a * b * N * M := by grind
theorem denR2 {N M D E p q a b k : Fin n} (hp : D * p = 1) (hq : E * q = 1) : D * E * (1 - k * a * b * (N * p) * (M * q)) = D * E - k * a * b * N * M := by grind

variable {inv : Fin n → Fin n} {k : Fin n}

/-- x * V = M, y * W = K, M * W = K * V, V and W not zero: x = y. -/
theorem Cv.frac (C : Cv inv k) {x y V W M K : Fin n} (h1 : x * V = M) (h2 : y * W = K) (h : M * W = K * V) (hV : V ≠ 0) (hW : W ≠ 0) : x = y := by
  refine C.can (C.nz hV hW) ?_
  rw [← h1, ← h2] at h
  grind

theorem add_assoc (C : Cv inv k) {P Q R : Fin n × Fin n} (hP : On k P) (hQ : On k Q) (hR : On k R) : eadd inv k (eadd inv k P Q) R = eadd inv k P (eadd inv k Q R) := by
  have hPQ := on_add C hP hQ
  have hQR := on_add C hQ hR
  obtain ⟨u1, u2⟩ := full C hP hQ
  obtain ⟨v1, v2⟩ := full C hQ hR
  obtain ⟨s1, s2⟩ := full C hPQ hR
  obtain ⟨t1, t2⟩ := full C hP hQR
  obtain ⟨a, b⟩ := P
  obtain ⟨c, d⟩ := Q
  obtain ⟨e, f⟩ := R
  unfold On at hP hQ hR
  unfold eadd at *
  simp only [] at *
  have p1 := C.i _ u1
  have p2 := C.i _ u2
  have q1 := C.i _ v1
  have q2 := C.i _ v2
  have r1 := C.i _ s1
  have r2 := C.i _ s2
  have w1 := C.i _ t1
  have w2 := C.i _ t2
  have nL := C.nz u1 u2
  have nR := C.nz v1 v2
  refine Prod.ext ?_ ?_
  · exact C.frac (fracL1 p1 p2 r1) (fracR1 q1 q2 w1) (assocX hP hQ hR) (by rw [← denL1 p1 p2]; exact C.nz nL s1) (by rw [← denR1 q1 q2]; exact C.nz nR t1)
  · exact C.frac (fracL2 p1 p2 r2) (fracR2 q1 q2 w2) (assocY hP hQ hR) (by rw [← denL2 p1 p2]; exact C.nz nL s2) (by rw [← denR2 q1 q2]; exact C.nz nR t2)

/-- A multiple. -/
def mulP (inv : Fin n → Fin n) (k : Fin n) : Nat → Fin n × Fin n → Fin n × Fin n
  | 0, _ => eO
  | m + 1, P => eadd inv k (mulP inv k m P) P
theorem on_mul (C : Cv inv k) {P : Fin n × Fin n} (hP : On k P) : ∀ m, On k (mulP inv k m P)
  | 0 => on_O
  | m + 1 => on_add C (on_mul C hP m) hP
theorem mul_one (C : Cv inv k) (P : Fin n × Fin n) : mulP inv k 1 P = P := O_add C P
theorem mul_add (C : Cv inv k) {P : Fin n × Fin n} (hP : On k P) (a : Nat) : ∀ b, mulP inv k (a + b) P = eadd inv k (mulP inv k a P) (mulP inv k b P)
  | 0 => (add_O C _).symm
  | b + 1 => by
    show eadd inv k (mulP inv k (a + b) P) P = eadd inv k _ (eadd inv k (mulP inv k b P) P)
    rw [mul_add C hP a b, add_assoc C (on_mul C hP a) (on_mul C hP b) hP]
theorem mul_mul (C : Cv inv k) {P : Fin n × Fin n} (hP : On k P) (b : Nat) : ∀ a, mulP inv k (a * b) P = mulP inv k a (mulP inv k b P)
  | 0 => by rw [Nat.zero_mul]; rfl
  | a + 1 => by
    rw [Nat.succ_mul, mul_add C hP, mul_mul C hP b a]
    rfl
theorem mul_O (C : Cv inv k) : ∀ m, mulP inv k m eO = (eO : Fin n × Fin n)
  | 0 => rfl
  | m + 1 => by
    show eadd inv k (mulP inv k m eO) eO = eO
    rw [mul_O C m, add_O C]
/-- The next one, less this one. -/
theorem mul_sub (C : Cv inv k) {P : Fin n × Fin n} (hP : On k P) (m : Nat) : eadd inv k (mulP inv k (m + 1) P) (eneg (mulP inv k m P)) = P := by
  have h := on_mul C hP m
  show eadd inv k (eadd inv k (mulP inv k m P) P) _ = P
  rw [add_comm (mulP inv k m P) P, add_assoc C hP h (on_neg h), add_neg C h, add_O C]

end
end Go.Proofs.Ytfnmnmjpcamkiaa.Agree
