/-
  CurveAgree, plain: the ladder tells the multiple of a point; two ladders one behind the other tell the multiple by the product.
-/
import Derived.Test.YtfnmnmjpcamkiaaAg3
namespace Go.Proofs.Ytfnmnmjpcamkiaa.Agree
set_option linter.unusedVariables false

section
variable {n : Nat} [NeZero n]

theorem dif_id {a b c d k : Fin n} (e1 : a * a + b * b = 1 + k * a * a * b * b) (e2 : c * c + d * d = 1 + k * c * c * d * d) :
    ((1 - k * a * b * c * d) + (b * d - a * c)) * ((1 + k * a * b * c * d) + (b * d + a * c)) * ((b - d) * (b - d)) = ((1 - k * a * b * c * d) - (b * d - a * c)) * ((1 + k * a * b * c * d) - (b * d + a * c)) * ((b + d) * (b + d)) := by
  grind

/-- The same, of fractions. -/
theorem dif_frac {N M D E q r b d : Fin n} (hq : D * q = 1) (hr : E * r = 1) (h : (D + N) * (E + M) * ((b - d) * (b - d)) = (D - N) * (E - M) * ((b + d) * (b + d))) :
    (1 + N * q) * (1 + M * r) * ((b - d) * (b - d)) = (1 - N * q) * (1 - M * r) * ((b + d) * (b + d)) := by
  have e : ((D + N) * (E + M) * ((b - d) * (b - d))) * (q * r) = ((D - N) * (E - M) * ((b + d) * (b + d))) * (q * r) := by rw [h]
  have e1 : ((D + N) * (E + M) * ((b - d) * (b - d))) * (q * r) = (D * q + N * q) * (E * r + M * r) * ((b - d) * (b - d)) := by grind
  have e2 : ((D - N) * (E - M) * ((b + d) * (b + d))) * (q * r) = (D * q - N * q) * (E * r - M * r) * ((b + d) * (b + d)) := by grind
  rw [e1, e2, hq, hr] at e
  exact e

theorem add_xz {t t' s b d : Fin n} (ss : s * s = 1) :
    ((t' * s * (1 + d) - t' * (1 - d)) * (t * s * (1 + b) + t * (1 - b)) + (t' * s * (1 + d) + t' * (1 - d)) * (t * s * (1 + b) - t * (1 - b))) = 4 * (t * t') * (b + d) ∧
    ((t' * s * (1 + d) - t' * (1 - d)) * (t * s * (1 + b) + t * (1 - b)) - (t' * s * (1 + d) + t' * (1 - d)) * (t * s * (1 + b) - t * (1 - b))) = 4 * (t * t') * s * (d - b) := by
  constructor
  · have e : ((t' * s * (1 + d) - t' * (1 - d)) * (t * s * (1 + b) + t * (1 - b)) + (t' * s * (1 + d) + t' * (1 - d)) * (t * s * (1 + b) - t * (1 - b))) = 2 * (t * t') * ((s * s) * ((1 + b) * (1 + d)) - (1 - b) * (1 - d)) := by grind
    rw [e, ss]
    grind
  · grind

theorem both_zero {b d : Fin n} (h1 : b + d = 0) (h2 : b - d = 0) : 2 * b = 0 := by grind
theorem other_zero {b d : Fin n} (h1 : b + d = 0) (h2 : b = 0) : d = 0 := by grind
theorem zero_facts {a g k : Fin n} : (0 : Fin n) * 0 + a * g = a * g ∧ 1 + k * a * 0 * g * 0 = 1 := by constructor <;> grind
theorem tim_one (x : Fin n) : x * 1 = x := by grind
theorem sq_one {a k : Fin n} (h : a * a + 0 * 0 = 1 + k * a * a * 0 * 0) : a * a = 1 := by grind

variable {inv : Fin n → Fin n} {k A c s : Fin n}

theorem rep_add (C : Cv inv k) (L : Ld k A c s) {P Q : Fin n × Fin n} {u y X2 Z2 X3 Z3 : Fin n} (hP : On k P) (hQ : On k Q) (h : Rep s P X2 Z2) (h' : Rep s Q X3 Z3)
    (hd : (eadd inv k P (eneg Q)).2 = y) (hu : u ≠ 0) (hb : u * (1 - y) = s * (1 + y)) : Rep s (eadd inv k P Q) (fadd u X2 Z2 X3 Z3).1 (fadd u X2 Z2 X3 Z3).2 := by
  obtain ⟨t, ht, rfl, rfl⟩ := h
  obtain ⟨t', ht', rfl, rfl⟩ := h'
  have m1 := (full C hP hQ).1
  have m2 := (full C hP hQ).2
  have ss := L.ss
  have sz := L.sz C
  have y1 : 1 + y = s * u * (1 - y) := by
    have : s * (u * (1 - y)) = (s * s) * (1 + y) := by rw [hb]; grind
    rw [ss] at this
    grind
  have y2 : 1 - y ≠ 0 := fun q => C.two (by rw [q] at y1; grind)
  obtain ⟨a, b⟩ := P
  obtain ⟨g, d⟩ := Q
  unfold On at hP hQ
  unfold eadd eneg at hd
  simp only [] at *
  have hI := dif_id hP hQ
  have e1 : b * d - a * -g = b * d + a * g := by grind
  have e2 : 1 - k * a * b * -g * d = 1 + k * a * b * g * d := by grind
  rw [e1, e2] at hd
  have q := C.i _ m2
  have r := C.i _ m1
  have hF := dif_frac q r hI
  rw [hd] at hF
  obtain ⟨z, ez⟩ : ∃ z, z = (b * d - a * g) * inv (1 - k * a * b * g * d) := ⟨_, rfl⟩
  rw [← ez] at hF
  obtain ⟨ea, eb⟩ := add_xz (t := t) (t' := t') (b := b) (d := d) ss
  have x5 : (fadd u (t * s * (1 + b)) (t * (1 - b)) (t' * s * (1 + d)) (t' * (1 - d))).1 = (4 * (t * t')) * (4 * (t * t')) * ((b + d) * (b + d)) := by
    unfold fadd
    simp only []
    rw [ea]
    grind
  have z5 : (fadd u (t * s * (1 + b)) (t * (1 - b)) (t' * s * (1 + d)) (t' * (1 - d))).2 = (4 * (t * t')) * (4 * (t * t')) * ((b - d) * (b - d)) * u := by
    unfold fadd
    simp only []
    rw [eb]
    have : 4 * (t * t') * s * (d - b) * (4 * (t * t') * s * (d - b)) * u = (4 * (t * t')) * (4 * (t * t')) * (s * s) * ((b - d) * (b - d)) * u := by grind
    rw [this, ss]
    grind
  have four : (4 : Fin n) ≠ 0 := by
    have : (4 : Fin n) = 2 * 2 := by grind
    rw [this]
    exact C.nz C.two C.two
  have tz := C.nz four (C.nz ht ht')
  refine rep_of C L ?_ ?_
  · rw [x5, z5]
    unfold eadd
    simp only []
    rw [← ez]
    have hc : s * u * (1 + z) * ((b - d) * (b - d)) = (1 - z) * ((b + d) * (b + d)) := by
      refine C.can y2 ?_
      have f1 : s * u * (1 + z) * ((b - d) * (b - d)) * (1 - y) = (1 + z) * (s * u * (1 - y)) * ((b - d) * (b - d)) := by grind
      rw [f1, ← y1, hF]
      grind
    have f1 : 4 * (t * t') * (4 * (t * t')) * ((b + d) * (b + d)) * (1 - z) = 4 * (t * t') * (4 * (t * t')) * ((1 - z) * ((b + d) * (b + d))) := by grind
    have f2 : s * (4 * (t * t') * (4 * (t * t')) * ((b - d) * (b - d)) * u) * (1 + z) = 4 * (t * t') * (4 * (t * t')) * (s * u * (1 + z) * ((b - d) * (b - d))) := by grind
    rw [f1, f2, hc]
  · rw [x5, z5]
    rintro ⟨h1, h2⟩
    have p1 := (C.zd h1).resolve_left (C.nz tz tz)
    have p2 := (C.zd ((C.zd h2).resolve_right hu)).resolve_left (C.nz tz tz)
    have p3 : b + d = 0 := (C.zd p1).elim id id
    have p4 : b - d = 0 := (C.zd p2).elim id id
    have p6 := (C.zd (both_zero p3 p4)).resolve_left C.two
    have p7 := other_zero p3 p6
    subst p6
    subst p7
    rw [(zero_facts (a := a) (g := g) (k := k)).1, (zero_facts (a := a) (g := g) (k := k)).2, C.inv1] at hd
    have p9 : y = a * g := by rw [← hd]; exact tim_one _
    have p10 := sq_one hP
    have p11 := sq_one hQ
    have p12 : (1 - y) * (1 + y) = 0 := by
      rw [p9]
      have : (1 - a * g) * (1 + a * g) = 1 - (a * a) * (g * g) := by grind
      rw [this, p10, p11]
      grind
    have p13 := (C.zd p12).resolve_left y2
    rw [y1] at p13
    exact (C.nz (C.nz sz hu) y2) p13

/-! ### The ladder -/

def fS (u c : Fin n) (N m : Nat) (st : (Fin n × Fin n) × (Fin n × Fin n) × Bool) : (Fin n × Fin n) × (Fin n × Fin n) × Bool :=
  let b := N.testBit m
  let p := if st.2.2 = b then st.1 else st.2.1
  let q := if st.2.2 = b then st.2.1 else st.1
  (fdbl c p.1 p.2, fadd u p.1 p.2 q.1 q.2, b)
def fL (u c : Fin n) (N : Nat) : Nat → (Fin n × Fin n) × (Fin n × Fin n) × Bool → (Fin n × Fin n) × (Fin n × Fin n) × Bool
  | 0, st => st
  | m + 1, st => fL u c N m (fS u c N m st)
def fE (u c : Fin n) (N K : Nat) : Fin n × Fin n :=
  let st := fL u c N K ((1, 0), (u, 1), false)
  if st.2.2 then st.2.1 else st.1
/-- The ladder's number. -/
def fT (inv : Fin n → Fin n) (c u : Fin n) (N K : Nat) : Fin n := (fE u c N K).1 * inv (fE u c N K).2

/-- Where the ladder stands: the multiples m and m + 1, in this order or in that. -/
structure Inv (inv : Fin n → Fin n) (k s : Fin n) (P : Fin n × Fin n) (m : Nat) (st : (Fin n × Fin n) × (Fin n × Fin n) × Bool) : Prop where
  a : Rep s (mulP inv k (m + st.2.2.toNat) P) st.1.1 st.1.2
  b : Rep s (mulP inv k (m + (!st.2.2).toNat) P) st.2.1.1 st.2.1.2

theorem dif_y (C : Cv inv k) {P : Fin n × Fin n} (hP : On k P) (m : Nat) (b : Bool) : (eadd inv k (mulP inv k (m + b.toNat) P) (eneg (mulP inv k (m + (!b).toNat) P))).2 = P.2 := by
  have h := mul_sub C hP m
  cases b
  · have e : ∀ X Y : Fin n × Fin n, (eadd inv k X (eneg Y)).2 = (eadd inv k Y (eneg X)).2 := by
      intro X Y
      obtain ⟨x, y⟩ := X
      obtain ⟨z, w⟩ := Y
      unfold eadd eneg
      simp only []
      have e1 : y * w - x * -z = w * y - z * -x := by grind
      have e2 : 1 - k * x * y * -z * w = 1 - k * z * w * -x * y := by grind
      rw [e1, e2]
    rw [e]
    exact congrArg Prod.snd h
  · exact congrArg Prod.snd h

theorem Inv.step (C : Cv inv k) (L : Ld k A c s) {P : Fin n × Fin n} {u : Fin n} (hP : On k P) (hu : u ≠ 0) (hb : u * (1 - P.2) = s * (1 + P.2)) {m N j : Nat} {st : (Fin n × Fin n) × (Fin n × Fin n) × Bool} (h : Inv inv k s P m st) :
    Inv inv k s P (2 * m + (N.testBit j).toNat) (fS u c N j st) := by
  obtain ⟨p0, q0, f⟩ := st
  obtain ⟨h1, h2⟩ := h
  obtain ⟨b, eb⟩ : ∃ b, b = N.testBit j := ⟨_, rfl⟩
  have hp : ∃ p q : Fin n × Fin n, fS u c N j (p0, q0, f) = (fdbl c p.1 p.2, fadd u p.1 p.2 q.1 q.2, b) ∧ Rep s (mulP inv k (m + b.toNat) P) p.1 p.2 ∧ Rep s (mulP inv k (m + (!b).toNat) P) q.1 q.2 := by
    unfold fS
    simp only [← eb] at *
    by_cases e : f = b
    · subst e
      exact ⟨p0, q0, by simp, h1, h2⟩
    · have e2 : b = !f := by cases f <;> cases b <;> simp_all
      refine ⟨q0, p0, by simp [e], ?_, ?_⟩
      · rw [e2]; exact h2
      · rw [e2]; simpa using h1
  obtain ⟨p, q, e1, g1, g2⟩ := hp
  rw [e1, ← eb]
  have o1 := on_mul (inv := inv) C hP (m + b.toNat)
  have o2 := on_mul (inv := inv) C hP (m + (!b).toNat)
  refine ⟨?_, ?_⟩
  · have := rep_dbl C L o1 g1
    rw [← mul_add C hP] at this
    have e : 2 * m + b.toNat + b.toNat = m + b.toNat + (m + b.toNat) := by omega
    show Rep s (mulP inv k (2 * m + b.toNat + b.toNat) P) _ _
    rw [e]
    exact this
  · have := rep_add C L o1 o2 g1 g2 (dif_y C hP m b) hu hb
    rw [← mul_add C hP] at this
    have e : 2 * m + b.toNat + (!b).toNat = m + b.toNat + (m + (!b).toNat) := by cases b <;> simp <;> omega
    show Rep s (mulP inv k (2 * m + b.toNat + (!b).toNat) P) _ _
    rw [e]
    exact this

theorem half (N j : Nat) : N / 2 ^ j = 2 * (N / 2 ^ (j + 1)) + (N.testBit j).toNat := by
  rw [Nat.testBit_eq_decide_div_mod_eq, Nat.pow_succ, ← Nat.div_div_eq_div_mul]
  have : (decide (N / 2 ^ j % 2 = 1)).toNat = N / 2 ^ j % 2 := by
    rcases Nat.mod_two_eq_zero_or_one (N / 2 ^ j) with h | h <;> rw [h] <;> rfl
  rw [this]
  omega

theorem Inv.lad (C : Cv inv k) (L : Ld k A c s) {P : Fin n × Fin n} {u : Fin n} (hP : On k P) (hu : u ≠ 0) (hb : u * (1 - P.2) = s * (1 + P.2)) {N : Nat} :
    ∀ (j : Nat) {st : (Fin n × Fin n) × (Fin n × Fin n) × Bool}, Inv inv k s P (N / 2 ^ j) st → Inv inv k s P N (fL u c N j st)
  | 0, st, h => by
    show Inv inv k s P N st
    simpa using h
  | j + 1, st, h => by
    refine Inv.lad C L hP hu hb j ?_
    rw [half]
    exact h.step C L hP hu hb

/-- The ladder tells the multiple. -/
theorem ladder (C : Cv inv k) (L : Ld k A c s) {P : Fin n × Fin n} {u : Fin n} (hP : On k P) (hu : u ≠ 0) (hb : u * (1 - P.2) = s * (1 + P.2)) {N K : Nat} (hN : N < 2 ^ K) :
    Rep s (mulP inv k N P) (fE u c N K).1 (fE u c N K).2 := by
  have i2 := C.i _ C.two
  have i2z : inv (2 : Fin n) ≠ 0 := fun q => C.one (by rw [← i2, q]; grind)
  have sz := L.sz C
  have ss := L.ss
  have h0 : Inv inv k s P (N / 2 ^ K) ((1, 0), (u, 1), false) := by
    rw [Nat.div_eq_of_lt hN]
    refine ⟨?_, ?_⟩
    · refine ⟨s * inv 2, C.nz sz i2z, ?_, ?_⟩
      · show 1 = s * inv 2 * s * (1 + 1)
        have : s * inv 2 * s * (1 + 1) = (s * s) * (2 * inv 2) := by grind
        rw [this, ss, i2]
        grind
      · show 0 = s * inv 2 * (1 - 1)
        grind
    · show Rep s (mulP inv k 1 P) u 1
      rw [mul_one C]
      refine rep_of C L ?_ (fun h => C.one h.2)
      rw [hb]
      grind
  have h := h0.lad C L hP hu hb
  unfold fE
  obtain ⟨st, est⟩ : ∃ st, st = fL u c N K ((1, 0), (u, 1), false) := ⟨_, rfl⟩
  rw [← est] at h ⊢
  obtain ⟨h1, h2⟩ := h
  obtain ⟨p, q, f⟩ := st
  cases f
  · exact h1
  · exact h2

/-- What a point tells. -/
def res (inv : Fin n → Fin n) (s : Fin n) (P : Fin n × Fin n) : Fin n := s * (1 + P.2) * inv (1 - P.2)
theorem rep_res (C : Cv inv k) {P : Fin n × Fin n} {X Z : Fin n} (h : Rep s P X Z) : X * inv Z = res inv s P := by
  obtain ⟨t, ht, rfl, rfl⟩ := h
  unfold res
  by_cases hy : 1 - P.2 = 0
  · rw [hy]
    have : t * (0 : Fin n) = 0 := by grind
    rw [this, C.i0]
    grind
  · have i1 := C.i _ (C.nz ht hy)
    have i2 := C.i _ hy
    refine C.can (C.nz ht hy) ?_
    have e1 : t * s * (1 + P.2) * inv (t * (1 - P.2)) * (t * (1 - P.2)) = t * s * (1 + P.2) * (t * (1 - P.2) * inv (t * (1 - P.2))) := by grind
    have e2 : s * (1 + P.2) * inv (1 - P.2) * (t * (1 - P.2)) = t * s * (1 + P.2) * ((1 - P.2) * inv (1 - P.2)) := by grind
    rw [e1, e2, i1, i2]
theorem ladder_res (C : Cv inv k) (L : Ld k A c s) {P : Fin n × Fin n} {u : Fin n} (hP : On k P) (hu : u ≠ 0) (hb : u * (1 - P.2) = s * (1 + P.2)) {N K : Nat} (hN : N < 2 ^ K) : fT inv c u N K = res inv s (mulP inv k N P) :=
  rep_res C (ladder C L hP hu hb hN)

/-- From zero comes zero. -/
theorem fS_zero (c : Fin n) (N m : Nat) (st : (Fin n × Fin n) × (Fin n × Fin n) × Bool) (h1 : st.1.1 * st.1.2 = 0) (h2 : st.2.1.1 * st.2.1.2 = 0) : (fS 0 c N m st).1.2 = 0 ∧ (fS 0 c N m st).2.1.2 = 0 := by
  unfold fS fdbl fadd
  simp only []
  refine ⟨?_, by grind⟩
  split
  · have e : ((st.1.1 + st.1.2) * (st.1.1 + st.1.2) - (st.1.1 - st.1.2) * (st.1.1 - st.1.2)) = 4 * (st.1.1 * st.1.2) := by grind
    rw [e, h1]
    grind
  · have e : ((st.2.1.1 + st.2.1.2) * (st.2.1.1 + st.2.1.2) - (st.2.1.1 - st.2.1.2) * (st.2.1.1 - st.2.1.2)) = 4 * (st.2.1.1 * st.2.1.2) := by grind
    rw [e, h2]
    grind
theorem fL_zero (c : Fin n) (N : Nat) : ∀ (m : Nat) (st : (Fin n × Fin n) × (Fin n × Fin n) × Bool), st.1.2 = 0 → st.2.1.2 = 0 → (fL 0 c N m st).1.2 = 0 ∧ (fL 0 c N m st).2.1.2 = 0
  | 0, st, h1, h2 => ⟨h1, h2⟩
  | m + 1, st, h1, h2 => by
    obtain ⟨g1, g2⟩ := fS_zero c N m st (by rw [h1]; grind) (by rw [h2]; grind)
    exact fL_zero c N m _ g1 g2
theorem fT_zero (C : Cv inv k) (c : Fin n) (N K : Nat) : fT inv c 0 N (K + 1) = 0 := by
  have h : (fE 0 c N (K + 1)).2 = 0 := by
    unfold fE
    obtain ⟨g1, g2⟩ := fS_zero c N K ((1, 0), (0, 1), false) (by grind) (by grind)
    obtain ⟨h1, h2⟩ := fL_zero c N K _ g1 g2
    have e : fL 0 c N (K + 1) ((1, 0), (0, 1), false) = fL 0 c N K (fS 0 c N K ((1, 0), (0, 1), false)) := rfl
    rw [e]
    generalize fL 0 c N K (fS 0 c N K ((1, 0), (0, 1), false)) = st at h1 h2 ⊢
    obtain ⟨p, q, f⟩ := st
    cases f
    · exact h1
    · exact h2
  unfold fT
  rw [h, C.i0]
  grind

/-- Where a point tells zero. -/
theorem res_zero (C : Cv inv k) (L : Ld k A c s) {P : Fin n × Fin n} (hP : On k P) (h : res inv s P = 0) : P = eO ∨ P = (0, -1) := by
  have hk1 : 1 - k ≠ 0 := fun q => C.ns 1 (by grind)
  obtain ⟨x, y⟩ := P
  unfold On at hP
  unfold res at h
  simp only [] at *
  have hy : 1 - y = 0 ∨ 1 + y = 0 := by
    by_cases q : 1 - y = 0
    · exact .inl q
    · have i2 := C.i _ q
      have iz : inv (1 - y) ≠ 0 := fun r => C.one (by rw [← i2, r]; grind)
      exact .inr ((C.zd ((C.zd h).resolve_right iz)).resolve_left (L.sz C))
  have hx : x = 0 := by
    have e : x * x * (1 - k) = 0 := by
      rcases hy with q | q
      · have : y = 1 := by grind
        subst this; grind
      · have : y = -1 := by grind
        subst this; grind
    exact (C.zd ((C.zd e).resolve_right hk1)).elim id id
  rcases hy with q | q
  · left
    unfold eO
    refine Prod.ext hx ?_
    show y = 1
    grind
  · right
    refine Prod.ext hx ?_
    show y = -1
    grind
theorem res_O (C : Cv inv k) : res inv s eO = 0 := by
  unfold res eO
  simp only []
  have : (1 : Fin n) - 1 = 0 := by grind
  rw [this, C.i0]
  grind
theorem two_T (C : Cv inv k) : eadd inv k (0, -1) (0, -1) = eO := by
  unfold eadd eO
  simp only []
  have e1 : 1 - k * 0 * -1 * 0 * -1 = 1 := by grind
  rw [e1, C.inv1]
  refine Prod.ext ?_ ?_ <;> simp only [] <;> grind

/-- Two ladders, the second by an even number. -/
theorem ladder_two (C : Cv inv k) (L : Ld k A c s) {P : Fin n × Fin n} {u : Fin n} (hP : On k P) (hu : u ≠ 0) (hb : u * (1 - P.2) = s * (1 + P.2)) {N M K : Nat} (hN : N < 2 ^ (K + 1)) (hM : 2 * M < 2 ^ (K + 1)) :
    fT inv c (fT inv c u N (K + 1)) (2 * M) (K + 1) = res inv s (mulP inv k (2 * M * N) P) := by
  rw [ladder_res C L hP hu hb hN, mul_mul C hP]
  have hO := on_mul (inv := inv) C hP N
  obtain ⟨Q, eQ⟩ : ∃ Q, Q = mulP inv k N P := ⟨_, rfl⟩
  rw [← eQ] at hO ⊢
  by_cases hz : res inv s Q = 0
  · rw [hz, fT_zero C]
    rcases res_zero C L hO hz with h | h
    · rw [h, mul_O C, res_O C]
    · have hT : On k (0, -1) := h ▸ hO
      have e2 : mulP inv k 2 (0, -1) = eO := by
        show eadd inv k (mulP inv k 1 (0, -1)) (0, -1) = eO
        rw [mul_one C, two_T C]
      rw [h, Nat.mul_comm, mul_mul C hT, e2, mul_O C, res_O C]
  · refine ladder_res C L hO hz ?_ hM
    have hy : 1 - Q.2 ≠ 0 := fun q => hz (by unfold res; rw [q, C.i0]; grind)
    have i2 := C.i _ hy
    unfold res
    have : s * (1 + Q.2) * inv (1 - Q.2) * (1 - Q.2) = s * (1 + Q.2) * ((1 - Q.2) * inv (1 - Q.2)) := by grind
    rw [this, i2]
    grind

/-- The point's number is not zero unless an even multiple is the neutral one. -/
theorem res_nz (C : Cv inv k) (L : Ld k A c s) {P : Fin n × Fin n} (hP : On k P) {l m : Nat} (hl : mulP inv k l P = eO) (hc : Nat.Coprime (2 * m) l) (hPO : P ≠ eO) : res inv s (mulP inv k m P) ≠ 0 := by
  intro h
  have h2 : mulP inv k (2 * m) P = eO := by
    rw [mul_mul C hP]
    have e : ∀ Q : Fin n × Fin n, mulP inv k 2 Q = eadd inv k Q Q := fun Q => by
      show eadd inv k (mulP inv k 1 Q) Q = _
      rw [mul_one C]
    rw [e]
    rcases res_zero C L (on_mul C hP m) h with q | q
    · rw [q, add_O C]
    · rw [q, two_T C]
  -- Bezout, by the kernel of the multiples: the numbers that make P vanish
  have key : ∀ (a b : Nat), mulP inv k a P = eO → mulP inv k b P = eO → mulP inv k (Nat.gcd a b) P = eO := by
    intro a
    induction a using Nat.strongRecOn with
    | _ a ih =>
      intro b ha hb
      by_cases h0 : a = 0
      · subst h0; rw [Nat.gcd_zero_left]; exact hb
      · rw [Nat.gcd_rec]
        refine ih (b % a) (Nat.mod_lt _ (by omega)) a ?_ ha
        have e : mulP inv k (b % a + b / a * a) P = eO := by
          rw [Nat.mod_add_div' b a]
          exact hb
        rw [mul_add C hP, mul_mul C hP, ha, mul_O C, add_O C] at e
        exact e
  have hg := key _ _ h2 hl
  rw [Nat.Coprime.gcd_eq_one hc, mul_one C] at hg
  exact hPO hg

end
end Go.Proofs.Ytfnmnmjpcamkiaa.Agree
