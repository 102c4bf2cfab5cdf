/-
  CurveAgree, plain: the numbers modulo 2^255 - 19; for each number there is a point of one of two curves.
-/
import Derived.Test.YtfnmnmjpcamkiaaAg4
import Derived.Test.YtfnmnmjpcamkiaaAg0
import Derived.Test.YtfnmnmjpcamkiaaPrc
import Derived.Test.YtfnmnmjpcamkiaaCl4
namespace Go.Proofs.Ytfnmnmjpcamkiaa.Agree
set_option linter.unusedVariables false
set_option maxRecDepth 100000

instance : NeZero qP := ⟨by decide +kernel⟩
abbrev Fp := Fin qP
theorem qP_pos : 0 < qP := by decide +kernel
theorem qP_lt : 1 < qP := by decide +kernel
theorem prm_qP : Prm qP := prm_p

/-- A power. -/
def fpow (a : Fp) (e : Nat) : Fp := ⟨a.val ^ e % qP, Nat.mod_lt _ qP_pos⟩
def finv (a : Fp) : Fp := fpow a qE
theorem f_mul (a b : Fp) : (a * b).val = a.val * b.val % qP := Fin.val_mul a b
theorem f_one : (1 : Fp).val = 1 := by decide +kernel
theorem f_zero : (0 : Fp).val = 0 := by decide +kernel
theorem pow_add (a : Fp) (e f : Nat) : fpow a (e + f) = fpow a e * fpow a f := by
  apply Fin.ext
  rw [f_mul]
  unfold fpow
  simp only []
  rw [Nat.pow_add, Nat.mul_mod]
theorem pow_mul (a b : Fp) (e : Nat) : fpow (a * b) e = fpow a e * fpow b e := by
  apply Fin.ext
  rw [f_mul]
  unfold fpow
  simp only []
  rw [f_mul, ← Nat.pow_mod, Nat.mul_pow, Nat.mul_mod]
theorem pow_one (a : Fp) : fpow a 1 = a := by
  apply Fin.ext
  unfold fpow
  simp only [Nat.pow_one]
  exact Nat.mod_eq_of_lt a.isLt
/-- A power by its bits. -/
theorem pow_is {a b : Fp} {e : Nat} (he : e < 2 ^ 255) (h : pw 255 a.val e qP = b.val) : fpow a e = b := by
  apply Fin.ext
  unfold fpow
  simp only []
  rw [← pw_eq 255 _ _ _ he, h]

def e4 : Nat := 14474011154664524427946373126085988481658748083205070504932198000989141204987
def e8 : Nat := 7237005577332262213973186563042994240829374041602535252466099000494570602494
theorem e8_two : e8 + e8 = e4 + 1 := by decide +kernel
theorem e4_four : (e4 + e4) + (e4 + e4) = qP - 1 := by decide +kernel
theorem qE_one : 1 + qE = qP - 1 := by decide +kernel

theorem pow_fermat {a : Fp} (h : a ≠ 0) : fpow a (qP - 1) = 1 := by
  apply Fin.ext
  rw [f_one]
  unfold fpow
  simp only []
  refine fermat prm_qP fun hd => h ?_
  apply Fin.ext
  rw [f_zero]
  have h2 := a.isLt
  rcases Nat.eq_zero_or_pos a.val with q | q
  · exact q
  · have := Nat.le_of_dvd q hd
    omega
theorem pow_zero {e : Nat} (he : 0 < e) : fpow 0 e = 0 := by
  apply Fin.ext
  rw [f_zero]
  unfold fpow
  simp only []
  rw [f_zero, Nat.zero_pow he]
  rfl

/-- No square. -/
theorem not_sq {k : Fp} (h : fpow k (e4 + e4) = -1) : ∀ a, a * a ≠ k := by
  intro a ha
  by_cases hz : a = 0
  · rw [← ha, hz, show (0 : Fp) * 0 = 0 from by grind, pow_zero (by decide +kernel)] at h
    exact absurd h (by decide +kernel)
  · rw [← ha, pow_mul, ← pow_add, e4_four, pow_fermat hz] at h
    exact absurd h (by decide +kernel)

theorem fCv {k : Fp} (h : fpow k (e4 + e4) = -1) : Cv finv k where
  i a ha := by
    have := pow_add a 1 qE
    rw [pow_one, qE_one, pow_fermat ha] at this
    exact this.symm
  i0 := pow_zero (by decide +kernel)
  two := by decide +kernel
  ns := not_sq h

def kA : Fp := 20800338683988658368647408995589388737092878452977063003340006470870624536394
def kB : Fp := 28692721048178265397853269683490922171210976843790175684556505508326675974058
theorem kA_no : fpow kA (e4 + e4) = -1 := pow_is (by decide +kernel) (by decide +kernel)
theorem kB_no : fpow kB (e4 + e4) = -1 := pow_is (by decide +kernel) (by decide +kernel)
theorem CA : Cv finv kA := fCv kA_no
theorem CB : Cv finv kB := fCv kB_no
theorem LA : Ld kA (486662 : Fp) 121665 1 where
  ss := by decide +kernel
  c4 := by decide +kernel
  k := by decide +kernel
  nz := by decide +kernel
theorem LB : Ld kB (486662 : Fp) 121665 (-1) where
  ss := by decide +kernel
  c4 := by decide +kernel
  k := by decide +kernel
  nz := by decide +kernel

theorem two_no : fpow 2 (e4 + e4) = -1 := pow_is (by decide +kernel) (by decide +kernel)

/-- A root. -/
theorem root {x : Fp} (hx : x ≠ 0) (h : fpow x (e4 + e4) = 1) : ∃ v, v * v = x := by
  obtain ⟨r, er⟩ : ∃ r, r = fpow x e8 := ⟨_, rfl⟩
  obtain ⟨t, et⟩ : ∃ t, t = fpow x e4 := ⟨_, rfl⟩
  obtain ⟨i, ei⟩ : ∃ i : Fp, i = fpow 2 e4 := ⟨_, rfl⟩
  have h1 : r * r = t * x := by rw [er, ← pow_add, e8_two, pow_add, pow_one, et]
  have h2 : t * t = 1 := by rw [et, ← pow_add, h]
  have h3 : i * i = -1 := by rw [ei, ← pow_add, two_no]
  have h4 : (t - 1) * (t + 1) = 0 := by clear h1 h3; grind
  rcases CA.zd h4 with q | q
  · refine ⟨r, ?_⟩
    have : t = 1 := by clear h1 h2 h3 h4; grind
    rw [h1, this]
    grind
  · refine ⟨r * i, ?_⟩
    have e : t = -1 := by clear h1 h2 h3 h4; grind
    have e2 : r * i * (r * i) = (r * r) * (i * i) := by clear h1 h2 h3 h4; grind
    rw [e2, h1, h3, e]
    grind

section
variable {n : Nat} [NeZero n] {inv : Fin n → Fin n} {k A c s : Fin n}
theorem point_on {x y u A k : Fin n} (hk : k * (A + 2) = A - 2) (hx : x * x * (u * u + A * u + 1) = (A + 2) * u) (hy : y * (u + 1) = u - 1) : (x * x + y * y) * ((u + 1) * (u + 1) * (A + 2)) = (1 + k * x * x * y * y) * ((u + 1) * (u + 1) * (A + 2)) := by
  have e1 : (x * x + y * y) * ((u + 1) * (u + 1) * (A + 2)) = (x * x * ((u + 1) * (u + 1)) + (y * (u + 1)) * (y * (u + 1))) * (A + 2) := by grind
  have e2 : (1 + k * x * x * y * y) * ((u + 1) * (u + 1) * (A + 2)) = (u + 1) * (u + 1) * (A + 2) + (k * (A + 2)) * (x * x) * ((y * (u + 1)) * (y * (u + 1))) := by grind
  rw [e1, e2, hy, hk]
  have e3 : (x * x * ((u + 1) * (u + 1)) + (u - 1) * (u - 1)) * (A + 2) - ((u + 1) * (u + 1) * (A + 2) + (A - 2) * (x * x) * ((u - 1) * (u - 1))) = 4 * (x * x * (u * u + A * u + 1)) - 4 * ((A + 2) * u) := by grind
  rw [hx] at e3
  grind

/-- The point of a number. -/
theorem point_of (C : Cv inv k) {u v A : Fin n} (hk : k * (A + 2) = A - 2) (hA : A + 2 ≠ 0) (hu : u ≠ 0) (h1 : u + 1 ≠ 0) (hv : v * v = (A + 2) * (u * (u * u + A * u + 1))) (hv0 : v ≠ 0) : ∃ P, On k P ∧ u * (1 - P.2) = 1 + P.2 := by
  have iv := C.i _ hv0
  have i1 := C.i _ h1
  refine ⟨((A + 2) * u * inv v, (u - 1) * inv (u + 1)), ?_, ?_⟩
  · unfold On
    simp only []
    obtain ⟨x, ex⟩ : ∃ x, x = (A + 2) * u * inv v := ⟨_, rfl⟩
    obtain ⟨y, ey⟩ : ∃ y, y = (u - 1) * inv (u + 1) := ⟨_, rfl⟩
    rw [← ex, ← ey]
    have hx : x * x * (u * u + A * u + 1) = (A + 2) * u := by
      refine C.can (C.nz hA hu) ?_
      have e1 : x * x * (u * u + A * u + 1) * ((A + 2) * u) = x * x * (v * v) := by rw [hv]; clear hv iv i1 ex ey; grind
      have e2 : x * v = (A + 2) * u := by
        rw [ex]
        have : (A + 2) * u * inv v * v = (A + 2) * u * (v * inv v) := by clear hv iv i1 ex ey e1; grind
        rw [this, iv]
        clear hv iv i1 ex ey e1
        grind
      have e3 : x * x * (v * v) = (x * v) * (x * v) := by clear hv iv i1 ex ey e1 e2; grind
      rw [e1, e3, e2]
    have hy : y * (u + 1) = u - 1 := by
      rw [ey]
      have : (u - 1) * inv (u + 1) * (u + 1) = (u - 1) * ((u + 1) * inv (u + 1)) := by clear hv iv i1 ex ey hx; grind
      rw [this, i1]
      clear hv iv i1 ex ey hx
      grind
    exact C.can (C.nz (C.nz h1 h1) hA) (point_on hk hx hy)
  · simp only []
    refine C.can h1 ?_
    have e1 : u * (1 - (u - 1) * inv (u + 1)) * (u + 1) = u * ((u + 1) - (u - 1) * ((u + 1) * inv (u + 1))) := by clear hv iv i1; grind
    have e2 : (1 + (u - 1) * inv (u + 1)) * (u + 1) = (u + 1) + (u - 1) * ((u + 1) * inv (u + 1)) := by clear hv iv i1 e1; grind
    rw [e1, e2, i1]
    clear hv iv i1 e1 e2
    grind
end

/-- Each number but zero stands for a point of the one curve or of the other. -/
theorem each (u : Fp) (hu : u ≠ 0) : ∃ (k s : Fp) (P : Fp × Fp), Cv finv k ∧ Ld k (486662 : Fp) 121665 s ∧ On k P ∧ u * (1 - P.2) = s * (1 + P.2) := by
  obtain ⟨A, eA⟩ : ∃ A : Fp, A = 486662 := ⟨_, rfl⟩
  obtain ⟨w, ew⟩ : ∃ w, w = u * (u * u + A * u + 1) := ⟨_, rfl⟩
  have hd : fpow (A * A - 4) (e4 + e4) = -1 := by rw [eA]; exact pow_is (by decide +kernel) (by decide +kernel)
  have hp : fpow (A + 2) (e4 + e4) = 1 := by rw [eA]; exact pow_is (by decide +kernel) (by decide +kernel)
  have hm : fpow (A - 2) (e4 + e4) = -1 := by rw [eA]; exact pow_is (by decide +kernel) (by decide +kernel)
  have hpz : A + 2 ≠ 0 := by rw [eA]; decide +kernel
  have hmz : A - 2 ≠ 0 := by rw [eA]; decide +kernel
  have hkA : kA * (A + 2) = A - 2 := by rw [eA]; decide +kernel
  have hkB : kB * (-A + 2) = -A - 2 := by rw [eA]; decide +kernel
  have one1 : (1 : Fp) ≠ -1 := by decide +kernel
  have hq : u * u + A * u + 1 ≠ 0 := fun q => not_sq hd (2 * u + A) (by
    have e : (2 * u + A) * (2 * u + A) = 4 * (u * u + A * u + 1) + (A * A - 4) := by clear q hd hp hm hkA hkB; grind
    rw [e, q]
    clear q hd hp hm hkA hkB e
    grind)
  have hw : w ≠ 0 := by rw [ew]; exact CA.nz hu hq
  have hT : (fpow w (e4 + e4) - 1) * (fpow w (e4 + e4) + 1) = 0 := by
    have e := pow_add w (e4 + e4) (e4 + e4)
    rw [e4_four, pow_fermat hw] at e
    generalize fpow w (e4 + e4) = T at e ⊢
    clear hd hp hm hkA hkB
    grind
  rcases CA.zd hT with q | q
  · have hT1 : fpow w (e4 + e4) = 1 := by
      generalize fpow w (e4 + e4) = T at q ⊢
      clear hd hp hm hkA hkB hT
      grind
    obtain ⟨v, hv⟩ := root (CA.nz hpz hw) (by rw [pow_mul, hp, hT1]; clear hd hp hm hkA hkB hT q hT1; grind)
    have hv0 : v ≠ 0 := fun e => CA.nz hpz hw (by rw [← hv, e]; clear hd hp hm hkA hkB hT q hT1 hv; grind)
    have h1 : u + 1 ≠ 0 := fun e => by
      have e2 : w = A - 2 := by
        have : u = -1 := by clear hd hp hm hkA hkB hT q hT1 hv; grind
        rw [ew, this]
        clear hd hp hm hkA hkB hT q hT1 hv
        grind
      rw [e2, hm] at hT1
      exact one1 hT1.symm
    rw [ew] at hv
    obtain ⟨P, g1, g2⟩ := point_of CA hkA hpz hu h1 hv hv0
    exact ⟨kA, 1, P, CA, LA, g1, by rw [g2]; clear hd hp hm hkA hkB hT q hT1 hv; grind⟩
  · have hT1 : fpow w (e4 + e4) = -1 := by
      generalize fpow w (e4 + e4) = T at q ⊢
      clear hd hp hm hkA hkB hT
      grind
    obtain ⟨v, hv⟩ := root (CA.nz hmz hw) (by rw [pow_mul, hm, hT1]; clear hd hp hm hkA hkB hT q hT1; grind)
    have hv0 : v ≠ 0 := fun e => CA.nz hmz hw (by rw [← hv, e]; clear hd hp hm hkA hkB hT q hT1 hv; grind)
    have h1 : -u + 1 ≠ 0 := fun e => by
      have e2 : w = A + 2 := by
        have : u = 1 := by clear hd hp hm hkA hkB hT q hT1 hv; grind
        rw [ew, this]
        clear hd hp hm hkA hkB hT q hT1 hv
        grind
      rw [e2, hp] at hT1
      exact one1 hT1
    have hu2 : -u ≠ 0 := fun e => hu (by clear hd hp hm hkA hkB hT q hT1 hv; grind)
    have hA2 : -A + 2 ≠ 0 := fun e => hmz (by clear hd hp hm hkA hkB hT q hT1 hv; grind)
    have hv2 : v * v = (-A + 2) * (-u * (-u * -u + -A * -u + 1)) := by
      rw [hv, ew]
      clear hd hp hm hkA hkB hT q hT1 hv
      grind
    obtain ⟨P, g1, g2⟩ := point_of CB hkB hA2 hu2 h1 hv2 hv0
    refine ⟨kB, -1, P, CB, LB, g1, ?_⟩
    clear hd hp hm hkA hkB hT q hT1 hv hv2
    grind

end Go.Proofs.Ytfnmnmjpcamkiaa.Agree
