/-
  CurveAgree, plain: the product of a point and a scalar, one behind the other, in either order; from 9 on none is zero.
-/
import Derived.Test.YtfnmnmjpcamkiaaAg5
namespace Go.Proofs.Ytfnmnmjpcamkiaa.Agree
set_option linter.unusedVariables false
set_option maxRecDepth 100000

/-! ### The ladder in plain numbers is the ladder of the field -/

theorem v_add (a b : Fp) : nadd a.val b.val = (a + b).val := (Fin.val_add a b).symm
theorem v_mul (a b : Fp) : nmul a.val b.val = (a * b).val := (Fin.val_mul a b).symm
theorem v_sub (a b : Fp) : nsub a.val b.val = (a - b).val := by
  rw [Fin.sub_def]
  show (a.val + (qP - b.val)) % qP = (qP - b.val + a.val) % qP
  rw [Nat.add_comm]
theorem v_c : (121665 : Nat) = (121665 : Fp).val := by decide +kernel

def vv (p : Fp × Fp) : Nat × Nat := (p.1.val, p.2.val)
theorem v_P (x z : Fp) : nP x.val z.val = vv (fdbl 121665 x z) := by
  unfold nP fdbl vv
  simp only []
  rw [v_add, v_sub, v_mul, v_mul, v_mul, v_sub]
  refine Prod.ext rfl ?_
  simp only []
  conv => lhs; rw [v_c]
  rw [v_mul, v_add, v_mul]
theorem v_Q (u x2 z2 x3 z3 : Fp) : nQ u.val x2.val z2.val x3.val z3.val = vv (fadd u x2 z2 x3 z3) := by
  unfold nQ fadd vv
  simp only []
  rw [v_sub, v_add, v_mul, v_add, v_sub, v_mul, v_add, v_mul, v_sub, v_mul, v_mul]

def vs (st : (Fp × Fp) × (Fp × Fp) × Bool) : (Nat × Nat) × (Nat × Nat) × Bool := (vv st.1, vv st.2.1, st.2.2)
theorem v_S (u : Fp) (N m : Nat) (st : (Fp × Fp) × (Fp × Fp) × Bool) : nS u.val N m (vs st) = vs (fS u 121665 N m st) := by
  obtain ⟨p, q, f⟩ := st
  unfold nS fS vs
  simp only []
  by_cases h : f = N.testBit m
  · simp only [h, if_true]
    refine Prod.ext ?_ (Prod.ext ?_ rfl)
    · exact v_P p.1 p.2
    · exact v_Q u p.1 p.2 q.1 q.2
  · simp only [if_neg h]
    refine Prod.ext ?_ (Prod.ext ?_ rfl)
    · exact v_P q.1 q.2
    · exact v_Q u q.1 q.2 p.1 p.2
theorem v_L (u : Fp) (N : Nat) : ∀ (m : Nat) (st : (Fp × Fp) × (Fp × Fp) × Bool), nL u.val N m (vs st) = vs (fL u 121665 N m st)
  | 0, st => rfl
  | m + 1, st => by
    show nL u.val N m (nS u.val N m (vs st)) = vs (fL u 121665 N m (fS u 121665 N m st))
    rw [v_S, v_L u N m]
theorem v_E (u : Fp) (N : Nat) : nE u.val N = vv (fE u 121665 N 255) := by
  have h := v_L u N 255 ((1, 0), (u, 1), false)
  have e : vs ((1, 0), (u, 1), false) = ((1, 0), (u.val, 1), false) := by
    unfold vs vv
    simp only []
    rw [f_one, f_zero]
  rw [e] at h
  unfold nE fE
  simp only []
  rw [h]
  generalize fL u 121665 N 255 ((1, 0), (u, 1), false) = st
  obtain ⟨p, q, f⟩ := st
  cases f <;> rfl
/-- The product. -/
def tF (u : Fp) (N : Nat) : Fp := fT finv 121665 u N 255
theorem v_T (u : Fp) (N : Nat) : timesN u.val N = (tF u N).val := by
  unfold timesN tF fT
  rw [v_E]
  show nmul (fE u 121665 N 255).1.val (finv (fE u 121665 N 255).2).val = _
  exact v_mul _ _

/-! ### What follows -/

theorem tF_zero (N : Nat) : tF 0 N = 0 := fT_zero CA 121665 N 254

/-- In either order. -/
theorem tF_comm (u : Fp) (N M : Nat) (hN : 2 * N < 2 ^ 255) (hM : 2 * M < 2 ^ 255) : tF (tF u (2 * N)) (2 * M) = tF (tF u (2 * M)) (2 * N) := by
  by_cases hu : u = 0
  · rw [hu, tF_zero, tF_zero, tF_zero]
  · obtain ⟨k, s, P, C, L, hP, hb⟩ := each u hu
    have h1 := ladder_two C L hP hu hb (N := 2 * N) (M := M) (K := 254) hN hM
    have h2 := ladder_two C L hP hu hb (N := 2 * M) (M := N) (K := 254) hM hN
    unfold tF
    rw [h1, h2, Nat.mul_comm]

def ordL : Nat := 7237005577332262213973186563042994240857116359379907606001950938285454250989
theorem ordL_prm : Prm ordL := prm_l
/-- The order of the base point: the kernel's ladder. -/
theorem kL_ord : (kL 9 ordL 255 1 0 9 1 false).2 = 0 := by decide +kernel
theorem nE_ord : (nE 9 ordL).2 = 0 := by
  have h := kL_ord
  rw [kL_eq] at h
  exact h

theorem nil_two {n : Nat} [NeZero n] {x s : Fin n} (h : x * (1 - 1) = s * (1 + 1)) : s * 2 = 0 := by grind
/-- From 9 on none is zero. -/
theorem tF_nine (N M : Nat) (hN : N < 2 ^ 255) (hM : 2 * M < 2 ^ 255) (hc : Nat.Coprime (2 * (2 * M * N)) ordL) : tF (tF 9 N) (2 * M) ≠ 0 := by
  have hu : (9 : Fp) ≠ 0 := by decide +kernel
  obtain ⟨k, s, P, C, L, hP, hb⟩ := each 9 hu
  have h1 := ladder_two C L hP hu hb (N := N) (M := M) (K := 254) hN hM
  unfold tF
  rw [h1]
  have hPO : P ≠ eO := fun e => by
    rw [e] at hb
    have e2 : s * 2 = 0 := by
      unfold eO at hb
      simp only [] at hb
      exact nil_two hb
    exact C.nz (L.sz C) C.two e2
  have hl : mulP finv k ordL P = eO := by
    have hR := ladder C L hP hu hb (N := ordL) (K := 255) (by decide +kernel)
    have hZ : (fE (9 : Fp) 121665 ordL 255).2 = 0 := by
      apply Fin.ext
      have e := v_E 9 ordL
      have e9 : (9 : Fp).val = 9 := by decide +kernel
      rw [e9] at e
      have := congrArg Prod.snd e
      rw [nE_ord] at this
      rw [f_zero]
      exact this.symm
    rw [hZ] at hR
    have hres := rep_res C hR
    rw [C.i0] at hres
    have hO := on_mul (inv := finv) C hP ordL
    rcases res_zero C L hO (by rw [← hres]; clear hb hR hres; grind) with q | q
    · exact q
    · exfalso
      obtain ⟨t, ht, _, e⟩ := hR
      rw [q] at e
      have e2 : t * 2 = 0 := by
        simp only [] at e
        clear hb hres
        grind
      exact C.nz ht C.two e2
  exact res_nz C L hP hl hc hPO

end Go.Proofs.Ytfnmnmjpcamkiaa.Agree
